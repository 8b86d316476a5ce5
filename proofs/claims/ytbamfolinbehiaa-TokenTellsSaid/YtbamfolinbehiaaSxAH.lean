/- The symbolic evaluator: a range over a function; code in a round's frame. -/
import Derived.Test.YtbamfolinbehiaaSxAG
import Derived.RangeFuncIn
import Derived.RangeFuncSeq
import Derived.TacticsIn
namespace Go.Sx
open Go Go.RowKit
section
variable {P : Program} {ρ : Env} {call : CallFn} {eff : FuncId → Bool}
def Wd (ro : Option Nat) : Fence := { Fence.wide with round := ro }
theorem op_in {ro : Option Nat} {n : Nat} {o : Oper} {a : Act} {w : World} {K K' : Act → World → Prop} {Q : Exit → Act → World → Prop} (h : Oper.wp P o a w K Q) (hnd : ∀ c, o.op ≠ .defer c) (hK : ∀ a w, K a w → K' a w) :
  Oper.wpIn (Wd ro) n P o a w K' Q := by
 refine ⟨fun _ _ => trivial, ?_⟩
 rw [Oper.semAt_eq _ _ _ hnd]
 unfold Oper.wp at h
 revert h
 generalize Sem.run P (execOp a.eval o) w = r
 intro h
 cases r with
 | ok x w' =>
  cases x with
  | value v => exact hK _ _ h
  | skip => exact hK _ _ h
  | defer d => exact hK _ _ h
  | enter f args =>
   refine ⟨fun hd => (by cases hd), trivial, fun cs _ => ?_⟩
   obtain ⟨e, w2, fr, r, s, x⟩ := h cs
   refine ⟨e, w2, fr, ?_, comesIn_wide.2 s, x⟩
   cases e with
   | returned v => exact hK _ _ r
   | panicked c => exact r
   | outgrown => exact r
  | row row args =>
   refine ⟨fun hd => (by cases hd), fun c cs _ => ?_⟩
   obtain ⟨v, w2, r, s⟩ := h c cs
   exact ⟨v, w2, hK _ _ r, stepsIn_wide.2 s⟩
  | round l f t a b => exact h.elim
  | _ => exact h.elim
 | halt x w' =>
  cases x with
  | panic v => exact h
  | _ => exact h.elim
def isDefer : Op → Bool
 | .defer _ => true
 | _ => false
theorem list_in {ro : Option Nat} {n : Nat} {ops : Array Oper} {Q : Exit → Act → World → Prop} (hQ : ¬ LetsOut Q) : ∀ {l : List Oper} {a : Act} {w : World}, l.all (fun o => !isDefer o.op) = true → wpList P ops Q l a w → wpListIn (Wd ro) n P ops Q l a w
 | [], _, _, _, h => h
 | o :: r, a, w, hd, h => by
  rw [List.all_cons, Bool.and_eq_true] at hd
  unfold wpList at h
  unfold wpListIn
  split at h
  ·rename_i hw
   rw [if_pos hw]
   rcases h with h | ⟨_, h⟩
   ·refine op_in h (fun c hc => ?_) fun a' w' h' => list_in hQ hd.2 h'
    rw [hc] at hd; cases hd.1
   ·exact absurd h hQ
  ·rename_i hw
   rw [if_neg hw]
   exact ⟨fun _ _ => trivial, list_in hQ hd.2 h⟩
def evalBody (P : Program) (call : CallFn) (eff : FuncId → Bool) (nt : Nat) : Code → St → Option St
 | .skip, S => some S
 | .seq x y, S => match evalBody P call eff nt x S with
  | some S' => evalBody P call eff nt y S'
  | none => none
 | .block _ x, S => evalBody P call eff nt x S
 | .region _ ops false, S => match ops.toList.all (fun o => !isDefer o.op) with
  | true => doList P call eff nt ops ops.toList S
  | false => none
 | _, _ => none
theorem evalBody_ob {nt : Nat} : ∀ {c : Code} {S S' : St}, evalBody P call eff nt c S = some S' → ∀ p ∈ S.ob, p ∈ S'.ob := by
 intro c
 induction c with
 | skip => intro S S' h; simp only [evalBody, Option.some.injEq] at h; subst h; exact fun _ h => h
 | seq x y ih1 ih2 =>
  intro S S' h
  simp only [evalBody] at h
  split at h
  ·rename_i S1 h1; exact fun p hp => ih2 h p (ih1 h1 p hp)
  ·cases h
 | block id x ih => intro S S' h; exact ih (by simpa only [evalBody] using h)
 | region id ops b =>
  intro S S' h
  cases b with
  | true => simp only [evalBody] at h; cases h
  | false =>
   simp only [evalBody] at h
   split at h
   ·exact doList_ob h
   ·cases h
 | _ => intro S S' h; simp only [evalBody] at h; cases h
theorem evalBody_in (hc : CallOk P call) {ro : Option Nat} {n nt : Nat} {ds : List Deferred} {B : Nat → Prop} {W : World} : ∀ {c : Code} {S S' : St} {ρ : Env} {a : Act} {w : World} {Q : Exit → Act → World → Prop}, evalBody P call eff nt c S = some S' → (∀ p ∈ S'.ob, p) → RelD ds ρ B W nt S a w →
  ¬ LetsOut Q → (∀ a' w' ρ', RelD ds (ρ ++ ρ') B W nt S' a' w' → Q .normal a' w') → c.wpIn (Wd ro) n P Q a w := by
 intro c
 induction c with
 | skip =>
  intro S S' ρ a w Q h hob hr _ hQ
  simp only [evalBody, Option.some.injEq] at h; subst h
  exact wpIn_skip (hQ a w [] (by rw [List.append_nil]; exact hr))
 | seq x y ih1 ih2 =>
  intro S S' ρ a w Q h hob hr ho hQ
  simp only [evalBody] at h
  split at h
  ·rename_i S1 h1
   refine wpIn_seq (ih1 h1 (fun p hp => hob p (evalBody_ob h p hp)) hr (fun ⟨a', w', h'⟩ => ho ⟨a', w', h'⟩) fun a' w' ρ' hr' => ?_)
   exact ih2 h hob hr' ho fun a2 w2 ρ2 hr2 => hQ a2 w2 (ρ' ++ ρ2) (by rw [← List.append_assoc]; exact hr2)
  ·cases h
 | block id x ih =>
  intro S S' ρ a w Q h hob hr ho hQ
  refine wpIn_block (ih (by simpa only [evalBody] using h) hob hr (fun ⟨a', w', h'⟩ => ho ⟨a', w', h'⟩) fun a' w' ρ' hr' => hQ a' w' ρ' hr')
 | region id ops b =>
  intro S S' ρ a w Q h hob hr ho hQ
  cases b with
  | true => simp only [evalBody] at h; cases h
  | false =>
   simp only [evalBody] at h
   split at h
   ·rename_i hall
    exact wpIn_region_list (list_in ho hall (doList_sound hc h hob hr hQ))
   ·cases h
 | _ => intro S S' ρ a w Q h; simp only [evalBody] at h; cases h
theorem MemRel.rebase {B B' : Nat → Prop} {W w : World} {m : List SB} (hm : MemRel ρ B W w m) (hB : ∀ k, B' k → k < w.heap.size)
  (hown : ∀ (i : Nat) (e : E) (s : SB), ρ[i]? = some e → m[i]? = some s → s.own = true → solid s.c e → ¬ B' e.blk) : MemRel ρ B' w w m where
 below := Kept.refl _ _
 base := hB
 len := hm.len
 blk := hm.blk
 own := hown
 sep := hm.sep
 maps := hm.maps
 msep := hm.msep
theorem MemRel.unbase {B B' : Nat → Prop} {W w0 w : World} {m : List SB} (hm : MemRel ρ B' w0 w m) (hk : Kept B W w0) (hs : ∀ k, B k → B' k) : MemRel ρ B W w m where
 below := hk.trans (hm.below.mono hs)
 base := fun k h => hm.base k (hs k h)
 len := hm.len
 blk := hm.blk
 own := fun i e s h1 h2 h3 h4 h5 => hm.own i e s h1 h2 h3 h4 (hs _ h5)
 sep := hm.sep
 maps := hm.maps
 msep := hm.msep
def oddO : Obj → Bool
 | .loop _ => true
 | .deferred _ => true
 | _ => false
theorem MemRel.solid_ne {B : Nat → Prop} {W w : World} {m : List SB} (hm : MemRel ρ B W w m) {i : Nat} {e : E} {s : SB} (he : ρ[i]? = some e) (hs : m[i]? = some s) (hsol : solid s.c e) {l : Nat} {o : Obj} (hl : w.heap[l]? = some o) (ho : oddO o = true) : e.blk ≠ l := by
 intro h
 subst h
 rcases hsol with ⟨h1, h2⟩ | ⟨kk, l, hc⟩
 ·obtain ⟨cur, ty, fz, h3, _⟩ := hm.blk i e s he hs h1
  rcases h3 with h3 | h3
  ·omega
  ·rw [h3] at hl; injection hl with hl; subst hl; cases ho
 ·obtain ⟨es, c, h3, _⟩ := hm.maps i e s kk l he hs hc
  rw [h3] at hl; injection hl with hl; subst hl; cases ho
theorem MemRel.odd {B : Nat → Prop} {W w : World} {m : List SB} (hm : MemRel ρ B W w m) {l : Nat} {o : Obj} (o' : Obj) (hl : w.heap[l]? = some o) (ho : oddO o = true) (hB : ¬ B l) : MemRel ρ B W (w.putObj l o') m where
 below := hm.below.trans ⟨rfl, rfl, rfl, by simp, fun k hk => World.putObj_heap_other (fun h => hB (h ▸ hk))⟩
 base := fun k hk => by rw [World.putObj_size]; exact hm.base k hk
 len := hm.len
 blk := fun i e s he hs hl' => by
  obtain ⟨cur, ty, fz, h3, h4, h5, h6⟩ := hm.blk i e s he hs hl'
  refine ⟨cur, ty, fz, ?_, h4, h5, h6⟩
  rcases h3 with h3 | h3
  ·exact .inl h3
  ·right
   rw [World.putObj_heap_other]; exact h3
   intro h; subst h; rw [h3] at hl; injection hl with hl; subst hl; cases ho
 own := hm.own
 sep := hm.sep
 maps := fun i e s kk q he hs hc => by
  obtain ⟨es, c, h3, h4⟩ := hm.maps i e s kk q he hs hc
  refine ⟨es, c, ?_, h4⟩
  rw [World.putObj_heap_other]; exact h3
  intro h; subst h; rw [h3] at hl; injection hl with hl; subst hl; cases ho
 msep := hm.msep
theorem cx_odd {w : World} {l : Nat} {o : Obj} (o' : Obj) (hl : w.heap[l]? = some o) (ho : oddO o = true) : CX w (w.putObj l o') := by
 intro a u hc
 by_cases h : a.block = l
 ·subst h
  unfold World.cell? at hc
  rw [hl] at hc
  cases o <;> first | (cases ho; done) | simp at hc
 ·rw [← hc]
  exact World.cell?_of_block (World.putObj_heap_other h)
theorem list_pre (hc : CallOk P call) {n nt : Nat} {all : Array Oper} {ds : List Deferred} {B : Nat → Prop} {W : World} {Q : Exit → Act → World → Prop} {ro : Option Nat} :
  ∀ {l r : List Oper} {S S' : St} {ρ : Env} {a : Act} {w : World}, doList P call eff nt all l S = some S' → l.all (fun o => !isDefer o.op) = true → (∀ p ∈ S'.ob, p) → RelD ds ρ B W nt S a w →
   (∀ a' w' ρ', RelD ds (ρ ++ ρ') B W nt S' a' w' → wpListIn (Wd ro) n P all Q r a' w') → wpListIn (Wd ro) n P all Q (l ++ r) a w
 | [], r, S, S', ρ, a, w, h, _, _, hr, hK => by
  simp only [doList, Option.some.injEq] at h; subst h
  exact hK a w [] (by rw [List.append_nil]; exact hr)
 | o :: l, r, S, S', ρ, a, w, h, hd, hob, hr, hK => by
  rw [List.all_cons, Bool.and_eq_true] at hd
  simp only [doList] at h
  split at h
  ·rename_i S1 h1
   have hop := doOper_sound (Q := Q) hc h1 (fun p hp => hob p (doList_ob h p hp)) hr (K := fun a' w' => wpListIn (Wd ro) n P all Q (l ++ r) a' w') (fun a' w' ρ' _ hr' =>
    list_pre hc h hd.2 hob hr' fun a2 w2 ρ2 hr2 => hK a2 w2 (ρ' ++ ρ2) (by rw [← List.append_assoc]; exact hr2))
   show wpListIn (Wd ro) n P all Q (o :: (l ++ r)) a w
   unfold wpListIn
   split at hop
   ·rename_i hw
    rw [if_pos hw]
    exact op_in hop (fun c hcc => by rw [hcc] at hd; cases hd.1) fun _ _ h => h
   ·rename_i hw
    rw [if_neg hw]
    exact ⟨fun _ _ => trivial, hop⟩
  ·cases h
theorem yield_op {all : Array Oper} {o : Oper} {t x : Tmp} {tys : Array TypeId} (ho : o.op = .call { callee := .value (.tmp t), args := #[.tmp x], argTypes := tys }) (hg : o.guard = none) {l n : Nat} {a : Act} {w : World} {r : List Oper} {Q : Exit → Act → World → Prop}
  (ht : a.eval (.tmp t) = .func (.yield l) #[] #[]) {R : Ending → World → Prop} (hy : YieldAt Fence.wide 0 P l #[a.eval (.tmp x)] w R)
  (hR : ∀ e w', R e w' → ∃ v, e = .returned v ∧ wpListIn (Wd none) 0 P all Q r (a.put o.dst v) w') : wpListIn (Wd none) 0 P all Q (o :: r) a w := by
 unfold wpListIn
 rw [if_pos (by simp [Region.wanted, hg])]
 refine ⟨fun _ _ => trivial, ?_⟩
 obtain ⟨fn, tmps, assign, body, h1, h2⟩ := hy
 have hrun : ((o.semAt (Wd none).round a.eval).run P w) = .ok (.round l fn tmps assign body) w := by
  show Sem.run P (execOp a.eval o) w = _
  rw [← h1]
  unfold execOp
  rw [ho]
  simp [resolve, ht, Deferred.ofValue, invoke, Sem.run_bind]
 rw [hrun]
 refine ⟨fun h => (by cases h), h2.mono fun e w' h => ?_⟩
 obtain ⟨v, rfl, h3⟩ := hR e w' h
 exact h3
def colD (D : Nat) : Deferred := { target := .collected D, args := #[] }
theorem goes_range {f : FuncId} {nt : Nat} {g : Operand} {p : Tmp} {assign body : Code} {k : List Item} {S : St} {B : Nat → Prop} {W w : World} {a : Act} (hr : RelD [] ρ B W nt S a w)
  {gf : FuncId} {lb : Array Value} (hg : a.eval g = .func (.func gf) #[] lb) (hent : ∀ args w, (callFunc gf args).run P w = .ok (.enter gf args) w) (hp : p < nt)
  {cnt : Nat} {M : Nat → List SB} (hM0 : M 0 = S.m) {X : Nat → V} {SA : Nat → St}
  (hiter : ∀ (l : Nat) (J : Nat → World → Prop) (R0 : Ending → World → Prop) (w1 : World), (∀ i w', J i w' → ∃ ρ' B' W', MemRel (ρ ++ ρ') B' W' w' (M i)) → (∀ i w' w'', J i w' → Kept (upto w') w' w'' → J i w'') →
   (∀ i w', i < cnt → J i w' → ∀ u, (∀ ρ', V.rel (ρ ++ ρ') (X i) u) → YieldAt Fence.wide 0 P l #[u] w' (fun e w'' => e = .returned (.bool true) ∧ J (i + 1) w'')) →
   (∀ v w', J cnt w' → R0 (.returned v) w') → J 0 w1 → Calls P gf (#[.func (.yield l) #[] #[]] ++ lb) w1 R0)
  (hassign : ∀ (l i : Nat) (ρ' : Env) (B' : Nat → Prop) (W' : World) (a1 : Act) (w1 : World) (Q : Exit → Act → World → Prop), i < cnt → RelD [] (ρ ++ ρ') B' W' nt ⟨(p, X i) :: S.sl, M i, [], []⟩ a1 w1 → ¬ LetsOut Q →
   (∀ a2 w2 ρ'', RelD [] (ρ ++ ρ'') B' W' nt (SA i) a2 w2 → Q .normal a2 w2) → assign.wpIn (Wd (some l)) 0 P Q a1 w1)
  (hSA : ∀ i, (SA i).m = M i)
  (hbody : ∀ (l i : Nat) (ρ' : Env) (B' : Nat → Prop) (W' : World) (a1 : Act) (w1 : World) (Q : Exit → Act → World → Prop), i < cnt → RelD [] (ρ ++ ρ') B' W' nt (SA i) a1 w1 → ¬ LetsOut Q →
   (∀ a2 w2 ρ'', MemRel (ρ ++ ρ'') B' W' w2 (M (i + 1)) → Q .normal a2 w2) → body.wpIn (Wd (some l)) 0 P Q a1 w1)
  {v : V} {bs' : List SB} {ρ0 : Env} {ρ1 : Env} (hρ : ρ = ρ0 ++ ρ1)
  (hrest : ∀ (D : Nat) (B' : Nat → Prop) (W' : World) (ρ' : Env) (a' : Act) (w' : World), RelD [colD D] (ρ ++ ρ') B' W' nt ⟨S.sl, M cnt, [], []⟩ a' w' → Goes P f (RetW ρ0 B' W' v bs') k a' w') :
  Goes P f (RetW ρ0 B W v bs') (.code (.rangeFunc g #[p] assign body) :: k) a w := by
 obtain ⟨D, hD⟩ : ∃ D, w.heap.size = D := ⟨_, rfl⟩
 obtain ⟨fnI, hfnI⟩ : ∃ i, i = f := ⟨_, rfl⟩
 -- the statement
 have key : ∀ (b : Frame), b.roundOf = none → b.fn = f → (Code.rangeFunc g #[p] assign body).wp P (Nrm fun a' w' => a' = { a with defers := [colD D] } ∧ (∃ ρ', MemRel (ρ ++ ρ') B W w' (M cnt)) ∧ w'.heap[D]? = some (.deferred (some [])) ∧ ¬ B D) a w := by
  intro b _ _
  rw [← wpIn_wide (n := 0)]
  refine wpIn_rangeFunc ?_
  intro fn _
  obtain ⟨rec, hrec⟩ : ∃ rec : LoopState → Option Code → Loop, rec = fun st pe => { state := st, pending := pe, fn, tmps := a.tmps, params := #[p], assign, body, defers := w.heap.size } := ⟨_, rfl⟩
  obtain ⟨W1, hW1⟩ : ∃ W1, (w.alloc (.deferred (some []))).alloc (.loop (rec .ready none)) = W1 := ⟨_, rfl⟩
  have hL1 : W1.heap[D + 1]? = some (.loop (rec .ready none)) := by
   rw [← hW1, ← hD]; have := World.alloc_heap_new (w.alloc (.deferred (some []))) (.loop (rec .ready none)); rwa [World.size_alloc] at this
  have hK1 : W1.heap[D]? = some (.deferred (some [])) := by
   rw [← hW1, ← hD]; exact (Below.heap_alloc _ _ _ (by simp)).trans (World.alloc_heap_new w _)
  have hBD : ∀ k, B k → k < D := fun k hk => by rw [← hD]; exact hr.m.base k hk
  have hm1 : MemRel (ρ ++ []) B W W1 (M 0) := by rw [← hW1, hM0, List.append_nil]; exact (hr.m.alloc _).alloc _
  let J : Nat → World → Prop := fun i w' => (∃ ρ', MemRel (ρ ++ ρ') B W w' (M i)) ∧ w'.heap[D + 1]? = some (.loop (rec .ready none)) ∧ w'.heap[D]? = some (.deferred (some []))
  have hnB : ∀ k, D ≤ k → ¬ B k := fun k hk hb => by have := hBD k hb; omega
  -- the blocks kept meanwhile
  let B1 : Nat → Prop := fun k => B k ∨ k = D ∨ k = D + 1
  have up : ∀ {w' : World} {ρ' : Env} {m : List SB} {o o' : Obj}, MemRel (ρ ++ ρ') B W w' m → w'.heap[D + 1]? = some o → oddO o = true → w'.heap[D]? = some o' → oddO o' = true → MemRel (ρ ++ ρ') B1 w' w' m := by
   intro w' ρ' m o o' hm h1 h2 h3 h4
   refine hm.rebase (fun k hk => ?_) (fun i e s he hs ho hsol => ?_)
   ·rcases hk with hk | rfl | rfl
    ·exact hm.base k hk
    ·exact (Array.getElem?_eq_some_iff.1 h3).1
    ·exact (Array.getElem?_eq_some_iff.1 h1).1
   ·rintro (hb | hb | hb)
    ·exact hm.own i e s he hs ho hsol hb
    ·exact hm.solid_ne he hs hsol h3 h4 hb
    ·exact hm.solid_ne he hs hsol h1 h2 hb
  refine ⟨D + 1, [colD D], W1, { target := .fn (.func gf) lb, args := #[.func (.yield (D + 1)) #[] #[]] }, W1, gf, #[.func (.yield (D + 1)) #[] #[]] ++ lb, W1, ?_, ?_, fun _ _ => trivial, ?_, fun h => (by cases h), ?_⟩
  ·rw [← hW1, hrec, ← hD]; exact run_enterLoop_outer _ _ _ _ _
  ·simp only [resolve, hg]
   simp [go_sem]
  ·simp [invoke, go_sem, hent]
  ·refine callsIn_wide.2 (hiter (D + 1) J _ W1 (fun i w' h => ?_) (fun i w' w'' h hk => ?_) (fun i w' hi h u hu => ?_) (fun v w' h => ?_) ⟨⟨[], hm1⟩, hL1, hK1⟩)
   ·obtain ⟨⟨ρ', hm⟩, _⟩ := h
    exact ⟨ρ', B, W, hm⟩
   ·obtain ⟨⟨ρ', hm⟩, h1, h2⟩ := h
    exact ⟨⟨ρ', hm.ext ⟨hk.size, hk.block⟩ (hm.below.trans (hk.mono fun k h => hm.base k h))⟩, (hk.block _ (Array.getElem?_eq_some_iff.1 h1).1).trans h1, (hk.block _ (Array.getElem?_eq_some_iff.1 h2).1).trans h2⟩
   ·
    obtain ⟨⟨ρ2, hm⟩, hl, hd⟩ := h
    have hy := run_yield (P := P) (args := #[u]) hl (by rw [hrec]; rfl)
    rw [hrec] at hy
    refine ⟨fn, _, assign, body, hy, roundIn_of_wpIn trivial ?_⟩
    have hsl : SlotsRel [] (ρ ++ ρ2) nt ((p, X i) :: S.sl) { tmps := a.tmps.setIfInBounds p u, defers := [] } := by
     have hbl : Nat.blt p nt = true := Nat.ble_eq_true_of_le hp
     have h0 : putS nt (⟨S.sl, [], [], []⟩ : St) (some p) (X i) = some ⟨(p, X i) :: S.sl, [], [], []⟩ := by
      unfold putS; simp only [hbl]
     obtain ⟨_, _, hps⟩ := putS_sound (ρ := ρ ++ ρ2) (ds := []) h0
     have hput := hps (a := a) (u := u) ⟨hr.sl.size, hr.sl.defers, fun t v ht => V.rel_app ρ2 (hr.sl.slot t v ht)⟩ (hu ρ2)
     refine ⟨hput.size, rfl, hput.slot⟩
    refine hassign (D + 1) i ρ2 B1 w' _ w' _ hi ⟨by simpa using hsl, up hm hl rfl hd rfl⟩ (fun ⟨_, _, h⟩ => h) fun a2 w2 ρ3 hr2 => ?_
    have hk2 := hr2.m.below
    have hl2 : w2.heap[D + 1]? = some (.loop (rec .ready none)) := (hk2.block _ (.inr (.inr rfl))).trans hl
    have hd2 : w2.heap[D]? = some (.deferred (some [])) := (hk2.block _ (.inr (.inl rfl))).trans hd
    refine ⟨_, run_beginRound hl2 (by rw [hrec]), ?_⟩
    have hm2 : MemRel (ρ ++ ρ3) B W (w2.putObj (D + 1) (.loop { rec .ready none with state := .busy })) (M i) := by
     rw [← hSA i]
     exact (hr2.m.unbase hm.below (fun k hk => .inl hk)).odd _ hl2 rfl (hnB _ (by omega))
    have hl3 : (w2.putObj (D + 1) (.loop { rec .ready none with state := .busy })).heap[D + 1]? = some (.loop { rec .ready none with state := .busy }) := World.putObj_heap_same (Array.getElem?_eq_some_iff.1 hl2).1
    have hd3 : (w2.putObj (D + 1) (.loop { rec .ready none with state := .busy })).heap[D]? = some (.deferred (some [])) := (World.putObj_heap_other (by omega)).trans hd2
    refine hbody (D + 1) i ρ3 B1 _ a2 _ _ hi ⟨hr2.sl, by rw [hSA i]; exact up hm2 hl3 rfl hd3 rfl⟩ (fun ⟨_, _, h⟩ => h) fun a4 w4 ρ4 hm4 => ?_
    have hl4 : w4.heap[D + 1]? = some (.loop { rec .ready none with state := .busy }) := (hm4.below.block _ (.inr (.inr rfl))).trans hl3
    have hd4 : w4.heap[D]? = some (.deferred (some [])) := (hm4.below.block _ (.inr (.inl rfl))).trans hd3
    have he := run_endRound (P := P) none hl4
    refine ⟨_, _, he, rfl, ⟨ρ4, (hm4.unbase hm2.below (fun k hk => .inl hk)).odd _ hl4 rfl (hnB _ (by omega))⟩, ?_, ?_⟩
    ·have := World.putObj_heap_same (w := w4) (o := .loop (rec .ready none)) (Array.getElem?_eq_some_iff.1 hl4).1
     rw [hrec] at this ⊢
     exact this
    ·exact (World.putObj_heap_other (by omega)).trans hd4
   ·
    obtain ⟨⟨ρ', hm⟩, hl, hd⟩ := h
    have he := run_endLoop (P := P) hl (by rw [hrec]; simp)
    rw [hrec] at he
    refine ⟨none, _, he, ?_⟩
    have hda : a.defers = [] := hr.sl.defers
    refine ⟨by rw [hda]; rfl, ⟨ρ', hm.odd _ hl rfl (hnB _ (by omega))⟩, (World.putObj_heap_other (by omega)).trans hd, hnB _ (Nat.le_refl _)⟩
 intro cs
 obtain ⟨e, a', w', hq, harr⟩ := key (At f) rfl rfl (At f) k cs
 cases e with
 | normal =>
  obtain ⟨rfl, ⟨ρ', hm⟩, hd, hnD⟩ := hq
  have hB2 : MemRel (ρ ++ ρ') (fun k => B k ∨ k = D) w' w' (M cnt) := hm.rebase (fun k hk => by
   rcases hk with hk | rfl
   ·exact hm.base k hk
   ·exact (Array.getElem?_eq_some_iff.1 hd).1) (fun i e s he hs ho hsol => by
   rintro (hb | hb)
   ·exact hm.own i e s he hs ho hsol hb
   ·exact hm.solid_ne he hs hsol hd rfl hb)
  obtain ⟨e, w2, fr, ⟨u, ρ2, rfl, hv, hm2⟩, hcs, hfn, hlv⟩ := hrest D (fun k => B k ∨ k = D) w' ρ' { a with defers := [colD D] } w' ⟨⟨hr.sl.size, rfl, fun t v ht => V.rel_app ρ' (hr.sl.slot t v ht)⟩, hB2⟩ cs
  obtain ⟨h1, h2, h3, fn, h4, h5⟩ := hlv
  have hd2 : w2.heap[D]? = some (.deferred (some [])) := (hm2.below.block _ (.inr rfl)).trans hd
  have hst := step_collected (P := P) (fr := fr) (cs := cs) (w := w2) (d := colD D) (ds := []) (by rw [h1]; simp) h2 rfl (run_takeDeferred hd2)
  refine ⟨.returned u, w2.putObj D (.deferred none), { fr with defers := [] }, ⟨u, ρ2, rfl, hv, (hm2.unbase hm.below (fun k hk => .inl hk)).odd _ hd2 rfl hnD⟩, ?_, hfn, h1, ?_, h3, fn, h4, fun w3 hx => h5 w3 fun a u hc => hx a u (cx_odd _ hd2 rfl a u hc)⟩
  ·exact Steps.trans harr (Steps.trans hcs (.one hst))
  ·exact hr.sl.defers.symm
 | exit id => exact hq.elim
 | goto t => exact hq.elim
 | ret => exact hq.elim
 | panic c => exact hq.elim
 | outgrown => exact hq.elim
end
end Go.Sx
