/- The symbolic evaluator: a function's body, and calls to any depth, in the end; The symbolic evaluator: what a run of a law gives; The symbolic evaluator: from a law's call to its row; The symbolic evaluator: what is left to be shown of a run; tables of functions of a byte. -/
import Derived.Test.YtbamfolinbehiaaSxT
import Derived.KernelRfl
import Derived.ProofKit
section
namespace Go.Sx
open Go Go.RowKit
section
variable {ds : List Deferred}
variable {P : Program} {f : FuncId} {fn : Func} {R : Ending → World → Prop} {call : CallFn} {eff : FuncId → Bool} {lim : Nat}
def Nrm (K : Act → World → Prop) : Exit → Act → World → Prop
 | .normal, a, w => K a w
 | _, _, _ => False
theorem goes_ret {ρ : Env} {B : Nat → Prop} {W w : World} {S : St} {a : Act} (hr : RelD ds ρ B W fn.ntmps S a w)
  (hh : (finish P fn S).holds) (hF : FinD ds P f R ρ B W fn.ntmps (finish P fn S)) :
  ∃ u, R (.returned u) w ∧ ∀ w', CX w w' → (results fn a.tmps).run P w' = .ok u w' := by
 cases hfin : finish P fn S with
 | done v m h ob =>
  rw [hfin] at hh hF
  obtain ⟨rfl, u, h1, h2⟩ := finish_sound hr hfin hh
  exact ⟨u, hF u w [] (by rw [List.append_nil]; exact h1) (by rw [List.append_nil]; exact hr.m), h2⟩
 | stop k S' =>
  rw [hfin] at hh
  unfold finish at hfin
  split at hfin <;> split at hfin <;> cases hfin
 | bad => rw [hfin] at hh; exact hh.elim
theorem goes_end {k : List Item} {a : Act} {w : World} {u : Value} (hf : P.funcs[f]? = some fn) (hR : R (.returned u) w) (hres : ∀ w', CX w w' → (results fn a.tmps).run P w' = .ok u w')
  (hs : ∀ cs, step P (lone ((At f).at a k) cs w) = .next (lone { (At f).at a k with mode := .returning } cs w)) : Goes P f R k a w :=
 fun cs => ⟨.returned u, w, { (At f).at a k with mode := .returning }, hR, .one (hs cs), rfl, rfl, rfl, rfl, fn, hf, hres⟩
theorem run_sound (hc : CallOk P call) (hf : P.funcs[f]? = some fn) {B : Nat → Prop} {W : World} : ∀ (n : Nat) (ls : List Bool) (k : List Item) (S : St) (ρ : Env) (a : Act) (w : World),
  (run P call eff fn lim n ls k S).holds → FinD ds P f R ρ B W fn.ntmps (run P call eff fn lim n ls k S) → RelD ds ρ B W fn.ntmps S a w → Goes P f R k a w
 | 0, _, k, S, ρ, a, w, _, hF, hr => hF a w [] (by rw [List.append_nil]; exact hr)
 | n + 1, ls, k, S, ρ, a, w, h, hF, hr => by
  unfold run at h hF
  split at h
  ·cases ‹_ + 1 = 0›
  ·obtain ⟨u, h1, h2⟩ := goes_ret hr h hF
   exact goes_end hf h1 h2 fun cs => step_end
  ·rename_i he; cases he
   exact .step (fun cs => step_inBlock) (run_sound hc hf _ _ _ _ _ _ _ h hF hr)
  ·rename_i he; cases he
   simp only at hF
   split at h
   ·rename_i hl; rw [hl] at hF
    exact hF a w [] (by rw [List.append_nil]; exact hr)
   ·rename_i hl; rw [hl] at hF
    exact .step (fun cs => step_inLoop) (run_sound hc hf _ _ _ _ _ _ _ h hF hr)
  ·rename_i he; cases he
   simp only at hF
   split at h
   ·exact .step (fun cs => step_skip) (run_sound hc hf _ _ _ _ _ _ _ h hF hr)
   ·exact .step (fun cs => step_seq) (run_sound hc hf _ _ _ _ _ _ _ h hF hr)
   ·exact .step (fun cs => step_block) (run_sound hc hf _ _ _ _ _ _ _ h hF hr)
   ·simp only at hF
    split at h
    ·exact hF a w [] (by rw [List.append_nil]; exact hr)
    ·exact .step (fun cs => step_loop) (run_sound hc hf _ _ _ _ _ _ _ h hF hr)
    ·exact .step (fun cs => step_loop) (run_sound hc hf _ _ _ _ _ _ _ h hF hr)
   ·simp only at hF
    split at h
    ·rename_i S' hcd; simp only [hcd] at hF
     obtain ⟨hr', hv⟩ := condB_sound hcd (run_ob _ _ _ _ h) hr
     exact .step (fun cs => step_cond hv) (run_sound hc hf _ _ _ _ _ _ _ h hF hr')
    ·rename_i S' hcd; simp only [hcd] at hF
     obtain ⟨hr', hv⟩ := condB_sound hcd (run_ob _ _ _ _ h) hr
     exact .step (fun cs => step_cond hv) (run_sound hc hf _ _ _ _ _ _ _ h hF hr')
    ·exact h.elim
   ·simp only at hF
    split at h
    ·rename_i k' hx; simp only [hx] at hF
     exact .step (fun cs => step_exit hx) (run_sound hc hf _ _ _ _ _ _ _ h hF hr)
    ·exact h.elim
   ·obtain ⟨u, h1, h2⟩ := goes_ret hr h hF
    exact goes_end hf h1 h2 fun cs => step_ret
   ·simp only at hF
    split at h
    ·rename_i S' hd; simp only [hd] at hF
     refine Goes.code (Q := Nrm fun a' w' => a'.defers = a.defers ∧ Goes P f R _ a' w') (wp_region_list (doList_sound hc hd (run_ob _ _ _ _ h) hr fun a' w' ρ' hr' => ?_)) (fun e a' w' hq => by cases e <;> first | exact ⟨rfl, hq⟩ | exact hq.elim)
     exact ⟨hr'.sl.defers.trans hr.sl.defers.symm, run_sound hc hf _ _ _ _ _ _ _ h (hF.app ρ') hr'⟩
    ·exact h.elim
   ·simp only at hF
    split at h
    ·rename_i S' hsel hd; simp only [hsel, hd] at hF
     simp only [Bool.and_eq_true] at hsel
     refine Goes.code (Q := Nrm fun a' w' => a'.defers = a.defers ∧ Goes P f R _ a' w') (wp_region_any hsel.2 (wpAnyE_any _ _ _ _ (open_sound hc hsel.1 (R := fun a' w' => a'.defers = a.defers ∧ Goes P f R _ a' w') (fun _ _ _ h => h) (fun _ _ h => h) hd (run_ob _ _ _ _ h) ⟨hr.sl, hr.m.drew⟩ fun a' w' ρ' hr' => ?_)))
      (fun e a' w' hq => by cases e <;> first | exact ⟨rfl, hq⟩ | exact hq.elim)
     exact ⟨hr'.sl.defers.trans hr.sl.defers.symm, run_sound hc hf _ _ _ _ _ _ _ h (hF.app ρ') hr'⟩
    ·exact h.elim
   ·exact hF a w [] (by rw [List.append_nil]; exact hr)
   ·exact h.elim
  ·exact h.elim
theorem argSlots_rel {ρ : Env} : ∀ {args : List V} {us : List Value} (i t : Nat) (v : V), relVs ρ args us → look (argSlots i args) t = some v → i ≤ t ∧ ∃ u, us[t - i]? = some u ∧ v.rel ρ u
 | [], _, _, _, _, _, h => by cases h
 | x :: r, us, i, t, v, hu, h => by
  obtain ⟨u, s, rfl, h1, h2⟩ := hu
  simp only [argSlots] at h
  rw [look_cons] at h
  split at h
  ·rename_i he; subst he
   injection h with h; subst h
   exact ⟨Nat.le_refl _, u, by simp, h1⟩
  ·obtain ⟨k1, u', k2, k3⟩ := argSlots_rel (i + 1) t v h2 h
   refine ⟨by omega, u', ?_, k3⟩
   rw [show t - i = (t - (i + 1)) + 1 by omega, List.getElem?_cons_succ]
   exact k2
theorem relVs_length {ρ : Env} : ∀ {args : List V} {us : List Value}, relVs ρ args us → us.length = args.length
 | [], us, h => by simp only [relVs] at h; subst h; rfl
 | x :: r, us, h => by
  obtain ⟨u, s, rfl, h1, h2⟩ := h
  simp [relVs_length h2]
theorem args_slots {ρ : Env} {args : List V} {us : List Value} {n : Nat} (h : relVs ρ args us) (hn : args.length ≤ n) :
  SlotsRel [] ρ n (argSlots 0 args) { tmps := us.toArray ++ Array.replicate (n - us.toArray.size) undef, defers := [] } where
 size := by
  have := relVs_length h
  simp; omega
 defers := rfl
 slot := fun t v hv => by
  obtain ⟨_, u, h1, h2⟩ := argSlots_rel 0 t v h hv
  simp only [Nat.sub_zero] at h1
  have hlt := (List.getElem?_eq_some_iff.1 h1).1
  rw [Array.getD_eq_getD_getElem?, Array.getElem?_append_left (by simpa using hlt)]
  simp only [List.getElem?_toArray, h1, Option.getD_some]
  exact h2
def TabOk (P : Program) (f : FuncId) (g : List V → List SB → List Bool → Option CallR) : Prop := ∀ args m h v m' h' ob, g args m h = some (v, m', h', ob) → (∀ p ∈ ob, p) →
 ∀ (ρ : Env) (B : Nat → Prop) (W w : World) (us : List Value), MemRel ρ B W w m → relVs ρ args us →
  Calls P f us.toArray w (fun e w' => ∃ u ρ', e = .returned u ∧ V.rel (ρ ++ ρ') v u ∧ MemRel (ρ ++ ρ') B W w' m')
theorem calls_run (hc : CallOk P call) (hf : P.funcs[f]? = some fn) {c : Code} (hb : fn.body = some c) {args : List V} (hn : args.length ≤ fn.ntmps) {ls : List Bool} {fuel : Nat} {m : List SB} {h : List Bool}
  {ρ : Env} {B : Nat → Prop} {W w : World} {us : List Value} (hm : MemRel ρ B W w m) (hu : relVs ρ args us)
  (hh : (run P call eff fn lim fuel ls [.code c] ⟨argSlots 0 args, m, h, []⟩).holds) (hF : Fin P f R ρ B W fn.ntmps (run P call eff fn lim fuel ls [.code c] ⟨argSlots 0 args, m, h, []⟩)) :
  Calls P f us.toArray w R := by
 intro cs
 have henter : Frame.enter P f us.toArray .normal =
   (At f).at { tmps := us.toArray ++ Array.replicate (fn.ntmps - us.toArray.size) undef, defers := [] } [.code c] := by
  simp [Frame.enter, Frame.at, hf, hb, At]
 rw [henter]
 obtain ⟨e, w', fr, k1, k2, k3, k4⟩ := run_sound (ds := []) hc hf _ _ _ _ _ _ _ hh hF ⟨args_slots hu hn, hm⟩ cs
 exact ⟨e, w', fr, k1, k2, k3, leavingD_nil k4⟩
theorem callN_sound {T : FuncId → Option (List V → List SB → List Bool → Option CallR)} (hT : ∀ f g, T f = some g → TabOk P f g) {fuel : Nat} : ∀ d, CallOk P (callN P T eff fuel d)
 | 0 => fun _ _ _ _ _ _ _ _ h => by cases h
 | d + 1 => by
  intro f args m h v m' h' ob hcall hob ρ B W w us hm hu
  simp only [callN] at hcall
  split at hcall
  ·rename_i g hg
   exact hT f g hg args m h v m' h' ob hcall hob ρ B W w us hm hu
  ·split at hcall
   ·rename_i fn hf
    split at hcall
    ·rename_i c hb hn
     split at hcall
     ·rename_i v1 m1 h1 ob1 hrun
      injection hcall with hcall; injection hcall with e1 e2; injection e2 with e2 e3; injection e3 with e3 e4
      subst e1; subst e2; subst e3; subst e4
      refine calls_run (callN_sound (fuel := fuel) hT d) hf hb (Nat.le_of_ble_eq_true hn) hm hu (lim := 0) (fuel := fuel) (ls := []) (eff := eff) (h := h) ?_ ?_
      ·rw [hrun]; exact hob
      ·rw [hrun]; exact fun u w' ρ' k1 k2 => ⟨u, ρ', rfl, k1, k2⟩
     ·cases hcall
    ·cases hcall
   ·cases hcall
end
end Go.Sx
end
section
namespace Go.Sx
open Go Go.RowKit
section
variable {P : Program}
theorem MemRel.nil (w : World) : MemRel [] (upto w) w w [] where
 below := .refl _ _
 base := fun _ h => h
 len := rfl
 blk := fun i e s h => by simp at h
 own := fun i e s h => by simp at h
 sep := fun i j e e' s s' _ h => by simp at h
 maps := fun i e s _ _ h => by simp at h
 msep := fun i j e e' s s' _ _ _ _ _ h => by simp at h
theorem law_true {T : FuncId → Option (List V → List SB → List Bool → Option CallR)} (hT : ∀ f g, T f = some g → TabOk P f g) {eff : FuncId → Bool} {fuel d : Nat} {f : FuncId} {args : List V} {m m' : List SB} {h h' : List Bool} {ob : List Prop}
  (hr : callN P T eff fuel d f args m h = some (.v (.one (.bool true)), m', h', ob)) (hob : ∀ p ∈ ob, p) {ρ : Env} {w : World} {us : List Value} (hm : MemRel ρ (upto w) w w m) (hu : relVs ρ args us) :
  Calls P f us.toArray w fun e w' => e = .returned (.bool true) ∧ Below w.heap.size w w' :=
 (callN_sound hT d f args m h _ _ _ _ hr hob ρ _ w w us hm hu).mono fun e w' ⟨u, ρ', he, hv, hm'⟩ => ⟨by rw [he, hv.1], hm'.below.toBelow⟩
def yes : List V → List SB → List Bool → Option CallR
 | [], m, h => some (.v (.one (.bool true)), m, h, [])
 | _, _, _ => none
def allF (p : Nat → Bool) (lo : Nat) : Nat → Bool
 | 0 => true
 | n + 1 => match p (lo + n) with
  | true => allF p lo n
  | false => false
theorem allF_spec {p : Nat → Bool} {lo : Nat} : ∀ {n : Nat}, allF p lo n = true → ∀ i, lo ≤ i → i < lo + n → p i = true
 | 0, _, i, h, h' => by omega
 | n + 1, h, i, hi, hi' => by
  simp only [allF] at h
  split at h
  ·rename_i hp
   rcases Nat.lt_or_ge i (lo + n) with h' | h'
   ·exact allF_spec h i hi h'
   ·have : i = lo + n := by omega
    subst this; exact hp
  ·cases h
end
end Go.Sx
end
section
namespace Go.Sx
open Go Go.RowKit Go.ChangeShapes Go.WideShapes
section
variable {H : Type} {enc : TypeId × Value → H} {P : Program}
theorem trodAll_below (hl : laidOutB P = true) {W W' : World} (hb : Below W.heap.size W W') : ∀ {ts : List TypeId} {vs : List Value} {ds : List (DataW H)} {ps : List MemPlace},
  (∀ t ∈ ts, P.readableRec t = true ∧ t < P.types.size) → DataW.TrodAll enc P W 0 (fun _ => true) true ts vs ds ps → (∀ x ∈ ps, x.block < W.heap.size) →
  ∀ sp : Nat → Bool, (∀ p ∈ ps, sp p.block = true) → DataW.TrodAll enc P W' 0 sp true ts vs ds ps
 | [], _, _, _, _, h, _, _, _ => by
  obtain ⟨rfl, rfl, rfl⟩ := trodAll_nil h
  exact h
 | t :: ts, _, _, _, ht, h, hlt, sp, hs => by
  obtain ⟨v, vs1, d, ds1, a, b, rfl, rfl, rfl, h1, h2⟩ := trodAll_cons h
  have h1' : DataW.Trod enc P W' 0 sp true t v d a :=
   WideElems.Trod_stays hl (ht t (by simp)).1 (ht t (by simp)).2 h1 (fun x hx => hb.same (hlt x (by simp [hx]))) (fun x hx => hs x (by simp [hx]))
  have h2' := trodAll_below hl hb (fun t h => ht t (by simp [h])) h2 (fun x hx => hlt x (by simp [hx])) sp (fun x hx => hs x (by simp [hx]))
  exact ⟨a, b, h1', h2', rfl⟩
theorem post_law {f : Func} {s : ChangeSpec} {apart fresh handsOn : Bool} {W W' : World} {args : Array Value} {ds gs : List (DataW H)} {before : List MemPlace} {t : TypeId} (hl : laidOutB P = true)
  (hts : ∀ t ∈ f.params.toList, P.readableRec t = true ∧ t < P.types.size) (hv : s.vars = [])
  (hfn : s.fn H ds = { results := [.lit (.bool true)], args := ds }) (hres : f.resultTypes = #[t]) (hbool : P.underlying t = some .bool)
  (hW : DataW.Whole enc P f.params.toList s.vars apart W args.toList ds gs before) (hb : Below W.heap.size W W') : s.post enc P f apart fresh handsOn false W args (.bool true) W' := by
 have hlt : ∀ p ∈ before, p.block < W.heap.size := fun p hp => hW.lt p hp
 have hW' := hW
 obtain ⟨p, q, hA, hV, rfl, hz, hn⟩ := hW
 rw [hv] at hV
 obtain ⟨rfl, rfl⟩ := trodVars_none hV
 rw [List.append_nil] at hlt hW'
 refine ⟨ds, [], p, [], p, [], hW', ?_, ?_, ?_, hb.frame _, fun h => by cases h⟩
 ·rw [List.append_nil, hfn, hres]
  exact trodAll_mk1 (shut_bool hbool true)
 ·rw [List.append_nil, hfn]
  exact trodAll_below hl hb hts hA hlt _ fun x hx => by simpa using hlt x hx
 ·rw [List.append_nil, hfn, hv]
  rfl
end
end Go.Sx
end
section
namespace Go.Sx
open Go Go.RowKit
section
variable {P : Program}
def allP : List Prop → Prop
 | [] => True
 | p :: r => p ∧ allP r
theorem allP_mem : ∀ {l : List Prop}, allP l → ∀ p ∈ l, p
 | [], _, p, h => by cases h
 | q :: r, ⟨h1, h2⟩, p, h => by
  rcases List.mem_cons.1 h with rfl | h
  ·exact h1
  ·exact allP_mem h2 p h
def obsOf : Option CallR → Option (List Prop)
 | some (.v (.one (.bool true)), _, _, ob) => some ob
 | some (.v (.one (.sbool p)), _, _, ob) => some ((p = true) :: ob)
 | _ => none
theorem law_obs {T : FuncId → Option (List V → List SB → List Bool → Option CallR)} (hT : ∀ f g, T f = some g → TabOk P f g) {eff : FuncId → Bool} {fuel d : Nat} {f : FuncId} {args : List V} {m : List SB} {h : List Bool} {l : List Prop}
  (hr : obsOf (callN P T eff fuel d f args m h) = some l) (hl : allP l) {ρ : Env} {w : World} {us : List Value} (hm : MemRel ρ (upto w) w w m) (hu : relVs ρ args us) :
  Calls P f us.toArray w fun e w' => e = .returned (.bool true) ∧ Below w.heap.size w w' := by
 unfold obsOf at hr
 split at hr
 ·rename_i hc
  injection hr with hr; subst hr
  exact law_true hT hc (allP_mem hl) hm hu
 ·rename_i p m' h' ob hc
  injection hr with hr; subst hr
  exact (callN_sound hT d f args m h _ _ _ _ hc (fun q hq => allP_mem hl q (List.mem_cons_of_mem _ hq)) ρ _ w w us hm hu).mono fun e w' ⟨u, ρ', he, hv, hm'⟩ => ⟨by rw [he, hv.1, hl.1], hm'.below.toBelow⟩
 ·cases hr
def okV : V → Option CallR → Bool
 | .v (.one (.sint k a)), some (.v (.one (.int k' b)), _, _, []) => decide (k = k') && decide (a = b)
 | .v (.one (.sbool a)), some (.v (.one (.bool b)), _, _, []) => a == b
 | .v (.one (.sstr a)), some (.v (.one (.str b)), _, _, []) => a == b
 | _, _ => false
theorem okV_spec {v : V} {r : Option CallR} (h : okV v r = true) : ∃ v' m' h', r = some (v', m', h', []) ∧ ∀ ρ ρ' u, V.rel ρ v' u → V.rel ρ' v u := by
 unfold okV at h
 split at h
 ·simp only [Bool.and_eq_true, decide_eq_true_eq] at h
  obtain ⟨rfl, rfl⟩ := h
  exact ⟨_, _, _, rfl, fun _ _ _ h => h⟩
 ·rename_i a b _ _
  have : a = b := by simpa using h
  subst this
  exact ⟨_, _, _, rfl, fun _ _ _ h => h⟩
 ·rename_i a b _ _
  have : a = b := by simpa using h
  subst this
  exact ⟨_, _, _, rfl, fun _ _ _ h => h⟩
 ·cases h
def byteTab (g : Int → V) : List V → List SB → List Bool → Option CallR
 | [.v (.one (.sint .u8 x))], m, h => some (g x, m, h, [0 ≤ x ∧ x < 256])
 | [.v (.one (.int .u8 x))], m, h => some (g x, m, h, [0 ≤ x ∧ x < 256])
 | _, _, _ => none
theorem byteTab_ok {T : FuncId → Option (List V → List SB → List Bool → Option CallR)} (hT : ∀ f g, T f = some g → TabOk P f g) {eff : FuncId → Bool} {fuel d : Nat} {f : FuncId} {g : Int → V}
  (hr : ∀ n : Nat, n < 256 → okV (g n) (callN P T eff fuel d f [.v (.one (.int .u8 n))] [] []) = true) : TabOk P f (byteTab g) := by
 have key : ∀ (x : Int) (ρ : Env) (B : Nat → Prop) (W w : World) (m : List SB), 0 ≤ x ∧ x < 256 → MemRel ρ B W w m →
   Calls P f #[.int .u8 x] w (fun e w' => ∃ u ρ', e = .returned u ∧ V.rel (ρ ++ ρ') (g x) u ∧ MemRel (ρ ++ ρ') B W w' m) := by
  intro x ρ B W w m hx hm
  have h1 := hr x.toNat (by omega)
  have hn : ((x.toNat : Nat) : Int) = x := by omega
  rw [hn] at h1
  obtain ⟨v', m', h', hc, hv⟩ := okV_spec h1
  refine (callN_sound hT d f _ [] [] _ _ _ _ hc (fun _ h => by cases h) [] _ w w [.int .u8 x] (MemRel.nil w) ⟨_, _, rfl, ⟨rfl, rfl⟩, rfl⟩).mono fun e w' ⟨u, ρ', he, hu, hm'⟩ => ?_
  have hb := hm'.below
  exact ⟨u, [], he, hv _ _ _ hu, by rw [List.append_nil]; exact hm.ext ⟨hb.size, hb.block⟩ (hm.below.trans (hb.mono fun k hk => hm.base k hk))⟩
 intro args m h v m' h' ob hg hob ρ B W w us hm hu
 unfold byteTab at hg
 split at hg
 ·injection hg with hg; injection hg with e1 e2; injection e2 with e2 e3; injection e3 with e3 e4
  subst e1; subst e2; subst e3; subst e4
  obtain ⟨u, s, rfl, ⟨hu1, _⟩, hs⟩ := hu
  simp only [relVs] at hs; subst hs
  simp only [C.rel] at hu1; subst hu1
  exact key _ ρ B W w m (hob _ (by simp)) hm
 ·injection hg with hg; injection hg with e1 e2; injection e2 with e2 e3; injection e3 with e3 e4
  subst e1; subst e2; subst e3; subst e4
  obtain ⟨u, s, rfl, ⟨hu1, _⟩, hs⟩ := hu
  simp only [relVs] at hs; subst hs
  simp only [C.rel] at hu1; subst hu1
  exact key _ ρ B W w m (hob _ (by simp)) hm
 ·cases hg
def tabs : List (FuncId × (List V → List SB → List Bool → Option CallR)) → FuncId → Option (List V → List SB → List Bool → Option CallR)
 | [], _ => none
 | (f, g) :: r, f' => match Nat.beq f f' with
  | true => some g
  | false => tabs r f'
theorem tabs_ok : ∀ {l : List (FuncId × (List V → List SB → List Bool → Option CallR))}, (∀ x ∈ l, TabOk P x.1 x.2) → ∀ f g, tabs l f = some g → TabOk P f g
 | [], _, f, g, h => by cases h
 | (f0, g0) :: r, hl, f, g, h => by
  simp only [tabs] at h
  split at h
  ·rename_i he
   injection h with h; subst h
   have := Nat.eq_of_beq_eq_true he
   subst this
   exact hl (f0, g0) (by simp)
  ·exact tabs_ok (fun x hx => hl x (by simp [hx])) f g h
theorem no_tabs : ∀ f g, (fun _ => none : FuncId → Option (List V → List SB → List Bool → Option CallR)) f = some g → TabOk P f g := fun _ _ h => by cases h
end
end Go.Sx
end
