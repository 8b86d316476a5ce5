/- The symbolic evaluator: contracts of functions that make memory of their own. -/
import Derived.Test.YtbamfolinbehiaaSxZ
namespace Go.Sx
open Go Go.RowKit
def shC (d : Nat) : C → C
 | .ptr b i st sub => .ptr (d + b) i st sub
 | .slice b i st l cl => .slice (d + b) i st l cl
 | .clos f caps => .clos f (caps.map fun b => d + b)
 | .mapr b => .mapr (d + b)
 | c => c
def shV1 (d : Nat) : V1 → V1
 | .one c => .one (shC d c)
 | .agg l => .agg (l.map (shC d))
 | .aggi k l => .aggi k l
def shV (d : Nat) : V → V
 | .v x => .v (shV1 d x)
 | .tup l => .tup (l.map (shV1 d))
def shCells (d : Nat) : Cells → Cells
 | .exp l => .exp (l.map (shC d))
 | .imap k l => .imap k (l.map fun x => (x.1, shV1 d x.2))
 | c => c
def shB (d : Nat) (s : SB) : SB := ⟨s.own, shCells d s.c⟩
section
variable {ds : List Deferred}
variable {P : Program} {ρ ρ' : Env}
theorem getSh (b : Nat) : (ρ ++ ρ')[ρ.length + b]? = ρ'[b]? := by
 rw [List.getElem?_append_right (by omega)]; congr 1; omega
theorem shC_rel {c : C} {u : Value} (h : c.rel ρ' u) : (shC ρ.length c).rel (ρ ++ ρ') u := by
 cases c with
 | ptr b i st sub => obtain ⟨e, he, hu⟩ := h; exact ⟨e, by rw [getSh]; exact he, hu⟩
 | slice b i st l cl => obtain ⟨e, he, hu⟩ := h; exact ⟨e, by rw [getSh]; exact he, hu⟩
 | mapr b => obtain ⟨e, he, hu⟩ := h; exact ⟨e, by rw [getSh]; exact he, hu⟩
 | clos f caps =>
  obtain ⟨es, h1, h2⟩ := h
  refine ⟨es, ?_, h2⟩
  rw [← h1, List.map_map]
  congr 1
  funext b
  exact getSh b
 | _ => exact h
theorem shL_rel : ∀ {l : List C} {us : List Value}, relL ρ' l us → relL (ρ ++ ρ') (l.map (shC ρ.length)) us
 | [], _, h => h
 | c :: r, us, h => by
  obtain ⟨u, s, rfl, h1, h2⟩ := h
  exact ⟨u, s, rfl, shC_rel h1, shL_rel h2⟩
theorem shV1_rel {x : V1} {u : Value} (h : x.rel ρ' u) : (shV1 ρ.length x).rel (ρ ++ ρ') u := by
 cases x with
 | one c => exact ⟨shC_rel h.1, h.2⟩
 | agg l =>
  obtain ⟨us, h1, h2, h3⟩ := h
  exact ⟨us, h1, shL_rel h2, h3⟩
 | aggi k l => exact h
theorem shL1_rel : ∀ {l : List V1} {us : List Value}, relL1 ρ' l us → relL1 (ρ ++ ρ') (l.map (shV1 ρ.length)) us
 | [], _, h => h
 | c :: r, us, h => by
  obtain ⟨u, s, rfl, h1, h2⟩ := h
  exact ⟨u, s, rfl, shV1_rel h1, shL1_rel h2⟩
theorem shV_rel {x : V} {u : Value} (h : x.rel ρ' u) : (shV ρ.length x).rel (ρ ++ ρ') u := by
 cases x with
 | v x => exact shV1_rel h
 | tup l =>
  obtain ⟨us, h1, h2⟩ := h
  exact ⟨us, h1, shL1_rel h2⟩
theorem shCells_rel {c : Cells} {g : Nat → Option Value} (h : c.rel ρ' g) : (shCells ρ.length c).rel (ρ ++ ρ') g := by
 cases c with
 | exp l =>
  intro j c hj
  simp only [List.getElem?_map, Option.map_eq_some_iff] at hj
  obtain ⟨c0, h0, rfl⟩ := hj
  obtain ⟨u, h1, h2, h3⟩ := h j c0 h0
  exact ⟨u, h1, shC_rel h2, h3⟩
 | _ => exact h
theorem shCells_map {d : Nat} {s : SB} {k : IntKind} {l : List (Int × V1)} (h : (shB d s).c = .imap k l) : ∃ l0, s.c = .imap k l0 ∧ l = l0.map fun x => (x.1, shV1 d x.2) := by
 obtain ⟨o, c⟩ := s
 cases c <;> simp only [shB, shCells] at h <;> first | cases h | skip
 exact ⟨_, rfl, rfl⟩
theorem shEnt {k : IntKind} : ∀ {l : List (Int × V1)} {es : List MapEntry}, entRel ρ' k l es → entRel (ρ ++ ρ') k (l.map fun x => (x.1, shV1 ρ.length x.2)) es
 | [], _, h => h
 | (_, _) :: _, _, ⟨e, r', h1, h2, h3, h4⟩ => ⟨e, r', h1, h2, shV1_rel h3, shEnt h4⟩
theorem shMapAt {w : World} {b : Nat} {k : IntKind} {l : List (Int × V1)} (h : MapAt ρ' w b k l) : MapAt (ρ ++ ρ') w b k (l.map fun x => (x.1, shV1 ρ.length x.2)) :=
 let ⟨es, cl, h1, h2⟩ := h; ⟨es, cl, h1, shEnt h2⟩
theorem shCells_live {d : Nat} {c : Cells} : (shCells d c).live = c.live := by cases c <;> rfl
theorem sh_solid {d : Nat} {s : SB} {e : E} (h : solid (shB d s).c e) : solid s.c e := by
 rcases h with ⟨h, h0⟩ | ⟨k, l, h⟩
 ·exact .inl ⟨by rw [← shCells_live (d := d)]; exact h, h0⟩
 ·obtain ⟨l0, h1, _⟩ := shCells_map h
  exact .inr ⟨k, l0, h1⟩
theorem MemRel.beside {B : Nat → Prop} {W w w' : World} {m bs : List SB} (hm : MemRel ρ B W w m) (hb : MemRel ρ' (upto w) w w' bs) (ho : bs.all (fun s => s.own) = true) :
  MemRel (ρ ++ ρ') B W w' (m ++ bs.map (shB m.length)) := by
 have hx : Ext w w' := ⟨hb.below.size, hb.below.block⟩
 have hmx : MemRel ρ B W w' m := hm.ext hx (hm.below.trans (hb.below.mono fun k hk => hm.base k hk))
 have hob : ∀ (k : Nat) (s : SB), bs[k]? = some s → s.own = true := fun k s h => List.all_eq_true.1 ho s (List.mem_of_getElem? h)
 have old : ∀ (k : Nat) (e : E) (s : SB), k < m.length → (ρ ++ ρ')[k]? = some e → (m ++ bs.map (shB m.length))[k]? = some s → ρ[k]? = some e ∧ m[k]? = some s := by
  intro k e s hk he hs
  rw [List.getElem?_append_left (by rw [hm.len]; exact hk)] at he
  rw [List.getElem?_append_left hk] at hs
  exact ⟨he, hs⟩
 have new : ∀ (k : Nat) (e : E) (s : SB), ¬ k < m.length → (ρ ++ ρ')[k]? = some e → (m ++ bs.map (shB m.length))[k]? = some s →
   ∃ s0, ρ'[k - m.length]? = some e ∧ bs[k - m.length]? = some s0 ∧ s = shB m.length s0 := by
  intro k e s hk he hs
  rw [List.getElem?_append_right (by rw [hm.len]; omega), hm.len] at he
  rw [List.getElem?_append_right (by omega), List.getElem?_map, Option.map_eq_some_iff] at hs
  obtain ⟨s0, h1, h2⟩ := hs
  exact ⟨s0, he, h1, h2.symm⟩
 refine ⟨hmx.below, hmx.base, by simp [hm.len, hb.len], ?_, ?_, ?_, ?_, ?_⟩
 ·intro i e s he hs
  by_cases hi : i < m.length
  ·obtain ⟨h1, h2⟩ := old i e s hi he hs
   intro hl
   obtain ⟨cur, ty, fz, k1, k2, k3, k4⟩ := hmx.blk i e s h1 h2 hl
   exact ⟨cur, ty, fz, k1, k2, k3, Cells.rel_app _ k4⟩
  ·obtain ⟨s0, h1, h2, rfl⟩ := new i e s hi he hs
   intro hl
   obtain ⟨cur, ty, fz, k1, k2, k3, k4⟩ := hb.blk _ e s0 h1 h2 (by rw [← shCells_live (d := m.length)]; exact hl)
   refine ⟨cur, ty, fz, k1, k2, k3, ?_⟩
   have := shCells_rel (ρ := ρ) k4
   rw [hm.len] at this
   exact this
 ·intro i e s he hs hown hsol
  by_cases hi : i < m.length
  ·obtain ⟨h1, h2⟩ := old i e s hi he hs
   exact hmx.own i e s h1 h2 hown hsol
  ·obtain ⟨s0, h1, h2, rfl⟩ := new i e s hi he hs
   exact fun hbb => hb.own _ e s0 h1 h2 hown (sh_solid hsol) (hm.base _ hbb)
 ·intro i j e e' s s' hne he he' hs hs' hown hl hl' h0 h0'
  by_cases hi : i < m.length
  ·obtain ⟨h1, h2⟩ := old i e s hi he hs
   by_cases hj : j < m.length
   ·obtain ⟨k1, k2⟩ := old j e' s' hj he' hs'
    exact hmx.sep i j e e' s s' hne h1 k1 h2 k2 hown hl hl' h0 h0'
   ·obtain ⟨s0, k1, k2, rfl⟩ := new j e' s' hj he' hs'
    have g1 := hb.own _ e' s0 k1 k2 (hob _ _ k2) (sh_solid (.inl ⟨hl', h0'⟩))
    have g2 := hm.lt h1 h2 hl h0
    exact fun hbb => g1 (hbb ▸ g2)
  ·obtain ⟨s0, h1, h2, rfl⟩ := new i e s hi he hs
   by_cases hj : j < m.length
   ·obtain ⟨k1, k2⟩ := old j e' s' hj he' hs'
    have g1 := hb.own _ e s0 h1 h2 hown (sh_solid (.inl ⟨hl, h0⟩))
    have g2 := hm.lt k1 k2 hl' h0'
    exact fun hbb => g1 (hbb ▸ g2)
   ·obtain ⟨s1, k1, k2, rfl⟩ := new j e' s' hj he' hs'
    exact hb.sep _ _ e e' s0 s1 (by omega) h1 k1 h2 k2 hown (by rw [← shCells_live (d := m.length)]; exact hl) (by rw [← shCells_live (d := m.length)]; exact hl') h0 h0'
 ·intro i e s kk l he hs hc
  by_cases hi : i < m.length
  ·obtain ⟨h1, h2⟩ := old i e s hi he hs
   exact MapAt.app _ (hmx.maps i e s kk l h1 h2 hc)
  ·obtain ⟨s0, h1, h2, rfl⟩ := new i e s hi he hs
   obtain ⟨l0, k1, rfl⟩ := shCells_map hc
   have := shMapAt (ρ := ρ) (hb.maps _ e s0 kk l0 h1 h2 k1)
   rw [hm.len] at this
   exact this
 ·intro i j e e' s s' kk kk' l l' hne he he' hs hs' hc hc'
  have low : ∀ (i : Nat) (e : E) (s : SB) (kk : IntKind) (l : List (Int × V1)), ρ[i]? = some e → m[i]? = some s → s.c = .imap kk l → e.blk < w.heap.size := fun i e s kk l h1 h2 h3 => by
   obtain ⟨es, cl, h4, _⟩ := hm.maps i e s kk l h1 h2 h3
   exact (Array.getElem?_eq_some_iff.1 h4).1
  by_cases hi : i < m.length
  ·obtain ⟨h1, h2⟩ := old i e s hi he hs
   by_cases hj : j < m.length
   ·obtain ⟨k1, k2⟩ := old j e' s' hj he' hs'
    exact hmx.msep i j e e' s s' kk kk' l l' hne h1 k1 h2 k2 hc hc'
   ·obtain ⟨s0, k1, k2, rfl⟩ := new j e' s' hj he' hs'
    have g1 := hb.own _ e' s0 k1 k2 (hob _ _ k2) (sh_solid (.inr ⟨_, _, hc'⟩))
    exact fun hbb => g1 (hbb ▸ low i e s kk l h1 h2 hc)
  ·obtain ⟨s0, h1, h2, rfl⟩ := new i e s hi he hs
   by_cases hj : j < m.length
   ·obtain ⟨k1, k2⟩ := old j e' s' hj he' hs'
    have g1 := hb.own _ e s0 h1 h2 (hob _ _ h2) (sh_solid (.inr ⟨_, _, hc⟩))
    exact fun hbb => g1 (hbb ▸ low j e' s' kk' l' k1 k2 hc')
   ·obtain ⟨s1, k1, k2, rfl⟩ := new j e' s' hj he' hs'
    obtain ⟨l0, q1, _⟩ := shCells_map hc
    obtain ⟨l1, q2, _⟩ := shCells_map hc'
    exact hb.msep _ _ e e' s0 s1 kk kk' l0 l1 (by omega) h1 k1 h2 k2 q1 q2
abbrev Made := V × List SB × List Bool × List Prop
def fresh (g : List V → List Bool → Option Made) : List V → List SB → List Bool → Option CallR := fun args m h =>
 match g args h with
 | some (v, bs, h', ob) => some (shV m.length v, m ++ bs.map (shB m.length), h', ob)
 | none => none
def Makes (P : Program) (f : FuncId) (us : List Value) (v : V) (bs : List SB) : Prop := ∀ w : World,
 Calls P f us.toArray w (fun e w' => ∃ u ρ', e = .returned u ∧ V.rel ρ' v u ∧ MemRel ρ' (upto w) w w' bs)
theorem fresh_ok {f : FuncId} {g : List V → List Bool → Option Made}
  (hg : ∀ args h v bs h' ob, g args h = some (v, bs, h', ob) → (∀ p ∈ ob, p) → bs.all (fun s => s.own) = true ∧ ∀ ρ us, relVs ρ args us → Makes P f us v bs) : TabOk P f (fresh g) := by
 intro args m h v m' h' ob hf hob ρ B W w us hm hu
 unfold fresh at hf
 split at hf
 ·rename_i v0 bs h0 ob0 hgg
  injection hf with hf; injection hf with e1 e2; injection e2 with e2 e3; injection e3 with e3 e4
  subst e1; subst e2; subst e3; subst e4
  obtain ⟨h1, h2⟩ := hg _ _ _ _ _ _ hgg hob
  refine (h2 ρ us hu w).mono fun e w' ⟨u, ρ', he, hv, hm'⟩ => ⟨u, ρ', he, ?_, hm.beside hm' h1⟩
  rw [← hm.len]
  exact shV_rel hv
 ·cases hf
def retV (sel : List Nat) : Option CallR → Option (V × List SB × List Prop)
 | some (v, m, _, ob) => match viewM m sel with
  | some b => some (v, b, ob)
  | none => none
 | none => none
theorem makes_of {T : FuncId → Option (List V → List SB → List Bool → Option CallR)} (hT : ∀ f g, T f = some g → TabOk P f g) {eff : FuncId → Bool} {fuel d : Nat} {f : FuncId} {args : List V} {h : List Bool} {sel : List Nat}
  {v0 v : V} {b0 bs : List SB} {ob : List Prop} (hr : retV sel (callN P T eff fuel d f args [] h) = some (v0, b0, ob)) (hob : allP ob) (hnd : sel.Nodup) (hv : leV sel v0 v) (hb : leBs sel b0 bs)
  {us : List Value} (hu : relVs [] args us) : Makes P f us v bs := by
 intro w
 unfold retV at hr
 split at hr
 ·rename_i v1 m1 h1 ob1 hc
  split at hr
  ·rename_i b1 hb1
   injection hr with hr; injection hr with e1 e2; injection e2 with e2 e3
   subst e1; subst e2; subst e3
   refine (callN_sound hT d f args [] h _ _ _ _ hc (allP_mem hob) [] _ w w us (MemRel.nil w) hu).mono fun e w' ⟨u, ρ', he, huv, hm'⟩ => ?_
   rw [List.nil_append] at huv hm'
   have hrel : RelD [] ρ' (upto w) w 0 ⟨[], m1, [], []⟩ { tmps := #[], defers := [] } w' := ⟨⟨rfl, rfl, fun t v h => by cases h⟩, hm'⟩
   obtain ⟨ρ2, hs, hr2⟩ := hrel.le (sel := sel) (T := ⟨[], bs, [], []⟩) ⟨hnd, trivial, viewM_le hb1 hb⟩
   exact ⟨u, ρ2, he, leV_rel hs hv huv, hr2.m⟩
  ·cases hr
 ·cases hr
def ivOf : V → Option (IntKind × Int)
 | .v (.one (.int k n)) => some (k, n)
 | .v (.one (.sint k n)) => some (k, n)
 | _ => none
theorem ivOf_rel {v : V} {k : IntKind} {n : Int} (h : ivOf v = some (k, n)) {u : Value} (hr : v.rel ρ u) : u = .int k n := by
 unfold ivOf at h
 split at h
 ·injection h with h; injection h with h1 h2; subst h1; subst h2; exact hr.1
 ·injection h with h; injection h with h1 h2; subst h1; subst h2; exact hr.1
 ·cases h
def ivs : List IntKind → List V → Option (List Int)
 | [], [] => some []
 | k :: ks, v :: vs => match ivOf v with
  | some (k', n) => match decide (k = k'), ivs ks vs with
   | true, some r => some (n :: r)
   | _, _ => none
  | none => none
 | _, _ => none
def ivals : List IntKind → List Int → List Value
 | [], _ => []
 | _ :: _, [] => []
 | k :: ks, n :: ns => .int k n :: ivals ks ns
theorem ivsLen : ∀ {ks : List IntKind} {vs : List V} {ns : List Int}, ivs ks vs = some ns → ns.length = ks.length
 | [], [], ns, h => by simp only [ivs, Option.some.injEq] at h; subst h; rfl
 | [], _ :: _, _, h => by cases h
 | _ :: _, [], _, h => by cases h
 | k :: ks, v :: vs, ns, h => by
  simp only [ivs] at h
  split at h
  ·split at h
   ·rename_i r _ hrr
    injection h with h; subst h
    simp [ivsLen hrr]
   ·cases h
  ·cases h
theorem ivs_rel : ∀ {ks : List IntKind} {vs : List V} {ns : List Int} {us : List Value}, ivs ks vs = some ns → relVs ρ vs us → us = ivals ks ns ∧ ns.length = ks.length
 | [], [], ns, us, h, hr => by
  simp only [ivs, Option.some.injEq] at h; subst h
  exact ⟨hr, rfl⟩
 | [], _ :: _, _, _, h, _ => by cases h
 | _ :: _, [], _, _, h, _ => by cases h
 | k :: ks, v :: vs, ns, us, h, hr => by
  simp only [ivs] at h
  split at h
  ·rename_i k' n hn
   split at h
   ·rename_i r hk hrr
    injection h with h; subst h
    obtain ⟨u, s, rfl, h1, h2⟩ := hr
    obtain ⟨h3, h4⟩ := ivs_rel hrr h2
    have := of_decide_eq_true hk
    subst this
    exact ⟨by rw [ivOf_rel hn h1, h3]; rfl, by simp [h4]⟩
   ·cases h
  ·cases h
def numTab (ks : List IntKind) (g : List Int → V × List SB × List Prop) : List V → List SB → List Bool → Option CallR :=
 fresh fun args h => match ivs ks args with
  | some ns => some ((g ns).1, (g ns).2.1, h, (g ns).2.2)
  | none => none
theorem numTab_ok {f : FuncId} {ks : List IntKind} {g : List Int → V × List SB × List Prop}
  (hg : ∀ ns, ns.length = ks.length → (∀ p ∈ (g ns).2.2, p) → (g ns).2.1.all (fun s => s.own) = true ∧ Makes P f (ivals ks ns) (g ns).1 (g ns).2.1) : TabOk P f (numTab ks g) :=
 fresh_ok fun args h v bs h' ob hgg hob => by
  split at hgg
  ·rename_i ns hns
   injection hgg with hgg; injection hgg with e1 e2; injection e2 with e2 e3; injection e3 with e3 e4
   subst e1; subst e2; subst e3; subst e4
   refine ⟨(hg ns (ivsLen hns) hob).1, fun ρ us hu => ?_⟩
   ·obtain ⟨rfl, hl⟩ := ivs_rel hns hu
    exact (hg ns hl hob).2
  ·cases hgg
end
end Go.Sx
