/- The symbolic evaluator: a state that says less; loops. -/
import Derived.Test.YtbamfolinbehiaaSxR
namespace Go.Sx
open Go Go.RowKit
def leC (sel : List Nat) : C → C → Prop
 | .raw v, .raw v' => v = v'
 | .int k n, .int k' n' => k = k' ∧ n = n'
 | .int k n, .sint k' n' => k = k' ∧ n = n'
 | .sint k n, .sint k' n' => k = k' ∧ n = n'
 | .sint k n, .int k' n' => k = k' ∧ n = n'
 | .bool b, .bool b' => b = b'
 | .bool b, .sbool b' => b = b'
 | .sbool b, .sbool b' => b = b'
 | .sbool b, .bool b' => b = b'
 | .str l, .str l' => l = l'
 | .str l, .sstr l' => l = l'
 | .sstr l, .sstr l' => l = l'
 | .nilp, .nilp => True
 | .nils, .nils => True
 | .ptr b i st sub, .ptr b' i' st' sub' => sel[b']? = some b ∧ i.v = i'.v ∧ st = st' ∧ sub = sub'
 | .slice b i st len cl, .slice b' i' st' len' cl' => sel[b']? = some b ∧ i.v = i'.v ∧ st = st' ∧ len.v = len'.v ∧ cl'.v ≤ cl.v ∧ len.v ≤ cl'.v
 | .nils, .slice b' _ _ len' cl' => b' < sel.length ∧ len'.v = 0 ∧ cl'.v = 0
 | .clos f caps, .clos f' caps' => f = f' ∧ caps'.map (fun b => sel[b]?) = caps.map some
 | .mapr b, .mapr b' => sel[b']? = some b
 | _, _ => False
def leL (sel : List Nat) : List C → List C → Prop
 | [], [] => True
 | c :: r, c' :: r' => leC sel c c' ∧ leL sel r r'
 | _, _ => False
def leV1 (sel : List Nat) : V1 → V1 → Prop
 | .one c, .one c' => leC sel c c'
 | .agg l, .agg l' => leL sel l l'
 | .aggi k l, .aggi k' l' => k = k' ∧ l = l'
 | .agg l, .aggi k l' => leL sel l (l'.map (C.sint k))
 | _, _ => False
def leL1 (sel : List Nat) : List V1 → List V1 → Prop
 | [], [] => True
 | c :: r, c' :: r' => leV1 sel c c' ∧ leL1 sel r r'
 | _, _ => False
def leV (sel : List Nat) : V → V → Prop
 | .v x, .v y => leV1 sel x y
 | .tup l, .tup l' => leL1 sel l l'
 | _, _ => False
def leMp (sel : List Nat) : List (Int × V1) → List (Int × V1) → Prop
 | [], [] => True
 | (n, v) :: r, (n', v') :: r' => (n = n' ∧ leV1 sel v v') ∧ leMp sel r r'
 | _, _ => False
def rowC (ks : List IntKind) (r : List Int) : List C := (List.zip ks r).map fun p => C.sint p.1 p.2
def flatC (ks : List IntKind) : List (List Int) → List C
 | [] => []
 | r :: t => rowC ks r ++ flatC ks t
def leCells (sel : List Nat) : Cells → Cells → Prop
 | _, .dead => True
 | .exp l, .exp l' => leL sel l l'
 | .exp l, .ints k l' => leL sel l (l'.map (C.sint k))
 | .ints k l, .ints k' l' => k = k' ∧ l = l'
 | .recs ks l, .recs ks' l' => ks = ks' ∧ l = l'
 | .exp l, .recs ks l' => l' = [] ∨ (leL sel l (flatC ks l') ∧ ∀ r ∈ l', r.length = ks.length)
 | .imap k l, .imap k' l' => k = k' ∧ leMp sel l l'
 | _, _ => False
def leB (sel : List Nat) (s s' : SB) : Prop := (s'.own = true → s.own = true) ∧ leCells sel s.c s'.c
def leSl (sel : List Nat) (sl : Slots) : Slots → Prop
 | [] => True
 | (t, v) :: r => (∃ v', look sl t = some v' ∧ leV sel v' v) ∧ leSl sel sl r
def leM (sel : List Nat) (m : List SB) : List Nat → List SB → Prop
 | [], [] => True
 | b :: bs, s :: r => (∃ s', m[b]? = some s' ∧ leB sel s' s) ∧ leM sel m bs r
 | _, _ => False
def leSt (sel : List Nat) (S T : St) : Prop := sel.Nodup ∧ leSl sel S.sl T.sl ∧ leM sel S.m sel T.m
section
variable {ds : List Deferred}
variable {P : Program}
structure Sel (sel : List Nat) (ρ ρ' : Env) : Prop where
 len : ρ'.length = sel.length
 get : ∀ (p b : Nat), sel[p]? = some b → ρ'[p]? = ρ[b]?
variable {sel : List Nat} {ρ ρ' : Env}
theorem leC_rel (hs : Sel sel ρ ρ') {c c' : C} {u : Value} (h : leC sel c c') (hr : c.rel ρ u) : c'.rel ρ' u := by
 unfold leC at h
 split at h
 ·subst h; exact hr
 ·obtain ⟨rfl, rfl⟩ := h; exact hr
 ·obtain ⟨rfl, rfl⟩ := h; exact hr
 ·obtain ⟨rfl, rfl⟩ := h; exact hr
 ·obtain ⟨rfl, rfl⟩ := h; exact hr
 ·subst h; exact hr
 ·subst h; exact hr
 ·subst h; exact hr
 ·subst h; exact hr
 ·subst h; exact hr
 ·subst h; exact hr
 ·subst h; exact hr
 ·exact hr
 ·exact hr
 ·obtain ⟨h1, h2, rfl, rfl⟩ := h
  obtain ⟨e, he, hu⟩ := hr
  exact ⟨e, by rw [hs.get _ _ h1]; exact he, by rw [← h2]; exact hu⟩
 ·obtain ⟨h1, h2, rfl, h4, h5, h6⟩ := h
  obtain ⟨e, he, hu⟩ := hr
  refine ⟨e, by rw [hs.get _ _ h1]; exact he, ?_⟩
  rcases hu with ⟨k1, k2, k3⟩ | ⟨o, cap, k1, k2, k3, k4, k5⟩
  ·exact .inl ⟨by omega, by omega, k3⟩
  ·exact .inr ⟨o, cap, by rw [← h4]; exact k1, by omega, by omega, k4, by rw [← h2]; exact k5⟩
 ·obtain ⟨h1, h2, h3⟩ := h
  simp only [C.rel] at hr
  exact ⟨_, List.getElem?_eq_getElem (by rw [hs.len]; exact h1), .inl ⟨h2, h3, hr⟩⟩
 ·rename_i f caps f' caps'
  obtain ⟨rfl, h2⟩ := h
  obtain ⟨es, k1, k2⟩ := hr
  refine ⟨es, ?_, k2⟩
  rw [← k1]
  clear k1 k2
  induction caps' generalizing caps with
  | nil => cases caps <;> simp_all
  | cons b r ih =>
   cases caps with
   | nil => simp at h2
   | cons b0 r0 =>
    simp only [List.map_cons, List.cons.injEq] at h2 ⊢
    exact ⟨hs.get _ _ h2.1, ih r0 h2.2⟩
 ·obtain ⟨e, he, hu⟩ := hr
  exact ⟨e, by rw [hs.get _ _ h]; exact he, hu⟩
 ·exact h.elim
theorem leL_rel (hs : Sel sel ρ ρ') : ∀ {l l' : List C} {us : List Value}, leL sel l l' → relL ρ l us → relL ρ' l' us
 | [], [], _, _, h => h
 | [], _ :: _, _, h, _ => h.elim
 | _ :: _, [], _, h, _ => h.elim
 | c :: r, c' :: r', us, h, hr => by
  obtain ⟨u, s, rfl, h1, h2⟩ := hr
  exact ⟨u, s, rfl, leC_rel hs h.1 h1, leL_rel hs h.2 h2⟩
theorem relL_sints {k : IntKind} : ∀ {l : List Int} {us : List Value}, relL ρ (l.map (C.sint k)) us → us = l.map (Value.int k)
 | [], _, h => h
 | n :: r, us, h => by
  obtain ⟨u, s, rfl, h1, h2⟩ := h
  simp only [C.rel] at h1
  rw [List.map_cons, h1, relL_sints h2]
theorem leV1_rel (hs : Sel sel ρ ρ') {x y : V1} {u : Value} (h : leV1 sel x y) (hr : x.rel ρ u) : y.rel ρ' u := by
 unfold leV1 at h
 split at h
 ·exact ⟨leC_rel hs h hr.1, hr.2⟩
 ·obtain ⟨us, k1, k2, k3⟩ := hr
  exact ⟨us, k1, leL_rel hs h k2, k3⟩
 ·obtain ⟨rfl, rfl⟩ := h; exact hr
 ·obtain ⟨us, k1, k2, k3⟩ := hr
  have := relL_sints (leL_rel hs h k2)
  subst this
  exact k1
 ·exact h.elim
theorem leL1_rel (hs : Sel sel ρ ρ') : ∀ {l l' : List V1} {us : List Value}, leL1 sel l l' → relL1 ρ l us → relL1 ρ' l' us
 | [], [], _, _, h => h
 | [], _ :: _, _, h, _ => h.elim
 | _ :: _, [], _, h, _ => h.elim
 | c :: r, c' :: r', us, h, hr => by
  obtain ⟨u, s, rfl, h1, h2⟩ := hr
  exact ⟨u, s, rfl, leV1_rel hs h.1 h1, leL1_rel hs h.2 h2⟩
theorem leV_rel (hs : Sel sel ρ ρ') {x y : V} {u : Value} (h : leV sel x y) (hr : x.rel ρ u) : y.rel ρ' u := by
 unfold leV at h
 split at h
 ·exact leV1_rel hs h hr
 ·obtain ⟨us, k1, k2⟩ := hr
  exact ⟨us, k1, leL1_rel hs h k2⟩
 ·exact h.elim
theorem leL_get : ∀ {l l' : List C} {j : Nat} {c' : C}, leL sel l l' → l'[j]? = some c' → ∃ c, l[j]? = some c ∧ leC sel c c'
 | [], [], _, _, _, h => by simp at h
 | [], _ :: _, _, _, h, _ => h.elim
 | _ :: _, [], _, _, h, _ => h.elim
 | c :: r, d :: r', 0, c', h, hj => by
  simp only [List.getElem?_cons_zero, Option.some.injEq] at hj
  subst hj
  exact ⟨c, rfl, h.1⟩
 | c :: r, d :: r', j + 1, c', h, hj => by
  simp only [List.getElem?_cons_succ] at hj ⊢
  exact leL_get h.2 hj
theorem flatC_get {ks : List IntKind} : ∀ {l' : List (List Int)} {i : Nat} {r : List Int}, l'[i]? = some r → (∀ r ∈ l', r.length = ks.length) → ∀ {j : Nat} {n : Int} {k : IntKind}, r[j]? = some n → ks[j]? = some k → (flatC ks l')[i * ks.length + j]? = some (.sint k n)
 | [], i, r, h, _, _, _, _, _, _ => by simp at h
 | r0 :: t, 0, r, h, hl, j, n, k, hn, hk => by
  simp only [List.getElem?_cons_zero, Option.some.injEq] at h; subst h
  have hj : j < ks.length := (List.getElem?_eq_some_iff.1 hk).1
  have h0 := hl r0 (by simp)
  rw [Nat.zero_mul, Nat.zero_add]
  show (rowC ks r0 ++ flatC ks t)[j]? = _
  rw [List.getElem?_append_left (by simp [rowC, h0]; exact hj)]
  simp [rowC, List.getElem?_map, List.getElem?_zip_eq_some, hn, hk]
 | r0 :: t, i + 1, r, h, hl, j, n, k, hn, hk => by
  simp only [List.getElem?_cons_succ] at h
  have h0 := hl r0 (by simp)
  have hlen : (rowC ks r0).length = ks.length := by simp [rowC, h0]
  show (rowC ks r0 ++ flatC ks t)[(i + 1) * ks.length + j]? = _
  rw [List.getElem?_append_right (by rw [hlen, Nat.succ_mul]; omega), hlen, show (i + 1) * ks.length + j - ks.length = i * ks.length + j by rw [Nat.succ_mul]; omega]
  exact flatC_get h (fun x hx => hl x (by simp [hx])) hn hk
theorem leCells_rel (hs : Sel sel ρ ρ') {x y : Cells} {g : Nat → Option Value} (h : leCells sel x y) (hr : x.rel ρ g) : y.rel ρ' g := by
 unfold leCells at h
 split at h
 ·trivial
 ·intro j c hj
  obtain ⟨c0, k1, k2⟩ := leL_get h hj
  obtain ⟨u, k3, k4, k5⟩ := hr j c0 k1
  exact ⟨u, k3, leC_rel hs k2 k4, k5⟩
 ·intro j n hj
  rename_i k l'
  obtain ⟨c0, k1, k2⟩ := leL_get (j := j) (c' := .sint k n) h (by simp [hj])
  obtain ⟨u, k3, k4, k5⟩ := hr j c0 k1
  have := leC_rel hs k2 k4
  simp only [C.rel] at this
  rw [k3, this]
 ·obtain ⟨rfl, rfl⟩ := h; exact hr
 ·obtain ⟨rfl, rfl⟩ := h; exact hr
 ·rcases h with h | ⟨h, hl⟩
  ·subst h; exact fun i r h => by simp at h
  ·intro i r hi
   refine ⟨hl r (List.mem_of_getElem? hi), fun j n k hn hk => ?_⟩
   obtain ⟨c0, k1, k2⟩ := leL_get h (flatC_get hi hl hn hk)
   obtain ⟨u, k3, k4, k5⟩ := hr _ c0 k1
   have := leC_rel hs k2 k4
   simp only [C.rel] at this
   rw [k3, this]
 ·trivial
 ·exact h.elim
theorem leMp_rel (hs : Sel sel ρ ρ') {k : IntKind} : ∀ {l l' : List (Int × V1)} {es : List MapEntry}, leMp sel l l' → entRel ρ k l es → entRel ρ' k l' es
 | [], [], _, _, h => h
 | [], _ :: _, _, h, _ => h.elim
 | _ :: _, [], _, h, _ => h.elim
 | (n, v) :: r, (n', v') :: r', es, ⟨⟨h1, h2⟩, h3⟩, ⟨e, r0, k1, k2, k3, k4⟩ => ⟨e, r0, k1, by rw [← h1]; exact k2, leV1_rel hs h2 k3, leMp_rel hs h3 k4⟩
theorem leCells_map {x y : Cells} {k : IntKind} {l : List (Int × V1)} (h : leCells sel x y) (hy : y = .imap k l) : ∃ l0, x = .imap k l0 ∧ leMp sel l0 l := by
 subst hy
 unfold leCells at h
 split at h <;> rename_i hh <;> first | cases hh | skip
 ·obtain ⟨rfl, h2⟩ := h; exact ⟨_, rfl, h2⟩
 ·exact h.elim
theorem leCells_live {x y : Cells} (h : leCells sel x y) (hl : y.live = true) : x.live = true := by
 unfold leCells at h
 split at h
 ·cases hl
 ·rfl
 ·rfl
 ·rfl
 ·rfl
 ·rfl
 ·cases hl
 ·exact h.elim
theorem leSl_look {sl : Slots} : ∀ {T : Slots} {t : Nat} {v : V}, leSl sel sl T → look T t = some v → ∃ v', look sl t = some v' ∧ leV sel v' v
 | [], _, _, _, h => by cases h
 | (t0, v0) :: r, t, v, hl, h => by
  rw [look_cons] at h
  split at h
  ·rename_i he; subst he
   injection h with h; subst h
   exact hl.1
  ·exact leSl_look hl.2 h
theorem leM_get {m : List SB} : ∀ {bs : List Nat} {r : List SB} {i : Nat} {s : SB}, leM sel m bs r → r[i]? = some s → ∃ b s', bs[i]? = some b ∧ m[b]? = some s' ∧ leB sel s' s
 | [], [], _, _, _, h => by simp at h
 | [], _ :: _, _, _, h, _ => h.elim
 | _ :: _, [], _, _, h, _ => h.elim
 | b :: bs, s0 :: r, 0, s, h, hi => by
  simp only [List.getElem?_cons_zero, Option.some.injEq] at hi
  subst hi
  obtain ⟨s', h1, h2⟩ := h.1
  exact ⟨b, s', rfl, h1, h2⟩
 | b :: bs, s0 :: r, i + 1, s, h, hi => by
  simp only [List.getElem?_cons_succ] at hi ⊢
  exact leM_get h.2 hi
theorem leM_len {m : List SB} : ∀ {bs : List Nat} {r : List SB}, leM sel m bs r → r.length = bs.length ∧ ∀ b ∈ bs, b < m.length
 | [], [], _ => ⟨rfl, fun b h => by cases h⟩
 | [], _ :: _, h => h.elim
 | _ :: _, [], h => h.elim
 | b :: bs, s0 :: r, h => by
  obtain ⟨s', h1, _⟩ := h.1
  obtain ⟨k1, k2⟩ := leM_len h.2
  refine ⟨by simp [k1], fun x hx => ?_⟩
  rcases List.mem_cons.1 hx with rfl | hx
  ·exact (List.getElem?_eq_some_iff.1 h1).1
  ·exact k2 x hx
theorem sel_exists (ρ : Env) : ∀ (sel : List Nat), (∀ b ∈ sel, b < ρ.length) → ∃ ρ', Sel sel ρ ρ'
 | [], _ => ⟨[], rfl, fun p b h => by simp at h⟩
 | b :: r, h => by
  obtain ⟨ρ', h1, h2⟩ := sel_exists ρ r (fun x hx => h x (by simp [hx]))
  have hb := h b (by simp)
  refine ⟨ρ[b] :: ρ', by simp [h1], fun p x hp => ?_⟩
  cases p with
  | zero => simp only [List.getElem?_cons_zero, Option.some.injEq] at hp ⊢; subst hp; exact (List.getElem?_eq_getElem hb).symm
  | succ p => simp only [List.getElem?_cons_succ] at hp ⊢; exact h2 p x hp
theorem RelD.le {B : Nat → Prop} {W w : World} {n : Nat} {S T : St} {a : Act} (hr : RelD ds ρ B W n S a w) (h : leSt sel S T) : ∃ ρ', Sel sel ρ ρ' ∧ RelD ds ρ' B W n T a w := by
 obtain ⟨hnd, hsl, hm⟩ := h
 obtain ⟨hlen, hlt⟩ := leM_len hm
 obtain ⟨ρ', hs⟩ := sel_exists ρ sel (fun b hb => by rw [hr.m.len]; exact hlt b hb)
 have inj : ∀ {i j b : Nat}, sel[i]? = some b → sel[j]? = some b → i = j := by
  intro i j b k1 k1'
  obtain ⟨hi, hi'⟩ := List.getElem?_eq_some_iff.1 k1
  obtain ⟨hj, hj'⟩ := List.getElem?_eq_some_iff.1 k1'
  have hp := List.pairwise_iff_getElem.1 hnd
  rcases Nat.lt_trichotomy i j with hlt | heq | hlt
  ·exact absurd (hi'.trans hj'.symm) (hp i j hi hj hlt)
  ·exact heq
  ·exact absurd (hj'.trans hi'.symm) (hp j i hj hi hlt)
 have back : ∀ (i : Nat) (e : E) (s : SB), ρ'[i]? = some e → T.m[i]? = some s → ∃ (b : Nat) (s' : SB), sel[i]? = some b ∧ ρ[b]? = some e ∧ S.m[b]? = some s' ∧ leB sel s' s := by
  intro i e s he hs'
  obtain ⟨b, s', k1, k2, k3⟩ := leM_get hm hs'
  exact ⟨b, s', k1, by rw [← hs.get _ _ k1]; exact he, k2, k3⟩
 refine ⟨ρ', hs, ⟨hr.sl.size, hr.sl.defers, fun t v hv => ?_⟩, hr.m.below, hr.m.base, by rw [hs.len, hlen], ?_, ?_, ?_, ?_, ?_⟩
 ·obtain ⟨v', k1, k2⟩ := leSl_look hsl hv
  exact leV_rel hs k2 (hr.sl.slot t v' k1)
 ·intro i e s he hs' hl
  obtain ⟨b, s', k1, k2, k3, k4⟩ := back i e s he hs'
  obtain ⟨cur, ty, fz, j1, j2, j3, j4⟩ := hr.m.blk b e s' k2 k3 (leCells_live k4.2 hl)
  exact ⟨cur, ty, fz, j1, j2, fun ho => j3 (k4.1 ho), leCells_rel hs k4.2 j4⟩
 ·intro i e s he hs' ho hsol
  obtain ⟨b, s', k1, k2, k3, k4⟩ := back i e s he hs'
  refine hr.m.own b e s' k2 k3 (k4.1 ho) ?_
  rcases hsol with ⟨h, h0⟩ | ⟨k, l, h⟩
  ·exact .inl ⟨leCells_live k4.2 h, h0⟩
  ·obtain ⟨l0, h1, _⟩ := leCells_map k4.2 h
   exact .inr ⟨k, l0, h1⟩
 ·intro i j e e' s s' hne he he' hs1 hs2 ho hl hl' h0 h0'
  obtain ⟨b, s0, k1, k2, k3, k4⟩ := back i e s he hs1
  obtain ⟨b', s0', k1', k2', k3', k4'⟩ := back j e' s' he' hs2
  refine hr.m.sep b b' e e' s0 s0' (fun hbb => hne ?_) k2 k2' k3 k3' (k4.1 ho) (leCells_live k4.2 hl) (leCells_live k4'.2 hl') h0 h0'
  subst hbb
  exact inj k1 k1'
 ·intro i e s kk l he hs' hc
  obtain ⟨b, s0, k1, k2, k3, k4⟩ := back i e s he hs'
  obtain ⟨l0, h1, h2⟩ := leCells_map k4.2 hc
  obtain ⟨es, cl, h3, h4⟩ := hr.m.maps b e s0 kk l0 k2 k3 h1
  exact ⟨es, cl, h3, leMp_rel hs h2 h4⟩
 ·intro i j e e' s s' kk kk' l l' hne he he' hs1 hs2 hc hc'
  obtain ⟨b, s0, k1, k2, k3, k4⟩ := back i e s he hs1
  obtain ⟨b', s0', k1', k2', k3', k4'⟩ := back j e' s' he' hs2
  obtain ⟨l0, h1, _⟩ := leCells_map k4.2 hc
  obtain ⟨l0', h1', _⟩ := leCells_map k4'.2 hc'
  refine hr.m.msep b b' e e' s0 s0' kk kk' l0 l0' (fun hbb => hne ?_) k2 k2' k3 k3' h1 h1'
  subst hbb
  exact inj k1 k1'
theorem Sel.front {ρ0 ρ1 : Env} {r : List Nat} (h : Sel (List.range ρ0.length ++ r) (ρ0 ++ ρ1) ρ') : ∃ ρ2, ρ' = ρ0 ++ ρ2 := by
 refine ⟨ρ'.drop ρ0.length, ?_⟩
 have hl : ρ0.length ≤ ρ'.length := by rw [h.len]; simp
 have : ρ'.take ρ0.length = ρ0 := by
  apply List.ext_getElem?
  intro i
  rw [List.getElem?_take]
  split
  ·rename_i hi
   rw [h.get i i (by rw [List.getElem?_append_left (by simpa using hi)]; simp [hi]), List.getElem?_append_left hi]
  ·rename_i hi
   rw [List.getElem?_eq_none (by omega)]
 exact (List.take_append_drop ρ0.length ρ').symm.trans (by rw [this])
end
end Go.Sx
