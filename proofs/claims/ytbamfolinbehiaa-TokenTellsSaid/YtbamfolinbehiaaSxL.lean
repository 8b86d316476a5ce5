/- The symbolic evaluator: append, copy, strings and bytes. -/
import Derived.Test.YtbamfolinbehiaaSxK
namespace Go.Sx
open Go Go.RowKit
section
variable {P : Program} {ρ : Env}
def Cells.vals (ρ : Env) : Cells → List Value → Prop
 | .exp l, us => relL ρ l us ∧ ∀ x ∈ us, x.oneCell' = true
 | .ints k l, us => us = l.map (Value.int k)
 | .recs ks l, us => us.length = l.length * ks.length ∧ ∀ i r, l[i]? = some r → r.length = ks.length ∧ ∀ j n k, r[j]? = some n → ks[j]? = some k → us[i * ks.length + j]? = some (.int k n)
 | .imap _ _, _ => False
 | .dead, _ => False
theorem vals_nm {c : Cells} {us : List Value} (h : c.vals ρ us) : ∀ kk l, c ≠ .imap kk l := by
 intro kk l hc
 subst hc
 exact h.elim
theorem vals_rel {c : Cells} {us : List Value} (h : c.vals ρ us) (rest : List Value) : c.rel ρ (fun j => (us ++ rest)[j]?) := by
 cases c with
 | exp l => exact relL_rel h.1 h.2 rest
 | ints k l =>
  simp only [Cells.vals] at h; subst h
  intro j n hj
  show (l.map (Value.int k) ++ rest)[j]? = _
  have := (List.getElem?_eq_some_iff.1 hj).1
  rw [List.getElem?_append_left (by simpa using this)]
  simp [hj]
 | recs ks l =>
  intro i r hi
  obtain ⟨h1, h2⟩ := h.2 i r hi
  refine ⟨h1, fun j n k hj hk => ?_⟩
  have := h2 j n k hj hk
  show (us ++ rest)[_]? = _
  rw [List.getElem?_append_left (List.getElem?_eq_some_iff.1 this).1]
  exact this
 | dead => exact h.elim
 | imap _ _ => exact h.elim
theorem vals_one {c : Cells} {us : List Value} (h : c.vals ρ us) : ∀ x ∈ us, x.oneCell' = true := by
 cases c with
 | exp l => exact h.2
 | ints k l =>
  simp only [Cells.vals] at h; subst h
  intro x hx
  obtain ⟨n, _, rfl⟩ := List.mem_map.1 hx
  rfl
 | recs ks l =>
  intro x hx
  obtain ⟨q, hq, rfl⟩ := List.getElem_of_mem hx
  obtain ⟨hl, hr⟩ := h
  have hpos : 0 < ks.length := by
   rcases Nat.eq_zero_or_pos ks.length with h0 | h0
   ·rw [h0] at hl; omega
   ·exact h0
  have hi : q / ks.length < l.length := Nat.div_lt_of_lt_mul (by rw [Nat.mul_comm]; omega)
  obtain ⟨h1, h2⟩ := hr _ _ (List.getElem?_eq_getElem hi)
  have hj : q % ks.length < ks.length := Nat.mod_lt _ hpos
  have := h2 (q % ks.length) _ _ (List.getElem?_eq_getElem (by omega)) (List.getElem?_eq_getElem hj)
  rw [Nat.mul_comm, Nat.div_add_mod, List.getElem?_eq_getElem hq] at this
  injection this with this
  rw [this]; rfl
 | dead => exact h.elim
 | imap _ _ => exact h.elim
theorem rowsOf_vals {ks : List IntKind} : ∀ {n : Nat} {cs : List C} {rs : List (List Int)} {us : List Value}, rowsOf ks n cs = some rs → relL ρ cs us → (Cells.recs ks rs).vals ρ us
 | 0, [], rs, us, h, hr => by
  simp only [rowsOf, Option.some.injEq] at h; subst h
  simp only [relL] at hr; subst hr
  exact ⟨by simp, fun i r hi => by simp at hi⟩
 | 0, _ :: _, rs, us, h, hr => by simp [rowsOf] at h
 | n + 1, cs, rs, us, h, hr => by
  simp only [rowsOf] at h
  split at h
  ·rename_i r hrow
   split at h
   ·rename_i rs' hrs
    injection h with h; subst h
    obtain ⟨a1, a2, a3⟩ := rowOf_sound hrow (hr.take ks.length)
    obtain ⟨b1, b2⟩ := rowsOf_vals hrs (hr.drop ks.length)
    simp only [List.length_take, List.length_drop] at a2 b1
    refine ⟨?_, fun i r' hi => ?_⟩
    ·simp only [List.length_cons, Nat.succ_mul]; omega
    ·cases i with
     | zero =>
      simp at hi; subst hi
      refine ⟨a1, fun j x k hj hk => ?_⟩
      have := a3 j x k hj hk
      rw [List.getElem?_take] at this
      split at this
      ·simpa using this
      ·cases this
     | succ i =>
      simp at hi
      obtain ⟨c1, c2⟩ := b2 i r' hi
      refine ⟨c1, fun j x k hj hk => ?_⟩
      have := c2 j x k hj hk
      rw [List.getElem?_drop] at this
      rw [Nat.succ_mul, show i * ks.length + ks.length + j = ks.length + (i * ks.length + j) by omega]
      exact this
   ·cases h
  ·cases h
theorem catC_vals {c c' d : Cells} {us vs : List Value} (h : catC c c' = some d) (h1 : c.vals ρ us) (h2 : c'.vals ρ vs) : d.vals ρ (us ++ vs) := by
 have recs : ∀ (ks : List IntKind) (a b : List (List Int)), (Cells.recs ks a).vals ρ us → (Cells.recs ks b).vals ρ vs → (Cells.recs ks (a ++ b)).vals ρ (us ++ vs) := by
  intro ks a b ha hb
  obtain ⟨a1, a2⟩ := ha
  obtain ⟨b1, b2⟩ := hb
  refine ⟨by simp [a1, b1, Nat.add_mul], fun i r hi => ?_⟩
  by_cases hlt : i < a.length
  ·rw [List.getElem?_append_left hlt] at hi
   obtain ⟨q1, q2⟩ := a2 i r hi
   refine ⟨q1, fun j n k hj hk => ?_⟩
   have := q2 j n k hj hk
   rw [List.getElem?_append_left (List.getElem?_eq_some_iff.1 this).1]
   exact this
  ·rw [List.getElem?_append_right (by omega)] at hi
   obtain ⟨q1, q2⟩ := b2 _ r hi
   refine ⟨q1, fun j n k hj hk => ?_⟩
   have := q2 j n k hj hk
   have hle : a.length * ks.length ≤ i * ks.length := Nat.mul_le_mul_right _ (by omega)
   rw [List.getElem?_append_right (by omega), a1]
   rw [show i * ks.length + j - a.length * ks.length = (i - a.length) * ks.length + j by rw [Nat.sub_mul]; omega]
   exact this
 unfold catC at h
 split at h
 ·injection h with h; subst h
  exact ⟨h1.1.append h2.1, fun x hx => (List.mem_append.1 hx).elim (h1.2 x) (h2.2 x)⟩
 ·split at h
  ·rename_i hk
   have hk := of_decide_eq_true hk; subst hk
   injection h with h; subst h
   simp only [Cells.vals] at h1 h2 ⊢
   rw [h1, h2, List.map_append]
  ·cases h
 ·split at h
  ·rename_i b' hb
   injection h with h; subst h
   simp only [Cells.vals] at h1 h2 ⊢
   rw [h1, intsOf_sound hb h2.1, List.map_append]
  ·cases h
 ·split at h
  ·rename_i b' hb
   injection h with h; subst h
   simp only [Cells.vals] at h1 h2 ⊢
   rw [h2, intsOf_sound hb h1.1, List.map_append]
  ·cases h
 ·split at h
  ·rename_i hk
   have hk := of_decide_eq_true hk; subst hk
   injection h with h; subst h
   exact recs _ _ _ h1 h2
  ·cases h
 ·split at h
  ·rename_i b' hb
   injection h with h; subst h
   exact recs _ _ _ h1 (rowsOf_vals hb h2.1)
  ·cases h
 ·split at h
  ·rename_i b' hb
   injection h with h; subst h
   exact recs _ _ _ (rowsOf_vals hb h1.1) h2
  ·cases h
 ·cases h
theorem seg_sound {B : Nat → Prop} {W w : World} {m : List SB} (hm : MemRel ρ B W w m) {b : Nat} {e : E} (he : ρ[b]? = some e) {i len : N} {st : Nat} {h h' : List Bool} {c : Cells} {ps : List Prop}
  (hs : seg m b i st len h = some (c, h', ps)) (hp : ∀ p ∈ ps, p) :
  ∃ us, c.vals ρ us ∧ us.length = len.v * st ∧ ∀ (j : Nat) (u : Value), us[j]? = some u → w.cell? ⟨e.blk, e.off + i.v * st + j, none⟩ = some u ∧ e.off + i.v * st + j < e.sz := by
 unfold seg at hs
 split at hs
 ·rename_i l a n hc
  split at hs
  ·rename_i hle
   have hle := Nat.le_of_ble_eq_true hle
   injection hs with hs; injection hs with hs _; subst hs
   have hld : ldA (blkC m b) (.c a) st 0 (n * st) = some (.v (.agg ((l.drop (a * st)).take (n * st))), []) := by
    rw [hc]
    have : Nat.ble (a * st + 0 + n * st) l.length = true := Nat.ble_eq_true_of_le (by rw [Nat.add_zero, ← Nat.add_mul]; exact hle)
    show (match Nat.ble (a * st + 0 + n * st) l.length with | true => _ | false => _) = _
    rw [this]
    rfl
   obtain ⟨us, h1, ⟨us', h2, h3, h4⟩, h5⟩ := ldA_sound hm he hld (by simp)
   have huu : us = us' := by
    injection h2 with h2
    have := congrArg Array.toList h2
    simpa using this
   subst huu
   refine ⟨us, ⟨h3, h4⟩, h1, fun j u hj => ?_⟩
   have := h5 j u hj
   have hjl := (List.getElem?_eq_some_iff.1 hj).1
   rw [Nat.add_zero] at this
   refine ⟨this, ?_⟩
   have hlt : a * st + j < l.length := by rw [Nat.add_mul] at hle; omega
   obtain ⟨g, hr, hg⟩ := hm.cells he hc rfl
   obtain ⟨x, hx, _⟩ := hr (a * st + j) _ (List.getElem?_eq_getElem hlt)
   have := (hg _ _ hx).2
   simp only [N.v]
   omega
  ·cases hs
 ·rename_i i len _ _ _ k l hc
  have get : ∀ (j n : Nat), i.v + j < l.length → st = 1 → ∀ x, l[i.v + j]? = some x → w.cell? ⟨e.blk, e.off + i.v * st + j, none⟩ = some (.int k x) ∧ e.off + i.v * st + j < e.sz := by
   intro j n _ hst x hx
   obtain ⟨g, hr, hg⟩ := hm.cells he hc rfl
   have := hg _ _ (hr _ _ hx)
   rw [hst, Nat.mul_one, Nat.add_assoc]
   exact this
  split at hs
  ·rename_i h1 hst
   have hst := Nat.eq_of_beq_eq_true hst
   injection hs with hs; injection hs with hs hs2; injection hs2 with _ hs2; subst hs; subst hs2
   have e1 : i.v = 0 := hp _ (List.Mem.head _)
   have e2 : len.v = l.length := hp _ (List.Mem.tail _ (List.Mem.head _))
   refine ⟨_, rfl, by simp [e2, hst], fun j u hj => ?_⟩
   rw [List.getElem?_map] at hj
   cases hlj : l[j]? with
   | none => simp [hlj] at hj
   | some n =>
    simp [hlj] at hj; subst hj
    have hjl := (List.getElem?_eq_some_iff.1 hlj).1
    exact get j 0 (by omega) hst n (by rw [e1, Nat.zero_add]; exact hlj)
  ·rename_i h1 hst
   have hst := Nat.eq_of_beq_eq_true hst
   injection hs with hs; injection hs with hs hs2; injection hs2 with _ hs2; subst hs; subst hs2
   have e1 : i.v + len.v ≤ l.length := hp _ (List.Mem.head _)
   refine ⟨_, rfl, by simp [hst]; omega, fun j u hj => ?_⟩
   rw [List.getElem?_map, List.getElem?_take] at hj
   split at hj
   ·rw [List.getElem?_drop] at hj
    cases hlj : l[i.v + j]? with
    | none => simp [hlj] at hj
    | some n =>
     simp [hlj] at hj; subst hj
     exact get j 0 (by omega) hst n hlj
   ·simp at hj
  ·cases hs
 ·rename_i i len _ _ _ ks l hc
  have get : st = ks.length → ∀ q r, l[q]? = some r → r.length = ks.length ∧ ∀ j n k, r[j]? = some n → ks[j]? = some k → w.cell? ⟨e.blk, e.off + (q * st + j), none⟩ = some (.int k n) ∧ e.off + (q * st + j) < e.sz := by
   intro hst q r hq
   obtain ⟨g, hr, hg⟩ := hm.cells he hc rfl
   obtain ⟨a, b'⟩ := hr q r hq
   refine ⟨a, fun j n k hj hk => ?_⟩
   rw [hst]
   exact hg _ _ (b' j n k hj hk)
  have fin : ∀ (l' : List (List Int)), st = ks.length → l'.length = len.v → (∀ q r, l'[q]? = some r → l[i.v + q]? = some r) →
    ∃ us, (Cells.recs ks l').vals ρ us ∧ us.length = len.v * st ∧ ∀ (j : Nat) (u : Value), us[j]? = some u → w.cell? ⟨e.blk, e.off + i.v * st + j, none⟩ = some u ∧ e.off + i.v * st + j < e.sz := by
   intro l' hst hl' hq
   rcases Nat.eq_zero_or_pos ks.length with h0 | h0
   ·exact ⟨[], ⟨by simp [h0], fun q r h => by
     obtain ⟨a, b'⟩ := get hst _ r (hq q r h)
     refine ⟨a, fun j n k hj hk => ?_⟩
     have := (List.getElem?_eq_some_iff.1 hk).1
     omega⟩, by rw [hst, h0]; simp, fun j u hj => by simp at hj⟩
   ·refine ⟨(List.range (l'.length * ks.length)).map fun x => Value.int (ks.getD (x % ks.length) .i64) ((l'.getD (x / ks.length) []).getD (x % ks.length) 0), ⟨by simp, fun q r h => ?_⟩, by simp [hl', hst], fun j u hj => ?_⟩
    ·obtain ⟨a, b'⟩ := get hst _ r (hq q r h)
     refine ⟨a, fun j n k hj hk => ?_⟩
     have hjl := (List.getElem?_eq_some_iff.1 hk).1
     have hql := (List.getElem?_eq_some_iff.1 h).1
     have hlt : q * ks.length + j < l'.length * ks.length := by
      have : (q + 1) * ks.length ≤ l'.length * ks.length := Nat.mul_le_mul_right _ hql
      rw [Nat.succ_mul] at this; omega
     have e1 : (q * ks.length + j) / ks.length = q := by rw [Nat.mul_comm, Nat.mul_add_div h0, Nat.div_eq_of_lt hjl]; omega
     have e2 : (q * ks.length + j) % ks.length = j := by rw [Nat.mul_comm, Nat.mul_add_mod, Nat.mod_eq_of_lt hjl]
     simp [hlt, e1, e2, List.getD, h, hj, hk]
    ·rw [List.getElem?_map] at hj
     have hjl : j < l'.length * ks.length := by
      rcases Nat.lt_or_ge j (l'.length * ks.length) with h | h
      ·exact h
      ·rw [List.getElem?_eq_none (by simpa using h)] at hj; simp at hj
     rw [List.getElem?_range hjl] at hj
     simp only [Option.map_some, Option.some.injEq] at hj
     have hd : j / ks.length < l'.length := Nat.div_lt_of_lt_mul (by rw [Nat.mul_comm]; exact hjl)
     have hmod : j % ks.length < ks.length := Nat.mod_lt _ h0
     obtain ⟨a, b'⟩ := get hst _ _ (hq _ _ (List.getElem?_eq_getElem hd))
     have := b' (j % ks.length) _ _ (List.getElem?_eq_getElem (by omega)) (List.getElem?_eq_getElem hmod)
     rw [hst] at this ⊢
     rw [Nat.add_mul, Nat.add_assoc (i.v * ks.length), Nat.mul_comm (j / ks.length), Nat.div_add_mod, ← Nat.add_assoc] at this
     rw [← hj]
     have hg1 : l'.getD (j / ks.length) [] = l'[j / ks.length] := by simp [List.getD, List.getElem?_eq_getElem hd]
     have hg2 : ks.getD (j % ks.length) .i64 = ks[j % ks.length] := by simp [List.getD, List.getElem?_eq_getElem hmod]
     rw [hg1, hg2]
     rw [show (l'[j / ks.length].getD (j % ks.length) 0) = l'[j / ks.length][j % ks.length]'(by omega) by simp [List.getD, List.getElem?_eq_getElem (show j % ks.length < l'[j / ks.length].length by omega)]]
     exact this
  split at hs
  ·rename_i h1 hst
   have hst := Nat.eq_of_beq_eq_true hst
   injection hs with hs; injection hs with hs hs2; injection hs2 with _ hs2; subst hs; subst hs2
   have e1 : i.v = 0 := hp _ (List.Mem.head _)
   have e2 : len.v = l.length := hp _ (List.Mem.tail _ (List.Mem.head _))
   exact fin l hst e2.symm (fun q r h => by rw [e1, Nat.zero_add]; exact h)
  ·rename_i h1 hst
   have hst := Nat.eq_of_beq_eq_true hst
   injection hs with hs; injection hs with hs hs2; injection hs2 with _ hs2; subst hs; subst hs2
   have e1 : i.v + len.v ≤ l.length := hp _ (List.Mem.head _)
   refine fin _ hst (by simp; omega) (fun q r h => ?_)
   rw [List.getElem?_take] at h
   split at h
   ·rw [List.getElem?_drop] at h; exact h
   ·cases h
  ·cases hs
 ·cases hs
end
end Go.Sx
