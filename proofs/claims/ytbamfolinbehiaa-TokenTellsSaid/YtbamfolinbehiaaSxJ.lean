/- The symbolic evaluator: variables that are written. -/
import Derived.Test.YtbamfolinbehiaaSxI
namespace Go.Sx
open Go Go.RowKit
section
variable {P : Program} {ρ : Env}
def upd (g : Nat → Option Value) (o : Nat) (us : List Value) : Nat → Option Value := fun j => if o ≤ j ∧ j < o + us.length then us[j - o]? else g j
theorem intOfC_sound {k : IntKind} {c : C} {n : Int} {u : Value} (h : intOfC k c = some n) (hc : c.rel ρ u) : u = .int k n := by
 unfold intOfC at h
 split at h
 ·split at h
  ·rename_i hk; have hk := of_decide_eq_true hk; subst hk
   injection h with h; subst h; exact hc
  ·cases h
 ·split at h
  ·rename_i hk; have hk := of_decide_eq_true hk; subst hk
   injection h with h; subst h; exact hc
  ·cases h
 ·cases h
theorem intsOf_sound {k : IntKind} : ∀ {cs : List C} {l : List Int} {us : List Value}, intsOf k cs = some l → relL ρ cs us → us = l.map (Value.int k)
 | [], l, us, h, hr => by simp only [intsOf, Option.some.injEq] at h; subst h; exact hr
 | c :: cs, l, us, h, hr => by
  simp only [intsOf] at h
  obtain ⟨u, r, rfl, h1, h2⟩ := hr
  split at h
  ·cases h
  ·rename_i n hn
   split at h
   ·cases h
   ·rename_i l' hl
    injection h with h; subst h
    rw [intOfC_sound hn h1, intsOf_sound hl h2]
    rfl
theorem rowOf_sound : ∀ {ks : List IntKind} {cs : List C} {l : List Int} {us : List Value}, rowOf ks cs = some l → relL ρ cs us →
  l.length = ks.length ∧ us.length = ks.length ∧ ∀ (j : Nat) (n : Int) (k : IntKind), l[j]? = some n → ks[j]? = some k → us[j]? = some (.int k n)
 | [], [], l, us, h, hr => by
  simp only [rowOf, Option.some.injEq] at h; subst h
  simp only [relL] at hr; subst hr
  exact ⟨rfl, rfl, fun j n k hj => by simp at hj⟩
 | [], _ :: _, l, us, h, hr => by simp [rowOf] at h
 | _ :: _, [], l, us, h, hr => by simp [rowOf] at h
 | k :: ks, c :: cs, l, us, h, hr => by
  simp only [rowOf] at h
  obtain ⟨u, r, rfl, h1, h2⟩ := hr
  split at h
  ·cases h
  ·rename_i n hn
   split at h
   ·cases h
   ·rename_i l' hl
    injection h with h; subst h
    obtain ⟨i1, i2, i3⟩ := rowOf_sound hl h2
    refine ⟨by simp [i1], by simp [i2], fun j n' k' hj hk => ?_⟩
    cases j with
    | zero => simp at hj hk; subst hj; subst hk; simpa using intOfC_sound hn h1
    | succ j => simpa using i3 j n' k' (by simpa using hj) (by simpa using hk)
theorem cells_one {u : Value} (h : u.oneCell' = true) : u.cells = #[u] := by
 cases u <;> first | rfl | simp [Value.oneCell'] at h
theorem upd_in {g : Nat → Option Value} {o j : Nat} {us : List Value} (h : o ≤ j ∧ j < o + us.length) : upd g o us j = us[j - o]? := if_pos h
theorem upd_out {g : Nat → Option Value} {o j : Nat} {us : List Value} (h : ¬ (o ≤ j ∧ j < o + us.length)) : upd g o us j = g j := if_neg h
theorem stA_sound' {c c' : Cells} {i : N} {st sub : Nat} {y : V1} {u : Value} {ps : List Prop} {g : Nat → Option Value} (h : stA c i st sub y = some (c', ps)) (hp : ∀ p ∈ ps, p) (hg : c.rel ρ g) (hy : y.rel ρ u)
  (o : Nat) (ho0 : o = i.v * st + sub) (vs : List Value) (hvs : vs = u.cells.toList) :
  c'.live = true ∧ c'.rel ρ (upd g o vs) ∧ ∀ j, j < vs.length → ∃ x, g (o + j) = some x := by
 unfold stA at h
 split at h
 ·rename_i _ _ _ _ _ l n c
  have ho0 : o = n * st + sub := ho0
  split at h
  ·rename_i hlt
   have hlt := Nat.le_of_ble_eq_true hlt
   injection h with h; injection h with h _; subst h
   rw [cells_one hy.2] at hvs
   subst hvs
   rw [← ho0] at hlt ⊢
   refine ⟨rfl, fun j cc hj => ?_, fun j hj => ?_⟩
   ·by_cases he : j = o
    ·rw [he] at hj ⊢
     rw [List.getElem?_set_self (by omega)] at hj
     injection hj with hj; subst hj
     exact ⟨u, (upd_in ⟨Nat.le_refl _, by simp⟩).trans (by simp), hy.1, hy.2⟩
    ·rw [List.getElem?_set_ne (by omega)] at hj
     rw [upd_out (by simp; omega)]
     exact hg j cc hj
   ·simp at hj; subst hj
    obtain ⟨x, hx, _⟩ := hg o _ (List.getElem?_eq_getElem (by omega))
    exact ⟨x, hx⟩
  ·cases h
 ·rename_i _ _ _ _ _ l n cs
  have ho0 : o = n * st + sub := ho0
  split at h
  ·rename_i hle
   have hle := Nat.le_of_ble_eq_true hle
   injection h with h; injection h with h _; subst h
   obtain ⟨us, rfl, hr, ho⟩ := hy
   have hul := hr.length
   have hvs : vs = us := hvs
   subst hvs
   rw [← ho0] at hle ⊢
   refine ⟨rfl, fun j cc hj => ?_, fun j hj => ?_⟩
   ·by_cases h1 : j < o
    ·rw [upd_out (by omega)]
     rw [List.getElem?_append_left (by simp; omega), List.getElem?_take, if_pos h1] at hj
     exact hg j cc hj
    ·have htl : (l.take o).length = o := by simp; omega
     rw [List.getElem?_append_right (by omega), htl] at hj
     by_cases h2 : j < o + cs.length
     ·rw [upd_in ⟨by omega, by omega⟩]
      rw [List.getElem?_append_left (by omega)] at hj
      obtain ⟨x, hx, hxr⟩ := hr.get _ _ hj
      exact ⟨x, hx, hxr, ho x (List.mem_of_getElem? hx)⟩
     ·rw [upd_out (by omega)]
      rw [List.getElem?_append_right (by omega), List.getElem?_drop] at hj
      have : o + cs.length + (j - o - cs.length) = j := by omega
      rw [this] at hj
      exact hg j cc hj
   ·obtain ⟨x, hx, _⟩ := hg (o + j) _ (List.getElem?_eq_getElem (by omega))
    exact ⟨x, hx⟩
  ·cases h
 ·rename_i _ _ _ _ _ l k ns
  have ho0 : o = 0 := by rw [ho0]; simp [N.v]
  subst ho0
  injection h with h; injection h with h h2; subst h; subst h2
  have hl : ns.length = l.length := hp _ (List.Mem.head _)
  simp only [V1.rel] at hy
  subst hy
  have hvs : vs = ns.map (Value.int k) := hvs
  subst hvs
  refine ⟨rfl, fun j n hj => ?_, fun j hj => ?_⟩
  ·have hjl := (List.getElem?_eq_some_iff.1 hj).1
   rw [upd_in ⟨by omega, by simp; omega⟩]
   simp [hj]
  ·simp at hj
   obtain ⟨x, hx, _⟩ := hg j _ (List.getElem?_eq_getElem (show j < l.length by omega))
   exact ⟨x, by simpa using hx⟩
 ·rename_i _ _ _ _ _ k l c
  have ho0 : o = i.v := by rw [ho0]; simp
  subst ho0
  split at h
  ·rename_i n hn
   injection h with h; injection h with h h2; subst h; subst h2
   have hlt : i.v < l.length := hp _ (List.Mem.head _)
   have hu := intOfC_sound hn hy.1
   rw [cells_one hy.2] at hvs
   subst hvs
   refine ⟨rfl, fun j nn hj => ?_, fun j hj => ?_⟩
   ·by_cases he : j = i.v
    ·rw [he] at hj ⊢
     rw [List.getElem?_set_self hlt] at hj
     injection hj with hj; subst hj
     rw [upd_in ⟨Nat.le_refl _, by simp⟩]
     simp [hu]
    ·rw [upd_out (by simp; omega)]
     rw [List.getElem?_set_ne (by omega)] at hj
     exact hg j nn hj
   ·simp at hj; subst hj
    exact ⟨_, by simpa using hg i.v _ (List.getElem?_eq_getElem hlt)⟩
  ·cases h
 ·rename_i _ _ _ _ _ k l k' ns
  have ho0 : o = 0 := by rw [ho0]; simp [N.v]
  subst ho0
  split at h
  ·rename_i hk
   have hk := of_decide_eq_true hk
   subst hk
   injection h with h; injection h with h h2; subst h; subst h2
   have hl : ns.length = l.length := hp _ (List.Mem.head _)
   simp only [V1.rel] at hy
   subst hy
   have hvs : vs = ns.map (Value.int k) := hvs
   subst hvs
   refine ⟨rfl, fun j n hj => ?_, fun j hj => ?_⟩
   ·have hjl := (List.getElem?_eq_some_iff.1 hj).1
    rw [upd_in ⟨by omega, by simp; omega⟩]
    simp [hj]
   ·simp at hj
    exact ⟨_, by simpa using hg j _ (List.getElem?_eq_getElem (show j < l.length by omega))⟩
  ·cases h
 ·rename_i _ _ _ _ _ ks l c
  split at h
  ·rename_i hst
   have hst := Nat.eq_of_beq_eq_true hst
   subst hst
   split at h
   ·rename_i k hk
    split at h
    ·rename_i n hn
     injection h with h; injection h with h h2; subst h; subst h2
     have hlt : i.v < l.length := hp _ (List.Mem.head _)
     have hu := intOfC_sound hn hy.1
     have hsub : sub < ks.length := (List.getElem?_eq_some_iff.1 hk).1
     have hgd : l.getD i.v [] = l[i.v] := by simp [List.getD, List.getElem?_eq_getElem hlt]
     rw [cells_one hy.2] at hvs
     subst hvs
     obtain ⟨q1, q2⟩ := hg i.v _ (List.getElem?_eq_getElem hlt)
     refine ⟨rfl, fun j r hj => ?_, fun j hj => ?_⟩
     ·by_cases he : j = i.v
      ·rw [he] at hj ⊢
       rw [List.getElem?_set_self hlt] at hj
       injection hj with hj; subst hj
       rw [hgd]
       refine ⟨by simpa using q1, fun x n' k' hx hk' => ?_⟩
       by_cases hxs : x = sub
       ·subst hxs
        rw [upd_in ⟨by omega, by simp; omega⟩]
        rw [List.getElem?_set_self (by omega)] at hx
        injection hx with hx; subst hx
        rw [hk] at hk'; injection hk' with hk'; subst hk'
        simp [hu, ho0]
       ·rw [upd_out (by simp; omega)]
        rw [List.getElem?_set_ne (by omega)] at hx
        exact q2 x n' k' hx hk'
      ·rw [List.getElem?_set_ne (by omega)] at hj
       obtain ⟨r1, r2⟩ := hg j r hj
       refine ⟨r1, fun x n' k' hx hk' => ?_⟩
       have hx' : x < ks.length := (List.getElem?_eq_some_iff.1 hk').1
       rw [upd_out]
       ·exact r2 x n' k' hx hk'
       ·intro ⟨ha, hb⟩
        simp at hb
        rcases Nat.lt_or_ge j i.v with h | h
        ·have : (j + 1) * ks.length ≤ i.v * ks.length := Nat.mul_le_mul_right _ h
         rw [Nat.succ_mul] at this
         omega
        ·have : (i.v + 1) * ks.length ≤ j * ks.length := Nat.mul_le_mul_right _ (by omega)
         rw [Nat.succ_mul] at this
         omega
     ·simp at hj; subst hj
      exact ⟨_, by rw [ho0]; simpa using q2 sub _ k (List.getElem?_eq_getElem (by omega)) hk⟩
    ·cases h
   ·cases h
  ·cases h
 ·rename_i _ _ _ _ _ ks l cs
  have ho0 : o = i.v * st := by rw [ho0]; simp
  split at h
  ·rename_i hst
   have hst := Nat.eq_of_beq_eq_true hst
   subst hst
   split at h
   ·rename_i r hr
    injection h with h; injection h with h h2; subst h; subst h2
    have hlt : i.v < l.length := hp _ (List.Mem.head _)
    obtain ⟨us, rfl, hus, ho⟩ := hy
    have hvs : vs = us := hvs
    subst hvs
    obtain ⟨z1, z2, z3⟩ := rowOf_sound hr hus
    obtain ⟨q1, q2⟩ := hg i.v _ (List.getElem?_eq_getElem hlt)
    refine ⟨rfl, fun j r' hj => ?_, fun j hj => ?_⟩
    ·by_cases he : j = i.v
     ·rw [he] at hj ⊢
      rw [List.getElem?_set_self hlt] at hj
      injection hj with hj; subst hj
      refine ⟨z1, fun x n' k' hx hk' => ?_⟩
      have hx' : x < ks.length := (List.getElem?_eq_some_iff.1 hk').1
      rw [upd_in ⟨by omega, by omega⟩]
      rw [show i.v * ks.length + x - o = x by omega]
      exact z3 x n' k' hx hk'
     ·rw [List.getElem?_set_ne (by omega)] at hj
      obtain ⟨r1, r2⟩ := hg j r' hj
      refine ⟨r1, fun x n' k' hx hk' => ?_⟩
      have hx' : x < ks.length := (List.getElem?_eq_some_iff.1 hk').1
      rw [upd_out]
      ·exact r2 x n' k' hx hk'
      ·intro ⟨ha, hb⟩
       rcases Nat.lt_or_ge j i.v with h | h
       ·have : (j + 1) * ks.length ≤ i.v * ks.length := Nat.mul_le_mul_right _ h
        rw [Nat.succ_mul] at this
        omega
       ·have : (i.v + 1) * ks.length ≤ j * ks.length := Nat.mul_le_mul_right _ (by omega)
        rw [Nat.succ_mul] at this
        omega
    ·have hk : ks[j]? = some ks[j] := List.getElem?_eq_getElem (by omega)
     exact ⟨_, by rw [ho0]; simpa using q2 j _ _ (List.getElem?_eq_getElem (by omega)) hk⟩
   ·cases h
  ·cases h
 ·cases h
end
end Go.Sx
