/- NetOrder, in plain lists. -/
import Derived.Test.YtjnnfehepbicfaaNoB
import Derived.Test.YtjnnfehepbicfaaSxAK
namespace Go.Proofs.Ytjnnfehepbicfaa
open Go.ChangeShapes Go.WideShapes Go.ChangeAt Go.RowKit Go.Sx
def EndS (W : World) : Ending → World → Prop := fun e w' => e = .returned (.bool true) ∧ Below W.heap.size W w'
theorem keptN {W w' : World} (h : Kept (uptoN W) W w') : Below W.heap.size W w' := ⟨h.os, h.tape, h.output, h.size, h.block⟩
/-- the rows that are there, in order -/
def lst (H : Nat → Bool) (S : Rws) (n : Nat) : Rws := ((List.range n).filter H).map fun k => S.getD k ([], [])
theorem lst_succ (H : Nat → Bool) (S : Rws) (n : Nat) : lst H S (n + 1) = lst H S n ++ (if H n then [S.getD n ([], [])] else []) := by
  unfold lst
  rw [List.range_succ, List.filter_append, List.map_append]
  cases h : H n <;> simp [h]
theorem lst_congr {H H' : Nat → Bool} {S S' : Rws} : ∀ n, (∀ j, j < n → H j = H' j ∧ (H j = true → S.getD j ([], []) = S'.getD j ([], []))) → lst H S n = lst H' S' n
  | 0, _ => rfl
  | n + 1, h => by
    have hn := h n (Nat.lt_succ_self n)
    rw [lst_succ, lst_succ, lst_congr n fun j hj => h j (by omega), ← hn.1]
    cases e : H n with
    | true => rw [hn.2 e]
    | false => rfl
def putH (H : Nat → Bool) (i : Nat) (b : Bool) : Nat → Bool := fun j => if j = i then b else H j
theorem lst_none {H : Nat → Bool} {S : Rws} {i : Nat} (h : ∀ k, i ≤ k → H k = false) : ∀ n, i ≤ n → lst H S n = lst H S i
  | 0, hn => by rw [show i = 0 by omega]
  | n + 1, hn => by
    by_cases e : i = n + 1
    · rw [e]
    · rw [lst_succ, h n (by omega), lst_none h n (by omega)]; simp
theorem lst_send {H : Nat → Bool} {S : Rws} {i n : Nat} {r : Rw} (h : ∀ k, i ≤ k → H k = false) (hi : i < n) (hs : S.length = n) : lst (putH H i true) (S.set i r) n = lst H S n ++ [r] := by
  have h2 : ∀ k, i + 1 ≤ k → putH H i true k = false := fun k hk => by unfold putH; rw [if_neg (by omega)]; exact h k (by omega)
  rw [lst_none h2 n (by omega), lst_none h n (by omega), lst_succ]
  have e1 : putH H i true i = true := by unfold putH; rw [if_pos rfl]
  have e2 : (S.set i r).getD i ([], []) = r := by rw [List.getD_eq_getElem?_getD, List.getElem?_set_self (by omega)]; rfl
  rw [e1, e2]
  simp only [if_true]
  congr 1
  refine lst_congr i fun j hj => ⟨by unfold putH; rw [if_neg (by omega)], fun _ => ?_⟩
  rw [List.getD_eq_getElem?_getD, List.getElem?_set_ne (by omega), ← List.getD_eq_getElem?_getD]
theorem lst_mem {H : Nat → Bool} {S : Rws} {n : Nat} {r : Rw} (h : r ∈ lst H S n) : ∃ k, k < n ∧ H k = true ∧ r = S.getD k ([], []) := by
  unfold lst at h
  obtain ⟨k, hk, rfl⟩ := List.mem_map.1 h
  obtain ⟨h1, h2⟩ := List.mem_filter.1 hk
  exact ⟨k, List.mem_range.1 h1, h2, rfl⟩
theorem lst_in {H : Nat → Bool} {S : Rws} {n k : Nat} (hk : k < n) (h : H k = true) : S.getD k ([], []) ∈ lst H S n :=
  List.mem_map.2 ⟨k, List.mem_filter.2 ⟨List.mem_range.2 hk, h⟩, rfl⟩
/-- a row's number -/
def idx (r : Rw) : Nat := (r.2.getD 0 0).toNat
def numd (H : Nat → Bool) (S : Rws) (n : Nat) : Prop := ∀ k, k < n → H k = true → (S.getD k ([], [])).2 = [(k : Int)]
theorem numd_idx {H : Nat → Bool} {S : Rws} {n k : Nat} (h : numd H S n) (hk : k < n) (e : H k = true) : idx (S.getD k ([], [])) = k := by
  unfold idx; rw [h k hk e]; simp
theorem lst_drop {H : Nat → Bool} {S : Rws} : ∀ {n p : Nat}, numd H S n → p < (lst H S n).length → (lst H S n).eraseIdx p = lst (putH H (idx ((lst H S n).getD p ([], []))) false) S n
  | 0, p, _, hp => by simp [lst] at hp
  | n + 1, p, hd, hp => by
    have hd' : numd H S n := fun k hk => hd k (by omega)
    rw [lst_succ] at hp ⊢
    cases e : H n with
    | false =>
      simp only [e, Bool.false_eq_true, if_false, List.append_nil] at hp ⊢
      rw [lst_drop hd' hp, lst_succ]
      have : putH H (idx ((lst H S n).getD p ([], []))) false n = false := by unfold putH; exact (by split <;> first | rfl | exact e)
      rw [this]; simp
    | true =>
      simp only [e, if_true, List.length_append, List.length_singleton] at hp ⊢
      by_cases h : p < (lst H S n).length
      · have e2 : (lst H S n ++ [S.getD n ([], [])]).getD p ([], []) = (lst H S n).getD p ([], []) := by
          rw [List.getD_eq_getElem?_getD, List.getElem?_append_left h, ← List.getD_eq_getElem?_getD]
        rw [e2, List.eraseIdx_append_of_lt_length h, lst_drop hd' h, lst_succ]
        have hm : (lst H S n).getD p ([], []) ∈ lst H S n := by rw [List.getD_eq_getElem?_getD, List.getElem?_eq_getElem h]; exact List.getElem_mem h
        obtain ⟨k, k1, k2, k3⟩ := lst_mem hm
        have e3 : idx ((lst H S n).getD p ([], [])) = k := by rw [k3]; exact numd_idx hd' k1 k2
        rw [e3]
        have : putH H k false n = true := by unfold putH; rw [if_neg (by omega)]; exact e
        rw [this]; simp
      · have ep : p = (lst H S n).length := by omega
        subst ep
        have e2 : (lst H S n ++ [S.getD n ([], [])]).getD (lst H S n).length ([], []) = S.getD n ([], []) := by
          rw [List.getD_eq_getElem?_getD, List.getElem?_append_right (Nat.le_refl _)]; simp
        have e3 := numd_idx hd (Nat.lt_succ_self n) e
        rw [e2, e3, List.eraseIdx_append_of_length_le (Nat.le_refl _), lst_succ]
        have : putH H n false n = false := by unfold putH; rw [if_pos rfl]
        rw [this]
        simp only [Nat.sub_self, List.eraseIdx_cons_zero, List.append_nil, Bool.false_eq_true, if_false]
        refine lst_congr n fun j hj => ⟨by unfold putH; rw [if_neg (by omega)], fun _ => rfl⟩
theorem lst_forget (H : Nat → Bool) (S : Rws) (t : Int) (n : Nat) : forgetS (lst H S n) t = lst (fun j => H j && !decide ((S.getD j ([], [])).1.getD 1 0 = t)) S n := by
  unfold forgetS lst
  rw [List.filter_map, List.filter_filter]
  congr 1
  refine List.filter_congr fun j _ => ?_
  simp [Function.comp, Bool.and_comm]
theorem lst_split {H : Nat → Bool} {S : Rws} {k : Nat} : ∀ {n : Nat}, k < n → ∃ X, lst H S n = lst H S k ++ (if H k then [S.getD k ([], [])] else []) ++ X
  | 0, h => absurd h (Nat.not_lt_zero _)
  | n + 1, h => by
    by_cases e : k = n
    · subst e; exact ⟨[], by rw [lst_succ, List.append_nil]⟩
    · obtain ⟨X, hX⟩ := lst_split (H := H) (S := S) (k := k) (n := n) (by omega)
      exact ⟨X ++ (if H n then [S.getD n ([], [])] else []), by rw [lst_succ, hX, List.append_assoc]⟩
theorem lst_at {H : Nat → Bool} {S : Rws} {k n : Nat} (hk : k < n) (e : H k = true) : (lst H S k).length < (lst H S n).length ∧ (lst H S n).getD (lst H S k).length ([], []) = S.getD k ([], []) := by
  obtain ⟨X, hX⟩ := lst_split (H := H) (S := S) hk
  rw [hX, e]
  simp only [if_true]
  constructor
  · simp
  · rw [List.getD_eq_getElem?_getD, List.append_assoc, List.getElem?_append_right (Nat.le_refl _)]; simp
theorem lst_len_succ (H : Nat → Bool) (S : Rws) (k : Nat) : (lst H S (k + 1)).length = (lst H S k).length + (if H k then 1 else 0) := by
  rw [lst_succ, List.length_append]; cases H k <;> rfl
/-- after so many of the rows were looked through -/
def goH (H : Nat → Bool) (R : Rws) (t : Int) : Nat → Nat → Bool
  | 0 => H
  | q + 1 => if (R.getD q ([], [])).1.getD 1 0 = t then putH (goH H R t q) (idx (R.getD q ([], []))) false else goH H R t q
def goN (R : Rws) (t : Int) : Nat → Nat
  | 0 => 0
  | q + 1 => if (R.getD q ([], [])).1.getD 1 0 = t then goN R t q + 1 else goN R t q
theorem goH_val (H : Nat → Bool) (R : Rws) (t : Int) (j : Nat) : ∀ q, goH H R t q j = true ↔ (H j = true ∧ ∀ p, p < q → (R.getD p ([], [])).1.getD 1 0 = t → idx (R.getD p ([], [])) ≠ j)
  | 0 => by simp [goH]
  | q + 1 => by
    have ih := goH_val H R t j q
    unfold goH
    by_cases h : (R.getD q ([], [])).1.getD 1 0 = t
    · rw [if_pos h]
      unfold putH
      by_cases hj : j = idx (R.getD q ([], []))
      · rw [if_pos hj]
        simp only [Bool.false_eq_true, false_iff, not_and]
        intro _ hx
        exact hx q (by omega) h hj.symm
      · rw [if_neg hj, ih]
        refine and_congr_right fun _ => ⟨fun hx p hp ht => ?_, fun hx p hp ht => hx p (by omega) ht⟩
        by_cases e : p = q
        · subst e; exact fun he => hj he.symm
        · exact hx p (by omega) ht
    · rw [if_neg h, ih]
      refine and_congr_right fun _ => ⟨fun hx p hp ht => ?_, fun hx p hp ht => hx p (by omega) ht⟩
      by_cases e : p = q
      · subst e; exact absurd ht h
      · exact hx p (by omega) ht
theorem goH_end {H : Nat → Bool} {S : Rws} {t : Int} {n : Nat} (hd : numd H S n) : ∀ j, j < n → goH H (lst H S n) t (lst H S n).length j = (H j && !decide ((S.getD j ([], [])).1.getD 1 0 = t)) := by
  intro j hj
  rw [Bool.eq_iff_iff, goH_val]
  simp only [Bool.and_eq_true, Bool.not_eq_true', decide_eq_false_iff_not]
  refine and_congr_right fun hH => ⟨fun hx ht => ?_, fun ht p hp hpt he => ?_⟩
  · obtain ⟨h1, h2⟩ := lst_at (S := S) hj hH
    exact hx _ h1 (by rw [h2]; exact ht) (by rw [h2]; exact numd_idx hd hj hH)
  · have hm : (lst H S n).getD p ([], []) ∈ lst H S n := by rw [List.getD_eq_getElem?_getD, List.getElem?_eq_getElem hp]; exact List.getElem_mem hp
    obtain ⟨k, k1, k2, k3⟩ := lst_mem hm
    rw [k3, numd_idx hd k1 k2] at he
    subst he
    rw [k3] at hpt
    exact ht hpt
theorem goN_take (R : Rws) (t : Int) : ∀ q, q ≤ R.length → goN R t q + (forgetS (R.take q) t).length = q
  | 0, _ => by simp [goN, forgetS]
  | q + 1, h => by
    have ih := goN_take R t q (by omega)
    have e : R.getD q ([], []) = R[q] := by rw [List.getD_eq_getElem?_getD, List.getElem?_eq_getElem (by omega)]; rfl
    unfold goN
    rw [List.take_add_one, List.getElem?_eq_getElem (by omega), e]
    unfold forgetS at *
    rw [List.filter_append, List.length_append]
    have e3 : (some R[q]).toList = [R[q]] := rfl
    rw [e3]
    generalize R[q] = x at *
    by_cases ht : x.1.getD 1 0 = t
    · rw [if_pos ht]
      have : List.filter (fun r : Rw => !decide (r.1.getD 1 0 = t)) [x] = [] := by rw [List.filter_cons, decide_eq_true ht]; rfl
      rw [this, List.length_nil]; omega
    · rw [if_neg ht]
      have : List.filter (fun r : Rw => !decide (r.1.getD 1 0 = t)) [x] = [x] := by rw [List.filter_cons, decide_eq_false ht]; rfl
      rw [this, List.length_singleton]; omega
theorem goN_end (R : Rws) (t : Int) : ((R.length : Int) - (forgetS R t).length) = (goN R t R.length : Nat) := by
  have := goN_take R t R.length (Nat.le_refl _)
  rw [List.take_length] at this
  omega
end Go.Proofs.Ytjnnfehepbicfaa
