/- BytesBack: what is put is got, and what is cut off is short, in plain lists. -/
import Derived.Test.YtjjjpflnhagfcaaWbA
namespace Go.Proofs.Ytjjjpflnhagfcaa
open Go.ChangeShapes Go.WideShapes Go.ChangeAt Go.RowKit Go.Sx
theorem scanU_cut {l : List Int} {n k : Nat} : ∀ m i : Nat, (∀ t, i ≤ t → k + t < n → 128 ≤ l.getD (k + t) 0) → scanU l n k m i = none
  | 0, _, _ => rfl
  | m + 1, i, h => by
    unfold scanU
    by_cases h1 : k + i < n
    · have := h i (Nat.le_refl _) h1
      rw [if_pos h1, if_neg (by omega)]
      exact scanU_cut m (i + 1) fun t ht hn => h t (by omega) hn
    · rw [if_neg h1]
theorem getU_cut {l : List Int} {n k : Nat} {m : Int} {r : List Int} (h : l.drop k = vint m ++ r) (hm : u64 m) (h1 : k ≤ n) (h2 : n < k + (vint m).length) : getU l n (k : Int) = (0, 0, 11) := by
  have hle := vint_le hm
  unfold vint at h h2 hle
  obtain ⟨j, j1, j2, _⟩ := vint_at m.toNat h
  unfold getU
  rw [if_neg (by omega), show ((k : Nat) : Int).toNat = k by omega, scanU_cut 10 0 (fun t _ ht => j2 t (by omega))]
  simp only
  rw [if_pos (by omega)]
theorem getI_cut {l : List Int} {n k : Nat} {m : Int} {r : List Int} (h : l.drop k = svint m ++ r) (hm : i64 m) (h1 : k ≤ n) (h2 : n < k + (svint m).length) : getI l n (k : Int) = (0, 0, 11) := by
  unfold getI
  rw [getU_cut (m := zz m) h (zz_u64 hm) h1 h2]
  rfl
theorem getB_cut {l : List Int} {n k : Nat} {b r : List Int} {m : Int} (h : l.drop k = vint ((b.length : Nat) : Int) ++ (b ++ r)) (hb : (b.length : Int) ≤ m) (hb2 : b.length ≤ 1000000000) (h1 : k ≤ n) (h2 : n < k + (vint ((b.length : Nat) : Int)).length + b.length) : getB l n (k : Int) m = ([], 0, 11) := by
  have hu : u64 ((b.length : Nat) : Int) := ⟨by omega, by omega⟩
  by_cases h3 : n < k + (vint ((b.length : Nat) : Int)).length
  · unfold getB
    rw [getU_cut h hu h1 h3]
    rfl
  · have g := getU_put h hu (by omega : k + (vint ((b.length : Nat) : Int)).length ≤ n)
    unfold getB
    rw [g]
    simp only
    rw [if_neg (fun h => h rfl), if_neg (by omega), if_pos (by omega)]
theorem wrapI_i64 (n : Int) : i64 (IntKind.wrap .i64 n) := by
  unfold i64
  simp only [IntKind.wrap, IntKind.signed, IntKind.bits]
  simp
  omega
/-- a thing's kind, its bytes -/
def kdR (r : Rw) : Int := Int.tmod (r.1.getD 0 0) 4
def encR (r : Rw) : List Int := if kdR r = 0 then vint (r.1.getD 1 0) else if kdR r = 1 then svint (IntKind.wrap .i64 (r.1.getD 1 0)) else if kdR r = 2 then vint ((r.2.length : Nat) : Int) ++ r.2 else vint (((sealS r.2).length : Nat) : Int) ++ sealS r.2
def okR (r : Rw) : Prop := r.2.length ≤ 40 ∧ wf8 r.2 ∧ u64 (r.1.getD 1 0)
theorem encR_len {r : Rw} (h : okR r) : (encR r).length ≤ 60 := by
  obtain ⟨h1, h2, h3⟩ := h
  have hs := sealS_len r.2
  unfold encR
  split
  · have := vint_le h3; omega
  · split
    · have := vint_le (zz_u64 (wrapI_i64 (r.1.getD 1 0)))
      show (vint (zz _)).length ≤ 60; omega
    · split
      · have := vint_le (n := ((r.2.length : Nat) : Int)) ⟨by omega, by omega⟩
        rw [List.length_append]; omega
      · have := vint_le (n := (((sealS r.2).length : Nat) : Int)) ⟨by omega, by omega⟩
        rw [List.length_append]; omega
theorem wfB_app {a b : List Int} (ha : wfB a) (hb : wfB b) : wfB (a ++ b) := fun x hx => (List.mem_append.1 hx).elim (ha x) (hb x)
theorem encR_wf {r : Rw} (h : okR r) : wfB (encR r) := by
  obtain ⟨h1, h2, h3⟩ := h
  unfold encR
  split
  · exact vint_wf _
  · split
    · exact vint_wf _
    · split
      · exact wfB_app (vint_wf _) h2
      · exact wfB_app (vint_wf _) (sealS_wf h2)
/-- so far put: all bytes, where each thing ends, the things -/
structure Chain (a : List Int) (B E : List Int) (R : Rws) : Prop where
  pre : B.take a.length = a
  wf : wfB B
  len : B.length ≤ a.length + 60 * R.length
  la : a.length ≤ B.length
  eE : E.length = R.length + 1
  e0 : E.getD 0 0 = (a.length : Int)
  eL : E.getD R.length 0 = (B.length : Int)
  ok : ∀ r ∈ R, okR r
  at_ : ∀ j, j < R.length → ∃ (k : Nat) (t : List Int), E.getD j 0 = (k : Int) ∧ E.getD (j + 1) 0 = ((k + (encR (R.getD j ([], []))).length : Nat) : Int) ∧ B.drop k = encR (R.getD j ([], [])) ++ t ∧ k + (encR (R.getD j ([], []))).length ≤ B.length ∧ a.length ≤ k
theorem Chain.nil {a : List Int} (h : wfB a) : Chain a a [(a.length : Int)] [] :=
  ⟨List.take_length, h, by simp, Nat.le_refl _, rfl, rfl, rfl, fun r hr => (by cases hr), fun j hj => absurd hj (Nat.not_lt_zero _)⟩
theorem getD_left {α : Type} {l t : List α} {i : Nat} {d : α} (h : i < l.length) : (l ++ t).getD i d = l.getD i d := by
  rw [List.getD_eq_getElem?_getD, List.getElem?_append_left h, ← List.getD_eq_getElem?_getD]
theorem getD_last {α : Type} {l : List α} {x d : α} {i : Nat} (h : i = l.length) : (l ++ [x]).getD i d = x := by
  subst h; rw [List.getD_eq_getElem?_getD, List.getElem?_append_right (Nat.le_refl _)]; simp
theorem Chain.snoc {a B E : List Int} {R : Rws} {r : Rw} {B2 : List Int} (h : Chain a B E R) (hr : okR r) (e : B2 = B ++ encR r) : Chain a B2 (E ++ [(B2.length : Int)]) (R ++ [r]) := by
  subst e
  have hl := encR_len hr
  have hla := h.la; have hlen := h.len; have hE := h.eE
  refine ⟨?_, wfB_app h.wf (encR_wf hr), ?_, ?_, ?_, ?_, ?_, ?_, ?_⟩
  · rw [List.take_append_of_le_length h.la]; exact h.pre
  · simp only [List.length_append, List.length_singleton]; omega
  · rw [List.length_append]; omega
  · simp only [List.length_append, List.length_singleton]; omega
  · rw [getD_left (by omega)]; exact h.e0
  · exact getD_last (by simp only [List.length_append, List.length_singleton]; omega)
  · intro x hx
    rcases List.mem_append.1 hx with hx | hx
    · exact h.ok x hx
    · rw [List.mem_singleton.1 hx]; exact hr
  · intro j hj
    rw [List.length_append, List.length_singleton] at hj
    by_cases hj2 : j < R.length
    · obtain ⟨k, t, k1, k2, k3, k4, k5⟩ := h.at_ j hj2
      rw [getD_left (by omega), getD_left (by omega), getD_left hj2]
      refine ⟨k, t ++ encR r, k1, k2, ?_, by rw [List.length_append]; omega, k5⟩
      rw [List.drop_append_of_le_length (by omega), k3, List.append_assoc]
    · have ej : j = R.length := by omega
      subst ej
      rw [getD_left (by omega), getD_last (by omega), getD_last rfl]
      refine ⟨B.length, [], h.eL, by rw [List.length_append], ?_, by rw [List.length_append]; omega, h.la⟩
      rw [List.drop_left, List.append_nil]
theorem seal_enc (B d : List Int) : B ++ vint ((Nat.add d.length 4 : Nat) : Int) ++ List.take (Nat.add d.length 4) (sealS (List.take d.length d)) = B ++ (vint (((sealS d).length : Nat) : Int) ++ sealS d) := by
  have hs := sealS_len d
  rw [List.take_length, show Nat.add d.length 4 = (sealS d).length from hs.symm, List.take_length, List.append_assoc]
theorem blob_enc (B d : List Int) : B ++ vint ((d.length : Nat) : Int) ++ List.take d.length d = B ++ (vint ((d.length : Nat) : Int) ++ d) := by
  rw [List.take_length, List.append_assoc]
end Go.Proofs.Ytjjjpflnhagfcaa
