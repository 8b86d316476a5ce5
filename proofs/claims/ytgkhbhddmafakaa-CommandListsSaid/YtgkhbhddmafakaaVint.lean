/- Varints, as lists of numbers. -/
import Derived.Test.YtgkhbhddmafakaaUint
namespace Go.Proofs.Ytgkhbhddmafakaa
theorem vintN_small {n : Nat} (h : n < 128) : vintN n = [(n : Int)] := by unfold vintN; rw [if_pos h]
theorem vintN_big {n : Nat} (h : ¬ n < 128) : vintN n = ((128 + n % 128 : Nat) : Int) :: vintN (n / 128) := by rw [vintN]; rw [if_neg h]
theorem vintN_pos (n : Nat) : 0 < (vintN n).length := by
  by_cases h : n < 128
  · rw [vintN_small h]; simp
  · rw [vintN_big h]; simp
/-- what bytes say -/
def valL : List Int → Nat
  | [] => 0
  | x :: r => x.toNat % 128 + 128 * valL r
theorem val_vint : ∀ n : Nat, valL (vintN n) = n := fun n => by
  induction n using Nat.strongRecOn with
  | _ n ih =>
    by_cases h : n < 128
    · rw [vintN_small h]; simp [valL]; omega
    · rw [vintN_big h]
      simp only [valL]
      rw [ih (n / 128) (by omega)]
      omega
theorem vintN_inj {n m : Nat} (h : vintN n = vintN m) : n = m := by rw [← val_vint n, h, val_vint]
theorem vintN_byte : ∀ n : Nat, ∀ x ∈ vintN n, 0 ≤ x ∧ x < 256 := fun n => by
  induction n using Nat.strongRecOn with
  | _ n ih =>
    intro x hx
    by_cases h : n < 128
    · rw [vintN_small h] at hx; simp at hx; omega
    · rw [vintN_big h] at hx
      rcases List.mem_cons.1 hx with rfl | hx
      · omega
      · exact ih (n / 128) (by omega) x hx
theorem vintN_mono : ∀ n m : Nat, n ≤ m → (vintN n).length ≤ (vintN m).length := fun n => by
  induction n using Nat.strongRecOn with
  | _ n ih =>
    intro m h
    by_cases hn : n < 128
    · rw [vintN_small hn]; exact vintN_pos m
    · have hm : ¬ m < 128 := by omega
      rw [vintN_big hn, vintN_big hm]
      have := ih (n / 128) (by omega) (m / 128) (by omega)
      simp; omega
/-- of two numbers with as many bytes: where they differ highest, the lower one is less -/
theorem vintN_top : ∀ (n m : Nat) (i : Nat), n ≤ m → (vintN n).length = (vintN m).length → (∀ j, i < j → (vintN n)[j]? = (vintN m)[j]?) → (vintN n).getD i 0 ≠ (vintN m).getD i 0 → (vintN n).getD i 0 < (vintN m).getD i 0 := fun n => by
  induction n using Nat.strongRecOn with
  | _ n ih =>
    intro m i h hl ht hne
    by_cases hn : n < 128
    · have hm : m < 128 := by
        rcases Nat.lt_or_ge m 128 with hm | hm
        · exact hm
        · rw [vintN_small hn, vintN_big (by omega)] at hl
          have := vintN_pos (m / 128)
          simp only [List.length_cons, List.length_nil] at hl; omega
      rw [vintN_small hn, vintN_small hm] at hne ⊢
      cases i with
      | zero => simp at hne ⊢; omega
      | succ i => simp at hne
    · have hm : ¬ m < 128 := by
        intro hm
        rw [vintN_big hn, vintN_small hm] at hl
        have := vintN_pos (n / 128)
        simp only [List.length_cons, List.length_nil] at hl; omega
      rw [vintN_big hn, vintN_big hm] at hne ht hl ⊢
      cases i with
      | zero =>
        have htl : vintN (n / 128) = vintN (m / 128) := by
          apply List.ext_getElem?
          intro j
          have := ht (j + 1) (by omega)
          simpa using this
        have := vintN_inj htl
        simp at hne ⊢
        omega
      | succ i =>
        have := ih (n / 128) (by omega) (m / 128) i (by omega) (by simpa using hl) (fun j hj => by simpa using ht (j + 1) (by omega)) (by simpa using hne)
        simpa using this
theorem vint_ladder {n d : Int} (hn : 0 < n) (hd : 0 ≤ d ∧ d < 128) : vint (n * 128 + d) = (d + 128) :: vint n := by
  unfold vint
  rw [vintN_big (by omega)]
  congr 1
  · omega
  · congr 1; omega
theorem vint_small {d : Int} (hd : 0 ≤ d ∧ d < 128) : vint d = [d] := by
  unfold vint
  rw [vintN_small (by omega)]
  congr 1; omega
theorem vint_pos (n : Int) : 0 < (vint n).length := vintN_pos _
theorem vint_le {n : Int} (h : u64 n) : (vint n).length ≤ 10 := by
  obtain ⟨i, hi, _, _, h3⟩ := way_of h.1 h.2
  omega
end Go.Proofs.Ytgkhbhddmafakaa
