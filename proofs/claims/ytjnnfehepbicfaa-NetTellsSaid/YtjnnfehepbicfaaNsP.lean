/- What is laid out: plain laws. -/
import Derived.Test.YtjnnfehepbicfaaNtJ
import Derived.Test.YtjnnfehepbicfaaSxAK
namespace Go.Proofs.Ytjnnfehepbicfaa
open Go.ChangeShapes Go.WideShapes Go.ChangeAt Go.RowKit Go.Sx
theorem laidS_wf (l : Rws) : okN 3 (laidS l) := laid_wf _ (by rw [List.length_take]; omega)
theorem laidS_len (l : Rws) : (laidS l).length ≤ 30 := by
  have := laidG_len (l.take 30)
  rw [List.length_take] at this
  unfold laidS; omega
theorem dropS_out {l : Rws} {i : Int} (h : i < 0 ∨ (l.length : Int) ≤ i) : dropS l i = l := by
  unfold dropS; rw [if_neg (by omega)]
theorem forgetS_out {l : Rws} {q : Int} (h : ∀ r ∈ l, r.1.getD 1 0 ≠ q) : forgetS l q = l := by
  unfold forgetS
  rw [List.filter_eq_self]
  intro r hr
  simp [h r hr]
  have := h r hr
  simpa using this
theorem laid_forget {l : Rws} {q : Int} (h : q < 0 ∨ 3 ≤ q) : forgetS (laidS l) q = laidS l := forgetS_out fun r hr he => by
  have := (laidG_mem hr).2.2.2
  omega
theorem sendE_bad1 {nd : Int} {n : Nat} (h : nd < 0 ∨ 3 ≤ nd) : sendE 3 nd 0 0 n = 2 := by unfold sendE; rw [if_pos (by omega)]
theorem sendE_bad2 {nd : Int} {n : Nat} (h : nd < 0 ∨ 3 ≤ nd) : sendE 3 0 nd 0 n = 2 := by unfold sendE; rw [if_pos (by omega)]
theorem sendE_long {n : Nat} : sendE 3 1 1 1048577 n = 3 := by unfold sendE; rw [if_neg (by omega), if_pos (by omega)]
theorem copyE_out {l : Rws} {i : Int} (h : i < 0 ∨ (l.length : Int) ≤ i) : copyE l i = 2 := by unfold copyE; rw [if_pos (by omega)]
end Go.Proofs.Ytjnnfehepbicfaa
