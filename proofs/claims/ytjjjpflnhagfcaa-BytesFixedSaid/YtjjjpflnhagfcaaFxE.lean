/- BytesFixed: each number by itself. -/
import Derived.Test.YtjjjpflnhagfcaaFxL
namespace Go.Proofs.Ytjjjpflnhagfcaa
open Go.Sx
theorem fxE0 : fxE0L.all fxOne = true := by kernel_rfl
theorem fxE1 : fxE1L.all fxOne = true := by kernel_rfl
theorem fxE2 : fxE2L.all fxOne = true := by kernel_rfl
theorem fxE3 : fxE3L.all fxOne = true := by kernel_rfl
theorem fxE4 : fxE4L.all fxOne = true := by kernel_rfl
theorem fxE5 : fxE5L.all fxOne = true := by kernel_rfl
theorem fxE6 : fxE6L.all fxOne = true := by kernel_rfl
end Go.Proofs.Ytjjjpflnhagfcaa
