/- BytesFixed: each number by itself. -/
import Derived.Test.YtjjjpflnhagfcaaFxL
namespace Go.Proofs.Ytjjjpflnhagfcaa
open Go.Sx
theorem fxF0 : fxF0L.all fxOne = true := by kernel_rfl
theorem fxF1 : fxF1L.all fxOne = true := by kernel_rfl
theorem fxF2 : fxF2L.all fxOne = true := by kernel_rfl
theorem fxF3 : fxF3L.all fxOne = true := by kernel_rfl
theorem fxF4 : fxF4L.all fxOne = true := by kernel_rfl
theorem fxF5 : fxF5L.all fxOne = true := by kernel_rfl
theorem fxF6 : fxF6L.all fxOne = true := by kernel_rfl
end Go.Proofs.Ytjjjpflnhagfcaa
