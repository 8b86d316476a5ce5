/- BytesFixed: each number by itself. -/
import Derived.Test.YtjjjpflnhagfcaaFxL
namespace Go.Proofs.Ytjjjpflnhagfcaa
open Go.Sx
theorem fxB0 : fxB0L.all fxOne = true := by kernel_rfl
theorem fxB1 : fxB1L.all fxOne = true := by kernel_rfl
theorem fxB2 : fxB2L.all fxOne = true := by kernel_rfl
theorem fxB3 : fxB3L.all fxOne = true := by kernel_rfl
theorem fxB4 : fxB4L.all fxOne = true := by kernel_rfl
theorem fxB5 : fxB5L.all fxOne = true := by kernel_rfl
theorem fxB6 : fxB6L.all fxOne = true := by kernel_rfl
end Go.Proofs.Ytjjjpflnhagfcaa
