/- BytesFixed: each number by itself. -/
import Derived.Test.YtjjjpflnhagfcaaFxL
namespace Go.Proofs.Ytjjjpflnhagfcaa
open Go.Sx
theorem fxA0 : fxA0L.all fxOne = true := by kernel_rfl
theorem fxA1 : fxA1L.all fxOne = true := by kernel_rfl
theorem fxA2 : fxA2L.all fxOne = true := by kernel_rfl
theorem fxA3 : fxA3L.all fxOne = true := by kernel_rfl
theorem fxA4 : fxA4L.all fxOne = true := by kernel_rfl
theorem fxA5 : fxA5L.all fxOne = true := by kernel_rfl
theorem fxA6 : fxA6L.all fxOne = true := by kernel_rfl
end Go.Proofs.Ytjjjpflnhagfcaa
