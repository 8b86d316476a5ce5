/- BytesFixed: each number by itself. -/
import Derived.Test.YtjjjpflnhagfcaaFxL
namespace Go.Proofs.Ytjjjpflnhagfcaa
open Go.Sx
theorem fxC0 : fxC0L.all fxOne = true := by kernel_rfl
theorem fxC1 : fxC1L.all fxOne = true := by kernel_rfl
theorem fxC2 : fxC2L.all fxOne = true := by kernel_rfl
theorem fxC3 : fxC3L.all fxOne = true := by kernel_rfl
theorem fxC4 : fxC4L.all fxOne = true := by kernel_rfl
theorem fxC5 : fxC5L.all fxOne = true := by kernel_rfl
theorem fxC6 : fxC6L.all fxOne = true := by kernel_rfl
end Go.Proofs.Ytjjjpflnhagfcaa
