/- BytesFixed: each number by itself. -/
import Derived.Test.YtjjjpflnhagfcaaFxL
namespace Go.Proofs.Ytjjjpflnhagfcaa
open Go.Sx
theorem fxD0 : fxD0L.all fxOne = true := by kernel_rfl
theorem fxD1 : fxD1L.all fxOne = true := by kernel_rfl
theorem fxD2 : fxD2L.all fxOne = true := by kernel_rfl
theorem fxD3 : fxD3L.all fxOne = true := by kernel_rfl
theorem fxD4 : fxD4L.all fxOne = true := by kernel_rfl
theorem fxD5 : fxD5L.all fxOne = true := by kernel_rfl
theorem fxD6 : fxD6L.all fxOne = true := by kernel_rfl
end Go.Proofs.Ytjjjpflnhagfcaa
