/- BytesFixed: each number by itself. -/
import Derived.Test.YtjjjpflnhagfcaaFxL
namespace Go.Proofs.Ytjjjpflnhagfcaa
open Go.Sx
theorem fxH0 : fxH0L.all fxOne = true := by kernel_rfl
theorem fxH1 : fxH1L.all fxOne = true := by kernel_rfl
theorem fxH2 : fxH2L.all fxOne = true := by kernel_rfl
theorem fxH3 : fxH3L.all fxOne = true := by kernel_rfl
theorem fxH4 : fxH4L.all fxOne = true := by kernel_rfl
theorem fxH5 : fxH5L.all fxOne = true := by kernel_rfl
theorem fxH6 : fxH6L.all fxOne = true := by kernel_rfl
end Go.Proofs.Ytjjjpflnhagfcaa
