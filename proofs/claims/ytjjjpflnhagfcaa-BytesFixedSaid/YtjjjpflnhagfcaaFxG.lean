/- BytesFixed: each number by itself. -/
import Derived.Test.YtjjjpflnhagfcaaFxL
namespace Go.Proofs.Ytjjjpflnhagfcaa
open Go.Sx
theorem fxG0 : fxG0L.all fxOne = true := by kernel_rfl
theorem fxG1 : fxG1L.all fxOne = true := by kernel_rfl
theorem fxG2 : fxG2L.all fxOne = true := by kernel_rfl
theorem fxG3 : fxG3L.all fxOne = true := by kernel_rfl
theorem fxG4 : fxG4L.all fxOne = true := by kernel_rfl
theorem fxG5 : fxG5L.all fxOne = true := by kernel_rfl
theorem fxG6 : fxG6L.all fxOne = true := by kernel_rfl
end Go.Proofs.Ytjjjpflnhagfcaa
