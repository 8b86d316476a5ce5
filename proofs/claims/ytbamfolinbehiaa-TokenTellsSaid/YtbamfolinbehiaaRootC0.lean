/- root: each of the numbers. -/
import Derived.Test.YtbamfolinbehiaaWa
namespace Go.Proofs.Ytbamfolinbehiaa
open Go.Sx
theorem rt0 : rt0L.all rootOne = true := by kernel_rfl
theorem rt1 : rt1L.all rootOne = true := by kernel_rfl
theorem rt2 : rt2L.all rootOne = true := by kernel_rfl
theorem rt3 : rt3L.all rootOne = true := by kernel_rfl
end Go.Proofs.Ytbamfolinbehiaa
