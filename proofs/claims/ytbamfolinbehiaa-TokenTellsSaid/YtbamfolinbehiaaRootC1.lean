/- root: each of the numbers. -/
import Derived.Test.YtbamfolinbehiaaWa
namespace Go.Proofs.Ytbamfolinbehiaa
open Go.Sx
theorem rt4 : rt4L.all rootOne = true := by kernel_rfl
theorem rt5 : rt5L.all rootOne = true := by kernel_rfl
theorem rt6 : rt6L.all rootOne = true := by kernel_rfl
theorem rt7 : rt7L.all rootOne = true := by kernel_rfl
end Go.Proofs.Ytbamfolinbehiaa
