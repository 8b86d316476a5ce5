/- found: rounds, by the kernel. -/
import Derived.Test.YtbamfolinbehiaaWb
namespace Go.Proofs.Ytbamfolinbehiaa
open Go.Sx
theorem seg225F : chainF 35 s225F = some (List.replicate 35 KFo, s260F) := by kernel_rfl
theorem seg260F : chainF 30 s260F = some (List.replicate 30 KFo, s290F) := by kernel_rfl
theorem seg290F : chainF 22 s290F = some (List.replicate 22 KFo, s312F) := by kernel_rfl
end Go.Proofs.Ytbamfolinbehiaa
