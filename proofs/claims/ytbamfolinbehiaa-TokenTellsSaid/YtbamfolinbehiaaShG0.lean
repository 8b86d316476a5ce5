/- found: rounds, by the kernel. -/
import Derived.Test.YtbamfolinbehiaaWb
namespace Go.Proofs.Ytbamfolinbehiaa
open Go.Sx
theorem seg3F : chainF 117 s3F = some (List.replicate 117 KFo, s120F) := by kernel_rfl
theorem seg120F : chainF 60 s120F = some (List.replicate 60 KFo, s180F) := by kernel_rfl
theorem seg180F : chainF 45 s180F = some (List.replicate 45 KFo, s225F) := by kernel_rfl
end Go.Proofs.Ytbamfolinbehiaa
