/- TextBounds: its runs to the end. -/
import Derived.Test.YtbamfolinbehiaaTbdA
namespace Go.Proofs.Ytbamfolinbehiaa
open Go.Sx
theorem b3_5_0 : allF (fun i => fin3 5 i) 0 5 = true := by kernel_rfl
theorem b3_5_1 : allF (fun i => fin3 5 i) 5 5 = true := by kernel_rfl
theorem b3_5_2 : allF (fun i => fin3 5 i) 10 5 = true := by kernel_rfl
theorem b3_5_3 : allF (fun i => fin3 5 i) 15 5 = true := by kernel_rfl
theorem b3_5_4 : allF (fun i => fin3 5 i) 20 5 = true := by kernel_rfl
theorem b3_5_5 : allF (fun i => fin3 5 i) 25 5 = true := by kernel_rfl
theorem b3_6_0 : allF (fun i => fin3 6 i) 0 5 = true := by kernel_rfl
theorem b3_6_1 : allF (fun i => fin3 6 i) 5 5 = true := by kernel_rfl
theorem b3_6_2 : allF (fun i => fin3 6 i) 10 5 = true := by kernel_rfl
theorem b3_6_3 : allF (fun i => fin3 6 i) 15 5 = true := by kernel_rfl
theorem b3_6_4 : allF (fun i => fin3 6 i) 20 5 = true := by kernel_rfl
theorem b3_6_5 : allF (fun i => fin3 6 i) 25 5 = true := by kernel_rfl
end Go.Proofs.Ytbamfolinbehiaa
