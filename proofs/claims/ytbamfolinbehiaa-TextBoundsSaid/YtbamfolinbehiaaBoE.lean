/- TextBounds: its runs to the end. -/
import Derived.Test.YtbamfolinbehiaaTbdA
namespace Go.Proofs.Ytbamfolinbehiaa
open Go.Sx
theorem b3_7_0 : allF (fun i => fin3 7 i) 0 5 = true := by kernel_rfl
theorem b3_7_1 : allF (fun i => fin3 7 i) 5 5 = true := by kernel_rfl
theorem b3_7_2 : allF (fun i => fin3 7 i) 10 5 = true := by kernel_rfl
theorem b3_7_3 : allF (fun i => fin3 7 i) 15 5 = true := by kernel_rfl
theorem b3_7_4 : allF (fun i => fin3 7 i) 20 5 = true := by kernel_rfl
theorem b3_7_5 : allF (fun i => fin3 7 i) 25 5 = true := by kernel_rfl
theorem b3_8_0 : allF (fun i => fin3 8 i) 0 5 = true := by kernel_rfl
theorem b3_8_1 : allF (fun i => fin3 8 i) 5 5 = true := by kernel_rfl
theorem b3_8_2 : allF (fun i => fin3 8 i) 10 5 = true := by kernel_rfl
theorem b3_8_3 : allF (fun i => fin3 8 i) 15 5 = true := by kernel_rfl
theorem b3_8_4 : allF (fun i => fin3 8 i) 20 5 = true := by kernel_rfl
theorem b3_8_5 : allF (fun i => fin3 8 i) 25 5 = true := by kernel_rfl
end Go.Proofs.Ytbamfolinbehiaa
