/- TextBounds: its runs to the end. -/
import Derived.Test.YtbamfolinbehiaaTbdA
namespace Go.Proofs.Ytbamfolinbehiaa
open Go.Sx
theorem b3_1_0 : allF (fun i => fin3 1 i) 0 5 = true := by kernel_rfl
theorem b3_1_1 : allF (fun i => fin3 1 i) 5 5 = true := by kernel_rfl
theorem b3_1_2 : allF (fun i => fin3 1 i) 10 5 = true := by kernel_rfl
theorem b3_1_3 : allF (fun i => fin3 1 i) 15 5 = true := by kernel_rfl
theorem b3_1_4 : allF (fun i => fin3 1 i) 20 5 = true := by kernel_rfl
theorem b3_1_5 : allF (fun i => fin3 1 i) 25 5 = true := by kernel_rfl
theorem b3_2_0 : allF (fun i => fin3 2 i) 0 5 = true := by kernel_rfl
theorem b3_2_1 : allF (fun i => fin3 2 i) 5 5 = true := by kernel_rfl
theorem b3_2_2 : allF (fun i => fin3 2 i) 10 5 = true := by kernel_rfl
theorem b3_2_3 : allF (fun i => fin3 2 i) 15 5 = true := by kernel_rfl
theorem b3_2_4 : allF (fun i => fin3 2 i) 20 5 = true := by kernel_rfl
theorem b3_2_5 : allF (fun i => fin3 2 i) 25 5 = true := by kernel_rfl
theorem b3_3_0 : allF (fun i => fin3 3 i) 0 5 = true := by kernel_rfl
theorem b3_3_1 : allF (fun i => fin3 3 i) 5 5 = true := by kernel_rfl
theorem b3_3_2 : allF (fun i => fin3 3 i) 10 5 = true := by kernel_rfl
theorem b3_3_3 : allF (fun i => fin3 3 i) 15 5 = true := by kernel_rfl
theorem b3_3_4 : allF (fun i => fin3 3 i) 20 5 = true := by kernel_rfl
theorem b3_3_5 : allF (fun i => fin3 3 i) 25 5 = true := by kernel_rfl
theorem b3_4_0 : allF (fun i => fin3 4 i) 0 5 = true := by kernel_rfl
theorem b3_4_1 : allF (fun i => fin3 4 i) 5 5 = true := by kernel_rfl
theorem b3_4_2 : allF (fun i => fin3 4 i) 10 5 = true := by kernel_rfl
theorem b3_4_3 : allF (fun i => fin3 4 i) 15 5 = true := by kernel_rfl
theorem b3_4_4 : allF (fun i => fin3 4 i) 20 5 = true := by kernel_rfl
theorem b3_4_5 : allF (fun i => fin3 4 i) 25 5 = true := by kernel_rfl
end Go.Proofs.Ytbamfolinbehiaa
