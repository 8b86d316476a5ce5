/- BytesFixed's run. -/
import Derived.Test.YtjjjpflnhagfcaaFxL
import Derived.Test.YtjjjpflnhagfcaaSlZ
namespace Go.Proofs.Ytjjjpflnhagfcaa
open Go.Sx
def fxAll : List Int := [fxA0L, fxA1L, fxA2L, fxA3L, fxA4L, fxA5L, fxA6L, fxB0L, fxB1L, fxB2L, fxB3L, fxB4L, fxB5L, fxB6L, fxC0L, fxC1L, fxC2L, fxC3L, fxC4L, fxC5L, fxC6L, fxD0L, fxD1L, fxD2L, fxD3L, fxD4L, fxD5L, fxD6L, fxE0L, fxE1L, fxE2L, fxE3L, fxE4L, fxE5L, fxE6L, fxF0L, fxF1L, fxF2L, fxF3L, fxF4L, fxF5L, fxF6L, fxG0L, fxG1L, fxG2L, fxG3L, fxG4L, fxG5L, fxG6L, fxH0L, fxH1L, fxH2L, fxH3L, fxH4L, fxH5L, fxH6L].flatten
def vT : V := .v (.one (.bool true))
def tabX := tabs [(12, yes), (18, closedTab [.i64] (fxAll.map fun n => ([n], vT, []))), (17, loc frozen8 gUnseal)]
theorem fixRun : (fun (_x : Int) => obsOf (callN Try.prog tabX effU 100000 20 8 [] [] [true, true, true, true])) = fun (_x : Int) => some ([true = true, true = true, true = true, true = true, (4 : Nat) ≤ (4 : Nat), (4 : Nat) ≤ (1000000 : Nat), wf8 [(0 : Int), (0 : Int), (0 : Int), (0 : Int)], (4 : Nat) ≤ (4 : Nat), (4 : Nat) ≤ (1000000 : Nat), wf8 [(0 : Int), (0 : Int), (1 : Int), (0 : Int)], (3 : Nat) ≤ (3 : Nat), (3 : Nat) ≤ (1000000 : Nat), wf8 [(0 : Int), (0 : Int), (0 : Int)]]) := by kernel_rfl
end Go.Proofs.Ytjjjpflnhagfcaa
