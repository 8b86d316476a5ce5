/- What one round of the loop of ItemsStill comes to, and what is ahead of it and behind it. -/
import Derived.Test.YthhfokjikkmfhaaTabs
import Derived.Test.YthhfokjikkmfhaaSxZ
namespace Go.Proofs.Ythhfokjikkmfhaa
open Go.ChangeShapes Go.WideShapes Go.ChangeAt Go.RowKit Go.Sx

noncomputable def body5 : Code := match Try.f5.body with | some c => c | none => .skip
noncomputable def L5 : Code × List Item := loopN Try.prog 5 0
def ks5 : List Nat := [7, 8, 9, 10, 11, 12, 13, 1, 35, 36]
def sl5 (n a : C) (b : Nat) (ok : Bool) (e : C) (x t : Int) (i : C) : Slots :=
  [(7, .v (.one (.sint .u8 x))), (8, gS x), (9, gN x), (10, .v (.one a)), (11, .v (.one (.ptr b (.c 0) 1 0))), (12, .v (.one (.bool ok))),
    (13, .v (.one e)), (1, .v (.one n)), (35, .v (.one (.sint .i64 (1 + t.tmod 20)))), (36, .v (.one i))]
noncomputable def start5 (x t : Int) (n : C) (h : List Bool) : Out :=
  run Try.prog (call 5) (fun _ => false) Try.f5 0 100000 [false] [.code body5] ⟨argSlots 0 [.v (.one (.sint .u8 x)), .v (.one n), .v (.one (.sint .u8 t))], [], h, []⟩
noncomputable def round5 (S : St) : Out := run Try.prog (call 5) (fun _ => false) Try.f5 (L5.2.length + 1) 100000 [] (.code L5.1 :: .inLoop L5.1 :: L5.2) S
def obsI (t : Int) : List Prop := [inK .i64 (1 + t.tmod 20), inK .i64 (t.tmod 20), (20 : Int) ≠ 0]
def obsX (x : Int) : List Prop := [0 ≤ x ∧ x < 256, 0 ≤ x ∧ x < 256]
def obsA (x i : Int) : List Prop := [inK .i64 (i + 1), (!(nameT x == nameT x)) = false, 0 ≤ x ∧ x < 256, (!decide (stackT x = stackT x)) = false, 0 ≤ x ∧ x < 256]
def obsC (t i : Int) (b : Bool) : List Prop := [decide (i < 1 + t.tmod 20) = b]
def sli (b l : Nat) : C := .slice b (.c 0) 2 (.c l) (.c l)
def T5 (n : C) (l : Nat) (cs mk : List C) (x t i : Int) (h : List Bool) : St :=
  ⟨sl5 n (sli 0 l) 1 true (sli 2 l) x t (.sint .i64 i), [⟨true, .exp cs⟩, ⟨true, .exp mk⟩, ⟨true, .exp cs⟩], h, []⟩
def U5 (n : Int) (x t i : Int) (h : List Bool) : St :=
  ⟨sl5 (.sint .i64 n) .nils 0 false (sli 1 0) x t (.sint .i64 i), [⟨true, .exp [.int .u8 0, .int .i64 0]⟩, ⟨true, .exp []⟩], h, []⟩
def cs0 : List C := [.int .u8 3, .int .i64 1]
def mk0 : List C := [.int .u8 5, .int .i64 4]
theorem start5_0 : (fun x t => stopV ks5 [1, 9, 11] (start5 x t (.int .i64 0) [])) = fun x t => some (.code (.loop L5.1) :: L5.2, sl5 (.int .i64 0) (sli 1 1) 9 true (sli 11 1) x t (.int .i64 0), [⟨true, .exp cs0⟩, ⟨true, .exp mk0⟩, ⟨true, .exp cs0⟩], obsI t ++ obsX x) := by kernel_rfl
theorem round5_0 : (fun x t i => stopV ks5 [4, 1, 2] (round5 (T5 (.int .i64 0) 1 cs0 mk0 x t i [true, false, false]))) = fun x t i => some (.inLoop L5.1 :: L5.2, sl5 (.int .i64 0) (sli 4 1) 1 true (sli 2 1) x t (.sint .i64 (i + 1)), [⟨true, .exp cs0⟩, ⟨true, .exp mk0⟩, ⟨true, .exp cs0⟩], obsA x i ++ obsC t i true) := by kernel_rfl
theorem end5_0 : (fun x t i => obsO (round5 (T5 (.int .i64 0) 1 cs0 mk0 x t i [false]))) = fun _ t i => some (obsC t i false) := by kernel_rfl
def cs1 : List C := [.int .u8 5, .int .i64 2]
def mk1 : List C := [.int .u8 6, .int .i64 4]
theorem start5_1 : (fun x t => stopV ks5 [2, 9, 11] (start5 x t (.int .i64 1) [])) = fun x t => some (.code (.loop L5.1) :: L5.2, sl5 (.int .i64 1) (sli 2 1) 9 true (sli 11 1) x t (.int .i64 0), [⟨true, .exp cs1⟩, ⟨true, .exp mk1⟩, ⟨true, .exp cs1⟩], obsI t ++ obsX x) := by kernel_rfl
theorem round5_1 : (fun x t i => stopV ks5 [5, 1, 2] (round5 (T5 (.int .i64 1) 1 cs1 mk1 x t i [true, false, false]))) = fun x t i => some (.inLoop L5.1 :: L5.2, sl5 (.int .i64 1) (sli 5 1) 1 true (sli 2 1) x t (.sint .i64 (i + 1)), [⟨true, .exp cs1⟩, ⟨true, .exp mk1⟩, ⟨true, .exp cs1⟩], obsA x i ++ obsC t i true) := by kernel_rfl
theorem end5_1 : (fun x t i => obsO (round5 (T5 (.int .i64 1) 1 cs1 mk1 x t i [false]))) = fun _ t i => some (obsC t i false) := by kernel_rfl
def cs2 : List C := [.int .u8 5, .int .i64 8]
def mk2 : List C := [.int .u8 9, .int .i64 1]
theorem start5_2 : (fun x t => stopV ks5 [3, 9, 11] (start5 x t (.int .i64 2) [])) = fun x t => some (.code (.loop L5.1) :: L5.2, sl5 (.int .i64 2) (sli 3 1) 9 true (sli 11 1) x t (.int .i64 0), [⟨true, .exp cs2⟩, ⟨true, .exp mk2⟩, ⟨true, .exp cs2⟩], obsI t ++ obsX x) := by kernel_rfl
theorem round5_2 : (fun x t i => stopV ks5 [6, 1, 2] (round5 (T5 (.int .i64 2) 1 cs2 mk2 x t i [true, false, false]))) = fun x t i => some (.inLoop L5.1 :: L5.2, sl5 (.int .i64 2) (sli 6 1) 1 true (sli 2 1) x t (.sint .i64 (i + 1)), [⟨true, .exp cs2⟩, ⟨true, .exp mk2⟩, ⟨true, .exp cs2⟩], obsA x i ++ obsC t i true) := by kernel_rfl
theorem end5_2 : (fun x t i => obsO (round5 (T5 (.int .i64 2) 1 cs2 mk2 x t i [false]))) = fun _ t i => some (obsC t i false) := by kernel_rfl
def cs3 : List C := [.int .u8 6, .int .i64 1, .int .u8 7, .int .i64 1]
def mk3 : List C := [.int .u8 10, .int .i64 4]
theorem start5_3 : (fun x t => stopV ks5 [4, 9, 11] (start5 x t (.int .i64 3) [])) = fun x t => some (.code (.loop L5.1) :: L5.2, sl5 (.int .i64 3) (sli 4 2) 9 true (sli 11 2) x t (.int .i64 0), [⟨true, .exp cs3⟩, ⟨true, .exp mk3⟩, ⟨true, .exp cs3⟩], obsI t ++ obsX x) := by kernel_rfl
theorem round5_3 : (fun x t i => stopV ks5 [7, 1, 2] (round5 (T5 (.int .i64 3) 2 cs3 mk3 x t i [true, false, false]))) = fun x t i => some (.inLoop L5.1 :: L5.2, sl5 (.int .i64 3) (sli 7 2) 1 true (sli 2 2) x t (.sint .i64 (i + 1)), [⟨true, .exp cs3⟩, ⟨true, .exp mk3⟩, ⟨true, .exp cs3⟩], obsA x i ++ obsC t i true) := by kernel_rfl
theorem end5_3 : (fun x t i => obsO (round5 (T5 (.int .i64 3) 2 cs3 mk3 x t i [false]))) = fun _ t i => some (obsC t i false) := by kernel_rfl
def cs4 : List C := [.int .u8 7, .int .i64 1, .int .u8 3, .int .i64 1]
def mk4 : List C := [.int .u8 8, .int .i64 1]
theorem start5_4 : (fun x t => stopV ks5 [5, 9, 11] (start5 x t (.int .i64 4) [])) = fun x t => some (.code (.loop L5.1) :: L5.2, sl5 (.int .i64 4) (sli 5 2) 9 true (sli 11 2) x t (.int .i64 0), [⟨true, .exp cs4⟩, ⟨true, .exp mk4⟩, ⟨true, .exp cs4⟩], obsI t ++ obsX x) := by kernel_rfl
theorem round5_4 : (fun x t i => stopV ks5 [8, 1, 2] (round5 (T5 (.int .i64 4) 2 cs4 mk4 x t i [true, false, false]))) = fun x t i => some (.inLoop L5.1 :: L5.2, sl5 (.int .i64 4) (sli 8 2) 1 true (sli 2 2) x t (.sint .i64 (i + 1)), [⟨true, .exp cs4⟩, ⟨true, .exp mk4⟩, ⟨true, .exp cs4⟩], obsA x i ++ obsC t i true) := by kernel_rfl
theorem end5_4 : (fun x t i => obsO (round5 (T5 (.int .i64 4) 2 cs4 mk4 x t i [false]))) = fun _ t i => some (obsC t i false) := by kernel_rfl
def cs5 : List C := [.int .u8 6, .int .i64 2, .int .u8 8, .int .i64 3]
def mk5 : List C := [.int .u8 12, .int .i64 1]
theorem start5_5 : (fun x t => stopV ks5 [6, 9, 11] (start5 x t (.int .i64 5) [])) = fun x t => some (.code (.loop L5.1) :: L5.2, sl5 (.int .i64 5) (sli 6 2) 9 true (sli 11 2) x t (.int .i64 0), [⟨true, .exp cs5⟩, ⟨true, .exp mk5⟩, ⟨true, .exp cs5⟩], obsI t ++ obsX x) := by kernel_rfl
theorem round5_5 : (fun x t i => stopV ks5 [9, 1, 2] (round5 (T5 (.int .i64 5) 2 cs5 mk5 x t i [true, false, false]))) = fun x t i => some (.inLoop L5.1 :: L5.2, sl5 (.int .i64 5) (sli 9 2) 1 true (sli 2 2) x t (.sint .i64 (i + 1)), [⟨true, .exp cs5⟩, ⟨true, .exp mk5⟩, ⟨true, .exp cs5⟩], obsA x i ++ obsC t i true) := by kernel_rfl
theorem end5_5 : (fun x t i => obsO (round5 (T5 (.int .i64 5) 2 cs5 mk5 x t i [false]))) = fun _ t i => some (obsC t i false) := by kernel_rfl
def cs6 : List C := [.int .u8 2, .int .i64 4, .int .u8 1, .int .i64 1]
def mk6 : List C := [.int .u8 7, .int .i64 1]
theorem start5_6 : (fun x t => stopV ks5 [7, 9, 11] (start5 x t (.int .i64 6) [])) = fun x t => some (.code (.loop L5.1) :: L5.2, sl5 (.int .i64 6) (sli 7 2) 9 true (sli 11 2) x t (.int .i64 0), [⟨true, .exp cs6⟩, ⟨true, .exp mk6⟩, ⟨true, .exp cs6⟩], obsI t ++ obsX x) := by kernel_rfl
theorem round5_6 : (fun x t i => stopV ks5 [10, 1, 2] (round5 (T5 (.int .i64 6) 2 cs6 mk6 x t i [true, false, false]))) = fun x t i => some (.inLoop L5.1 :: L5.2, sl5 (.int .i64 6) (sli 10 2) 1 true (sli 2 2) x t (.sint .i64 (i + 1)), [⟨true, .exp cs6⟩, ⟨true, .exp mk6⟩, ⟨true, .exp cs6⟩], obsA x i ++ obsC t i true) := by kernel_rfl
theorem end5_6 : (fun x t i => obsO (round5 (T5 (.int .i64 6) 2 cs6 mk6 x t i [false]))) = fun _ t i => some (obsC t i false) := by kernel_rfl
def obNeg (n : Int) : List Prop := [decide (n < 0) = true]
theorem start5Neg : (fun x t n => stopV ks5 [0, 2] (start5 x t (.sint .i64 n) [true])) = fun x t n => some (.code (.loop L5.1) :: L5.2, sl5 (.sint .i64 n) .nils 0 false (sli 2 0) x t (.int .i64 0), [⟨true, .exp [.int .u8 0, .int .i64 0]⟩, ⟨true, .exp []⟩], obsI t ++ (obNeg n ++ obsX x)) := by kernel_rfl
theorem round5Neg : (fun x t n i => stopV ks5 [0, 1] (round5 (U5 n x t i ([true] ++ [true] ++ [false, false])))) = fun x t n i => some (.inLoop L5.1 :: L5.2, sl5 (.sint .i64 n) .nils 0 false (sli 1 0) x t (.sint .i64 (i + 1)), [⟨true, .exp [.int .u8 0, .int .i64 0]⟩, ⟨true, .exp []⟩], obsA x i ++ (obNeg n ++ obsC t i true)) := by kernel_rfl
def obPos (n : Int) : List Prop := [decide (7 ≤ n) = true, decide (n < 0) = false]
theorem start5Pos : (fun x t n => stopV ks5 [0, 2] (start5 x t (.sint .i64 n) [false, true])) = fun x t n => some (.code (.loop L5.1) :: L5.2, sl5 (.sint .i64 n) .nils 0 false (sli 2 0) x t (.int .i64 0), [⟨true, .exp [.int .u8 0, .int .i64 0]⟩, ⟨true, .exp []⟩], obsI t ++ (obPos n ++ obsX x)) := by kernel_rfl
theorem round5Pos : (fun x t n i => stopV ks5 [0, 1] (round5 (U5 n x t i ([true] ++ [false, true] ++ [false, false])))) = fun x t n i => some (.inLoop L5.1 :: L5.2, sl5 (.sint .i64 n) .nils 0 false (sli 1 0) x t (.sint .i64 (i + 1)), [⟨true, .exp [.int .u8 0, .int .i64 0]⟩, ⟨true, .exp []⟩], obsA x i ++ (obPos n ++ obsC t i true)) := by kernel_rfl
theorem end5U : (fun x t n i => obsO (round5 (U5 n x t i [false]))) = fun _ t _ i => some (obsC t i false) := by kernel_rfl
end Go.Proofs.Ythhfokjikkmfhaa
