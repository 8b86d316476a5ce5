/- Tables: what each number is as an item, as the program and the document tell it; the chapter's examples come out. -/
import Derived.Test.YthhfokjikkmfhaaRows
import Derived.Test.YthhfokjikkmfhaaSxX
namespace Go.Proofs.Ythhfokjikkmfhaa
open Go.ChangeShapes Go.WideShapes Go.ChangeAt Go.RowKit Go.Sx

theorem own : ownKnob Try.prog.godebug = none := by kernel_rfl
theorem laidOut : laidOutB Try.prog = true := by kernel_rfl

def stackT (x : Int) : Int := [0, 16, 16, 16, 16, 16, 16, 16, 16, 4, 16, 16, 1].getD x.toNat 0
def blockT (x : Int) : Bool := [false, true, true, true, true, true, false, true, false, true, true, false, false].getD x.toNat false
def givesT (x : Int) : Int := [0, 1, 2, 3, 11, 5, 0, 7, 0, 9, 10, 0, 0].getD x.toNat 0
def nameT (x : Int) : List UInt8 := ([[], [100, 105, 114, 116], [115, 116, 111, 110, 101], [119, 111, 111, 100], [108, 101, 97, 102], [112, 108, 97, 110, 107], [115, 116, 105, 99, 107], [111, 114, 101], [105, 110, 103, 111, 116], [99, 104, 101, 115, 116], [116, 111, 114, 99, 104], [98, 101, 114, 114, 121], [112, 105, 99, 107]] : List (List UInt8)).getD x.toNat []
noncomputable def call0 (d : Nat) := callN Try.prog (fun _ => none) (fun _ => false) 100000 d
def gS (x : Int) : V := .v (.one (.sint .i64 (stackT x)))
def gB (x : Int) : V := .v (.one (.sbool (blockT x)))
def gG (x : Int) : V := .v (.one (.sint .u8 (givesT x)))
def gN (x : Int) : V := .v (.one (.sstr (nameT x)))
def tab := tabs [(11, yes), (10, byteTab gS), (9, byteTab gB), (8, byteTab gG), (14, byteTab gN), (17, byteTab gS), (18, byteTab gB), (19, byteTab gG), (20, byteTab gN)]
noncomputable def call (d : Nat) := callN Try.prog tab (fun _ => false) 100000 d
theorem awake_true : isT (call0 5 11 [] [] []) = true := by kernel_rfl
theorem c10a : allF (fun n => okV (gS n) (call0 5 10 [.v (.one (.int .u8 n))] [] [])) 0 64 = true := by kernel_rfl
theorem c10b : allF (fun n => okV (gS n) (call0 5 10 [.v (.one (.int .u8 n))] [] [])) 64 64 = true := by kernel_rfl
theorem c10c : allF (fun n => okV (gS n) (call0 5 10 [.v (.one (.int .u8 n))] [] [])) 128 64 = true := by kernel_rfl
theorem c10d : allF (fun n => okV (gS n) (call0 5 10 [.v (.one (.int .u8 n))] [] [])) 192 64 = true := by kernel_rfl
theorem c9a : allF (fun n => okV (gB n) (call0 5 9 [.v (.one (.int .u8 n))] [] [])) 0 64 = true := by kernel_rfl
theorem c9b : allF (fun n => okV (gB n) (call0 5 9 [.v (.one (.int .u8 n))] [] [])) 64 64 = true := by kernel_rfl
theorem c9c : allF (fun n => okV (gB n) (call0 5 9 [.v (.one (.int .u8 n))] [] [])) 128 64 = true := by kernel_rfl
theorem c9d : allF (fun n => okV (gB n) (call0 5 9 [.v (.one (.int .u8 n))] [] [])) 192 64 = true := by kernel_rfl
theorem c8a : allF (fun n => okV (gG n) (call0 5 8 [.v (.one (.int .u8 n))] [] [])) 0 64 = true := by kernel_rfl
theorem c8b : allF (fun n => okV (gG n) (call0 5 8 [.v (.one (.int .u8 n))] [] [])) 64 64 = true := by kernel_rfl
theorem c8c : allF (fun n => okV (gG n) (call0 5 8 [.v (.one (.int .u8 n))] [] [])) 128 64 = true := by kernel_rfl
theorem c8d : allF (fun n => okV (gG n) (call0 5 8 [.v (.one (.int .u8 n))] [] [])) 192 64 = true := by kernel_rfl
theorem c14a : allF (fun n => okV (gN n) (call0 5 14 [.v (.one (.int .u8 n))] [] [])) 0 64 = true := by kernel_rfl
theorem c14b : allF (fun n => okV (gN n) (call0 5 14 [.v (.one (.int .u8 n))] [] [])) 64 64 = true := by kernel_rfl
theorem c14c : allF (fun n => okV (gN n) (call0 5 14 [.v (.one (.int .u8 n))] [] [])) 128 64 = true := by kernel_rfl
theorem c14d : allF (fun n => okV (gN n) (call0 5 14 [.v (.one (.int .u8 n))] [] [])) 192 64 = true := by kernel_rfl
theorem c17a : allF (fun n => okV (gS n) (call0 5 17 [.v (.one (.int .u8 n))] [] [])) 0 64 = true := by kernel_rfl
theorem c17b : allF (fun n => okV (gS n) (call0 5 17 [.v (.one (.int .u8 n))] [] [])) 64 64 = true := by kernel_rfl
theorem c17c : allF (fun n => okV (gS n) (call0 5 17 [.v (.one (.int .u8 n))] [] [])) 128 64 = true := by kernel_rfl
theorem c17d : allF (fun n => okV (gS n) (call0 5 17 [.v (.one (.int .u8 n))] [] [])) 192 64 = true := by kernel_rfl
theorem c18a : allF (fun n => okV (gB n) (call0 5 18 [.v (.one (.int .u8 n))] [] [])) 0 64 = true := by kernel_rfl
theorem c18b : allF (fun n => okV (gB n) (call0 5 18 [.v (.one (.int .u8 n))] [] [])) 64 64 = true := by kernel_rfl
theorem c18c : allF (fun n => okV (gB n) (call0 5 18 [.v (.one (.int .u8 n))] [] [])) 128 64 = true := by kernel_rfl
theorem c18d : allF (fun n => okV (gB n) (call0 5 18 [.v (.one (.int .u8 n))] [] [])) 192 64 = true := by kernel_rfl
theorem c19a : allF (fun n => okV (gG n) (call0 5 19 [.v (.one (.int .u8 n))] [] [])) 0 64 = true := by kernel_rfl
theorem c19b : allF (fun n => okV (gG n) (call0 5 19 [.v (.one (.int .u8 n))] [] [])) 64 64 = true := by kernel_rfl
theorem c19c : allF (fun n => okV (gG n) (call0 5 19 [.v (.one (.int .u8 n))] [] [])) 128 64 = true := by kernel_rfl
theorem c19d : allF (fun n => okV (gG n) (call0 5 19 [.v (.one (.int .u8 n))] [] [])) 192 64 = true := by kernel_rfl
theorem c20a : allF (fun n => okV (gN n) (call0 5 20 [.v (.one (.int .u8 n))] [] [])) 0 64 = true := by kernel_rfl
theorem c20b : allF (fun n => okV (gN n) (call0 5 20 [.v (.one (.int .u8 n))] [] [])) 64 64 = true := by kernel_rfl
theorem c20c : allF (fun n => okV (gN n) (call0 5 20 [.v (.one (.int .u8 n))] [] [])) 128 64 = true := by kernel_rfl
theorem c20d : allF (fun n => okV (gN n) (call0 5 20 [.v (.one (.int .u8 n))] [] [])) 192 64 = true := by kernel_rfl
theorem tab_ok : ∀ f g, tab f = some g → TabOk Try.prog f g := tabs_ok fun x hx => by
  simp only [List.mem_cons, List.not_mem_nil, or_false] at hx
  rcases hx with rfl | rfl | rfl | rfl | rfl | rfl | rfl | rfl | rfl
  · exact yes_ok no_tabs awake_true
  · exact byteTab_ok no_tabs (allF_four c10a c10b c10c c10d)
  · exact byteTab_ok no_tabs (allF_four c9a c9b c9c c9d)
  · exact byteTab_ok no_tabs (allF_four c8a c8b c8c c8d)
  · exact byteTab_ok no_tabs (allF_four c14a c14b c14c c14d)
  · exact byteTab_ok no_tabs (allF_four c17a c17b c17c c17d)
  · exact byteTab_ok no_tabs (allF_four c18a c18b c18c c18d)
  · exact byteTab_ok no_tabs (allF_four c19a c19b c19c c19d)
  · exact byteTab_ok no_tabs (allF_four c20a c20b c20c c20d)
theorem u8_le {x : Int} (hx : (Lit.int .u8 x).wf = true) : 0 ≤ x ∧ x < 256 := by
  simp [Lit.wf, IntKind.min, IntKind.max, IntKind.signed, IntKind.bits] at hx
  omega
end Go.Proofs.Ythhfokjikkmfhaa
