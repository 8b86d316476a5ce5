/- ItemsMakes: its run, up to the second loop. -/
import Derived.Test.YthhfokjikkmfhaaRec
namespace Go.Proofs.Ythhfokjikkmfhaa
open Go.ChangeShapes Go.WideShapes Go.ChangeAt Go.RowKit Go.Sx
noncomputable def body4 : Code := match Try.f4.body with | some c => c | none => .skip
noncomputable def runB (ls h : List Bool) (args : List V) := run Try.prog (callR 5) (fun _ => false) Try.f4 0 100000 ls [.code body4] ⟨argSlots 0 args, [], h, []⟩
noncomputable def L4 := loopN Try.prog 4 1
noncomputable def K4 : List Item := .code (.loop L4.1) :: L4.2
def one1 : V1 := .one (.int .i64 1)
def found0 : List (Int × V1) := [(1, one1), (2, one1), (3, one1), (4, one1), (7, one1), (11, one1)]
def T4 (x : Int) (h : List Bool) : St := ⟨[(2, iu x), (15, .v (.one (.mapr 0))), (66, ic 7), (67, ic 0)], [⟨true, .imap .u8 found0⟩], h, []⟩
end Go.Proofs.Ythhfokjikkmfhaa
