/- Nets: what is used everywhere. -/
import Derived.Test.YtjnnfehepbicfaaRows
import Derived.Test.YtjnnfehepbicfaaSxAJ
namespace Go.Proofs.Ytjnnfehepbicfaa
open Go.ChangeShapes Go.WideShapes Go.ChangeAt Go.RowKit Go.Sx
theorem own : ownKnob Try.prog.godebug = none := by kernel_rfl
theorem laidOut : laidOutB Try.prog = true := by kernel_rfl
noncomputable def body (f : Go.FuncId) : Go.Code := match Try.prog.funcs[f]? with
  | some fn => match fn.body with
    | some c => c
    | none => .skip
  | none => .skip
noncomputable def fnOf (f : Go.FuncId) : Go.Func := match Try.prog.funcs[f]? with
  | some fn => fn
  | none => default
def si (k : IntKind) (n : Int) : V := .v (.one (.sint k n))
def sb (b : Bool) : V := .v (.one (.sbool b))
def nl : V := .v (.one .nils)
def bsl (b n c : Nat) : V := .v (.one (.slice b (.c 0) 1 (.s n) (.s c)))
def rsl (b n c : Nat) : V := .v (.one (.slice b (.c 0) 3 (.s n) (.s c)))
abbrev Rw := List Int × List Int
abbrev Rws := List Rw
def k2 : List IntKind := [.i64, .i64]
def ri (l : List Int) : SB := ⟨false, .ints .u8 l⟩
def oi (l : List Int) : SB := ⟨true, .ints .u8 l⟩
def rr (l : Rws) : SB := ⟨false, .recB k2 l⟩
def orr (l : Rws) : SB := ⟨true, .recB k2 l⟩
/-- a net's block: how many nodes, and its row, in such a block -/
def nb (o : Bool) (N : Int) (b n c : Nat) : SB := ⟨o, .exp [.sint .i64 N, .slice b (.c 0) 3 (.s n) (.s c)]⟩
def np (b : Nat) : V := .v (.one (.ptr b (.c 0) 1 0))
def fl (b : Nat) : V := .v (.one (.ptr b (.c 0) 1 1))
def noEff : Go.FuncId → Bool := fun _ => false
noncomputable def call0 (d : Nat) := callN Try.prog (fun _ => none) noEff 100000 d
def efN : Go.FuncId → Bool := fun f => Nat.beq f 12 || Nat.beq f 15 || Nat.beq f 14 || Nat.beq f 13 || Nat.beq f 18 || Nat.beq f 35 || Nat.beq f 36 || Nat.beq f 38
theorem awake_run : isT (callN Try.prog (fun _ => none) efN 100000 14 19 [] [] (List.replicate 60 false)) = true := by kernel_rfl
end Go.Proofs.Ytjnnfehepbicfaa
