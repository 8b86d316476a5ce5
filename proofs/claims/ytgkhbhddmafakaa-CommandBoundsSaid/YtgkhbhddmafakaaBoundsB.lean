/- CommandBounds' run: where it is cut. -/
import Derived.Test.YtgkhbhddmafakaaApartA
namespace Go.Proofs.Ytgkhbhddmafakaa
open Go.Sx
def tabY := tabs [(9, yes)]
noncomputable def callY (d : Nat) := callN Try.prog tabY (fun f => Nat.beq f 21 || Nat.beq f 27) 100000 d
noncomputable def bodyB : Code := match Try.f4.body with | some c => c | none => .skip
def stopK : Out → List Item
  | .stop k _ => k
  | _ => []
def ic (k : Int) : V := .v (.one (.int .i64 k))
def icu (k : Int) : V := .v (.one (.int .u8 k))
def icb (b : Bool) : V := .v (.one (.bool b))
noncomputable def runB (F : Nat) (k : List Item) (S : St) := run Try.prog (callY 8) (fun _ => false) Try.f4 0 F [] k S
noncomputable def runB1 (F : Nat) (x f w : Int) := runB F [.code bodyB] ⟨argSlots 0 [si .u8 x, si .u8 f, si .u8 w], [], [], []⟩
def has (t : Nat) (o : Out) : Nat := match o with
  | .stop _ S => match Sx.look S.sl t with
    | some _ => 1
    | none => 0
  | _ => 2
noncomputable def KB1 : List Item := stopK (runB1 6 0 0 0)
def TB1 (d : Int) (f w : Int) : St := ⟨[(1, si .u8 f), (2, si .u8 w), (6, icb false), (7, icu d), (8, ic 0), (9, ic 0)], [], [], []⟩
noncomputable def KB2 : List Item := stopK (runB 8 KB1 (TB1 3 0 0))
def cnt (d : Nat) : Bool := [6, 7, 8, 11].contains d
def plc2 (d : Nat) : Bool := [3, 4, 7, 8].contains d
def slt (d : Nat) : Bool := cnt d || Nat.beq d 4
def TB2 (d k : Nat) (w : Int) : St := ⟨[(2, si .u8 w), (6, icb false), (7, icu d), (8, ic 0), (9, ic 0), (10, icb (cnt d)), (11, icb (plc2 d)), (12, icb (slt d)), (13, ic k)], [], [], []⟩
def findF (p : Nat → Nat) : Nat → Nat → Nat
  | 0, F => F
  | n + 1, F => match p F with
    | 1 => F
    | _ => findF p n (F + 1)
end Go.Proofs.Ytgkhbhddmafakaa
