/- TextBounds' run: where it is cut. TextBounds: its runs, by kind, field and number. -/
import Derived.Test.YtbamfolinbehiaaWf
namespace Go.Proofs.Ytbamfolinbehiaa
section
open Go.Sx
theorem be0 : (fun (l : List Int) (n c : Nat) => retV [0] (call0 4 12 [.v (.one (.slice 0 (.c 0) 1 (.s n) (.s c))), .v (.one .nils)] [roH l] [false])) = fun l n _ => some (((.v (.one (.sbool (List.map (fun (n : Int) ↦ UInt8.ofNat (Int.toNat n)) (List.take n (List.drop (0 : Nat) l)) == List.map (fun (n : Int) ↦ UInt8.ofNat (Int.toNat n)) [])))), ([(SB.mk false (.ints .u8 l))], [(0 : Nat) + n ≤ List.length l]))) := by kernel_rfl
theorem be1 : (fun (u : Nat) => retV [] (call0 4 12 [.v (.one .nils), .v (.one .nils)] [] [])) = fun (_ : Nat) => some (((V.v (V1.one (C.bool (true)))), ([], []))) := by kernel_rfl
def gCl0 : Sx.Loc := fun args bs => match args, bs with
  | [.v (.one (.slice 0 i 1 n _))], [⟨false, .ints .u8 l⟩] => match Nat.beq n.v 0 && Nat.ble i.v l.length with
    | true => some (.v (.one (.slice 1 (.c 0) 1 (.c 0) (.c 0))), [By.roB l, By.owB ((l.drop i.v).take 0)], [])
    | false => none
  | _, _ => none
def gBe0 : Sx.Loc := fun args bs => match args, bs with
  | [.v (.one (.slice 0 (.c 0) 1 n _)), .v (.one .nils)], [⟨false, .ints .u8 l⟩] => match Nat.beq n.v 0 with
    | true => some (.v (.one (.bool true)), [roH l], [])
    | false => none
  | [.v (.one .nils), .v (.one .nils)], [] => some (.v (.one (.bool true)), [], [])
  | _, _ => none
def wantBo : List V → List Want
  | [.v (.one .nils), _] => []
  | _ => [(false, .ints .u8)]
def tabBo := tabs [(30, loc By.wantRo gCl0), (12, loc wantBo gBe0), (9, yesT)]
def effBo : Go.FuncId → Bool := fun f => Nat.beq f 25 || Nat.beq f 26 || Nat.beq f 27
noncomputable def callBo (d : Nat) := callN Try.prog tabBo effBo 100000 d
noncomputable def fnBo : Go.Func := match Try.prog.funcs[3]? with | some fn => fn | none => default
noncomputable def bodyBo : Go.Code := match fnBo.body with | some c => c | none => .skip
def stopK : Out → List Item
  | .stop k _ => k
  | _ => []
def ic (k : Int) : V := .v (.one (.int .i64 k))
def icu (k : Int) : V := .v (.one (.int .u8 k))
def icb (b : Bool) : V := .v (.one (.bool b))
noncomputable def runBo (F : Nat) (k : List Item) (S : St) := run Try.prog (callBo 8) effBo fnBo 0 F [] k S
noncomputable def runB1 (F : Nat) (x f w : Int) := runBo F [.code bodyBo] ⟨argSlots 0 [si .u8 x, si .u8 f, si .u8 w], [], [], []⟩
noncomputable def KB1 : List Item := stopK (runB1 6 0 0 0)
def TB1 (k f : Int) (w : Int) : St := ⟨[(2, si .u8 w), (6, icb false), (7, icu k), (8, ic f)], [], [], []⟩
def has8 (t : Nat) (o : Out) : Nat := match o with
  | .stop _ S => match Sx.look S.sl t with
    | some _ => 1
    | none => 0
  | .done .. => 3
  | _ => 2
def findF (p : Nat → Nat) : Nat → Nat → Nat
  | 0, F => F
  | n + 1, F => match p F with
    | 1 => F
    | _ => findF p n (F + 1)
end
section
open Go.Sx
def hasB (k : Nat) : List Nat := [[1], [], [2], [0, 2, 3], [0, 1, 2], [2, 5], [0, 2, 3, 4], [5]].getD (k - 1) []
def hiB (k f : Nat) : Int := match (hasB k).contains f with
  | true => [1099511627776, 1073741824, 1099511627776, 1099511627776, 1099511627776, 255].getD f 0
  | false => 0
def nB (k f : Nat) : List Int := [-1, 0, 1, hiB k f, hiB k f + 1]
def FB (k : Nat) : Nat := [32, 16, 32, 64, 64, 48, 80, 32].getD (k - 1) 0
noncomputable def KB2 : List Item := stopK (runBo 32 KB1 (TB1 1 0 0))
def TB2 (k f : Nat) (n : Int) : St := ⟨[(6, icb false), (7, icu k), (8, ic f), (10, ic (hiB k f)), (13, ic n)], [], [], []⟩
def OB2 (w : Int) : List Prop := [(w.tmod 5).toNat < 5, 0 ≤ w.tmod 5, w.tmod 5 < 5]
def sl1 (x f w : Int) : Slots := [(2, si .u8 w), (6, icb false), (7, si .u8 (IntKind.wrap .u8 (x.tmod 8 + 1))), (8, si .i64 (f.tmod 6))]
def sl2 (k f : Nat) (w : Int) : Slots := [(6, icb false), (7, icu k), (8, ic f), (10, ic (hiB k f)), (13, si .i64 ((nB k f).getD (w.tmod 5).toNat 0))]
noncomputable def st2 (k f : Nat) (w : Int) := stopV [6, 7, 8, 10, 13] [] (runBo (FB k) KB1 (TB1 k f w))
def isO (o : Out) : Bool := match obsO o with
  | some [] => true
  | _ => false
theorem isO_spec {o : Out} (h : isO o = true) : obsO o = some [] := by
  unfold isO at h
  split at h
  · assumption
  · cases h
noncomputable def fin3 (k i : Nat) : Bool := isO (runBo 100000 KB2 (TB2 k (i / 5) ((nB k (i / 5)).getD (i % 5) 0)))
theorem b1 : (fun x f w : Int => stopV [2, 6, 7, 8] [] (runB1 6 x f w)) = fun x f w => some (KB1, sl1 x f w, [], [inK .i64 (f.tmod 6)]) := by kernel_rfl
theorem b2_1_0 : (fun w => st2 1 0 w) = fun w => some (KB2, sl2 1 0 w, [], OB2 w) := by kernel_rfl
theorem b2_1_1 : (fun w => st2 1 1 w) = fun w => some (KB2, sl2 1 1 w, [], OB2 w) := by kernel_rfl
theorem b2_1_2 : (fun w => st2 1 2 w) = fun w => some (KB2, sl2 1 2 w, [], OB2 w) := by kernel_rfl
theorem b2_1_3 : (fun w => st2 1 3 w) = fun w => some (KB2, sl2 1 3 w, [], OB2 w) := by kernel_rfl
theorem b2_1_4 : (fun w => st2 1 4 w) = fun w => some (KB2, sl2 1 4 w, [], OB2 w) := by kernel_rfl
theorem b2_1_5 : (fun w => st2 1 5 w) = fun w => some (KB2, sl2 1 5 w, [], OB2 w) := by kernel_rfl
theorem b2_2_0 : (fun w => st2 2 0 w) = fun w => some (KB2, sl2 2 0 w, [], OB2 w) := by kernel_rfl
theorem b2_2_1 : (fun w => st2 2 1 w) = fun w => some (KB2, sl2 2 1 w, [], OB2 w) := by kernel_rfl
theorem b2_2_2 : (fun w => st2 2 2 w) = fun w => some (KB2, sl2 2 2 w, [], OB2 w) := by kernel_rfl
theorem b2_2_3 : (fun w => st2 2 3 w) = fun w => some (KB2, sl2 2 3 w, [], OB2 w) := by kernel_rfl
theorem b2_2_4 : (fun w => st2 2 4 w) = fun w => some (KB2, sl2 2 4 w, [], OB2 w) := by kernel_rfl
theorem b2_2_5 : (fun w => st2 2 5 w) = fun w => some (KB2, sl2 2 5 w, [], OB2 w) := by kernel_rfl
theorem b2_3_0 : (fun w => st2 3 0 w) = fun w => some (KB2, sl2 3 0 w, [], OB2 w) := by kernel_rfl
theorem b2_3_1 : (fun w => st2 3 1 w) = fun w => some (KB2, sl2 3 1 w, [], OB2 w) := by kernel_rfl
theorem b2_3_2 : (fun w => st2 3 2 w) = fun w => some (KB2, sl2 3 2 w, [], OB2 w) := by kernel_rfl
theorem b2_3_3 : (fun w => st2 3 3 w) = fun w => some (KB2, sl2 3 3 w, [], OB2 w) := by kernel_rfl
theorem b2_3_4 : (fun w => st2 3 4 w) = fun w => some (KB2, sl2 3 4 w, [], OB2 w) := by kernel_rfl
theorem b2_3_5 : (fun w => st2 3 5 w) = fun w => some (KB2, sl2 3 5 w, [], OB2 w) := by kernel_rfl
theorem b2_4_0 : (fun w => st2 4 0 w) = fun w => some (KB2, sl2 4 0 w, [], OB2 w) := by kernel_rfl
theorem b2_4_1 : (fun w => st2 4 1 w) = fun w => some (KB2, sl2 4 1 w, [], OB2 w) := by kernel_rfl
theorem b2_4_2 : (fun w => st2 4 2 w) = fun w => some (KB2, sl2 4 2 w, [], OB2 w) := by kernel_rfl
theorem b2_4_3 : (fun w => st2 4 3 w) = fun w => some (KB2, sl2 4 3 w, [], OB2 w) := by kernel_rfl
theorem b2_4_4 : (fun w => st2 4 4 w) = fun w => some (KB2, sl2 4 4 w, [], OB2 w) := by kernel_rfl
theorem b2_4_5 : (fun w => st2 4 5 w) = fun w => some (KB2, sl2 4 5 w, [], OB2 w) := by kernel_rfl
theorem b2_5_0 : (fun w => st2 5 0 w) = fun w => some (KB2, sl2 5 0 w, [], OB2 w) := by kernel_rfl
theorem b2_5_1 : (fun w => st2 5 1 w) = fun w => some (KB2, sl2 5 1 w, [], OB2 w) := by kernel_rfl
theorem b2_5_2 : (fun w => st2 5 2 w) = fun w => some (KB2, sl2 5 2 w, [], OB2 w) := by kernel_rfl
theorem b2_5_3 : (fun w => st2 5 3 w) = fun w => some (KB2, sl2 5 3 w, [], OB2 w) := by kernel_rfl
theorem b2_5_4 : (fun w => st2 5 4 w) = fun w => some (KB2, sl2 5 4 w, [], OB2 w) := by kernel_rfl
theorem b2_5_5 : (fun w => st2 5 5 w) = fun w => some (KB2, sl2 5 5 w, [], OB2 w) := by kernel_rfl
theorem b2_6_0 : (fun w => st2 6 0 w) = fun w => some (KB2, sl2 6 0 w, [], OB2 w) := by kernel_rfl
theorem b2_6_1 : (fun w => st2 6 1 w) = fun w => some (KB2, sl2 6 1 w, [], OB2 w) := by kernel_rfl
theorem b2_6_2 : (fun w => st2 6 2 w) = fun w => some (KB2, sl2 6 2 w, [], OB2 w) := by kernel_rfl
theorem b2_6_3 : (fun w => st2 6 3 w) = fun w => some (KB2, sl2 6 3 w, [], OB2 w) := by kernel_rfl
theorem b2_6_4 : (fun w => st2 6 4 w) = fun w => some (KB2, sl2 6 4 w, [], OB2 w) := by kernel_rfl
theorem b2_6_5 : (fun w => st2 6 5 w) = fun w => some (KB2, sl2 6 5 w, [], OB2 w) := by kernel_rfl
theorem b2_7_0 : (fun w => st2 7 0 w) = fun w => some (KB2, sl2 7 0 w, [], OB2 w) := by kernel_rfl
theorem b2_7_1 : (fun w => st2 7 1 w) = fun w => some (KB2, sl2 7 1 w, [], OB2 w) := by kernel_rfl
theorem b2_7_2 : (fun w => st2 7 2 w) = fun w => some (KB2, sl2 7 2 w, [], OB2 w) := by kernel_rfl
theorem b2_7_3 : (fun w => st2 7 3 w) = fun w => some (KB2, sl2 7 3 w, [], OB2 w) := by kernel_rfl
theorem b2_7_4 : (fun w => st2 7 4 w) = fun w => some (KB2, sl2 7 4 w, [], OB2 w) := by kernel_rfl
theorem b2_7_5 : (fun w => st2 7 5 w) = fun w => some (KB2, sl2 7 5 w, [], OB2 w) := by kernel_rfl
theorem b2_8_0 : (fun w => st2 8 0 w) = fun w => some (KB2, sl2 8 0 w, [], OB2 w) := by kernel_rfl
theorem b2_8_1 : (fun w => st2 8 1 w) = fun w => some (KB2, sl2 8 1 w, [], OB2 w) := by kernel_rfl
theorem b2_8_2 : (fun w => st2 8 2 w) = fun w => some (KB2, sl2 8 2 w, [], OB2 w) := by kernel_rfl
theorem b2_8_3 : (fun w => st2 8 3 w) = fun w => some (KB2, sl2 8 3 w, [], OB2 w) := by kernel_rfl
theorem b2_8_4 : (fun w => st2 8 4 w) = fun w => some (KB2, sl2 8 4 w, [], OB2 w) := by kernel_rfl
theorem b2_8_5 : (fun w => st2 8 5 w) = fun w => some (KB2, sl2 8 5 w, [], OB2 w) := by kernel_rfl
theorem b2_all (w : Int) : ∀ k f, 1 ≤ k → k ≤ 8 → f < 6 → st2 k f w = some (KB2, sl2 k f w, [], OB2 w)
  | 0, _, h, _, _ => absurd h (by omega)
  | 1, 0, _, _, _ => congrFun b2_1_0 w
  | 1, 1, _, _, _ => congrFun b2_1_1 w
  | 1, 2, _, _, _ => congrFun b2_1_2 w
  | 1, 3, _, _, _ => congrFun b2_1_3 w
  | 1, 4, _, _, _ => congrFun b2_1_4 w
  | 1, 5, _, _, _ => congrFun b2_1_5 w
  | 2, 0, _, _, _ => congrFun b2_2_0 w
  | 2, 1, _, _, _ => congrFun b2_2_1 w
  | 2, 2, _, _, _ => congrFun b2_2_2 w
  | 2, 3, _, _, _ => congrFun b2_2_3 w
  | 2, 4, _, _, _ => congrFun b2_2_4 w
  | 2, 5, _, _, _ => congrFun b2_2_5 w
  | 3, 0, _, _, _ => congrFun b2_3_0 w
  | 3, 1, _, _, _ => congrFun b2_3_1 w
  | 3, 2, _, _, _ => congrFun b2_3_2 w
  | 3, 3, _, _, _ => congrFun b2_3_3 w
  | 3, 4, _, _, _ => congrFun b2_3_4 w
  | 3, 5, _, _, _ => congrFun b2_3_5 w
  | 4, 0, _, _, _ => congrFun b2_4_0 w
  | 4, 1, _, _, _ => congrFun b2_4_1 w
  | 4, 2, _, _, _ => congrFun b2_4_2 w
  | 4, 3, _, _, _ => congrFun b2_4_3 w
  | 4, 4, _, _, _ => congrFun b2_4_4 w
  | 4, 5, _, _, _ => congrFun b2_4_5 w
  | 5, 0, _, _, _ => congrFun b2_5_0 w
  | 5, 1, _, _, _ => congrFun b2_5_1 w
  | 5, 2, _, _, _ => congrFun b2_5_2 w
  | 5, 3, _, _, _ => congrFun b2_5_3 w
  | 5, 4, _, _, _ => congrFun b2_5_4 w
  | 5, 5, _, _, _ => congrFun b2_5_5 w
  | 6, 0, _, _, _ => congrFun b2_6_0 w
  | 6, 1, _, _, _ => congrFun b2_6_1 w
  | 6, 2, _, _, _ => congrFun b2_6_2 w
  | 6, 3, _, _, _ => congrFun b2_6_3 w
  | 6, 4, _, _, _ => congrFun b2_6_4 w
  | 6, 5, _, _, _ => congrFun b2_6_5 w
  | 7, 0, _, _, _ => congrFun b2_7_0 w
  | 7, 1, _, _, _ => congrFun b2_7_1 w
  | 7, 2, _, _, _ => congrFun b2_7_2 w
  | 7, 3, _, _, _ => congrFun b2_7_3 w
  | 7, 4, _, _, _ => congrFun b2_7_4 w
  | 7, 5, _, _, _ => congrFun b2_7_5 w
  | 8, 0, _, _, _ => congrFun b2_8_0 w
  | 8, 1, _, _, _ => congrFun b2_8_1 w
  | 8, 2, _, _, _ => congrFun b2_8_2 w
  | 8, 3, _, _, _ => congrFun b2_8_3 w
  | 8, 4, _, _, _ => congrFun b2_8_4 w
  | 8, 5, _, _, _ => congrFun b2_8_5 w
  | 1, _ + 6, _, _, h => absurd h (by omega)
  | 2, _ + 6, _, _, h => absurd h (by omega)
  | 3, _ + 6, _, _, h => absurd h (by omega)
  | 4, _ + 6, _, _, h => absurd h (by omega)
  | 5, _ + 6, _, _, h => absurd h (by omega)
  | 6, _ + 6, _, _, h => absurd h (by omega)
  | 7, _ + 6, _, _, h => absurd h (by omega)
  | 8, _ + 6, _, _, h => absurd h (by omega)
  | _ + 9, _, _, h, _ => absurd h (by omega)
end
end Go.Proofs.Ytbamfolinbehiaa
