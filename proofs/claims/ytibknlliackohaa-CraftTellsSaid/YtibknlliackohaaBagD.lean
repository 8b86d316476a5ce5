/- What bags are made of: plain functions, and the forms of the contracts. -/
import Derived.Test.YtibknlliackohaaRows
import Derived.Test.YtibknlliackohaaSxAG
namespace Go.Proofs.Ytibknlliackohaa
open Go.ChangeShapes Go.WideShapes Go.ChangeAt Go.RowKit Go.Sx
theorem own : ownKnob Try.prog.godebug = none := by kernel_rfl
theorem laidOut : laidOutB Try.prog = true := by kernel_rfl
def stackT (x : Int) : Int := [0, 16, 16, 16, 16, 16, 16, 16, 16, 4, 16, 16, 1].getD x.toNat 0
def gS (x : Int) : V := .v (.one (.sint .i64 (stackT x)))
def si (k : IntKind) (n : Int) : V := .v (.one (.sint k n))
def ks2 : List IntKind := [.u8, .i64]
abbrev Rows2 := List (List Int)
def sl (b n c : Nat) : V := .v (.one (.slice b (.c 0) 2 (.s n) (.s c)))
def ro (l : Rows2) : SB := ⟨false, .recs [.u8, .i64] l⟩
def ow (l : Rows2) : SB := ⟨true, .recs [.u8, .i64] l⟩
def it (r : List Int) : Int := r.getD 0 0
def nn (r : List Int) : Int := r.getD 1 0
def okR (r : List Int) : Bool := (decide (it r = 0) && decide (nn r = 0)) || (decide (1 ≤ nn r) && decide (nn r ≤ stackT (it r)))
def i64 (n : Int) : Prop := -9223372036854775808 ≤ n ∧ n ≤ 9223372036854775807
def wfR (r : List Int) : Prop := r.length = 2 ∧ (0 ≤ it r ∧ it r < 256) ∧ (-9223372036854775808 ≤ nn r ∧ nn r ≤ 9223372036854775807)
def wfL (l : Rows2) : Prop := (∀ r ∈ l, wfR r) ∧ l.length ≤ 400
def badI : Rows2 → Int → Int
  | [], _ => -1
  | r :: t, i => if okR r then badI t (i + 1) else i
def cntR (i : Int) (r : List Int) : Int := if i = 0 then 0 else if it r = i then (if nn r < 0 then 0 else nn r) else 0
def cnt (i : Int) : Rows2 → Int
  | [] => 0
  | r :: t => cntR i r + cnt i t
def roomR (i : Int) (r : List Int) : Int := if nn r = 0 then stackT i else if it r = i then stackT i - nn r else 0
def room (i : Int) : Rows2 → Int
  | [] => 0
  | r :: t => roomR i r + room i t
def amt (p : List Int → Bool) (size : Int) (r : List Int) (n : Int) : Int := if p r = true ∧ 0 < (if n < size - nn r then n else size - nn r) then (if n < size - nn r then n else size - nn r) else 0
def putR (p : List Int → Bool) (i size : Int) (r : List Int) (n : Int) : List Int := if amt p size r n = 0 then r else [i, nn r + amt p size r n]
def fill (p : List Int → Bool) (i size : Int) : Rows2 → Int → Rows2 × Int
  | [], n => ([], n)
  | r :: t, n => (putR p i size r n :: (fill p i size t (n - amt p size r n)).1, (fill p i size t (n - amt p size r n)).2)
def pA (i : Int) : List Int → Bool := fun r => decide (it r = i)
def pB : List Int → Bool := fun r => decide (nn r = 0)
def putS (l : Rows2) (i n : Int) : Rows2 × Int :=
  if n < 1 then (l, 0) else if stackT i = 0 ∨ l.all okR = false then (l, n) else
    fill pB i (stackT i) (fill (pA i) i (stackT i) l n).1 (fill (pA i) i (stackT i) l n).2
def lessR (r : List Int) (s : Int) : List Int := if nn r - s = 0 then [0, 0] else r.set 1 (nn r - s)
def takeS (l : Rows2) (a n : Int) : Rows2 × (Int × Int) × Int :=
  if a < 0 ∨ l.length ≤ a ∨ l.all okR = false then (l, (0, 0), 103) else if n < 1 then (l, (0, 0), 111) else if nn (l.getD a.toNat []) < n then (l, (0, 0), 105) else
    (l.set a.toNat (lessR (l.getD a.toNat []) n), (it (l.getD a.toNat []), n), 0)
def mn (a b : Int) : Int := if b < a then b else a
/-- from the end on -/
def spend (i : Int) : Rows2 → Int → Rows2 × Int
  | [], n => ([], n)
  | r :: t, n => if 0 < (spend i t n).2 ∧ it r = i then (lessR r (mn (nn r) (spend i t n).2) :: (spend i t n).1, (spend i t n).2 - mn (nn r) (spend i t n).2) else (r :: (spend i t n).1, (spend i t n).2)
def spendS (l : Rows2) (i n : Int) : Rows2 × Int :=
  if l.all okR = false then (l, 103) else if n < 1 then (l, 111) else if cnt i l < n then (l, 105) else ((spend i l n).1, 0)
def putAll (cur : Rows2) : Rows2 → Option Rows2
  | [] => some cur
  | r :: t => if 0 < (putS cur (it r) (nn r)).2 then none else putAll (putS cur (it r) (nn r)).1 t
def allS (l more : Rows2) : Rows2 × Int :=
  if l.all okR = false ∨ more.all okR = false then (l, 103) else match putAll l more with
    | some m => (m, 0)
    | none => (l, 104)
def tup2 (b n : Nat) (e : Int) : V := .tup [.one (.slice b (.c 0) 2 (.s n) (.s n)), .one (.sint .i64 e)]
def tup3 (b n : Nat) (s : Int × Int) (e : Int) : V := .tup [.one (.slice b (.c 0) 2 (.s n) (.s n)), .agg [.sint .u8 s.1, .sint .i64 s.2], .one (.sint .i64 e)]

/-! ### the contracts' forms -/
def isK2 (ks : List IntKind) : Bool := decide (ks = [.u8, .i64])
/-- of one bag -/
def one2 (g : Rows2 → Option (V × List SB × List Prop)) : Sx.Loc := fun args bs => match args, bs with
  | [.v (.one (.slice 0 (.c 0) 2 (.s n) (.s _)))], [⟨false, .recs ks l⟩] => match isK2 ks, g l with
    | true, some (v, bs', ob) => some (v, ro l :: bs', (n = l.length) :: wfL l :: ob)
    | _, _ => none
  | _, _ => none
/-- of one bag, and an item's number -/
def one2i (g : Rows2 → Int → Option (V × List SB × List Prop)) : Sx.Loc := fun args bs => match args, bs with
  | [.v (.one (.slice 0 (.c 0) 2 (.s n) (.s _))), .v (.one (.sint .u8 i))], [⟨false, .recs ks l⟩] => match isK2 ks, g l i with
    | true, some (v, bs', ob) => some (v, ro l :: bs', (n = l.length) :: wfL l :: (0 ≤ i ∧ i < 256) :: ob)
    | _, _ => none
  | _, _ => none
/-- of one bag, an item and a count -/
def one2ii (g : Rows2 → Int → Int → Option (V × List SB × List Prop)) : Sx.Loc := fun args bs => match args, bs with
  | [.v (.one (.slice 0 (.c 0) 2 (.s n) (.s _))), .v (.one (.sint .u8 i)), .v (.one (.sint .i64 a))], [⟨false, .recs ks l⟩] => match isK2 ks, g l i a with
    | true, some (v, bs', ob) => some (v, ro l :: bs', (n = l.length) :: wfL l :: (0 ≤ i ∧ i < 256) :: i64 a :: ob)
    | _, _ => none
  | _, _ => none
/-- of one bag, a place and a count -/
def one2nn (g : Rows2 → Int → Int → Option (V × List SB × List Prop)) : Sx.Loc := fun args bs => match args, bs with
  | [.v (.one (.slice 0 (.c 0) 2 (.s n) (.s _))), .v (.one (.sint .i64 i)), .v (.one (.sint .i64 a))], [⟨false, .recs ks l⟩] => match isK2 ks, g l i a with
    | true, some (v, bs', ob) => some (v, ro l :: bs', (n = l.length) :: wfL l :: i64 i :: i64 a :: ob)
    | _, _ => none
  | _, _ => none
/-- of two bags -/
def two2 (g : Rows2 → Rows2 → Option (V × List SB × List Prop)) : Sx.Loc := fun args bs => match args, bs with
  | [.v (.one (.slice 0 (.c 0) 2 (.s n) (.s _))), .v (.one (.slice 1 (.c 0) 2 (.s m) (.s _)))], [⟨false, .recs ks l⟩, ⟨false, .recs ks' k⟩] => match isK2 ks, isK2 ks', g l k with
    | true, true, some (v, bs', ob) => some (v, ro l :: ro k :: bs', (n = l.length) :: (m = k.length) :: wfL l :: wfL k :: ob)
    | _, _, _ => none
  | _, _ => none
def w1 : List V → List Want := fun _ => [(false, .recs [.u8, .i64])]
def w2 : List V → List Want := fun _ => [(false, .recs [.u8, .i64]), (false, .recs [.u8, .i64])]
def gRight (l : Rows2) : Option (V × List SB × List Prop) := some (.v (.one (.sbool (l.all okR))), [], [])
def gCount (l : Rows2) (i : Int) : Option (V × List SB × List Prop) := some (si .i64 (cnt i l), [], [l.all okR = true])
def gRoom (l : Rows2) (i : Int) : Option (V × List SB × List Prop) := some (si .i64 (room i l), [], [l.all okR = true])
def gSame (l k : Rows2) : Option (V × List SB × List Prop) := some (.v (.one (.sbool (decide (l = k)))), [], [])
def gPut (l : Rows2) (i n : Int) : Option (V × List SB × List Prop) := some (tup2 1 l.length (putS l i n).2, [ow (putS l i n).1], [])
def gSpend (l : Rows2) (i n : Int) : Option (V × List SB × List Prop) := some (tup2 1 l.length (spendS l i n).2, [ow (spendS l i n).1], [])
def gTake (l : Rows2) (a n : Int) : Option (V × List SB × List Prop) := some (tup3 1 l.length (takeS l a n).2.1 (takeS l a n).2.2, [ow (takeS l a n).1], [])
def gAll (l more : Rows2) : Option (V × List SB × List Prop) := some (tup2 2 l.length (allS l more).2, [ow (allS l more).1], [])
def gFits (l more : Rows2) : Option (V × List SB × List Prop) := some (.v (.one (.sbool (decide ((allS l more).2 = 0)))), [], [])
def gIdx : Sx.Loc := fun args bs => match args, bs with
  | [.v (.one (.slice 0 (.c 0) 2 (.s n) (.s _))), .v (.one (.clos f []))], [⟨false, .recs ks l⟩] => match isK2 ks && Nat.beq f 42 with
    | true => some (si .i64 (badI l 0), [ro l], [n = l.length, wfL l])
    | _ => none
  | _, _ => none
/-- what may be filled: those that have the same (closure 37), those that are empty -/
def gFill : Sx.Loc := fun args bs => match args, bs with
  | [.v (.one (.clos f [0])), .v (.one (.ptr 1 (.c 0) 1 0)), .v (.one (.ptr 2 (.c 0) 1 0)), .v (.one (.ptr 3 (.c 0) 1 0)), .v (.one (.ptr 0 (.c 0) 1 0))],
    [⟨false, .exp [.sint .u8 i]⟩, ⟨false, .exp [.slice 4 (.c 0) 2 (.s m) (.s c)]⟩, ⟨false, .exp [.sint .i64 size]⟩, ⟨true, .exp [.sint .i64 n]⟩, ⟨true, .recs ks l⟩] => match isK2 ks && Nat.beq f 37 with
    | true => some (.tup [], [⟨false, .exp [.sint .u8 i]⟩, ⟨false, .exp [.slice 4 (.c 0) 2 (.s m) (.s c)]⟩, ⟨false, .exp [.sint .i64 size]⟩, ⟨true, .exp [.sint .i64 (fill (pA i) i size l n).2]⟩, ow (fill (pA i) i size l n).1],
      [m = l.length, l.length ≤ 400, 0 ≤ n, i64 n, 0 ≤ size ∧ size ≤ 16, ∀ r ∈ l, 0 ≤ nn r ∧ nn r ≤ 16])
    | _ => none
  | [.v (.one (.clos f [])), .v (.one (.ptr 0 (.c 0) 1 0)), .v (.one (.ptr 1 (.c 0) 1 0)), .v (.one (.ptr 2 (.c 0) 1 0)), .v (.one (.ptr 3 (.c 0) 1 0))],
    [⟨false, .exp [.slice 4 (.c 0) 2 (.s m) (.s c)]⟩, ⟨false, .exp [.sint .i64 size]⟩, ⟨true, .exp [.sint .i64 n]⟩, ⟨false, .exp [.sint .u8 i]⟩, ⟨true, .recs ks l⟩] => match isK2 ks && Nat.beq f 38 with
    | true => some (.tup [], [⟨false, .exp [.slice 4 (.c 0) 2 (.s m) (.s c)]⟩, ⟨false, .exp [.sint .i64 size]⟩, ⟨true, .exp [.sint .i64 (fill pB i size l n).2]⟩, ⟨false, .exp [.sint .u8 i]⟩, ow (fill pB i size l n).1],
      [m = l.length, l.length ≤ 400, 0 ≤ n, i64 n, 0 ≤ size ∧ size ≤ 16, ∀ r ∈ l, 0 ≤ nn r ∧ nn r ≤ 16])
    | _ => none
  | _, _ => none
def wFill : List V → List Want
  | .v (.one (.clos _ [_])) :: _ => [(false, .any), (false, .any), (false, .any), (true, .any), (true, .recs [.u8, .i64])]
  | _ => [(false, .any), (false, .any), (true, .any), (false, .any), (true, .recs [.u8, .i64])]
noncomputable def body (f : FuncId) : Code := match Try.prog.funcs[f]? with | some fn => (match fn.body with | some c => c | none => .skip) | none => .skip
def cloneN : FuncId := 23
def ixN : FuncId := 39
end Go.Proofs.Ytibknlliackohaa
