/- Div64's code: its runs. A division of two digits by one number: the loop that corrects a digit, in plain numbers. bits.Div64 of some numbers: the contract. less: its runs. less and root: the contracts. -/
import Derived.Test.YtbamfolinbehiaaRows
import Derived.Test.YtbamfolinbehiaaSxAH
namespace Go.Proofs.Ytbamfolinbehiaa
section
open Go.Sx
theorem own : ownKnob Try.prog.godebug = none := by kernel_rfl
theorem laidOut : laidOutB Try.prog = true := by kernel_rfl
noncomputable def call0 (d : Nat) := callN Try.prog (fun _ => none) (fun _ => false) 100000 d
def si (k : IntKind) (n : Int) : V := .v (.one (.sint k n))
noncomputable def bodyF (f : Go.FuncId) : Go.Code := match Try.prog.funcs[f]? with | some fn => (match fn.body with | some c => c | none => .skip) | none => .skip
def lenL : List UInt8 := List.append (List.append [0, 1, 2, 2, 3, 3, 3, 3, 4, 4, 4, 4, 4, 4, 4, 4, 5, 5, 5, 5, 5, 5, 5, 5, 5, 5, 5, 5, 5, 5, 5, 5, 6, 6, 6, 6, 6, 6, 6, 6, 6, 6, 6, 6, 6, 6, 6, 6, 6, 6, 6, 6, 6, 6, 6, 6, 6, 6, 6, 6, 6, 6, 6, 6] (List.replicate 64 7)) (List.replicate 128 8)
def lenT (n : Nat) : Int := ((UInt8.toNat (List.getD lenL n 0) : Nat) : Int)
def gLz : List Int → V × List SB × List Prop
 | [x] => (si .i64 (32 - lenT (Int.toNat (x.tdiv 4294967296))), [], [4294967296 ≤ x, x < 1099511627776])
 | _ => (.tup [], [], [False])
def tabZ := tabs [(75, numTab [.u64] gLz)]
noncomputable def callZ (d : Nat) := callN Try.prog tabZ (fun _ => false) 100000 d
noncomputable def FD : Go.Func := match Try.prog.funcs[74]? with | some fn => fn | none => default
noncomputable def L1D := loopN Try.prog 74 0
noncomputable def L2D := loopN Try.prog 74 1
noncomputable def E1D : List Item := .code (.loop L1D.1) :: L1D.2
noncomputable def K1D : List Item := .inLoop L1D.1 :: L1D.2
noncomputable def E2D : List Item := .code (.loop L2D.1) :: L2D.2
noncomputable def K2D : List Item := .inLoop L2D.1 :: L2D.2
def T1D (y s y1 y0 u u1 u0 q r : Int) (h : List Bool) : St := ⟨[(2, si .u64 y), (8, si .u64 s), (9, si .u64 y1), (10, si .u64 y0), (11, si .u64 u), (13, si .u64 u1), (14, si .u64 u0), (15, si .u64 q), (16, si .u64 r)], [], h, []⟩
def T2D (y s y1 y0 u0 q1 v q r : Int) (h : List Bool) : St := ⟨[(2, si .u64 y), (8, si .u64 s), (9, si .u64 y1), (10, si .u64 y0), (14, si .u64 u0), (15, si .u64 q1), (17, si .u64 v), (18, si .u64 q), (16, si .u64 r)], [], h, []⟩
noncomputable def run1D (lim : Nat) (ls h : List Bool) (y s y1 y0 u u1 u0 q r : Int) := run Try.prog (callZ 4) (fun _ => false) FD lim 100000 ls (.code L1D.1 :: .inLoop L1D.1 :: L1D.2) (T1D y s y1 y0 u u1 u0 q r h)
noncomputable def run2D (lim : Nat) (h : List Bool) (y s y1 y0 u0 q1 v q r : Int) := run Try.prog (callZ 4) (fun _ => false) FD lim 100000 [] (.code L2D.1 :: .inLoop L2D.1 :: L2D.2) (T2D y s y1 y0 u0 q1 v q r h)
theorem dvA : (fun hi lo y : Int => retV [] (callZ 4 74 [si .u64 hi, si .u64 lo, si .u64 y] [] [false, false, true])) = fun (hi : Int) (lo : Int) (y : Int) => some (V.tup [V1.one (C.sint .u64 (Int.tdiv lo y)), V1.one (C.sint .u64 (Int.tmod lo y))], ([], [y ≠ 0, y ≠ 0, 0 ≤ Int.tdiv lo y ∧ Int.tdiv lo y ≤ 18446744073709551615, decide (hi = 0) = true, decide (y ≤ hi) = false, decide (y = 0) = false])) := by kernel_rfl
theorem dvE : (fun hi lo y : Int => stopV [2, 8, 9, 10, 11, 13, 14, 15, 16] [] (run Try.prog (callZ 4) (fun _ => false) FD 0 100000 [false] [.code (bodyF 74)] ⟨argSlots 0 [si .u64 hi, si .u64 lo, si .u64 y], [], [false, false, false], []⟩)) = fun (hi : Int) (lo : Int) (y : Int) => some (E1D, ([(2, V.v (V1.one (C.sint .u64 (IntKind.wrap .u64 (y * 2 ^ if Int.toNat (IntKind.wrap .u64 (32 - lenT (Int.toNat (Int.tdiv y (OfNat.ofNat 4294967296))))) ≤ 64 then Int.toNat (IntKind.wrap .u64 (32 - lenT (Int.toNat (Int.tdiv y (OfNat.ofNat 4294967296))))) else 64))))), (8, V.v (V1.one (C.sint .u64 (IntKind.wrap .u64 (32 - lenT (Int.toNat (Int.tdiv y (OfNat.ofNat 4294967296)))))))), (9, V.v (V1.one (C.sint .u64 (Int.fdiv (IntKind.wrap .u64 (y * 2 ^ if Int.toNat (IntKind.wrap .u64 (32 - lenT (Int.toNat (Int.tdiv y (OfNat.ofNat 4294967296))))) ≤ 64 then Int.toNat (IntKind.wrap .u64 (32 - lenT (Int.toNat (Int.tdiv y (OfNat.ofNat 4294967296))))) else 64)) 4294967296)))), (10, V.v (V1.one (C.sint .u64 (Go.bits Go.BinOp.and .u64 (IntKind.wrap .u64 (y * 2 ^ if Int.toNat (IntKind.wrap .u64 (32 - lenT (Int.toNat (Int.tdiv y (OfNat.ofNat 4294967296))))) ≤ 64 then Int.toNat (IntKind.wrap .u64 (32 - lenT (Int.toNat (Int.tdiv y (OfNat.ofNat 4294967296))))) else 64)) 4294967295)))), (11, V.v (V1.one (C.sint .u64 (Go.bits Go.BinOp.or .u64 (IntKind.wrap .u64 (hi * 2 ^ if Int.toNat (IntKind.wrap .u64 (32 - lenT (Int.toNat (Int.tdiv y (OfNat.ofNat 4294967296))))) ≤ 64 then Int.toNat (IntKind.wrap .u64 (32 - lenT (Int.toNat (Int.tdiv y (OfNat.ofNat 4294967296))))) else 64)) (Int.fdiv lo (2 ^ if Int.toNat (IntKind.wrap .u64 (64 - IntKind.wrap .u64 (32 - lenT (Int.toNat (Int.tdiv y (OfNat.ofNat 4294967296)))))) ≤ 64 then Int.toNat (IntKind.wrap .u64 (64 - IntKind.wrap .u64 (32 - lenT (Int.toNat (Int.tdiv y (OfNat.ofNat 4294967296)))))) else 64)))))), (13, V.v (V1.one (C.sint .u64 (Int.fdiv (IntKind.wrap .u64 (lo * 2 ^ if Int.toNat (IntKind.wrap .u64 (32 - lenT (Int.toNat (Int.tdiv y (OfNat.ofNat 4294967296))))) ≤ 64 then Int.toNat (IntKind.wrap .u64 (32 - lenT (Int.toNat (Int.tdiv y (OfNat.ofNat 4294967296))))) else 64)) 4294967296)))), (14, V.v (V1.one (C.sint .u64 (Go.bits Go.BinOp.and .u64 (IntKind.wrap .u64 (lo * 2 ^ if Int.toNat (IntKind.wrap .u64 (32 - lenT (Int.toNat (Int.tdiv y (OfNat.ofNat 4294967296))))) ≤ 64 then Int.toNat (IntKind.wrap .u64 (32 - lenT (Int.toNat (Int.tdiv y (OfNat.ofNat 4294967296))))) else 64)) 4294967295)))), (15, V.v (V1.one (C.sint .u64 (Int.tdiv (Go.bits Go.BinOp.or .u64 (IntKind.wrap .u64 (hi * 2 ^ if Int.toNat (IntKind.wrap .u64 (32 - lenT (Int.toNat (Int.tdiv y (OfNat.ofNat 4294967296))))) ≤ 64 then Int.toNat (IntKind.wrap .u64 (32 - lenT (Int.toNat (Int.tdiv y (OfNat.ofNat 4294967296))))) else 64)) (Int.fdiv lo (2 ^ if Int.toNat (IntKind.wrap .u64 (64 - IntKind.wrap .u64 (32 - lenT (Int.toNat (Int.tdiv y (OfNat.ofNat 4294967296)))))) ≤ 64 then Int.toNat (IntKind.wrap .u64 (64 - IntKind.wrap .u64 (32 - lenT (Int.toNat (Int.tdiv y (OfNat.ofNat 4294967296)))))) else 64))) (Int.fdiv (IntKind.wrap .u64 (y * 2 ^ if Int.toNat (IntKind.wrap .u64 (32 - lenT (Int.toNat (Int.tdiv y (OfNat.ofNat 4294967296))))) ≤ 64 then Int.toNat (IntKind.wrap .u64 (32 - lenT (Int.toNat (Int.tdiv y (OfNat.ofNat 4294967296))))) else 64)) 4294967296))))), (16, V.v (V1.one (C.sint .u64 (IntKind.wrap .u64 (Go.bits Go.BinOp.or .u64 (IntKind.wrap .u64 (hi * 2 ^ if Int.toNat (IntKind.wrap .u64 (32 - lenT (Int.toNat (Int.tdiv y (OfNat.ofNat 4294967296))))) ≤ 64 then Int.toNat (IntKind.wrap .u64 (32 - lenT (Int.toNat (Int.tdiv y (OfNat.ofNat 4294967296))))) else 64)) (Int.fdiv lo (2 ^ if Int.toNat (IntKind.wrap .u64 (64 - IntKind.wrap .u64 (32 - lenT (Int.toNat (Int.tdiv y (OfNat.ofNat 4294967296)))))) ≤ 64 then Int.toNat (IntKind.wrap .u64 (64 - IntKind.wrap .u64 (32 - lenT (Int.toNat (Int.tdiv y (OfNat.ofNat 4294967296)))))) else 64)) - IntKind.wrap .u64 (Int.tdiv (Go.bits Go.BinOp.or .u64 (IntKind.wrap .u64 (hi * 2 ^ if Int.toNat (IntKind.wrap .u64 (32 - lenT (Int.toNat (Int.tdiv y (OfNat.ofNat 4294967296))))) ≤ 64 then Int.toNat (IntKind.wrap .u64 (32 - lenT (Int.toNat (Int.tdiv y (OfNat.ofNat 4294967296))))) else 64)) (Int.fdiv lo (2 ^ if Int.toNat (IntKind.wrap .u64 (64 - IntKind.wrap .u64 (32 - lenT (Int.toNat (Int.tdiv y (OfNat.ofNat 4294967296)))))) ≤ 64 then Int.toNat (IntKind.wrap .u64 (64 - IntKind.wrap .u64 (32 - lenT (Int.toNat (Int.tdiv y (OfNat.ofNat 4294967296)))))) else 64))) (Int.fdiv (IntKind.wrap .u64 (y * 2 ^ if Int.toNat (IntKind.wrap .u64 (32 - lenT (Int.toNat (Int.tdiv y (OfNat.ofNat 4294967296))))) ≤ 64 then Int.toNat (IntKind.wrap .u64 (32 - lenT (Int.toNat (Int.tdiv y (OfNat.ofNat 4294967296))))) else 64)) 4294967296) * Int.fdiv (IntKind.wrap .u64 (y * 2 ^ if Int.toNat (IntKind.wrap .u64 (32 - lenT (Int.toNat (Int.tdiv y (OfNat.ofNat 4294967296))))) ≤ 64 then Int.toNat (IntKind.wrap .u64 (32 - lenT (Int.toNat (Int.tdiv y (OfNat.ofNat 4294967296))))) else 64)) 4294967296))))))], ([], [Int.fdiv (IntKind.wrap .u64 (y * 2 ^ if Int.toNat (IntKind.wrap .u64 (32 - lenT (Int.toNat (Int.tdiv y (OfNat.ofNat 4294967296))))) ≤ 64 then Int.toNat (IntKind.wrap .u64 (32 - lenT (Int.toNat (Int.tdiv y (OfNat.ofNat 4294967296))))) else 64)) (4294967296 : Int) ≠ 0, 0 ≤ Int.tdiv (Go.bits Go.BinOp.or .u64 (IntKind.wrap .u64 (hi * 2 ^ if Int.toNat (IntKind.wrap .u64 (32 - lenT (Int.toNat (Int.tdiv y (OfNat.ofNat 4294967296))))) ≤ 64 then Int.toNat (IntKind.wrap .u64 (32 - lenT (Int.toNat (Int.tdiv y (OfNat.ofNat 4294967296))))) else 64)) (Int.fdiv lo (2 ^ if Int.toNat (IntKind.wrap .u64 (64 - IntKind.wrap .u64 (32 - lenT (Int.toNat (Int.tdiv y (OfNat.ofNat 4294967296)))))) ≤ 64 then Int.toNat (IntKind.wrap .u64 (64 - IntKind.wrap .u64 (32 - lenT (Int.toNat (Int.tdiv y (OfNat.ofNat 4294967296)))))) else 64))) (Int.fdiv (IntKind.wrap .u64 (y * 2 ^ if Int.toNat (IntKind.wrap .u64 (32 - lenT (Int.toNat (Int.tdiv y (OfNat.ofNat 4294967296))))) ≤ 64 then Int.toNat (IntKind.wrap .u64 (32 - lenT (Int.toNat (Int.tdiv y (OfNat.ofNat 4294967296))))) else 64)) 4294967296) ∧ Int.tdiv (Go.bits Go.BinOp.or .u64 (IntKind.wrap .u64 (hi * 2 ^ if Int.toNat (IntKind.wrap .u64 (32 - lenT (Int.toNat (Int.tdiv y (OfNat.ofNat 4294967296))))) ≤ 64 then Int.toNat (IntKind.wrap .u64 (32 - lenT (Int.toNat (Int.tdiv y (OfNat.ofNat 4294967296))))) else 64)) (Int.fdiv lo (2 ^ if Int.toNat (IntKind.wrap .u64 (64 - IntKind.wrap .u64 (32 - lenT (Int.toNat (Int.tdiv y (OfNat.ofNat 4294967296)))))) ≤ 64 then Int.toNat (IntKind.wrap .u64 (64 - IntKind.wrap .u64 (32 - lenT (Int.toNat (Int.tdiv y (OfNat.ofNat 4294967296)))))) else 64))) (Int.fdiv (IntKind.wrap .u64 (y * 2 ^ if Int.toNat (IntKind.wrap .u64 (32 - lenT (Int.toNat (Int.tdiv y (OfNat.ofNat 4294967296))))) ≤ 64 then Int.toNat (IntKind.wrap .u64 (32 - lenT (Int.toNat (Int.tdiv y (OfNat.ofNat 4294967296))))) else 64)) 4294967296) ≤ 18446744073709551615, 0 ≤ IntKind.wrap .u64 (32 - lenT (Int.toNat (Int.tdiv y (OfNat.ofNat 4294967296)))), 0 ≤ IntKind.wrap .u64 (64 - IntKind.wrap .u64 (32 - lenT (Int.toNat (Int.tdiv y (OfNat.ofNat 4294967296))))), 0 ≤ IntKind.wrap .u64 (32 - lenT (Int.toNat (Int.tdiv y (OfNat.ofNat 4294967296)))), 0 ≤ IntKind.wrap .u64 (32 - lenT (Int.toNat (Int.tdiv y (OfNat.ofNat 4294967296)))), 4294967296 ≤ y, y < 1099511627776, decide (hi = 0) = false, decide (y ≤ hi) = false, decide (y = 0) = false]))) := by kernel_rfl
theorem d1a : (fun y s y1 y0 u u1 u0 q r : Int => stopV [2, 8, 9, 10, 11, 13, 14, 15, 16] [] (run1D (L1D.2.length + 1) [] [true, false] y s y1 y0 u u1 u0 q r)) = fun (y : Int) (s : Int) (y1 : Int) (y0 : Int) (u : Int) (u1 : Int) (u0 : Int) (q : Int) (r : Int) => some (K1D, ([(2, V.v (V1.one (C.sint .u64 (y)))), (8, V.v (V1.one (C.sint .u64 (s)))), (9, V.v (V1.one (C.sint .u64 (y1)))), (10, V.v (V1.one (C.sint .u64 (y0)))), (11, V.v (V1.one (C.sint .u64 (u)))), (13, V.v (V1.one (C.sint .u64 (u1)))), (14, V.v (V1.one (C.sint .u64 (u0)))), (15, V.v (V1.one (C.sint .u64 (IntKind.wrap .u64 (q - 1))))), (16, V.v (V1.one (C.sint .u64 (IntKind.wrap .u64 (r + y1)))))], ([], [decide (4294967296 ≤ IntKind.wrap .u64 (r + y1)) = false, decide (4294967296 ≤ q) = true]))) := by kernel_rfl
theorem d1b : (fun y s y1 y0 u u1 u0 q r : Int => stopV [2, 8, 9, 10, 11, 13, 14, 15, 16] [] (run1D (L1D.2.length + 1) [] [false, true, false] y s y1 y0 u u1 u0 q r)) = fun (y : Int) (s : Int) (y1 : Int) (y0 : Int) (u : Int) (u1 : Int) (u0 : Int) (q : Int) (r : Int) => some (K1D, ([(2, V.v (V1.one (C.sint .u64 (y)))), (8, V.v (V1.one (C.sint .u64 (s)))), (9, V.v (V1.one (C.sint .u64 (y1)))), (10, V.v (V1.one (C.sint .u64 (y0)))), (11, V.v (V1.one (C.sint .u64 (u)))), (13, V.v (V1.one (C.sint .u64 (u1)))), (14, V.v (V1.one (C.sint .u64 (u0)))), (15, V.v (V1.one (C.sint .u64 (IntKind.wrap .u64 (q - 1))))), (16, V.v (V1.one (C.sint .u64 (IntKind.wrap .u64 (r + y1)))))], ([], [decide (4294967296 ≤ IntKind.wrap .u64 (r + y1)) = false, decide (IntKind.wrap .u64 (IntKind.wrap .u64 (4294967296 * r) + u1) < IntKind.wrap .u64 (q * y0)) = true, decide (4294967296 ≤ q) = false]))) := by kernel_rfl
theorem d1x : (fun y s y1 y0 u u1 u0 q r : Int => stopV [2, 8, 9, 10, 14, 15, 17, 18, 16] [] (run1D 0 [false] [false, false] y s y1 y0 u u1 u0 q r)) = fun (y : Int) (s : Int) (y1 : Int) (y0 : Int) (u : Int) (u1 : Int) (u0 : Int) (q : Int) (r : Int) => some (E2D, ([(2, V.v (V1.one (C.sint .u64 (y)))), (8, V.v (V1.one (C.sint .u64 (s)))), (9, V.v (V1.one (C.sint .u64 (y1)))), (10, V.v (V1.one (C.sint .u64 (y0)))), (14, V.v (V1.one (C.sint .u64 (u0)))), (15, V.v (V1.one (C.sint .u64 (q)))), (17, V.v (V1.one (C.sint .u64 (IntKind.wrap .u64 (IntKind.wrap .u64 (IntKind.wrap .u64 (u * 4294967296) + u1) - IntKind.wrap .u64 (q * y)))))), (18, V.v (V1.one (C.sint .u64 (Int.tdiv (IntKind.wrap .u64 (IntKind.wrap .u64 (IntKind.wrap .u64 (u * 4294967296) + u1) - IntKind.wrap .u64 (q * y))) y1)))), (16, V.v (V1.one (C.sint .u64 (IntKind.wrap .u64 (IntKind.wrap .u64 (IntKind.wrap .u64 (IntKind.wrap .u64 (u * 4294967296) + u1) - IntKind.wrap .u64 (q * y)) - IntKind.wrap .u64 (Int.tdiv (IntKind.wrap .u64 (IntKind.wrap .u64 (IntKind.wrap .u64 (u * 4294967296) + u1) - IntKind.wrap .u64 (q * y))) y1 * y1))))))], ([], [y1 ≠ 0, 0 ≤ Int.tdiv (IntKind.wrap .u64 (IntKind.wrap .u64 (IntKind.wrap .u64 (u * 4294967296) + u1) - IntKind.wrap .u64 (q * y))) y1 ∧ Int.tdiv (IntKind.wrap .u64 (IntKind.wrap .u64 (IntKind.wrap .u64 (u * 4294967296) + u1) - IntKind.wrap .u64 (q * y))) y1 ≤ 18446744073709551615, decide (IntKind.wrap .u64 (IntKind.wrap .u64 (4294967296 * r) + u1) < IntKind.wrap .u64 (q * y0)) = false, decide (4294967296 ≤ q) = false]))) := by kernel_rfl
theorem d1y : (fun y s y1 y0 u u1 u0 q r : Int => stopV [2, 8, 9, 10, 14, 15, 17, 18, 16] [] (run1D 0 [false] [true, true] y s y1 y0 u u1 u0 q r)) = fun (y : Int) (s : Int) (y1 : Int) (y0 : Int) (u : Int) (u1 : Int) (u0 : Int) (q : Int) (r : Int) => some (E2D, ([(2, V.v (V1.one (C.sint .u64 (y)))), (8, V.v (V1.one (C.sint .u64 (s)))), (9, V.v (V1.one (C.sint .u64 (y1)))), (10, V.v (V1.one (C.sint .u64 (y0)))), (14, V.v (V1.one (C.sint .u64 (u0)))), (15, V.v (V1.one (C.sint .u64 (IntKind.wrap .u64 (q - 1))))), (17, V.v (V1.one (C.sint .u64 (IntKind.wrap .u64 (IntKind.wrap .u64 (IntKind.wrap .u64 (u * 4294967296) + u1) - IntKind.wrap .u64 (IntKind.wrap .u64 (q - 1) * y)))))), (18, V.v (V1.one (C.sint .u64 (Int.tdiv (IntKind.wrap .u64 (IntKind.wrap .u64 (IntKind.wrap .u64 (u * 4294967296) + u1) - IntKind.wrap .u64 (IntKind.wrap .u64 (q - 1) * y))) y1)))), (16, V.v (V1.one (C.sint .u64 (IntKind.wrap .u64 (IntKind.wrap .u64 (IntKind.wrap .u64 (IntKind.wrap .u64 (u * 4294967296) + u1) - IntKind.wrap .u64 (IntKind.wrap .u64 (q - 1) * y)) - IntKind.wrap .u64 (Int.tdiv (IntKind.wrap .u64 (IntKind.wrap .u64 (IntKind.wrap .u64 (u * 4294967296) + u1) - IntKind.wrap .u64 (IntKind.wrap .u64 (q - 1) * y))) y1 * y1))))))], ([], [y1 ≠ 0, 0 ≤ Int.tdiv (IntKind.wrap .u64 (IntKind.wrap .u64 (IntKind.wrap .u64 (u * 4294967296) + u1) - IntKind.wrap .u64 (IntKind.wrap .u64 (q - 1) * y))) y1 ∧ Int.tdiv (IntKind.wrap .u64 (IntKind.wrap .u64 (IntKind.wrap .u64 (u * 4294967296) + u1) - IntKind.wrap .u64 (IntKind.wrap .u64 (q - 1) * y))) y1 ≤ 18446744073709551615, decide (4294967296 ≤ IntKind.wrap .u64 (r + y1)) = true, decide (4294967296 ≤ q) = true]))) := by kernel_rfl
theorem d1z : (fun y s y1 y0 u u1 u0 q r : Int => stopV [2, 8, 9, 10, 14, 15, 17, 18, 16] [] (run1D 0 [false] [false, true, true] y s y1 y0 u u1 u0 q r)) = fun (y : Int) (s : Int) (y1 : Int) (y0 : Int) (u : Int) (u1 : Int) (u0 : Int) (q : Int) (r : Int) => some (E2D, ([(2, V.v (V1.one (C.sint .u64 (y)))), (8, V.v (V1.one (C.sint .u64 (s)))), (9, V.v (V1.one (C.sint .u64 (y1)))), (10, V.v (V1.one (C.sint .u64 (y0)))), (14, V.v (V1.one (C.sint .u64 (u0)))), (15, V.v (V1.one (C.sint .u64 (IntKind.wrap .u64 (q - 1))))), (17, V.v (V1.one (C.sint .u64 (IntKind.wrap .u64 (IntKind.wrap .u64 (IntKind.wrap .u64 (u * 4294967296) + u1) - IntKind.wrap .u64 (IntKind.wrap .u64 (q - 1) * y)))))), (18, V.v (V1.one (C.sint .u64 (Int.tdiv (IntKind.wrap .u64 (IntKind.wrap .u64 (IntKind.wrap .u64 (u * 4294967296) + u1) - IntKind.wrap .u64 (IntKind.wrap .u64 (q - 1) * y))) y1)))), (16, V.v (V1.one (C.sint .u64 (IntKind.wrap .u64 (IntKind.wrap .u64 (IntKind.wrap .u64 (IntKind.wrap .u64 (u * 4294967296) + u1) - IntKind.wrap .u64 (IntKind.wrap .u64 (q - 1) * y)) - IntKind.wrap .u64 (Int.tdiv (IntKind.wrap .u64 (IntKind.wrap .u64 (IntKind.wrap .u64 (u * 4294967296) + u1) - IntKind.wrap .u64 (IntKind.wrap .u64 (q - 1) * y))) y1 * y1))))))], ([], [y1 ≠ 0, 0 ≤ Int.tdiv (IntKind.wrap .u64 (IntKind.wrap .u64 (IntKind.wrap .u64 (u * 4294967296) + u1) - IntKind.wrap .u64 (IntKind.wrap .u64 (q - 1) * y))) y1 ∧ Int.tdiv (IntKind.wrap .u64 (IntKind.wrap .u64 (IntKind.wrap .u64 (u * 4294967296) + u1) - IntKind.wrap .u64 (IntKind.wrap .u64 (q - 1) * y))) y1 ≤ 18446744073709551615, decide (4294967296 ≤ IntKind.wrap .u64 (r + y1)) = true, decide (IntKind.wrap .u64 (IntKind.wrap .u64 (4294967296 * r) + u1) < IntKind.wrap .u64 (q * y0)) = true, decide (4294967296 ≤ q) = false]))) := by kernel_rfl
theorem d2a : (fun y s y1 y0 u0 q1 v q r : Int => stopV [2, 8, 9, 10, 14, 15, 17, 18, 16] [] (run2D (L2D.2.length + 1) [true, false] y s y1 y0 u0 q1 v q r)) = fun (y : Int) (s : Int) (y1 : Int) (y0 : Int) (u0 : Int) (q1 : Int) (v : Int) (q : Int) (r : Int) => some (K2D, ([(2, V.v (V1.one (C.sint .u64 (y)))), (8, V.v (V1.one (C.sint .u64 (s)))), (9, V.v (V1.one (C.sint .u64 (y1)))), (10, V.v (V1.one (C.sint .u64 (y0)))), (14, V.v (V1.one (C.sint .u64 (u0)))), (15, V.v (V1.one (C.sint .u64 (q1)))), (17, V.v (V1.one (C.sint .u64 (v)))), (18, V.v (V1.one (C.sint .u64 (IntKind.wrap .u64 (q - 1))))), (16, V.v (V1.one (C.sint .u64 (IntKind.wrap .u64 (r + y1)))))], ([], [decide (4294967296 ≤ IntKind.wrap .u64 (r + y1)) = false, decide (4294967296 ≤ q) = true]))) := by kernel_rfl
theorem d2b : (fun y s y1 y0 u0 q1 v q r : Int => stopV [2, 8, 9, 10, 14, 15, 17, 18, 16] [] (run2D (L2D.2.length + 1) [false, true, false] y s y1 y0 u0 q1 v q r)) = fun (y : Int) (s : Int) (y1 : Int) (y0 : Int) (u0 : Int) (q1 : Int) (v : Int) (q : Int) (r : Int) => some (K2D, ([(2, V.v (V1.one (C.sint .u64 (y)))), (8, V.v (V1.one (C.sint .u64 (s)))), (9, V.v (V1.one (C.sint .u64 (y1)))), (10, V.v (V1.one (C.sint .u64 (y0)))), (14, V.v (V1.one (C.sint .u64 (u0)))), (15, V.v (V1.one (C.sint .u64 (q1)))), (17, V.v (V1.one (C.sint .u64 (v)))), (18, V.v (V1.one (C.sint .u64 (IntKind.wrap .u64 (q - 1))))), (16, V.v (V1.one (C.sint .u64 (IntKind.wrap .u64 (r + y1)))))], ([], [decide (4294967296 ≤ IntKind.wrap .u64 (r + y1)) = false, decide (IntKind.wrap .u64 (IntKind.wrap .u64 (4294967296 * r) + u0) < IntKind.wrap .u64 (q * y0)) = true, decide (4294967296 ≤ q) = false]))) := by kernel_rfl
theorem d2x : (fun y s y1 y0 u0 q1 v q r : Int => endV [] (run2D 0 [false, false] y s y1 y0 u0 q1 v q r)) = fun (y : Int) (s : Int) (_ : Int) (y0 : Int) (u0 : Int) (q1 : Int) (v : Int) (q : Int) (r : Int) => some (V.tup [V1.one (C.sint .u64 (IntKind.wrap .u64 (IntKind.wrap .u64 (q1 * 4294967296) + q))), V1.one (C.sint .u64 (Int.fdiv (IntKind.wrap .u64 (IntKind.wrap .u64 (IntKind.wrap .u64 (v * 4294967296) + u0) - IntKind.wrap .u64 (q * y))) (2 ^ if Int.toNat s ≤ 64 then Int.toNat s else 64)))], ([], [0 ≤ s, decide (IntKind.wrap .u64 (IntKind.wrap .u64 (4294967296 * r) + u0) < IntKind.wrap .u64 (q * y0)) = false, decide (4294967296 ≤ q) = false])) := by kernel_rfl
theorem d2y : (fun y s y1 y0 u0 q1 v q r : Int => endV [] (run2D 0 [true, true] y s y1 y0 u0 q1 v q r)) = fun (y : Int) (s : Int) (y1 : Int) (_ : Int) (u0 : Int) (q1 : Int) (v : Int) (q : Int) (r : Int) => some (V.tup [V1.one (C.sint .u64 (IntKind.wrap .u64 (IntKind.wrap .u64 (q1 * 4294967296) + IntKind.wrap .u64 (q - 1)))), V1.one (C.sint .u64 (Int.fdiv (IntKind.wrap .u64 (IntKind.wrap .u64 (IntKind.wrap .u64 (v * 4294967296) + u0) - IntKind.wrap .u64 (IntKind.wrap .u64 (q - 1) * y))) (2 ^ if Int.toNat s ≤ 64 then Int.toNat s else 64)))], ([], [0 ≤ s, decide (4294967296 ≤ IntKind.wrap .u64 (r + y1)) = true, decide (4294967296 ≤ q) = true])) := by kernel_rfl
theorem d2z : (fun y s y1 y0 u0 q1 v q r : Int => endV [] (run2D 0 [false, true, true] y s y1 y0 u0 q1 v q r)) = fun (y : Int) (s : Int) (y1 : Int) (y0 : Int) (u0 : Int) (q1 : Int) (v : Int) (q : Int) (r : Int) => some (V.tup [V1.one (C.sint .u64 (IntKind.wrap .u64 (IntKind.wrap .u64 (q1 * 4294967296) + IntKind.wrap .u64 (q - 1)))), V1.one (C.sint .u64 (Int.fdiv (IntKind.wrap .u64 (IntKind.wrap .u64 (IntKind.wrap .u64 (v * 4294967296) + u0) - IntKind.wrap .u64 (IntKind.wrap .u64 (q - 1) * y))) (2 ^ if Int.toNat s ≤ 64 then Int.toNat s else 64)))], ([], [0 ≤ s, decide (4294967296 ≤ IntKind.wrap .u64 (r + y1)) = true, decide (IntKind.wrap .u64 (IntKind.wrap .u64 (4294967296 * r) + u0) < IntKind.wrap .u64 (q * y0)) = true, decide (4294967296 ≤ q) = false])) := by kernel_rfl
end
section
open Go.ChangeShapes Go.WideShapes Go.ChangeAt Go.RowKit Go.Sx
structure DivOk (y y1 y0 : Int) : Prop where
 e : y = y1 * 4294967296 + y0
 l1 : 2147483648 ≤ y1
 h1 : y1 < 4294967296
 l0 : 0 ≤ y0
 h0 : y0 < 4294967296
structure DInv (y y1 y0 u n q r : Int) : Prop where
 e : q * y1 + r = u
 r0 : 0 ≤ r
 r1 : r < 4294967296
 lo : (u * 4294967296 + n) / y ≤ q
 hi : q ≤ 4294967297
theorem wr (n : Int) : IntKind.wrap .u64 n = n % 18446744073709551616 := by simp [IntKind.wrap, IntKind.bits, IntKind.signed]
variable {y y1 y0 u n q r : Int}
theorem DivOk.pos (h : DivOk y y1 y0) : 0 < y := by have := h.e; have := h.l1; have := h.l0; omega
theorem DivOk.mul (h : DivOk y y1 y0) (q : Int) : q * y = q * y1 * 4294967296 + q * y0 := by rw [h.e, Int.mul_add, Int.mul_assoc]
theorem quo_lt (h : DivOk y y1 y0) (hu : u < y) (hn : n < 4294967296) : (u * 4294967296 + n) / y < 4294967296 := by
 refine Int.ediv_lt_of_lt_mul h.pos ?_
 rw [Int.mul_comm]
 omega
theorem quo_nn (h : DivOk y y1 y0) (hu : 0 ≤ u) (hn : 0 ≤ n) : 0 ≤ (u * 4294967296 + n) / y := Int.ediv_nonneg (by omega) (Int.le_of_lt h.pos)
theorem div_start (h : DivOk y y1 y0) (hu0 : 0 ≤ u) (hu : u < y) (hn0 : 0 ≤ n) (hn : n < 4294967296) : DInv y y1 y0 u n (u / y1) (u % y1) := by
 have p1 : 0 < y1 := by have := h.l1; omega
 have hl1 := h.l1; have hh1 := h.h1; have hl0 := h.l0; have hh0 := h.h0; have he := h.e
 have hm := Int.emod_lt_of_pos u p1
 have hm0 := Int.emod_nonneg u (show y1 ≠ 0 by omega)
 have hd := Int.mul_ediv_add_emod u y1
 rw [Int.mul_comm] at hd
 refine ⟨hd, hm0, by omega, ?_, ?_⟩
 ·refine Int.le_ediv_of_mul_le p1 ?_
  have hq := Int.ediv_mul_le (u * 4294967296 + n) (show y ≠ 0 by have := h.pos; omega)
  have hq0 := quo_nn h hu0 hn0
  rw [h.mul] at hq
  have : 0 ≤ (u * 4294967296 + n) / y * y0 := Int.mul_nonneg hq0 hl0
  generalize (u * 4294967296 + n) / y * y1 = P at *
  generalize (u * 4294967296 + n) / y * y0 = R at *
  omega
 ·have : u / y1 < 4294967298 := by
   refine Int.ediv_lt_of_lt_mul p1 ?_
   omega
  omega
theorem div_lt_a (h : DivOk y y1 y0) (hu : u < y) (hn : n < 4294967296) (hq : 4294967296 ≤ q) : (u * 4294967296 + n) / y ≤ q - 1 := by
 have := quo_lt h hu hn; omega
theorem div_lt_b (h : DivOk y y1 y0) (i : DInv y y1 y0 u n q r) (hc : 4294967296 * r + n < q * y0) : (u * 4294967296 + n) / y ≤ q - 1 := by
 have he := i.e
 have hm := h.mul q
 have hq := Int.ediv_mul_le (u * 4294967296 + n) (show y ≠ 0 by have := h.pos; omega)
 refine Classical.byContradiction fun hne => ?_
 have hle : q ≤ (u * 4294967296 + n) / y := by omega
 have := Int.mul_le_mul_of_nonneg_right hle (Int.le_of_lt h.pos)
 generalize (u * 4294967296 + n) / y * y = P at *
 rw [hm] at this
 generalize q * y1 = A at *
 generalize q * y0 = B at *
 omega
theorem div_step (_h : DivOk y y1 y0) (i : DInv y y1 y0 u n q r) (hq : (u * 4294967296 + n) / y ≤ q - 1) (hr : r + y1 < 4294967296) (hy : 0 ≤ y1) : DInv y y1 y0 u n (q - 1) (r + y1) := by
 have he := i.e
 refine ⟨?_, by have := i.r0; omega, hr, hq, by have := i.hi; omega⟩
 rw [Int.sub_mul, Int.one_mul]; omega
theorem div_le (h : DivOk y y1 y0) (he : q * y1 + r = u) (hc : q * y0 ≤ 4294967296 * r + n) : q ≤ (u * 4294967296 + n) / y := by
 refine Int.le_ediv_of_mul_le h.pos ?_
 rw [h.mul]
 generalize q * y1 = A at *
 generalize q * y0 = B at *
 omega
theorem div_exit (h : DivOk y y1 y0) (i : DInv y y1 y0 u n q r) (hc : q * y0 ≤ 4294967296 * r + n) : q = (u * 4294967296 + n) / y := Int.le_antisymm (div_le h i.e hc) i.lo
theorem div_break (h : DivOk y y1 y0) (i : DInv y y1 y0 u n q r) (hn0 : 0 ≤ n) (hq : (u * 4294967296 + n) / y ≤ q - 1) (hr : 4294967296 ≤ r + y1) (hq0 : 0 ≤ q - 1) : q - 1 = (u * 4294967296 + n) / y := by
 have hhi := i.hi
 have hh0 := h.h0; have hl0 := h.l0
 refine Int.le_antisymm (div_le (r := r + y1) h ?_ ?_) hq
 ·have := i.e
  rw [Int.sub_mul, Int.one_mul]; omega
 ·have h1 : (q - 1) * y0 ≤ 4294967296 * y0 := Int.mul_le_mul_of_nonneg_right (by omega) hl0
  omega
end
section
open Go.ChangeShapes Go.WideShapes Go.ChangeAt Go.RowKit Go.Sx
def sD (y : Int) : Int := IntKind.wrap .u64 (32 - lenT (Int.toNat (Int.tdiv y 4294967296)))
def YD (y : Int) : Int := IntKind.wrap .u64 (y * 2 ^ if Int.toNat (sD y) ≤ 64 then Int.toNat (sD y) else 64)
def uD (hi lo y : Int) : Int := bits .or .u64 (IntKind.wrap .u64 (hi * 2 ^ if Int.toNat (sD y) ≤ 64 then Int.toNat (sD y) else 64)) (Int.fdiv lo (2 ^ if Int.toNat (IntKind.wrap .u64 (64 - sD y)) ≤ 64 then Int.toNat (IntKind.wrap .u64 (64 - sD y)) else 64))
def wD (lo y : Int) : Int := IntKind.wrap .u64 (lo * 2 ^ if Int.toNat (sD y) ≤ 64 then Int.toNat (sD y) else 64)
def y1D (y : Int) : Int := Int.fdiv (YD y) 4294967296
def y0D (y : Int) : Int := bits .and .u64 (YD y) 4294967295
def u1D (lo y : Int) : Int := Int.fdiv (wD lo y) 4294967296
def u0D (lo y : Int) : Int := bits .and .u64 (wD lo y) 4294967295
def q1D (hi lo y : Int) : Int := (uD hi lo y * 4294967296 + u1D lo y) / YD y
def vD (hi lo y : Int) : Int := IntKind.wrap .u64 (IntKind.wrap .u64 (IntKind.wrap .u64 (uD hi lo y * 4294967296) + u1D lo y) - IntKind.wrap .u64 (q1D hi lo y * YD y))
def q0D (hi lo y : Int) : Int := (vD hi lo y * 4294967296 + u0D lo y) / YD y
def qD (hi lo y : Int) : Int := if hi = 0 then Int.tdiv lo y else IntKind.wrap .u64 (IntKind.wrap .u64 (q1D hi lo y * 4294967296) + q0D hi lo y)
def rD (hi lo y : Int) : Int := if hi = 0 then Int.tmod lo y else Int.fdiv (IntKind.wrap .u64 (IntKind.wrap .u64 (IntKind.wrap .u64 (vD hi lo y * 4294967296) + u0D lo y) - IntKind.wrap .u64 (q0D hi lo y * YD y))) (2 ^ if Int.toNat (sD y) ≤ 64 then Int.toNat (sD y) else 64)
def okA (hi lo y : Int) : Prop := 0 ≤ hi ∧ 0 ≤ lo ∧ lo ≤ 18446744073709551615 ∧ hi < y ∧ 4294967296 ≤ y ∧ y < 1099511627776
def okB2 (hi lo y : Int) : Prop := YD y = y1D y * 4294967296 + y0D y ∧ 2147483648 ≤ y1D y ∧ y1D y < 4294967296 ∧ 0 ≤ y0D y ∧ y0D y < 4294967296 ∧ 0 ≤ uD hi lo y ∧ uD hi lo y < YD y ∧ YD y < 18446744073709551616 ∧
 0 ≤ u1D lo y ∧ u1D lo y < 4294967296 ∧ 0 ≤ u0D lo y ∧ u0D lo y < 4294967296 ∧ 0 ≤ sD y ∧ 0 ≤ vD hi lo y ∧ vD hi lo y < YD y
instance (hi lo y : Int) : Decidable (okA hi lo y) := by unfold okA; infer_instance
instance (hi lo y : Int) : Decidable (okB2 hi lo y) := by unfold okB2; infer_instance
def okD (hi lo y : Int) : Bool := decide (okA hi lo y) && (decide (hi = 0) || decide (okB2 hi lo y))
def vQ (a b : Int) : V := .tup [.one (.sint .u64 a), .one (.sint .u64 b)]
def lzT (x : Int) : Int := lenT (Int.toNat (IntKind.wrap .u8 (Int.fdiv x 4294967296)))
theorem lz_run : (fun x : Int => retV [] (call0 4 75 [si .u64 x] [] [true, false, false])) = fun x => some (si .i64 (64 - (32 + lzT x)), [], [-9223372036854775808 ≤ 64 - (32 + lzT x) ∧ 64 - (32 + lzT x) ≤ 9223372036854775807, -9223372036854775808 ≤ 32 + lzT x ∧ 32 + lzT x ≤ 9223372036854775807, -9223372036854775808 ≤ lzT x ∧ lzT x ≤ 9223372036854775807,
 0 ≤ IntKind.wrap .u8 (Int.fdiv x 4294967296), IntKind.wrap .u8 (Int.fdiv x 4294967296) < 256, decide (256 ≤ Int.fdiv x 4294967296) = false, decide (65536 ≤ Int.fdiv x 4294967296) = false, decide (4294967296 ≤ x) = true]) := by kernel_rfl
theorem lenT_range (n : Nat) : 0 ≤ lenT n ∧ lenT n < 256 := by
 unfold lenT
 have := (List.getD lenL n 0).toNat_lt
 omega
theorem w_nn (n : Int) : 0 ≤ IntKind.wrap .u64 n := by rw [wr]; omega
theorem w8n (n : Int) : IntKind.wrap .u8 n = n % 256 := by simp [IntKind.wrap, IntKind.bits, IntKind.signed]
theorem lz_eq {x : Int} (h0 : 4294967296 ≤ x) (h1 : x < 1099511627776) : lzT x = lenT (Int.toNat (x.tdiv 4294967296)) ∧ Int.fdiv x 4294967296 < 256 := by
 unfold lzT
 rw [Int.fdiv_eq_ediv_of_nonneg _ (by decide), Int.tdiv_eq_ediv_of_nonneg (by omega), w8n]
 refine ⟨?_, by omega⟩
 rw [show x / 4294967296 % 256 = x / 4294967296 by omega]
theorem lz_ob {x : Int} (h0 : 4294967296 ≤ x) (h1 : x < 1099511627776) : allP [-9223372036854775808 ≤ 64 - (32 + lzT x) ∧ 64 - (32 + lzT x) ≤ 9223372036854775807, -9223372036854775808 ≤ 32 + lzT x ∧ 32 + lzT x ≤ 9223372036854775807, -9223372036854775808 ≤ lzT x ∧ lzT x ≤ 9223372036854775807,
 0 ≤ IntKind.wrap .u8 (Int.fdiv x 4294967296), IntKind.wrap .u8 (Int.fdiv x 4294967296) < 256, decide (256 ≤ Int.fdiv x 4294967296) = false, decide (65536 ≤ Int.fdiv x 4294967296) = false, decide (4294967296 ≤ x) = true] := by
 have hr : 0 ≤ lzT x ∧ lzT x < 256 := lenT_range _
 have hf := (lz_eq h0 h1).2
 rw [w8n]
 refine ⟨by omega, by omega, by omega, by omega, by omega, decide_eq_false (by omega), decide_eq_false (by omega), decide_eq_true h0, trivial⟩
theorem lz_val {x : Int} (h0 : 4294967296 ≤ x) (h1 : x < 1099511627776) : leV [] (si .i64 (64 - (32 + lzT x))) (si .i64 (32 - lenT (Int.toNat (x.tdiv 4294967296)))) := by
 refine ⟨rfl, ?_⟩
 rw [(lz_eq h0 h1).1]; omega
theorem tabZ_ok : ∀ f g, tabZ f = some g → TabOk Try.prog f g := tabs_ok fun x hx => by
 simp only [List.mem_cons, List.not_mem_nil, or_false] at hx
 rcases hx with rfl
 refine numTab_ok fun ns hl hp => ?_
 match ns, hl with
 | [x], _ =>
  have h1 := hp (4294967296 ≤ x) (by simp [gLz])
  have h2 := hp (x < 1099511627776) (by simp [gLz])
  refine ⟨rfl, makes_of no_tabs (sel := []) (v := si .i64 (32 - lenT (Int.toNat (x.tdiv 4294967296)))) (bs := []) (h := [true, false, false]) (args := [si .u64 x]) (d := 4) (eff := fun _ => false) (fuel := 100000) (congrFun lz_run x) (lz_ob h1 h2) (by decide) (lz_val h1 h2) trivial ⟨_, _, rfl, ⟨rfl, rfl⟩, rfl⟩⟩
theorem callZ_ok (d : Nat) : CallOk Try.prog (callZ d) := callN_sound tabZ_ok d
theorem funD : Try.prog.funcs[74]? = some FD := by kernel_rfl
theorem bodD : FD.body = some (bodyF 74) := by kernel_rfl
theorem tmpD : 3 ≤ FD.ntmps := Nat.le_of_ble_eq_true (by kernel_rfl)
theorem w_sub {q : Int} (h0 : 1 ≤ q) (h1 : q ≤ 4294967297) : IntKind.wrap .u64 (q - 1) = q - 1 := by rw [wr]; omega
theorem w_add {r y1 : Int} (h0 : 0 ≤ r) (h1 : r < 4294967296) (h2 : 0 ≤ y1) (h3 : y1 < 4294967296) : IntKind.wrap .u64 (r + y1) = r + y1 := by rw [wr]; omega
theorem w_lin {r n : Int} (h0 : 0 ≤ r) (h1 : r < 4294967296) (h2 : 0 ≤ n) (h3 : n < 4294967296) : IntKind.wrap .u64 (IntKind.wrap .u64 (4294967296 * r) + n) = 4294967296 * r + n := by rw [wr, wr]; omega
theorem w_mul {q y0 : Int} (h0 : 0 ≤ q) (h1 : q < 4294967296) (h2 : 0 ≤ y0) (h3 : y0 < 4294967296) : IntKind.wrap .u64 (q * y0) = q * y0 := by
 have a : 0 ≤ q * y0 := Int.mul_nonneg h0 h2
 have b : q * y0 ≤ q * 4294967295 := Int.mul_le_mul_of_nonneg_left (by omega) h0
 rw [wr]
 generalize q * y0 = p at *
 omega
theorem e_start {u y1 : Int} (hu0 : 0 ≤ u) (hu : u < 18446744073709551616) (h1 : 2147483648 ≤ y1) : IntKind.wrap .u64 (u - IntKind.wrap .u64 (Int.tdiv u y1 * y1)) = u % y1 ∧ Int.tdiv u y1 = u / y1 := by
 have e : Int.tdiv u y1 = u / y1 := Int.tdiv_eq_ediv_of_nonneg hu0
 have hd := Int.mul_ediv_add_emod u y1
 rw [Int.mul_comm] at hd
 have hm := Int.emod_lt_of_pos u (show 0 < y1 by omega)
 have hm0 := Int.emod_nonneg u (show y1 ≠ 0 by omega)
 have hq0 : 0 ≤ u / y1 * y1 := Int.mul_nonneg (Int.ediv_nonneg hu0 (by omega)) (by omega)
 refine ⟨?_, e⟩
 rw [e, wr, wr]
 generalize u / y1 * y1 = p at *
 generalize u % y1 = m at *
 omega
theorem div_loop2 {y s y1 y0 u0 q1 v : Int} (h : DivOk y y1 y0) (hs : 0 ≤ s) (hv0 : 0 ≤ v) (hv : v < y) (hn0 : 0 ≤ u0) (hn : u0 < 4294967296) {q r : Int} (hi : DInv y y1 y0 v u0 q r) {K : Nat → Prop} {W : World} {ρ' : Env} {ac : Act} {w : World}
  (hr : Rel ([] ++ ρ') K W FD.ntmps (T2D y s y1 y0 u0 q1 v q r []) ac w) :
  Goes Try.prog 74 (RetW [] K W (vQ (IntKind.wrap .u64 (IntKind.wrap .u64 (q1 * 4294967296) + (v * 4294967296 + u0) / y)) (Int.fdiv (IntKind.wrap .u64 (IntKind.wrap .u64 (IntKind.wrap .u64 (v * 4294967296) + u0) - IntKind.wrap .u64 ((v * 4294967296 + u0) / y * y))) (2 ^ if Int.toNat s ≤ 64 then Int.toNat s else 64))) []) E2D ac w := by
 have hh0 := h.h0; have hl0 := h.l0; have hl1 := h.l1; have hh1 := h.h1
 refine goes_loop (ρ0 := []) (fun x : Int × Int => T2D y s y1 y0 u0 q1 v x.1 x.2 []) (fun x => DInv y y1 y0 v u0 x.1 x.2) (fun x => x.1.toNat) ?_ (i := (q, r)) hi hr
 rintro ⟨q, r⟩ i ρ1 a1 w1 hr1 ih
 have i : DInv y y1 y0 v u0 q r := i
 have hq0 := Int.le_trans (quo_nn (n := u0) h hv0 hn0) i.lo
 have hqh := i.hi
 have r0 := i.r0; have r1 := i.r1
 have wa := w_add r0 r1 (show 0 ≤ y1 by omega) hh1
 have wl := w_lin r0 r1 hn0 hn
 have app : ∀ {A : Type} {f g : Int → Int → Int → Int → Int → Int → Int → Int → Int → A}, f = g → f y s y1 y0 u0 q1 v q r = g y s y1 y0 u0 q1 v q r := fun hh => by rw [hh]
 have go : ∀ (hs : List Bool) (ob : List Prop), 1 ≤ q → stopV [2, 8, 9, 10, 14, 15, 17, 18, 16] [] (run2D (L2D.2.length + 1) hs y s y1 y0 u0 q1 v q r) = some (K2D, [(2, si .u64 y), (8, si .u64 s), (9, si .u64 y1), (10, si .u64 y0), (14, si .u64 u0), (15, si .u64 q1), (17, si .u64 v), (18, si .u64 (IntKind.wrap .u64 (q - 1))), (16, si .u64 (IntKind.wrap .u64 (r + y1)))], [], ob) → allP ob →
   (v * 4294967296 + u0) / y ≤ q - 1 → r + y1 < 4294967296 → Goes Try.prog 74 (RetW [] K W (vQ (IntKind.wrap .u64 (IntKind.wrap .u64 (q1 * 4294967296) + (v * 4294967296 + u0) / y)) (Int.fdiv (IntKind.wrap .u64 (IntKind.wrap .u64 (IntKind.wrap .u64 (v * 4294967296) + u0) - IntKind.wrap .u64 ((v * 4294967296 + u0) / y * y))) (2 ^ if Int.toNat s ≤ 64 then Int.toNat s else 64))) []) (.code L2D.1 :: .inLoop L2D.1 :: L2D.2) a1 w1 := by
  intro hs ob h1q hrun hob hle hlt
  refine goes_stop (ρ0 := []) (r := []) (T := T2D y s y1 y0 u0 q1 v (q - 1) (r + y1) []) (callZ_ok 4) funD hrun hob ⟨by decide, ?_, trivial⟩
   (fun ρ' a w hh => ih (q - 1, r + y1) (div_step h i hle hlt (by omega)) (by show (q - 1).toNat < q.toNat; omega) ρ' a w hh) (S := T2D y s y1 y0 u0 q1 v q r hs) ⟨hr1.sl, hr1.m⟩
  rw [w_sub h1q hqh, wa]
  simp [T2D, leSlots, leV, leV1, leC, si]
 have brk : ∀ (hs : List Bool) (ob : List Prop), 1 ≤ q → endV [] (run2D 0 hs y s y1 y0 u0 q1 v q r) = some (vQ (IntKind.wrap .u64 (IntKind.wrap .u64 (q1 * 4294967296) + IntKind.wrap .u64 (q - 1))) (Int.fdiv (IntKind.wrap .u64 (IntKind.wrap .u64 (IntKind.wrap .u64 (v * 4294967296) + u0) - IntKind.wrap .u64 (IntKind.wrap .u64 (q - 1) * y))) (2 ^ if Int.toNat s ≤ 64 then Int.toNat s else 64)), [], ob) → allP ob →
   (v * 4294967296 + u0) / y ≤ q - 1 → 4294967296 ≤ r + y1 → Goes Try.prog 74 (RetW [] K W (vQ (IntKind.wrap .u64 (IntKind.wrap .u64 (q1 * 4294967296) + (v * 4294967296 + u0) / y)) (Int.fdiv (IntKind.wrap .u64 (IntKind.wrap .u64 (IntKind.wrap .u64 (v * 4294967296) + u0) - IntKind.wrap .u64 ((v * 4294967296 + u0) / y * y))) (2 ^ if Int.toNat s ≤ 64 then Int.toNat s else 64))) []) (.code L2D.1 :: .inLoop L2D.1 :: L2D.2) a1 w1 := by
  intro hs ob h1q hrun hob hle hge
  rw [w_sub h1q hqh, div_break h i hn0 hle hge (by omega)] at hrun
  exact goes_retW (ρ := []) (r := []) (callZ_ok 4) funD hrun hob (by decide) (by simp [vQ, leV, leL1, leV1, leC]) (show leBs (List.range 0 ++ []) [] [] from trivial) (S := T2D y s y1 y0 u0 q1 v q r hs) ⟨hr1.sl, hr1.m⟩
 by_cases c1 : 4294967296 ≤ q
 ·have hle := div_lt_a h hv hn c1
  by_cases c2 : 4294967296 ≤ r + y1
  ·exact brk [true, true] _ (by omega) (app d2y) ⟨hs, by rw [wa]; exact decide_eq_true c2, decide_eq_true c1, trivial⟩ hle c2
  ·exact go [true, false] _ (by omega) (app d2a) ⟨by rw [wa]; exact decide_eq_false c2, decide_eq_true c1, trivial⟩ hle (by omega)
 ·have wm := w_mul hq0 (by omega) hl0 hh0
  by_cases c3 : 4294967296 * r + u0 < q * y0
  ·have hle := div_lt_b h i c3
   have hq1 : 1 ≤ q := by
    refine Classical.byContradiction fun hne => ?_
    have : q = 0 := by omega
    rw [this, Int.zero_mul] at c3; omega
   by_cases c2 : 4294967296 ≤ r + y1
   ·exact brk [false, true, true] _ hq1 (app d2z) ⟨hs, by rw [wa]; exact decide_eq_true c2, by rw [wl, wm]; exact decide_eq_true c3, decide_eq_false c1, trivial⟩ hle c2
   ·exact go [false, true, false] _ hq1 (app d2b) ⟨by rw [wa]; exact decide_eq_false c2, by rw [wl, wm]; exact decide_eq_true c3, decide_eq_false c1, trivial⟩ hle (by omega)
  ·have he := div_exit h i (by omega)
   have hrun := app d2x
   refine goes_retW (ρ := []) (r := []) (callZ_ok 4) funD hrun ⟨hs, by rw [wl, wm]; exact decide_eq_false c3, decide_eq_false c1, trivial⟩ (by decide) ?_ (show leBs (List.range 0 ++ []) [] [] from trivial) (S := T2D y s y1 y0 u0 q1 v q r [false, false]) ⟨hr1.sl, hr1.m⟩
   rw [← he]
   simp [vQ, leV, leL1, leV1, leC]
theorem div_loop1 {y s y1 y0 u u1 u0 : Int} (h : DivOk y y1 y0) (hy : y < 18446744073709551616) (hs : 0 ≤ s) (hu0 : 0 ≤ u) (hu : u < y) (hn0 : 0 ≤ u1) (hn : u1 < 4294967296) (hm0 : 0 ≤ u0) (hm : u0 < 4294967296) {v : Int}
  (ev : v = IntKind.wrap .u64 (IntKind.wrap .u64 (IntKind.wrap .u64 (u * 4294967296) + u1) - IntKind.wrap .u64 ((u * 4294967296 + u1) / y * y))) (hv0 : 0 ≤ v) (hv : v < y) {q r : Int} (hi : DInv y y1 y0 u u1 q r) {K : Nat → Prop} {W : World} {ρ' : Env} {ac : Act} {w : World}
  (hr : Rel ([] ++ ρ') K W FD.ntmps (T1D y s y1 y0 u u1 u0 q r []) ac w) :
  Goes Try.prog 74 (RetW [] K W (vQ (IntKind.wrap .u64 (IntKind.wrap .u64 ((u * 4294967296 + u1) / y * 4294967296) + (v * 4294967296 + u0) / y)) (Int.fdiv (IntKind.wrap .u64 (IntKind.wrap .u64 (IntKind.wrap .u64 (v * 4294967296) + u0) - IntKind.wrap .u64 ((v * 4294967296 + u0) / y * y))) (2 ^ if Int.toNat s ≤ 64 then Int.toNat s else 64))) []) E1D ac w := by
 have hh0 := h.h0; have hl0 := h.l0; have hl1 := h.l1; have hh1 := h.h1
 refine goes_loop (ρ0 := []) (fun x : Int × Int => T1D y s y1 y0 u u1 u0 x.1 x.2 []) (fun x => DInv y y1 y0 u u1 x.1 x.2) (fun x => x.1.toNat) ?_ (i := (q, r)) hi hr
 rintro ⟨q, r⟩ i ρ1 a1 w1 hr1 ih
 have i : DInv y y1 y0 u u1 q r := i
 have hq0 := Int.le_trans (quo_nn (n := u1) h hu0 hn0) i.lo
 have hqh := i.hi
 have r0 := i.r0; have r1 := i.r1
 have wa := w_add r0 r1 (show 0 ≤ y1 by omega) hh1
 have wl := w_lin r0 r1 hn0 hn
 obtain ⟨es, ed⟩ := e_start (u := v) (y1 := y1) hv0 (by omega) hl1
 have hdv : 0 ≤ Int.tdiv v y1 ∧ Int.tdiv v y1 ≤ 18446744073709551615 := by
  rw [ed]
  have a := Int.ediv_nonneg hv0 (show 0 ≤ y1 by omega)
  have b := Int.ediv_le_self y1 hv0
  omega
 have app : ∀ {A : Type} {f g : Int → Int → Int → Int → Int → Int → Int → Int → Int → A}, f = g → f y s y1 y0 u u1 u0 q r = g y s y1 y0 u u1 u0 q r := fun hh => by rw [hh]
 have go : ∀ (hs : List Bool) (ob : List Prop), 1 ≤ q → stopV [2, 8, 9, 10, 11, 13, 14, 15, 16] [] (run1D (L1D.2.length + 1) [] hs y s y1 y0 u u1 u0 q r) = some (K1D, [(2, si .u64 y), (8, si .u64 s), (9, si .u64 y1), (10, si .u64 y0), (11, si .u64 u), (13, si .u64 u1), (14, si .u64 u0), (15, si .u64 (IntKind.wrap .u64 (q - 1))), (16, si .u64 (IntKind.wrap .u64 (r + y1)))], [], ob) → allP ob →
   (u * 4294967296 + u1) / y ≤ q - 1 → r + y1 < 4294967296 → Goes Try.prog 74 (RetW [] K W (vQ (IntKind.wrap .u64 (IntKind.wrap .u64 ((u * 4294967296 + u1) / y * 4294967296) + (v * 4294967296 + u0) / y)) (Int.fdiv (IntKind.wrap .u64 (IntKind.wrap .u64 (IntKind.wrap .u64 (v * 4294967296) + u0) - IntKind.wrap .u64 ((v * 4294967296 + u0) / y * y))) (2 ^ if Int.toNat s ≤ 64 then Int.toNat s else 64))) []) (.code L1D.1 :: .inLoop L1D.1 :: L1D.2) a1 w1 := by
  intro hs ob h1q hrun hob hle hlt
  refine goes_stop (ρ0 := []) (r := []) (T := T1D y s y1 y0 u u1 u0 (q - 1) (r + y1) []) (callZ_ok 4) funD hrun hob ⟨by decide, ?_, trivial⟩
   (fun ρ' a w hh => ih (q - 1, r + y1) (div_step h i hle hlt (by omega)) (by show (q - 1).toNat < q.toNat; omega) ρ' a w hh) (S := T1D y s y1 y0 u u1 u0 q r hs) ⟨hr1.sl, hr1.m⟩
  rw [w_sub h1q hqh, wa]
  simp [T1D, leSlots, leV, leV1, leC, si]
 have nx : ∀ (hs' : List Bool) (ob : List Prop) (q' : Int), q' = (u * 4294967296 + u1) / y → stopV [2, 8, 9, 10, 14, 15, 17, 18, 16] [] (run1D 0 [false] hs' y s y1 y0 u u1 u0 q r) = some (E2D, [(2, si .u64 y), (8, si .u64 s), (9, si .u64 y1), (10, si .u64 y0), (14, si .u64 u0), (15, si .u64 q'), (17, si .u64 (IntKind.wrap .u64 (IntKind.wrap .u64 (IntKind.wrap .u64 (u * 4294967296) + u1) - IntKind.wrap .u64 (q' * y)))), (18, si .u64 (Int.tdiv (IntKind.wrap .u64 (IntKind.wrap .u64 (IntKind.wrap .u64 (u * 4294967296) + u1) - IntKind.wrap .u64 (q' * y))) y1)), (16, si .u64 (IntKind.wrap .u64 (IntKind.wrap .u64 (IntKind.wrap .u64 (IntKind.wrap .u64 (u * 4294967296) + u1) - IntKind.wrap .u64 (q' * y)) - IntKind.wrap .u64 (Int.tdiv (IntKind.wrap .u64 (IntKind.wrap .u64 (IntKind.wrap .u64 (u * 4294967296) + u1) - IntKind.wrap .u64 (q' * y))) y1 * y1))))], [], ob) → allP ob →
   Goes Try.prog 74 (RetW [] K W (vQ (IntKind.wrap .u64 (IntKind.wrap .u64 ((u * 4294967296 + u1) / y * 4294967296) + (v * 4294967296 + u0) / y)) (Int.fdiv (IntKind.wrap .u64 (IntKind.wrap .u64 (IntKind.wrap .u64 (v * 4294967296) + u0) - IntKind.wrap .u64 ((v * 4294967296 + u0) / y * y))) (2 ^ if Int.toNat s ≤ 64 then Int.toNat s else 64))) []) (.code L1D.1 :: .inLoop L1D.1 :: L1D.2) a1 w1 := by
  intro hs' ob q' hq' hrun hob
  subst hq'
  rw [← ev] at hrun
  refine goes_stop (ρ0 := []) (r := []) (T := T2D y s y1 y0 u0 ((u * 4294967296 + u1) / y) v (v / y1) (v % y1) []) (callZ_ok 4) funD hrun hob ⟨by decide, ?_, trivial⟩
   (fun ρ' a w hh => div_loop2 h hs hv0 hv hm0 hm (div_start h hv0 hv hm0 hm) hh) (S := T1D y s y1 y0 u u1 u0 q r hs') ⟨hr1.sl, hr1.m⟩
  rw [show IntKind.wrap .u64 (v - IntKind.wrap .u64 (Int.tdiv v y1 * y1)) = v % y1 from es, ed]
  simp [T2D, leSlots, leV, leV1, leC, si]
 by_cases c1 : 4294967296 ≤ q
 ·have hle := div_lt_a h hu hn c1
  by_cases c2 : 4294967296 ≤ r + y1
  ·have hq' := div_break h i hn0 hle c2 (by omega)
   have hrun := app d1y
   rw [w_sub (by omega) hqh] at hrun
   refine nx [true, true] _ (q - 1) hq' hrun ⟨by omega, ?_, by rw [wa]; exact decide_eq_true c2, decide_eq_true c1, trivial⟩
   rw [hq', ← ev]; exact hdv
  ·exact go [true, false] _ (by omega) (app d1a) ⟨by rw [wa]; exact decide_eq_false c2, decide_eq_true c1, trivial⟩ hle (by omega)
 ·have wm := w_mul hq0 (by omega) hl0 hh0
  by_cases c3 : 4294967296 * r + u1 < q * y0
  ·have hle := div_lt_b h i c3
   have hq1 : 1 ≤ q := by
    refine Classical.byContradiction fun hne => ?_
    have : q = 0 := by omega
    rw [this, Int.zero_mul] at c3; omega
   by_cases c2 : 4294967296 ≤ r + y1
   ·have hq' := div_break h i hn0 hle c2 (by omega)
    have hrun := app d1z
    rw [w_sub (by omega) hqh] at hrun
    refine nx [false, true, true] _ (q - 1) hq' hrun ⟨by omega, ?_, by rw [wa]; exact decide_eq_true c2, by rw [wl, wm]; exact decide_eq_true c3, decide_eq_false c1, trivial⟩
    rw [hq', ← ev]; exact hdv
   ·exact go [false, true, false] _ hq1 (app d1b) ⟨by rw [wa]; exact decide_eq_false c2, by rw [wl, wm]; exact decide_eq_true c3, decide_eq_false c1, trivial⟩ hle (by omega)
  ·have he := div_exit h i (by omega)
   refine nx [false, false] _ q he (app d1x) ⟨by omega, ?_, by rw [wl, wm]; exact decide_eq_false c3, decide_eq_false c1, trivial⟩
   rw [he, ← ev]; exact hdv
theorem div_works (hi lo y : Int) (h : okD hi lo y = true) : Works Try.prog 74 [si .u64 hi, si .u64 lo, si .u64 y] [] (vQ (qD hi lo y) (rD hi lo y)) [] := by
 unfold okD at h
 rw [Bool.and_eq_true, Bool.or_eq_true] at h
 obtain ⟨hA, hB⟩ := h
 have hA := of_decide_eq_true hA
 unfold okA at hA
 have app : ∀ {A : Type} {f g : Int → Int → Int → A}, f = g → f hi lo y = g hi lo y := fun hh => by rw [hh]
 by_cases h0 : hi = 0
 ·have ht : 0 ≤ Int.tdiv lo y ∧ Int.tdiv lo y ≤ 18446744073709551615 := by
   rw [Int.tdiv_eq_ediv_of_nonneg hA.2.1]
   have a := Int.ediv_nonneg hA.2.1 (show 0 ≤ y by omega)
   have b := Int.ediv_le_self y hA.2.1
   omega
  refine works_of (r := []) tabZ_ok (app dvA) ⟨by omega, by omega, ht, decide_eq_true h0, decide_eq_false (by omega), decide_eq_false (by omega), trivial⟩ (by decide) ?_ trivial
  simp [vQ, qD, rD, h0, leV, leL1, leV1, leC]
 ·have hB : okB2 hi lo y := by
   rcases hB with hB | hB
   ·exact absurd (of_decide_eq_true hB) h0
   ·exact of_decide_eq_true hB
  obtain ⟨k1, k2, k3, k4, k5, k6, k7, k8, k9, k10, k11, k12, k13, k14, k15⟩ := hB
  have hok : DivOk (YD y) (y1D y) (y0D y) := ⟨k1, k2, k3, k4, k5⟩
  refine works_goes funD bodD (by exact tmpD) fun ρ K W a w hρ hr => ?_
  have hρ0 : ρ = [] := List.length_eq_zero_iff.1 hρ
  subst hρ0
  obtain ⟨es, ed⟩ := e_start (u := uD hi lo y) (y1 := y1D y) k6 (by omega) k2
  have hdu : 0 ≤ Int.tdiv (uD hi lo y) (y1D y) ∧ Int.tdiv (uD hi lo y) (y1D y) ≤ 18446744073709551615 := by
   rw [ed]
   have a := Int.ediv_nonneg k6 (show 0 ≤ y1D y by omega)
   have b := Int.ediv_le_self (y1D y) k6
   omega
  have hq : vQ (qD hi lo y) (rD hi lo y) = vQ (IntKind.wrap .u64 (IntKind.wrap .u64 ((uD hi lo y * 4294967296 + u1D lo y) / YD y * 4294967296) + (vD hi lo y * 4294967296 + u0D lo y) / YD y)) (Int.fdiv (IntKind.wrap .u64 (IntKind.wrap .u64 (IntKind.wrap .u64 (vD hi lo y * 4294967296) + u0D lo y) - IntKind.wrap .u64 ((vD hi lo y * 4294967296 + u0D lo y) / YD y * YD y))) (2 ^ if Int.toNat (sD y) ≤ 64 then Int.toNat (sD y) else 64)) := by
   unfold qD rD
   rw [if_neg h0, if_neg h0]
   rfl
  rw [hq]
  refine goes_stop (ρ0 := []) (r := []) (T := T1D (YD y) (sD y) (y1D y) (y0D y) (uD hi lo y) (u1D lo y) (u0D lo y) (uD hi lo y / y1D y) (uD hi lo y % y1D y) []) (callZ_ok 4) funD (app dvE) ⟨show y1D y ≠ 0 by omega, hdu, k13, w_nn _, k13, k13, by omega, by omega, decide_eq_false h0, decide_eq_false (by omega), decide_eq_false (by omega), trivial⟩ ⟨by decide, ?_, trivial⟩
   (fun ρ' a w hh => div_loop1 hok k8 k13 k6 k7 k9 k10 k11 k12 rfl k14 k15 (div_start hok k6 k7 k9 k10) hh) (S := ⟨argSlots 0 [si .u64 hi, si .u64 lo, si .u64 y], [], [false, false, false], []⟩) ⟨hr.sl, hr.m⟩
  rw [← es, ← ed]
  exact ⟨⟨rfl, rfl, rfl⟩, ⟨rfl, rfl, rfl⟩, ⟨rfl, rfl, rfl⟩, ⟨rfl, rfl, rfl⟩, ⟨rfl, rfl, rfl⟩, ⟨rfl, rfl, rfl⟩, ⟨rfl, rfl, rfl⟩, ⟨rfl, rfl, rfl⟩, ⟨rfl, rfl, rfl⟩, trivial⟩
def gDiv : Sx.Loc := fun args bs => match args, bs with
 | [.v (.one (.sint .u64 hi)), .v (.one (.sint .u64 lo)), .v (.one (.sint .u64 y))], [] => some (vQ (qD hi lo y) (rD hi lo y), [], [okD hi lo y = true])
 | _, _ => none
theorem div_tab : TabOk Try.prog 74 (loc (fun _ => []) gDiv) := loc_ok fun xs bs v bs' ob hg hob hokb => by
 unfold gDiv at hg
 split at hg
 ·cases hg
  exact div_works _ _ _ (hob _ (by simp))
 ·cases hg
end
section
open Go.Sx
def tabD := tabs [(74, loc (fun _ => []) gDiv)]
noncomputable def callD (d : Nat) := callN Try.prog tabD (fun _ => false) 100000 d
def bv (b : Bool) : V := .v (.one (.bool b))
theorem lsC1 : (fun x p : Int => retV [] (callD 4 72 [si .u64 x, si .u64 p, bv true] [] [true])) = fun (x : Int) (p : Int) => some (V.v (V1.one (C.bool (true))), ([], [decide (0 < Int.tdiv (Int.tdiv (IntKind.wrap .u64 (p * 4294967296)) x) x) = true, okD (Int.tmod (Int.tdiv (IntKind.wrap .u64 (p * 4294967296)) x) x) (qD (Int.tmod (IntKind.wrap .u64 (p * 4294967296)) x) 0 x) x = true, x ≠ 0, x ≠ 0, 0 ≤ Int.tdiv (Int.tdiv (IntKind.wrap .u64 (p * 4294967296)) x) x ∧ Int.tdiv (Int.tdiv (IntKind.wrap .u64 (p * 4294967296)) x) x ≤ 18446744073709551615, okD (Int.tmod (IntKind.wrap .u64 (p * 4294967296)) x) 0 x = true, x ≠ 0, x ≠ 0, 0 ≤ Int.tdiv (IntKind.wrap .u64 (p * 4294967296)) x ∧ Int.tdiv (IntKind.wrap .u64 (p * 4294967296)) x ≤ 18446744073709551615])) := by kernel_rfl
theorem lsC0 : (fun x p : Int => retV [] (callD 4 72 [si .u64 x, si .u64 p, bv true] [] [false])) = fun (x : Int) (p : Int) => some (V.v (V1.one (C.sbool (decide (x ≤ qD (Int.tmod (Int.tdiv (IntKind.wrap .u64 (p * 4294967296)) x) x) (qD (Int.tmod (IntKind.wrap .u64 (p * 4294967296)) x) 0 x) x)))), ([], [decide (0 < Int.tdiv (Int.tdiv (IntKind.wrap .u64 (p * 4294967296)) x) x) = false, okD (Int.tmod (Int.tdiv (IntKind.wrap .u64 (p * 4294967296)) x) x) (qD (Int.tmod (IntKind.wrap .u64 (p * 4294967296)) x) 0 x) x = true, x ≠ 0, x ≠ 0, 0 ≤ Int.tdiv (Int.tdiv (IntKind.wrap .u64 (p * 4294967296)) x) x ∧ Int.tdiv (Int.tdiv (IntKind.wrap .u64 (p * 4294967296)) x) x ≤ 18446744073709551615, okD (Int.tmod (IntKind.wrap .u64 (p * 4294967296)) x) 0 x = true, x ≠ 0, x ≠ 0, 0 ≤ Int.tdiv (IntKind.wrap .u64 (p * 4294967296)) x ∧ Int.tdiv (IntKind.wrap .u64 (p * 4294967296)) x ≤ 18446744073709551615])) := by kernel_rfl
theorem lsS1 : (fun x p : Int => retV [] (callD 4 72 [si .u64 x, si .u64 p, bv false] [] [true])) = fun (x : Int) (p : Int) => some (V.v (V1.one (C.bool (true))), ([], [decide (0 < Int.tdiv p x) = true, okD (Int.tmod p x) 0 x = true, x ≠ 0, x ≠ 0, 0 ≤ Int.tdiv p x ∧ Int.tdiv p x ≤ 18446744073709551615])) := by kernel_rfl
theorem lsS0 : (fun x p : Int => retV [] (callD 4 72 [si .u64 x, si .u64 p, bv false] [] [false])) = fun (x : Int) (p : Int) => some (V.v (V1.one (C.sbool (decide (x ≤ qD (Int.tmod p x) 0 x)))), ([], [decide (0 < Int.tdiv p x) = false, okD (Int.tmod p x) 0 x = true, x ≠ 0, x ≠ 0, 0 ≤ Int.tdiv p x ∧ Int.tdiv p x ≤ 18446744073709551615])) := by kernel_rfl
end
section
open Go.ChangeShapes Go.WideShapes Go.ChangeAt Go.RowKit Go.Sx
theorem tabD_ok : ∀ f g, tabD f = some g → TabOk Try.prog f g := tabs_ok fun x hx => by
 simp only [List.mem_cons, List.not_mem_nil, or_false] at hx
 rcases hx with rfl
 exact div_tab
def c1Q (x p : Int) : Int := Int.tdiv (IntKind.wrap .u64 (p * 4294967296)) x
def c1R (x p : Int) : Int := qD (Int.tmod (IntKind.wrap .u64 (p * 4294967296)) x) 0 x
def valL (x p : Int) (c : Bool) : Bool := match c with
 | true => decide (0 < Int.tdiv (c1Q x p) x) || decide (x ≤ qD (Int.tmod (c1Q x p) x) (c1R x p) x)
 | false => decide (0 < Int.tdiv p x) || decide (x ≤ qD (Int.tmod p x) 0 x)
def okL (x p : Int) (c : Bool) : Bool := match c with
 | true => okD (Int.tmod (IntKind.wrap .u64 (p * 4294967296)) x) 0 x && okD (Int.tmod (c1Q x p) x) (c1R x p) x && decide (x ≠ 0 ∧ 0 ≤ c1Q x p ∧ c1Q x p ≤ 18446744073709551615 ∧ 0 ≤ Int.tdiv (c1Q x p) x ∧ Int.tdiv (c1Q x p) x ≤ 18446744073709551615)
 | false => okD (Int.tmod p x) 0 x && decide (x ≠ 0 ∧ 0 ≤ Int.tdiv p x ∧ Int.tdiv p x ≤ 18446744073709551615)
theorem less_makes (x p : Int) (c : Bool) (h : okL x p c = true) : Makes Try.prog 72 [.int .u64 x, .int .u64 p, .bool c] (bv (valL x p c)) [] := by
 have hu : relVs [] [si .u64 x, si .u64 p, bv c] [.int .u64 x, .int .u64 p, .bool c] := ⟨_, _, rfl, ⟨rfl, rfl⟩, _, _, rfl, ⟨rfl, rfl⟩, _, _, rfl, ⟨rfl, rfl⟩, rfl⟩
 have app : ∀ {A : Type} {f g : Int → Int → A}, f = g → f x p = g x p := fun hh => by rw [hh]
 cases c with
 | true =>
  simp only [okL, Bool.and_eq_true] at h
  obtain ⟨⟨h1, h2⟩, h3⟩ := h
  obtain ⟨k1, k2, k3, k4, k5⟩ := of_decide_eq_true h3
  by_cases hp : 0 < Int.tdiv (c1Q x p) x
  ·refine makes_of (sel := []) (v := bv (valL x p true)) (bs := []) tabD_ok (app lsC1) ⟨decide_eq_true hp, h2, k1, k1, ⟨k4, k5⟩, h1, k1, k1, ⟨k2, k3⟩, trivial⟩ (by decide) ?_ trivial hu
   show true = valL x p true
   simp only [valL, decide_eq_true hp, Bool.true_or]
  ·refine makes_of (sel := []) (v := bv (valL x p true)) (bs := []) tabD_ok (app lsC0) ⟨decide_eq_false hp, h2, k1, k1, ⟨k4, k5⟩, h1, k1, k1, ⟨k2, k3⟩, trivial⟩ (by decide) ?_ trivial hu
   show decide (x ≤ qD (Int.tmod (c1Q x p) x) (c1R x p) x) = valL x p true
   simp only [valL, decide_eq_false hp, Bool.false_or]
 | false =>
  simp only [okL, Bool.and_eq_true] at h
  obtain ⟨h1, h3⟩ := h
  obtain ⟨k1, k4, k5⟩ := of_decide_eq_true h3
  by_cases hp : 0 < Int.tdiv p x
  ·refine makes_of (sel := []) (v := bv (valL x p false)) (bs := []) tabD_ok (app lsS1) ⟨decide_eq_true hp, h1, k1, k1, ⟨k4, k5⟩, trivial⟩ (by decide) ?_ trivial hu
   show true = valL x p false
   simp only [valL, decide_eq_true hp, Bool.true_or]
  ·refine makes_of (sel := []) (v := bv (valL x p false)) (bs := []) tabD_ok (app lsS0) ⟨decide_eq_false hp, h1, k1, k1, ⟨k4, k5⟩, trivial⟩ (by decide) ?_ trivial hu
   show decide (x ≤ qD (Int.tmod p x) 0 x) = valL x p false
   simp only [valL, decide_eq_false hp, Bool.false_or]
def gLess : List V → List Bool → Option Made := fun args h => match args with
 | [.v (.one (.int .u64 x)), .v (.one (.int .u64 p)), .v (.one (.bool c))] => match okL x p c with
  | true => some (bv (valL x p c), [], h, [])
  | false => none
 | _ => none
theorem less_tab : TabOk Try.prog 72 (fresh gLess) := fresh_ok fun args h v bs h' ob hg hob => by
 unfold gLess at hg
 split at hg
 ·rename_i x p c
  split at hg
  ·rename_i hk
   injection hg with hg; injection hg with e1 e2; injection e2 with e2 e3
   subst e1; subst e2
   refine ⟨rfl, fun ρ us hu => ?_⟩
   obtain ⟨_, _, rfl, ⟨r1, _⟩, _, _, rfl, ⟨r2, _⟩, _, _, rfl, ⟨r3, _⟩, r4⟩ := hu
   simp only [C.rel] at r1 r2 r3
   simp only [relVs] at r4
   subst r1; subst r2; subst r3; subst r4
   exact less_makes x p c hk
  ·cases hg
 ·cases hg
def tabR := tabs [(72, fresh gLess)]
theorem tabR_ok : ∀ f g, tabR f = some g → TabOk Try.prog f g := tabs_ok fun x hx => by
 simp only [List.mem_cons, List.not_mem_nil, or_false] at hx
 rcases hx with rfl
 exact less_tab
noncomputable def rootOne (e : Int × Bool × Int) : Bool := okV (si .u32 e.2.2) (callN Try.prog tabR (fun _ => false) 100000 5 64 [.v (.one (.int .u64 e.1)), bv e.2.1] [] [])
def rt0L : List (Int × Bool × Int) := [(2, true, 1116352408), (3, true, 1899447441), (5, true, 3049323471), (7, true, 3921009573), (11, true, 961987163), (13, true, 1508970993), (17, true, 2453635748), (19, true, 2870763221), (23, true, 3624381080)]
def rt1L : List (Int × Bool × Int) := [(29, true, 310598401), (31, true, 607225278), (37, true, 1426881987), (41, true, 1925078388), (43, true, 2162078206), (47, true, 2614888103), (53, true, 3248222580), (59, true, 3835390401), (61, true, 4022224774)]
def rt2L : List (Int × Bool × Int) := [(67, true, 264347078), (71, true, 604807628), (73, true, 770255983), (79, true, 1249150122), (83, true, 1555081692), (89, true, 1996064986), (97, true, 2554220882), (101, true, 2821834349), (103, true, 2952996808)]
def rt3L : List (Int × Bool × Int) := [(107, true, 3210313671), (109, true, 3336571891), (113, true, 3584528711), (127, true, 113926993), (131, true, 338241895), (137, true, 666307205), (139, true, 773529912), (149, true, 1294757372), (151, true, 1396182291)]
def rt4L : List (Int × Bool × Int) := [(157, true, 1695183700), (163, true, 1986661051), (167, true, 2177026350), (173, true, 2456956037), (179, true, 2730485921), (181, true, 2820302411), (191, true, 3259730800), (193, true, 3345764771), (197, true, 3516065817)]
def rt5L : List (Int × Bool × Int) := [(199, true, 3600352804), (211, true, 4094571909), (223, true, 275423344), (227, true, 430227734), (229, true, 506948616), (233, true, 659060556), (239, true, 883997877), (241, true, 958139571), (251, true, 1322822218)]
def rt6L : List (Int × Bool × Int) := [(257, true, 1537002063), (263, true, 1747873779), (269, true, 1955562222), (271, true, 2024104815), (277, true, 2227730452), (281, true, 2361852424), (283, true, 2428436474), (293, true, 2756734187), (307, true, 3204031479)]
def rt7L : List (Int × Bool × Int) := [(311, true, 3329325298), (2, false, 1779033703), (3, false, 3144134277), (5, false, 1013904242), (7, false, 2773480762), (11, false, 1359893119), (13, false, 2600822924), (17, false, 528734635), (19, false, 1541459225)]
end
end Go.Proofs.Ytbamfolinbehiaa
