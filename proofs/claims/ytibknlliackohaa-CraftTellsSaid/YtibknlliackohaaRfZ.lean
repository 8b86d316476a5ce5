/- Several texts in one: RfA, RfB, RfC, RfD, RfE, RfF, RfG, RmA, RmB. -/
import Derived.Test.YtibknlliackohaaCrU
namespace Go.Proofs.Ytibknlliackohaa
section
/- The document's bags (homesteadref09), by the code: right, counts, one by one; piece by piece. -/
open Go.Sx
def tabR0 := tabs [(40, byteTab gS)]
noncomputable def callR0 (d : Nat) := callN Try.prog tabR0 (fun _ => false) 100000 d
noncomputable def LRr := loopN Try.prog 26 0
noncomputable def ERr : List Item := .code (.loop LRr.1) :: LRr.2
noncomputable def KRr : List Item := .inLoop LRr.1 :: LRr.2
noncomputable def FRr : Func := match Try.prog.funcs[26]? with | some fn => fn | none => default
def TRr (l : Rows2) (c : Nat) (i : Nat) (h : List Bool) : St := ⟨[(0, sl 0 l.length c), (5, si .i64 i)], [ro l], h, []⟩
noncomputable def rndRr (lim : Nat) (h : List Bool) (l : Rows2) (c i : Nat) := run Try.prog (callR0 3) (fun _ => false) FRr lim 100000 [] (.code LRr.1 :: .inLoop LRr.1 :: LRr.2) (TRr l c i h)
theorem rrE : (fun (l : Rows2) (c : Nat) (n : Int) => stopV [0, 5] [0] (run Try.prog (callR0 3) (fun _ => false) FRr 0 100000 [false] [.code (body 26)] ⟨argSlots 0 [sl 0 l.length c, si .i64 n], [ro l], [false], []⟩)) = fun (l : Rows2) (c : Nat) (n : Int) => some ((ERr, ([(((0 : Nat)), (V.v (V1.one (C.slice ((0 : Nat)) (N.c ((0 : Nat))) ((2 : Nat)) (N.s (List.length l)) (N.s (c)))))), (((5 : Nat)), (V.v (V1.one (C.int (IntKind.i64) ((0 : Int))))))], ([(SB.mk (false) (Cells.recs ([IntKind.u8, IntKind.i64]) (l)))], [(!decide ((↑(List.length l) : Int) = n)) = false])))) := by kernel_rfl
theorem rrR0 : (fun (l : Rows2) (c i : Nat) => stopV [0, 5] [0] (rndRr (LRr.2.length + 1) [true, false] l c i)) = fun (l : Rows2) (c : Nat) (i : Nat) => some ((KRr, ([(((0 : Nat)), (V.v (V1.one (C.slice ((0 : Nat)) (N.c ((0 : Nat))) ((2 : Nat)) (N.s (List.length l)) (N.s (c)))))), (((5 : Nat)), (V.v (V1.one (C.sint (IntKind.i64) ((↑i : Int) + (1 : Int))))))], ([(SB.mk (false) (Cells.recs ([IntKind.u8, IntKind.i64]) (l)))], [(-9223372036854775808 : Int) ≤ (↑i : Int) + (1 : Int) ∧ (↑i : Int) + (1 : Int) ≤ (9223372036854775807 : Int), (!(decide (List.getD (List.getD l (i) []) (0 : Nat) (0 : Int) = (0 : Int)) && (decide (List.getD (List.getD l (i) []) (1 : Nat) (0 : Int) = (0 : Int)) && true))) = false, i < List.length l, (0 : Int) ≤ (↑i : Int), (↑i : Int) < (↑(List.length l) : Int), decide ((↑i : Int) < (↑(List.length l) : Int)) = true])))) := by kernel_rfl
theorem rrR1 : (fun (l : Rows2) (c i : Nat) => stopV [0, 5] [0] (rndRr (LRr.2.length + 1) [true, true, false, false] l c i)) = fun (l : Rows2) (c : Nat) (i : Nat) => some ((KRr, ([(((0 : Nat)), (V.v (V1.one (C.slice ((0 : Nat)) (N.c ((0 : Nat))) ((2 : Nat)) (N.s (List.length l)) (N.s (c)))))), (((5 : Nat)), (V.v (V1.one (C.sint (IntKind.i64) ((↑i : Int) + (1 : Int))))))], ([(SB.mk (false) (Cells.recs ([IntKind.u8, IntKind.i64]) (l)))], [(-9223372036854775808 : Int) ≤ (↑i : Int) + (1 : Int) ∧ (↑i : Int) + (1 : Int) ≤ (9223372036854775807 : Int), decide (stackT (List.getD (List.getD l (i) []) (0 : Nat) (0 : Int)) < List.getD (List.getD l (i) []) (1 : Nat) (0 : Int)) = false, (0 : Int) ≤ List.getD (List.getD l (i) []) (0 : Nat) (0 : Int) ∧ List.getD (List.getD l (i) []) (0 : Nat) (0 : Int) < (256 : Int), i < List.length l, (0 : Int) ≤ (↑i : Int), (↑i : Int) < (↑(List.length l) : Int), i < List.length l, (0 : Int) ≤ (↑i : Int), (↑i : Int) < (↑(List.length l) : Int), decide (List.getD (List.getD l (i) []) (1 : Nat) (0 : Int) < (1 : Int)) = false, i < List.length l, (0 : Int) ≤ (↑i : Int), (↑i : Int) < (↑(List.length l) : Int), (!(decide (List.getD (List.getD l (i) []) (0 : Nat) (0 : Int) = (0 : Int)) && (decide (List.getD (List.getD l (i) []) (1 : Nat) (0 : Int) = (0 : Int)) && true))) = true, i < List.length l, (0 : Int) ≤ (↑i : Int), (↑i : Int) < (↑(List.length l) : Int), decide ((↑i : Int) < (↑(List.length l) : Int)) = true])))) := by kernel_rfl
theorem rrX0 : (fun (l : Rows2) (c i : Nat) => endV [0] (rndRr 0 [true, true, true] l c i)) = fun (l : Rows2) (c : Nat) (i : Nat) => some (((V.v (V1.one (C.bool (false)))), ([(SB.mk (false) (Cells.recs ([IntKind.u8, IntKind.i64]) (l)))], [decide (List.getD (List.getD l (i) []) (1 : Nat) (0 : Int) < (1 : Int)) = true, i < List.length l, (0 : Int) ≤ (↑i : Int), (↑i : Int) < (↑(List.length l) : Int), (!(decide (List.getD (List.getD l (i) []) (0 : Nat) (0 : Int) = (0 : Int)) && (decide (List.getD (List.getD l (i) []) (1 : Nat) (0 : Int) = (0 : Int)) && true))) = true, i < List.length l, (0 : Int) ≤ (↑i : Int), (↑i : Int) < (↑(List.length l) : Int), decide ((↑i : Int) < (↑(List.length l) : Int)) = true]))) := by kernel_rfl
theorem rrX1 : (fun (l : Rows2) (c i : Nat) => endV [0] (rndRr 0 [true, true, false, true] l c i)) = fun (l : Rows2) (c : Nat) (i : Nat) => some (((V.v (V1.one (C.bool (false)))), ([(SB.mk (false) (Cells.recs ([IntKind.u8, IntKind.i64]) (l)))], [decide (stackT (List.getD (List.getD l (i) []) (0 : Nat) (0 : Int)) < List.getD (List.getD l (i) []) (1 : Nat) (0 : Int)) = true, (0 : Int) ≤ List.getD (List.getD l (i) []) (0 : Nat) (0 : Int) ∧ List.getD (List.getD l (i) []) (0 : Nat) (0 : Int) < (256 : Int), i < List.length l, (0 : Int) ≤ (↑i : Int), (↑i : Int) < (↑(List.length l) : Int), i < List.length l, (0 : Int) ≤ (↑i : Int), (↑i : Int) < (↑(List.length l) : Int), decide (List.getD (List.getD l (i) []) (1 : Nat) (0 : Int) < (1 : Int)) = false, i < List.length l, (0 : Int) ≤ (↑i : Int), (↑i : Int) < (↑(List.length l) : Int), (!(decide (List.getD (List.getD l (i) []) (0 : Nat) (0 : Int) = (0 : Int)) && (decide (List.getD (List.getD l (i) []) (1 : Nat) (0 : Int) = (0 : Int)) && true))) = true, i < List.length l, (0 : Int) ≤ (↑i : Int), (↑i : Int) < (↑(List.length l) : Int), decide ((↑i : Int) < (↑(List.length l) : Int)) = true]))) := by kernel_rfl
theorem rrX2 : (fun (l : Rows2) (c i : Nat) => endV [0] (rndRr 0 [false] l c i)) = fun (l : Rows2) (c : Nat) (i : Nat) => some (((V.v (V1.one (C.bool (true)))), ([(SB.mk (false) (Cells.recs ([IntKind.u8, IntKind.i64]) (l)))], [decide ((↑i : Int) < (↑(List.length l) : Int)) = false]))) := by kernel_rfl
noncomputable def LRc := loopN Try.prog 28 0
noncomputable def ERc : List Item := .code (.loop LRc.1) :: LRc.2
noncomputable def KRc : List Item := .inLoop LRc.1 :: LRc.2
noncomputable def FRc : Func := match Try.prog.funcs[28]? with | some fn => fn | none => default
def TRc (l : Rows2) (c : Nat) (x acc : Int) (i : Nat) (h : List Bool) : St := ⟨[(0, sl 0 l.length c), (1, si .u8 x), (5, si .i64 acc), (6, si .i64 i)], [ro l], h, []⟩
noncomputable def rndRc (lim : Nat) (h : List Bool) (l : Rows2) (c : Nat) (x acc : Int) (i : Nat) := run Try.prog (callR0 3) (fun _ => false) FRc lim 100000 [] (.code LRc.1 :: .inLoop LRc.1 :: LRc.2) (TRc l c x acc i h)
theorem rcE : (fun (l : Rows2) (c : Nat) (x : Int) => stopV [0, 1, 5, 6] [0] (run Try.prog (callR0 3) (fun _ => false) FRc 0 100000 [false] [.code (body 28)] ⟨argSlots 0 [sl 0 l.length c, si .u8 x], [ro l], [], []⟩)) = fun (l : Rows2) (c : Nat) (x : Int) => some ((ERc, ([(((0 : Nat)), (V.v (V1.one (C.slice ((0 : Nat)) (N.c ((0 : Nat))) ((2 : Nat)) (N.s (List.length l)) (N.s (c)))))), (((1 : Nat)), (V.v (V1.one (C.sint (IntKind.u8) (x))))), (((5 : Nat)), (V.v (V1.one (C.int (IntKind.i64) ((0 : Int)))))), (((6 : Nat)), (V.v (V1.one (C.int (IntKind.i64) ((0 : Int))))))], ([(SB.mk (false) (Cells.recs ([IntKind.u8, IntKind.i64]) (l)))], [])))) := by kernel_rfl
theorem rcR0 : (fun (l : Rows2) (c : Nat) (x acc : Int) (i : Nat) => stopV [0, 1, 5, 6] [0] (rndRc (LRc.2.length + 1) [true, false] l c x acc i)) = fun (l : Rows2) (c : Nat) (x : Int) (acc : Int) (i : Nat) => some ((KRc, ([(((0 : Nat)), (V.v (V1.one (C.slice ((0 : Nat)) (N.c ((0 : Nat))) ((2 : Nat)) (N.s (List.length l)) (N.s (c)))))), (((1 : Nat)), (V.v (V1.one (C.sint (IntKind.u8) (x))))), (((5 : Nat)), (V.v (V1.one (C.sint (IntKind.i64) (acc))))), (((6 : Nat)), (V.v (V1.one (C.sint (IntKind.i64) ((↑i : Int) + (1 : Int))))))], ([(SB.mk (false) (Cells.recs ([IntKind.u8, IntKind.i64]) (l)))], [(-9223372036854775808 : Int) ≤ (↑i : Int) + (1 : Int) ∧ (↑i : Int) + (1 : Int) ≤ (9223372036854775807 : Int), decide (List.getD (List.getD l (i) []) (0 : Nat) (0 : Int) = x) = false, i < List.length l, (0 : Int) ≤ (↑i : Int), (↑i : Int) < (↑(List.length l) : Int), decide ((↑i : Int) < (↑(List.length l) : Int)) = true])))) := by kernel_rfl
theorem rcR1 : (fun (l : Rows2) (c : Nat) (x acc : Int) (i : Nat) => stopV [0, 1, 5, 6] [0] (rndRc (LRc.2.length + 1) [true, true, false] l c x acc i)) = fun (l : Rows2) (c : Nat) (x : Int) (acc : Int) (i : Nat) => some ((KRc, ([(((0 : Nat)), (V.v (V1.one (C.slice ((0 : Nat)) (N.c ((0 : Nat))) ((2 : Nat)) (N.s (List.length l)) (N.s (c)))))), (((1 : Nat)), (V.v (V1.one (C.sint (IntKind.u8) (x))))), (((5 : Nat)), (V.v (V1.one (C.sint (IntKind.i64) (acc))))), (((6 : Nat)), (V.v (V1.one (C.sint (IntKind.i64) ((↑i : Int) + (1 : Int))))))], ([(SB.mk (false) (Cells.recs ([IntKind.u8, IntKind.i64]) (l)))], [(-9223372036854775808 : Int) ≤ (↑i : Int) + (1 : Int) ∧ (↑i : Int) + (1 : Int) ≤ (9223372036854775807 : Int), (!decide (x = (0 : Int))) = false, decide (List.getD (List.getD l (i) []) (0 : Nat) (0 : Int) = x) = true, i < List.length l, (0 : Int) ≤ (↑i : Int), (↑i : Int) < (↑(List.length l) : Int), decide ((↑i : Int) < (↑(List.length l) : Int)) = true])))) := by kernel_rfl
theorem rcR2 : (fun (l : Rows2) (c : Nat) (x acc : Int) (i : Nat) => stopV [0, 1, 5, 6] [0] (rndRc (LRc.2.length + 1) [true, true, true, false] l c x acc i)) = fun (l : Rows2) (c : Nat) (x : Int) (acc : Int) (i : Nat) => some ((KRc, ([(((0 : Nat)), (V.v (V1.one (C.slice ((0 : Nat)) (N.c ((0 : Nat))) ((2 : Nat)) (N.s (List.length l)) (N.s (c)))))), (((1 : Nat)), (V.v (V1.one (C.sint (IntKind.u8) (x))))), (((5 : Nat)), (V.v (V1.one (C.sint (IntKind.i64) (acc))))), (((6 : Nat)), (V.v (V1.one (C.sint (IntKind.i64) ((↑i : Int) + (1 : Int))))))], ([(SB.mk (false) (Cells.recs ([IntKind.u8, IntKind.i64]) (l)))], [(-9223372036854775808 : Int) ≤ (↑i : Int) + (1 : Int) ∧ (↑i : Int) + (1 : Int) ≤ (9223372036854775807 : Int), decide ((0 : Int) < List.getD (List.getD l (i) []) (1 : Nat) (0 : Int)) = false, i < List.length l, (0 : Int) ≤ (↑i : Int), (↑i : Int) < (↑(List.length l) : Int), (!decide (x = (0 : Int))) = true, decide (List.getD (List.getD l (i) []) (0 : Nat) (0 : Int) = x) = true, i < List.length l, (0 : Int) ≤ (↑i : Int), (↑i : Int) < (↑(List.length l) : Int), decide ((↑i : Int) < (↑(List.length l) : Int)) = true])))) := by kernel_rfl
theorem rcR3 : (fun (l : Rows2) (c : Nat) (x acc : Int) (i : Nat) => stopV [0, 1, 5, 6] [0] (rndRc (LRc.2.length + 1) [true, true, true, true] l c x acc i)) = fun (l : Rows2) (c : Nat) (x : Int) (acc : Int) (i : Nat) => some ((KRc, ([(((0 : Nat)), (V.v (V1.one (C.slice ((0 : Nat)) (N.c ((0 : Nat))) ((2 : Nat)) (N.s (List.length l)) (N.s (c)))))), (((1 : Nat)), (V.v (V1.one (C.sint (IntKind.u8) (x))))), (((5 : Nat)), (V.v (V1.one (C.sint (IntKind.i64) (acc + List.getD (List.getD l (i) []) (1 : Nat) (0 : Int)))))), (((6 : Nat)), (V.v (V1.one (C.sint (IntKind.i64) ((↑i : Int) + (1 : Int))))))], ([(SB.mk (false) (Cells.recs ([IntKind.u8, IntKind.i64]) (l)))], [(-9223372036854775808 : Int) ≤ (↑i : Int) + (1 : Int) ∧ (↑i : Int) + (1 : Int) ≤ (9223372036854775807 : Int), (-9223372036854775808 : Int) ≤ acc + List.getD (List.getD l (i) []) (1 : Nat) (0 : Int) ∧ acc + List.getD (List.getD l (i) []) (1 : Nat) (0 : Int) ≤ (9223372036854775807 : Int), i < List.length l, (0 : Int) ≤ (↑i : Int), (↑i : Int) < (↑(List.length l) : Int), decide ((0 : Int) < List.getD (List.getD l (i) []) (1 : Nat) (0 : Int)) = true, i < List.length l, (0 : Int) ≤ (↑i : Int), (↑i : Int) < (↑(List.length l) : Int), (!decide (x = (0 : Int))) = true, decide (List.getD (List.getD l (i) []) (0 : Nat) (0 : Int) = x) = true, i < List.length l, (0 : Int) ≤ (↑i : Int), (↑i : Int) < (↑(List.length l) : Int), decide ((↑i : Int) < (↑(List.length l) : Int)) = true])))) := by kernel_rfl
theorem rcX : (fun (l : Rows2) (c : Nat) (x acc : Int) (i : Nat) => endV [0] (rndRc 0 [false] l c x acc i)) = fun (l : Rows2) (c : Nat) (x : Int) (acc : Int) (i : Nat) => some (((V.v (V1.one (C.sint (IntKind.i64) (acc)))), ([(SB.mk (false) (Cells.recs ([IntKind.u8, IntKind.i64]) (l)))], [decide ((↑i : Int) < (↑(List.length l) : Int)) = false]))) := by kernel_rfl
noncomputable def LO1 := loopN Try.prog 41 0
noncomputable def LO2 := loopN Try.prog 41 1
noncomputable def EO1 : List Item := .code (.loop LO1.1) :: LO1.2
noncomputable def KO1 : List Item := .inLoop LO1.1 :: LO1.2
noncomputable def EO2 : List Item := .code (.loop LO2.1) :: LO2.2
noncomputable def KO2 : List Item := .inLoop LO2.1 :: LO2.2
noncomputable def FO : Func := match Try.prog.funcs[41]? with | some fn => fn | none => default
def TO1 (l : Rows2) (c : Nat) (x : Int) (i : Nat) (h : List Bool) : St := ⟨[(0, sl 0 l.length c), (1, si .u8 x), (5, si .i64 i)], [ow l], h, []⟩
def TO2 (l : Rows2) (c : Nat) (x : Int) (i : Nat) (h : List Bool) : St := ⟨[(0, sl 0 l.length c), (1, si .u8 x), (6, si .i64 i)], [ow l], h, []⟩
noncomputable def rndO1 (lim : Nat) (ls h : List Bool) (l : Rows2) (c : Nat) (x : Int) (i : Nat) := run Try.prog (callR0 3) (fun _ => false) FO lim 100000 ls (.code LO1.1 :: .inLoop LO1.1 :: LO1.2) (TO1 l c x i h)
noncomputable def rndO2 (lim : Nat) (h : List Bool) (l : Rows2) (c : Nat) (x : Int) (i : Nat) := run Try.prog (callR0 3) (fun _ => false) FO lim 100000 [] (.code LO2.1 :: .inLoop LO2.1 :: LO2.2) (TO2 l c x i h)
theorem onE : (fun (l : Rows2) (c : Nat) (x : Int) => stopV [0, 1, 5] [0] (run Try.prog (callR0 3) (fun _ => false) FO 0 100000 [false] [.code (body 41)] ⟨argSlots 0 [sl 0 l.length c, si .u8 x], [ow l], [], []⟩)) = fun (l : Rows2) (c : Nat) (x : Int) => some ((EO1, ([(((0 : Nat)), (V.v (V1.one (C.slice ((0 : Nat)) (N.c ((0 : Nat))) ((2 : Nat)) (N.s (List.length l)) (N.s (c)))))), (((1 : Nat)), (V.v (V1.one (C.sint (IntKind.u8) (x))))), (((5 : Nat)), (V.v (V1.one (C.int (IntKind.i64) ((0 : Int))))))], ([(SB.mk (true) (Cells.recs ([IntKind.u8, IntKind.i64]) (l)))], [])))) := by kernel_rfl
theorem onR0 : (fun (l : Rows2) (c : Nat) (x : Int) (i : Nat) => stopV [0, 1, 5] [0] (rndO1 (LO1.2.length + 1) [] [true, false] l c x i)) = fun (l : Rows2) (c : Nat) (x : Int) (i : Nat) => some ((KO1, ([(((0 : Nat)), (V.v (V1.one (C.slice ((0 : Nat)) (N.c ((0 : Nat))) ((2 : Nat)) (N.s (List.length l)) (N.s (c)))))), (((1 : Nat)), (V.v (V1.one (C.sint (IntKind.u8) (x))))), (((5 : Nat)), (V.v (V1.one (C.sint (IntKind.i64) ((↑i : Int) + (1 : Int))))))], ([(SB.mk (true) (Cells.recs ([IntKind.u8, IntKind.i64]) (l)))], [(-9223372036854775808 : Int) ≤ (↑i : Int) + (1 : Int) ∧ (↑i : Int) + (1 : Int) ≤ (9223372036854775807 : Int), decide (List.getD (List.getD l (i) []) (0 : Nat) (0 : Int) = x) = false, i < List.length l, (0 : Int) ≤ (↑i : Int), (↑i : Int) < (↑(List.length l) : Int), decide ((↑i : Int) < (↑(List.length l) : Int)) = true])))) := by kernel_rfl
theorem onR1 : (fun (l : Rows2) (c : Nat) (x : Int) (i : Nat) => stopV [0, 1, 5] [0] (rndO1 (LO1.2.length + 1) [] [true, true, false] l c x i)) = fun (l : Rows2) (c : Nat) (x : Int) (i : Nat) => some ((KO1, ([(((0 : Nat)), (V.v (V1.one (C.slice ((0 : Nat)) (N.c ((0 : Nat))) ((2 : Nat)) (N.s (List.length l)) (N.s (c)))))), (((1 : Nat)), (V.v (V1.one (C.sint (IntKind.u8) (x))))), (((5 : Nat)), (V.v (V1.one (C.sint (IntKind.i64) ((↑i : Int) + (1 : Int))))))], ([(SB.mk (true) (Cells.recs ([IntKind.u8, IntKind.i64]) (l)))], [(-9223372036854775808 : Int) ≤ (↑i : Int) + (1 : Int) ∧ (↑i : Int) + (1 : Int) ≤ (9223372036854775807 : Int), decide (List.getD (List.getD l (i) []) (1 : Nat) (0 : Int) < stackT x) = false, (0 : Int) ≤ x ∧ x < (256 : Int), i < List.length l, (0 : Int) ≤ (↑i : Int), (↑i : Int) < (↑(List.length l) : Int), decide (List.getD (List.getD l (i) []) (0 : Nat) (0 : Int) = x) = true, i < List.length l, (0 : Int) ≤ (↑i : Int), (↑i : Int) < (↑(List.length l) : Int), decide ((↑i : Int) < (↑(List.length l) : Int)) = true])))) := by kernel_rfl
theorem onX0 : (fun (l : Rows2) (c : Nat) (x : Int) (i : Nat) => endV [0] (rndO1 0 [] [true, true, true] l c x i)) = fun (l : Rows2) (c : Nat) (x : Int) (i : Nat) => some (((V.v (V1.one (C.bool (true)))), ([(SB.mk (true) (Cells.recs ([IntKind.u8, IntKind.i64]) (List.set l (i) (List.set (List.getD l (i) []) (1 : Nat) (List.getD (List.getD l (i) []) (1 : Nat) (0 : Int) + (1 : Int))))))], [i < List.length l, (0 : Int) ≤ (↑i : Int), (↑i : Int) < (↑(List.length l) : Int), (-9223372036854775808 : Int) ≤ List.getD (List.getD l (i) []) (1 : Nat) (0 : Int) + (1 : Int) ∧ List.getD (List.getD l (i) []) (1 : Nat) (0 : Int) + (1 : Int) ≤ (9223372036854775807 : Int), i < List.length l, (0 : Int) ≤ (↑i : Int), (↑i : Int) < (↑(List.length l) : Int), decide (List.getD (List.getD l (i) []) (1 : Nat) (0 : Int) < stackT x) = true, (0 : Int) ≤ x ∧ x < (256 : Int), i < List.length l, (0 : Int) ≤ (↑i : Int), (↑i : Int) < (↑(List.length l) : Int), decide (List.getD (List.getD l (i) []) (0 : Nat) (0 : Int) = x) = true, i < List.length l, (0 : Int) ≤ (↑i : Int), (↑i : Int) < (↑(List.length l) : Int), decide ((↑i : Int) < (↑(List.length l) : Int)) = true]))) := by kernel_rfl
theorem onM : (fun (l : Rows2) (c : Nat) (x : Int) (i : Nat) => stopV [0, 1, 6] [0] (rndO1 0 [false] [false] l c x i)) = fun (l : Rows2) (c : Nat) (x : Int) (i : Nat) => some ((EO2, ([(((0 : Nat)), (V.v (V1.one (C.slice ((0 : Nat)) (N.c ((0 : Nat))) ((2 : Nat)) (N.s (List.length l)) (N.s (c)))))), (((1 : Nat)), (V.v (V1.one (C.sint (IntKind.u8) (x))))), (((6 : Nat)), (V.v (V1.one (C.int (IntKind.i64) ((0 : Int))))))], ([(SB.mk (true) (Cells.recs ([IntKind.u8, IntKind.i64]) (l)))], [decide ((↑i : Int) < (↑(List.length l) : Int)) = false])))) := by kernel_rfl
theorem onS0 : (fun (l : Rows2) (c : Nat) (x : Int) (i : Nat) => stopV [0, 1, 6] [0] (rndO2 (LO2.2.length + 1) [true, false] l c x i)) = fun (l : Rows2) (c : Nat) (x : Int) (i : Nat) => some ((KO2, ([(((0 : Nat)), (V.v (V1.one (C.slice ((0 : Nat)) (N.c ((0 : Nat))) ((2 : Nat)) (N.s (List.length l)) (N.s (c)))))), (((1 : Nat)), (V.v (V1.one (C.sint (IntKind.u8) (x))))), (((6 : Nat)), (V.v (V1.one (C.sint (IntKind.i64) ((↑i : Int) + (1 : Int))))))], ([(SB.mk (true) (Cells.recs ([IntKind.u8, IntKind.i64]) (l)))], [(-9223372036854775808 : Int) ≤ (↑i : Int) + (1 : Int) ∧ (↑i : Int) + (1 : Int) ≤ (9223372036854775807 : Int), decide (List.getD (List.getD l (i) []) (1 : Nat) (0 : Int) = (0 : Int)) = false, i < List.length l, (0 : Int) ≤ (↑i : Int), (↑i : Int) < (↑(List.length l) : Int), decide ((↑i : Int) < (↑(List.length l) : Int)) = true])))) := by kernel_rfl
theorem onY0 : (fun (l : Rows2) (c : Nat) (x : Int) (i : Nat) => endV [0] (rndO2 0 [true, true] l c x i)) = fun (l : Rows2) (c : Nat) (x : Int) (i : Nat) => some (((V.v (V1.one (C.bool (true)))), ([(SB.mk (true) (Cells.recs ([IntKind.u8, IntKind.i64]) (List.set l (i) [x, (1 : Int)])))], [i < List.length l, (0 : Int) ≤ (↑i : Int), (↑i : Int) < (↑(List.length l) : Int), decide (List.getD (List.getD l (i) []) (1 : Nat) (0 : Int) = (0 : Int)) = true, i < List.length l, (0 : Int) ≤ (↑i : Int), (↑i : Int) < (↑(List.length l) : Int), decide ((↑i : Int) < (↑(List.length l) : Int)) = true]))) := by kernel_rfl
theorem onY1 : (fun (l : Rows2) (c : Nat) (x : Int) (i : Nat) => endV [0] (rndO2 0 [false] l c x i)) = fun (l : Rows2) (c : Nat) (x : Int) (i : Nat) => some (((V.v (V1.one (C.bool (false)))), ([(SB.mk (true) (Cells.recs ([IntKind.u8, IntKind.i64]) (l)))], [decide ((↑i : Int) < (↑(List.length l) : Int)) = false]))) := by kernel_rfl
end
section
/- The document's bags: contracts of what is right, of counts, of one more. -/
open Go.ChangeShapes Go.WideShapes Go.ChangeAt Go.RowKit Go.Sx
theorem r40a : allF (fun n => okV (gS n) (callN Try.prog (fun _ => none) (fun _ => false) 100000 5 40 [.v (.one (.int .u8 n))] [] [])) 0 128 = true := by kernel_rfl
theorem r40b : allF (fun n => okV (gS n) (callN Try.prog (fun _ => none) (fun _ => false) 100000 5 40 [.v (.one (.int .u8 n))] [] [])) 128 128 = true := by kernel_rfl
theorem stackR_tab : TabOk Try.prog 40 (byteTab gS) := byteTab_ok no_tabs (fun n hn => by
  by_cases h : n < 128
  · have := allF_spec r40a n (Nat.zero_le _) (by omega); exact this
  · exact allF_spec r40b n (by omega) (by omega))
theorem tabR0_ok : ∀ f g, tabR0 f = some g → TabOk Try.prog f g := tabs_ok fun x hx => by
  simp only [List.mem_cons, List.not_mem_nil, or_false] at hx
  subst hx
  exact stackR_tab
theorem callR0_ok (d : Nat) : CallOk Try.prog (callR0 d) := callN_sound tabR0_ok d
/-! ### what is right -/
theorem funRr : Try.prog.funcs[26]? = some FRr := by kernel_rfl
theorem bodRr : FRr.body = some (body 26) := by kernel_rfl
theorem tmpRr : 2 ≤ FRr.ntmps := Nat.le_of_ble_eq_true (by kernel_rfl)
theorem rightR_works (l : Rows2) (c : Nat) (hw : wfL l) : Works Try.prog 26 [sl 0 l.length c, si .i64 l.length] [ro l] (.v (.one (.sbool (l.all okR)))) [ro l] := works_cap fun hc => by
  have hlen := hw.2
  refine works_loop (I := Nat) (Inv := fun i h => TRr l c i h) (good := fun i => i ≤ l.length ∧ (l.drop i).all okR = l.all okR) (μ := fun i => l.length - i) (i := 0) (r := []) (callR0_ok 3) funRr bodRr (by exact tmpRr) (fun _ _ => ⟨rfl, rfl⟩)
    (congrFun (congrFun (congrFun rrE l) c) l.length) ?_ ⟨by simp, ?_, ?_⟩ ⟨Nat.zero_le _, rfl⟩ ?_
  · simp [allP]
  · simp [TRr, leSlots, leV, leV1, leC, si, sl, N.v, hc]
  · simp [TRr, leBs, leB, leCells, ro]
  · intro i ⟨h1, h2⟩
    by_cases hi : i < l.length
    · have hd := drop_row hi
      obtain ⟨w1, w2, w3⟩ := hw.1 _ (row_mem hi)
      have q0 := congrFun (congrFun (congrFun rrR0 l) c) i
      have q1 := congrFun (congrFun (congrFun rrR1 l) c) i
      have q2 := congrFun (congrFun (congrFun rrX0 l) c) i
      have q3 := congrFun (congrFun (congrFun rrX1 l) c) i
      rw [hd, List.all_cons] at h2
      clear hd
      have hok := okR_iff (l.getD i [])
      change 0 ≤ (l.getD i []).getD 0 0 ∧ (l.getD i []).getD 0 0 < 256 at w2
      change _ ≤ (l.getD i []).getD 1 0 ∧ (l.getD i []).getD 1 0 ≤ _ at w3
      generalize l.getD i [] = R at *
      generalize R.getD 0 0 = a at *
      generalize R.getD 1 0 = b at *
      by_cases he : a = 0 ∧ b = 0
      · rw [hok.2 (.inl he), Bool.true_and] at h2
        refine .round [true, false] [] _ _ [0, 5] [] _ _ _ (i + 1) q0 ?_ ⟨by simp, ?_, ?_⟩ ⟨hi, h2⟩ (by omega)
        · simp [allP]; omega
        · simp [TRr, leSlots, leV, leV1, leC, si, sl, N.v, hc]
        · simp [TRr, leBs, leB, leCells, ro]
      · by_cases hn : b < 1
        · have hf : okR R = false := by
            cases h : okR R with
            | false => rfl
            | true => have := hok.1 h; omega
          rw [hf, Bool.false_and] at h2
          refine .stop [true, true, true] [] _ _ [] _ _ _ q2 ?_ (by simp) h2 ?_
          · simp [allP]; omega
          · simp [leBs, leB, leCells, ro]
        · by_cases hs : b ≤ stackT a
          · rw [hok.2 (.inr ⟨by omega, hs⟩), Bool.true_and] at h2
            refine .round [true, true, false, false] [] _ _ [0, 5] [] _ _ _ (i + 1) q1 ?_ ⟨by simp, ?_, ?_⟩ ⟨hi, h2⟩ (by omega)
            · simp [allP]; omega
            · simp [TRr, leSlots, leV, leV1, leC, si, sl, N.v, hc]
            · simp [TRr, leBs, leB, leCells, ro]
          · have hf : okR R = false := by
              cases h : okR R with
              | false => rfl
              | true => have := hok.1 h; omega
            rw [hf, Bool.false_and] at h2
            refine .stop [true, true, false, true] [] _ _ [] _ _ _ q3 ?_ (by simp) h2 ?_
            · simp [allP]; omega
            · simp [leBs, leB, leCells, ro]
    · have : i = l.length := by omega
      subst this
      refine .stop [false] [] _ _ [] _ _ _ (congrFun (congrFun (congrFun rrX2 l) c) l.length) ?_ (by simp) ?_ ?_
      · simp [allP]
      · rw [List.drop_length, List.all_nil] at h2
        exact h2
      · simp [leBs, leB, leCells, ro]
/-! ### counts -/
theorem funRc : Try.prog.funcs[28]? = some FRc := by kernel_rfl
theorem bodRc : FRc.body = some (body 28) := by kernel_rfl
theorem tmpRc : 2 ≤ FRc.ntmps := Nat.le_of_ble_eq_true (by kernel_rfl)
theorem countR_works (l : Rows2) (c : Nat) (x : Int) (hw : wfL l) (hr : l.all okR = true) : Works Try.prog 28 [sl 0 l.length c, si .u8 x] [ro l] (si .i64 (cnt x l)) [ro l] := works_cap fun hc => by
  have hlen := hw.2
  refine works_loop (I := Int × Nat) (Inv := fun s h => TRc l c x s.1 s.2 h) (good := fun s => s.2 ≤ l.length ∧ s.1 + cnt x (l.drop s.2) = cnt x l ∧ 0 ≤ s.1 ∧ s.1 ≤ 16 * s.2) (μ := fun s => l.length - s.2) (i := (0, 0)) (r := []) (callR0_ok 3) funRc bodRc (by exact tmpRc) (fun _ _ => ⟨rfl, rfl⟩)
    (congrFun (congrFun (congrFun rcE l) c) x) trivial ⟨by simp, ?_, ?_⟩ ⟨Nat.zero_le _, by simp, by simp, by simp⟩ ?_
  · simp [TRc, leSlots, leV, leV1, leC, si, sl, N.v, hc]
  · simp [TRc, leBs, leB, leCells, ro]
  · intro ⟨acc, i⟩ ⟨h1, h2, h3, h4⟩
    simp only at h1 h2 h3 h4
    by_cases hi : i < l.length
    · have hd := drop_row hi
      have hb := okR_bd (all_row hr (row_mem hi))
      have q0 := congrFun (congrFun (congrFun (congrFun (congrFun rcR0 l) c) x) acc) i
      have q1 := congrFun (congrFun (congrFun (congrFun (congrFun rcR1 l) c) x) acc) i
      have q2 := congrFun (congrFun (congrFun (congrFun (congrFun rcR2 l) c) x) acc) i
      have q3 := congrFun (congrFun (congrFun (congrFun (congrFun rcR3 l) c) x) acc) i
      rw [hd, cnt] at h2
      clear hd
      rw [cntR_val] at h2
      change 0 ≤ (l.getD i []).getD 1 0 ∧ (l.getD i []).getD 1 0 ≤ stackT ((l.getD i []).getD 0 0) ∧ (l.getD i []).getD 1 0 ≤ 16 at hb
      generalize l.getD i [] = R at *
      generalize R.getD 0 0 = a at *
      generalize R.getD 1 0 = b at *
      have hneg : ¬ b < 0 := by omega
      rw [if_neg hneg] at h2
      by_cases hit : a = x
      · by_cases hx : x = 0
        · rw [if_pos hx] at h2
          refine .round [true, true, false] [] _ _ [0, 1, 5, 6] [] _ _ _ (acc, i + 1) q1 ?_ ⟨by simp, ?_, ?_⟩ ⟨hi, by simp only; omega, h3, by simp only; omega⟩ (by simp only; omega)
          · simp [allP]; omega
          · simp [TRc, leSlots, leV, leV1, leC, si, sl, N.v, hc]
          · simp [TRc, leBs, leB, leCells, ro]
        · rw [if_neg hx, if_pos hit] at h2
          by_cases hb0 : 0 < b
          · refine .round [true, true, true, true] [] _ _ [0, 1, 5, 6] [] _ _ _ (acc + b, i + 1) q3 ?_ ⟨by simp, ?_, ?_⟩ ⟨hi, by simp only; omega, by simp only; omega, by simp only; omega⟩ (by simp only; omega)
            · simp [allP]; omega
            · simp [TRc, leSlots, leV, leV1, leC, si, sl, N.v, hc]
            · simp [TRc, leBs, leB, leCells, ro]
          · refine .round [true, true, true, false] [] _ _ [0, 1, 5, 6] [] _ _ _ (acc, i + 1) q2 ?_ ⟨by simp, ?_, ?_⟩ ⟨hi, by simp only; omega, h3, by simp only; omega⟩ (by simp only; omega)
            · simp [allP]; omega
            · simp [TRc, leSlots, leV, leV1, leC, si, sl, N.v, hc]
            · simp [TRc, leBs, leB, leCells, ro]
      · have h2' : acc + cnt x (List.drop (i + 1) l) = cnt x l := by
          by_cases hx : x = 0
          · rw [if_pos hx] at h2; omega
          · rw [if_neg hx, if_neg hit] at h2; omega
        refine .round [true, false] [] _ _ [0, 1, 5, 6] [] _ _ _ (acc, i + 1) q0 ?_ ⟨by simp, ?_, ?_⟩ ⟨hi, h2', h3, by simp only; omega⟩ (by simp only; omega)
        · simp [allP]; omega
        · simp [TRc, leSlots, leV, leV1, leC, si, sl, N.v, hc]
        · simp [TRc, leBs, leB, leCells, ro]
    · have : i = l.length := by omega
      subst this
      refine .stop [false] [] _ _ [] _ _ _ (congrFun (congrFun (congrFun (congrFun (congrFun rcX l) c) x) acc) l.length) ?_ (by simp) ?_ ?_
      · simp [allP]
      · rw [List.drop_length, cnt] at h2
        exact ⟨rfl, by omega⟩
      · simp [leBs, leB, leCells, ro]
end
section
/- The document's bags: one more of an item. -/
open Go.ChangeShapes Go.WideShapes Go.ChangeAt Go.RowKit Go.Sx
/-- the first row that is such is changed -/
def addP (p : List Int → Bool) (u : List Int → List Int) : Rows2 → Option Rows2
  | [] => none
  | r :: t => if p r = true then some (u r :: t) else (addP p u t).map (r :: ·)
def pO (x : Int) (r : List Int) : Bool := decide (it r = x) && decide (nn r < stackT x)
def plusS (l : Rows2) (x : Int) : Rows2 × Bool := match addP (pO x) (fun r => r.set 1 (nn r + 1)) l with
  | some m => (m, true)
  | none => match addP pB (fun _ => [x, 1]) l with
    | some m => (m, true)
    | none => (l, false)
theorem addP_at {p : List Int → Bool} {u : List Int → List Int} : ∀ {l : Rows2} {i : Nat}, i < l.length → (∀ j, j < i → p (l.getD j []) = false) → p (l.getD i []) = true → addP p u l = some (l.set i (u (l.getD i [])))
  | [], _, h, _, _ => by simp at h
  | r :: t, 0, _, _, hp => by
    have e : (r :: t).getD 0 [] = r := rfl
    rw [e] at hp ⊢
    rw [addP, if_pos hp]; rfl
  | r :: t, i + 1, h, hn, hp => by
    have e : (r :: t).getD (i + 1) [] = t.getD i [] := rfl
    have h0 : p r = false := hn 0 (by omega)
    rw [e] at hp ⊢
    rw [addP, if_neg (by rw [h0]; simp), addP_at (by simpa using h) (fun j hj => hn (j + 1) (by omega)) hp]; rfl
theorem addP_none {p : List Int → Bool} {u : List Int → List Int} : ∀ {l : Rows2}, (∀ j, j < l.length → p (l.getD j []) = false) → addP p u l = none
  | [], _ => rfl
  | r :: t, h => by
    have h0 : p r = false := h 0 (by simp)
    rw [addP, if_neg (by rw [h0]; simp), addP_none (fun j hj => h (j + 1) (by simpa using hj))]; rfl
theorem addP_len {p : List Int → Bool} {u : List Int → List Int} : ∀ {l m : Rows2}, addP p u l = some m → m.length = l.length
  | [], _, h => by cases h
  | r :: t, m, h => by
    rw [addP] at h
    split at h
    · injection h with h; subst h; simp
    · cases hq : addP p u t with
      | none => rw [hq] at h; cases h
      | some m' => rw [hq] at h; injection h with h; subst h; simp [addP_len hq]
theorem plusS_len (l : Rows2) (x : Int) : (plusS l x).1.length = l.length := by
  unfold plusS
  split
  · rename_i m hm; exact addP_len hm
  · split
    · rename_i m hm; exact addP_len hm
    · rfl
theorem funO : Try.prog.funcs[41]? = some FO := by kernel_rfl
theorem bodO : FO.body = some (body 41) := by kernel_rfl
theorem tmpO : 2 ≤ FO.ntmps := Nat.le_of_ble_eq_true (by kernel_rfl)
theorem one_works (l : Rows2) (c : Nat) (x : Int) (hw : wfL l) (hx : 0 ≤ x ∧ x < 256) : Works Try.prog 41 [sl 0 l.length c, si .u8 x] [ow l] (.v (.one (.sbool (plusS l x).2))) [ow (plusS l x).1] := works_cap fun hc => by
  have hlen := hw.2
  have hsx := stackT_bd x
  refine works_goes funO bodO (by exact tmpO) fun ρ K W a w hρ hr => ?_
  have hρ1 : ρ.length = 1 := hρ
  have nd : (List.range ρ.length ++ []).Nodup := by rw [hρ1]; decide
  have sel : ([0] : List Nat) = List.range ρ.length ++ [] := by rw [hρ1]; rfl
  have qE := congrFun (congrFun (congrFun onE l) c) x
  rw [sel] at qE
  refine goes_stop (ρ0 := ρ) (T := TO1 l c x 0 []) (S := ⟨argSlots 0 [sl 0 l.length c, si .u8 x], [ow l], [], []⟩) (callR0_ok 3) funO qE trivial ⟨nd, ?_, ?_⟩ (fun ρ2 a2 w2 h2 => ?_) (hr.hints rfl rfl)
  · rw [← sel]; simp [TO1, leSlots, leV, leV1, leC, si, sl, N.v, hc]
  · rw [← sel]; simp [TO1, leBs, leB, leCells, ow]
  refine goes_loop (ρ0 := ρ) (fun i => TO1 l c x i []) (fun i => i ≤ l.length ∧ ∀ j, j < i → pO x (l.getD j []) = false) (fun i => l.length - i) ?_ ⟨Nat.zero_le _, fun j hj => absurd hj (Nat.not_lt_zero _)⟩ h2
  intro i ⟨h1, h3⟩ ρ1 a1 w1 hr1 ih
  by_cases hi : i < l.length
  · obtain ⟨v1, v2, v3⟩ := hw.1 _ (row_mem hi)
    have q0 := congrFun (congrFun (congrFun (congrFun onR0 l) c) x) i
    have q1 := congrFun (congrFun (congrFun (congrFun onR1 l) c) x) i
    have q2 := congrFun (congrFun (congrFun (congrFun onX0 l) c) x) i
    rw [sel] at q0 q1 q2
    have hp : pO x (l.getD i []) = (decide ((l.getD i []).getD 0 0 = x) && decide ((l.getD i []).getD 1 0 < stackT x)) := rfl
    have next : pO x (l.getD i []) = false → ∀ j, j < i + 1 → pO x (l.getD j []) = false := fun hf j hj => by
      rcases Nat.lt_or_ge j i with h | h
      · exact h3 j h
      · have : j = i := by omega
        subst this; exact hf
    have hs : pO x (l.getD i []) = true → plusS l x = (l.set i ((l.getD i []).set 1 ((l.getD i []).getD 1 0 + 1)), true) := fun hpt => by
      unfold plusS; rw [addP_at hi h3 hpt]; rfl
    change _ ≤ (l.getD i []).getD 1 0 ∧ (l.getD i []).getD 1 0 ≤ _ at v3
    clear v2
    generalize l.getD i [] = R at *
    generalize R.getD 0 0 = a at *
    generalize R.getD 1 0 = b at *
    by_cases hit : a = x
    · by_cases hb : b < stackT x
      · have hpt : pO x R = true := by rw [hp, decide_eq_true hit, decide_eq_true hb]; rfl
        rw [hs hpt]
        refine goes_retW (S := TO1 l c x i [true, true, true]) (callR0_ok 3) funO q2 ?_ nd (by exact rfl) ?_ (hr1.hints rfl rfl)
        · simp only [allP]; simp [hit, hb, hx, hi]; omega
        · rw [← sel]; simp [leBs, leB, leCells, ow]
      · refine goes_stop (ρ0 := ρ) (T := TO1 l c x (i + 1) []) (S := TO1 l c x i [true, true, false]) (callR0_ok 3) funO q1 ?_ ⟨nd, ?_, ?_⟩ (fun ρ2 a2 w2 h2 => ih (i + 1) ⟨hi, next (by rw [hp, decide_eq_false hb, Bool.and_false])⟩ (by omega) ρ2 a2 w2 h2) (hr1.hints rfl rfl)
        · simp only [allP]; simp [hit, hb, hx, hi]; omega
        · rw [← sel]; simp [TO1, leSlots, leV, leV1, leC, si, sl, N.v, hc]
        · rw [← sel]; simp [TO1, leBs, leB, leCells, ow]
    · refine goes_stop (ρ0 := ρ) (T := TO1 l c x (i + 1) []) (S := TO1 l c x i [true, false]) (callR0_ok 3) funO q0 ?_ ⟨nd, ?_, ?_⟩ (fun ρ2 a2 w2 h2 => ih (i + 1) ⟨hi, next (by rw [hp, decide_eq_false hit, Bool.false_and])⟩ (by omega) ρ2 a2 w2 h2) (hr1.hints rfl rfl)
      · simp only [allP]; simp [hit, hi]; omega
      · rw [← sel]; simp [TO1, leSlots, leV, leV1, leC, si, sl, N.v, hc]
      · rw [← sel]; simp [TO1, leBs, leB, leCells, ow]
  · have : i = l.length := by omega
    subst this
    have hA : addP (pO x) (fun r => r.set 1 (nn r + 1)) l = none := addP_none h3
    have qM := congrFun (congrFun (congrFun (congrFun onM l) c) x) l.length
    rw [sel] at qM
    refine goes_stop (ρ0 := ρ) (T := TO2 l c x 0 []) (S := TO1 l c x l.length [false]) (callR0_ok 3) funO qM ?_ ⟨nd, ?_, ?_⟩ (fun ρ2 a2 w2 h2 => ?_) (hr1.hints rfl rfl)
    · simp [allP]
    · rw [← sel]; simp [TO2, leSlots, leV, leV1, leC, si, sl, N.v, hc]
    · rw [← sel]; simp [TO2, leBs, leB, leCells, ow]
    refine goes_loop (ρ0 := ρ) (fun i => TO2 l c x i []) (fun i => i ≤ l.length ∧ ∀ j, j < i → pB (l.getD j []) = false) (fun i => l.length - i) ?_ ⟨Nat.zero_le _, fun j hj => absurd hj (Nat.not_lt_zero _)⟩ h2
    intro i ⟨g1, g3⟩ ρ3 a3 w3 hr3 ih3
    by_cases hi2 : i < l.length
    · have q0 := congrFun (congrFun (congrFun (congrFun onS0 l) c) x) i
      have q1 := congrFun (congrFun (congrFun (congrFun onY0 l) c) x) i
      rw [sel] at q0 q1
      have hs : pB (l.getD i []) = true → plusS l x = (l.set i [x, 1], true) := fun hpt => by
        unfold plusS; rw [hA]; simp only; rw [addP_at hi2 g3 hpt]
      have hp : pB (l.getD i []) = decide ((l.getD i []).getD 1 0 = 0) := rfl
      have next : pB (l.getD i []) = false → ∀ j, j < i + 1 → pB (l.getD j []) = false := fun hf j hj => by
        rcases Nat.lt_or_ge j i with h | h
        · exact g3 j h
        · have : j = i := by omega
          subst this; exact hf
      generalize l.getD i [] = R at *
      generalize R.getD 1 0 = b at *
      by_cases hb : b = 0
      · rw [hs (by rw [hp, decide_eq_true hb])]
        refine goes_retW (S := TO2 l c x i [true, true]) (callR0_ok 3) funO q1 ?_ nd (by exact rfl) ?_ (hr3.hints rfl rfl)
        · simp only [allP]; simp [hb, hi2]
        · rw [← sel]; simp [leBs, leB, leCells, ow]
      · refine goes_stop (ρ0 := ρ) (T := TO2 l c x (i + 1) []) (S := TO2 l c x i [true, false]) (callR0_ok 3) funO q0 ?_ ⟨nd, ?_, ?_⟩ (fun ρ2 a2 w2 h2 => ih3 (i + 1) ⟨hi2, next (by rw [hp, decide_eq_false hb])⟩ (by omega) ρ2 a2 w2 h2) (hr3.hints rfl rfl)
        · simp only [allP]; simp [hb, hi2]; omega
        · rw [← sel]; simp [TO2, leSlots, leV, leV1, leC, si, sl, N.v, hc]
        · rw [← sel]; simp [TO2, leBs, leB, leCells, ow]
    · have : i = l.length := by omega
      subst this
      have hs : plusS l x = (l, false) := by
        unfold plusS; rw [hA]; simp only; rw [addP_none g3]
      rw [hs]
      have q2 := congrFun (congrFun (congrFun (congrFun onY1 l) c) x) l.length
      rw [sel] at q2
      refine goes_retW (S := TO2 l c x l.length [false]) (callR0_ok 3) funO q2 ?_ nd (by exact rfl) ?_ (hr3.hints rfl rfl)
      · simp [allP]
      · rw [← sel]; simp [leBs, leB, leCells, ow]
end
section
/- The document's bags, by the code: putting and spending, piece by piece. -/
open Go.Sx
def gRightR (l : Rows2) (n : Int) : Option (V × List SB × List Prop) := some (.v (.one (.sbool (l.all okR))), [], [n = l.length])
def gOneR : Sx.Loc := fun args bs => match args, bs with
  | [.v (.one (.slice 0 (.c 0) 2 (.s n) (.s _))), .v (.one (.sint .u8 i))], [⟨true, .recs ks l⟩] => match isK2 ks with
    | true => some (.v (.one (.sbool (plusS l i).2)), [ow (plusS l i).1], [n = l.length, wfL l, 0 ≤ i ∧ i < 256])
    | _ => none
  | _, _ => none
def wO : List V → List Want := fun _ => [(true, .recs [.u8, .i64])]
def tabR1 := tabs [(40, byteTab gS), (26, loc w1 (one2n gRightR)), (28, loc w1 (one2i gCount)), (41, loc wO gOneR)]
def efO : Go.FuncId → Bool := fun f => Nat.beq f 41
noncomputable def callR1 (d : Nat) := callN Try.prog tabR1 efO 100000 d
noncomputable def LPu := loopN Try.prog 30 0
noncomputable def EPu : List Item := .code (.loop LPu.1) :: LPu.2
noncomputable def KPu : List Item := .inLoop LPu.1 :: LPu.2
noncomputable def FPu : Func := match Try.prog.funcs[30]? with | some fn => fn | none => default
def TPu (l0 : Rows2) (x : Int) (l : Rows2) (a : Int) (h : List Bool) : St := ⟨[(1, si .u8 x), (2, si .i64 a), (8, sl 1 l0.length l0.length)], [ro l0, ow l], h, []⟩
noncomputable def rndPu (lim : Nat) (h : List Bool) (l0 : Rows2) (x : Int) (l : Rows2) (a : Int) := run Try.prog (callR1 3) efO FPu lim 100000 [] (.code LPu.1 :: .inLoop LPu.1 :: LPu.2) (TPu l0 x l a h)
theorem rpA : (fun (l : Rows2) (c : Nat) (x a : Int) => retV [0, 2] (callR1 3 30 [sl 0 l.length c, si .u8 x, si .i64 a] [ro l] [true, true])) = fun (l : Rows2) (c : Nat) (x : Int) (a : Int) => some (((V.tup [(V1.one (C.slice ((2 : Nat)) (N.c ((0 : Nat))) ((2 : Nat)) (N.s (List.length l)) (N.s (List.length l)))), (V1.one (C.sint (IntKind.i64) (if a < (0 : Int) then (0 : Int) else a)))]), ([(SB.mk (false) (Cells.recs ([IntKind.u8, IntKind.i64]) (l))), (SB.mk (true) (Cells.recs ([IntKind.u8, IntKind.i64]) ([] ++ l)))], [(!List.all l okR) = true, List.length l = List.length l, wfL l, (↑(List.length l) : Int) = (↑(List.length l) : Int), (0 : Nat) = (0 : Nat), List.length l = List.length l, List.length l * (16 : Nat) ≤ (140737488355328 : Nat), List.length l ≤ (9223372036854775807 : Nat)]))) := by kernel_rfl
theorem rpB : (fun (l : Rows2) (c : Nat) (x a : Int) => retV [0, 2] (callR1 3 30 [sl 0 l.length c, si .u8 x, si .i64 a] [ro l] [true, false, true])) = fun (l : Rows2) (c : Nat) (x : Int) (a : Int) => some (((V.tup [(V1.one (C.slice ((2 : Nat)) (N.c ((0 : Nat))) ((2 : Nat)) (N.s (List.length l)) (N.s (List.length l)))), (V1.one (C.sint (IntKind.i64) (if a < (0 : Int) then (0 : Int) else a)))]), ([(SB.mk (false) (Cells.recs ([IntKind.u8, IntKind.i64]) (l))), (SB.mk (true) (Cells.recs ([IntKind.u8, IntKind.i64]) ([] ++ l)))], [decide (stackT x = (0 : Int)) = true, (0 : Int) ≤ x ∧ x < (256 : Int), (!List.all l okR) = false, List.length l = List.length l, wfL l, (↑(List.length l) : Int) = (↑(List.length l) : Int), (0 : Nat) = (0 : Nat), List.length l = List.length l, List.length l * (16 : Nat) ≤ (140737488355328 : Nat), List.length l ≤ (9223372036854775807 : Nat)]))) := by kernel_rfl
theorem rpC : (fun (l : Rows2) (c : Nat) (x a : Int) => retV [0, 2] (callR1 3 30 [sl 0 l.length c, si .u8 x, si .i64 a] [ro l] [true, false, false, true])) = fun (l : Rows2) (c : Nat) (x : Int) (a : Int) => some (((V.tup [(V1.one (C.slice ((2 : Nat)) (N.c ((0 : Nat))) ((2 : Nat)) (N.s (List.length l)) (N.s (List.length l)))), (V1.one (C.sint (IntKind.i64) (if a < (0 : Int) then (0 : Int) else a)))]), ([(SB.mk (false) (Cells.recs ([IntKind.u8, IntKind.i64]) (l))), (SB.mk (true) (Cells.recs ([IntKind.u8, IntKind.i64]) ([] ++ l)))], [decide (a < (1 : Int)) = true, decide (stackT x = (0 : Int)) = false, (0 : Int) ≤ x ∧ x < (256 : Int), (!List.all l okR) = false, List.length l = List.length l, wfL l, (↑(List.length l) : Int) = (↑(List.length l) : Int), (0 : Nat) = (0 : Nat), List.length l = List.length l, List.length l * (16 : Nat) ≤ (140737488355328 : Nat), List.length l ≤ (9223372036854775807 : Nat)]))) := by kernel_rfl
theorem rpE : (fun (l : Rows2) (c : Nat) (x a : Int) => stopV [1, 2, 8] [0, 2] (run Try.prog (callR1 3) efO FPu 0 100000 [false] [.code (body 30)] ⟨argSlots 0 [sl 0 l.length c, si .u8 x, si .i64 a], [ro l], [true, false, false, false], []⟩)) = fun (l : Rows2) (c : Nat) (x : Int) (a : Int) => some ((EPu, ([(((1 : Nat)), (V.v (V1.one (C.sint (IntKind.u8) (x))))), (((2 : Nat)), (V.v (V1.one (C.sint (IntKind.i64) (a))))), (((8 : Nat)), (V.v (V1.one (C.slice ((2 : Nat)) (N.c ((0 : Nat))) ((2 : Nat)) (N.s (List.length l)) (N.s (List.length l))))))], ([(SB.mk (false) (Cells.recs ([IntKind.u8, IntKind.i64]) (l))), (SB.mk (true) (Cells.recs ([IntKind.u8, IntKind.i64]) ([] ++ l)))], [decide (a < (1 : Int)) = false, decide (stackT x = (0 : Int)) = false, (0 : Int) ≤ x ∧ x < (256 : Int), (!List.all l okR) = false, List.length l = List.length l, wfL l, (↑(List.length l) : Int) = (↑(List.length l) : Int), (0 : Nat) = (0 : Nat), List.length l = List.length l, List.length l * (16 : Nat) ≤ (140737488355328 : Nat), List.length l ≤ (9223372036854775807 : Nat)])))) := by kernel_rfl
theorem rpR : (fun (l0 : Rows2) (x : Int) (l : Rows2) (a : Int) => stopV [1, 2, 8] [0, 1] (rndPu (LPu.2.length + 1) [true, true] l0 x l a)) = fun (l0 : Rows2) (x : Int) (l : Rows2) (a : Int) => some ((KPu, ([(((1 : Nat)), (V.v (V1.one (C.sint (IntKind.u8) (x))))), (((2 : Nat)), (V.v (V1.one (C.sint (IntKind.i64) (a - (1 : Int)))))), (((8 : Nat)), (V.v (V1.one (C.slice ((1 : Nat)) (N.c ((0 : Nat))) ((2 : Nat)) (N.s (List.length l0)) (N.s (List.length l0))))))], ([(SB.mk (false) (Cells.recs ([IntKind.u8, IntKind.i64]) (l0))), (SB.mk (true) (Cells.recs ([IntKind.u8, IntKind.i64]) (Prod.fst (plusS l x))))], [(-9223372036854775808 : Int) ≤ a - (1 : Int) ∧ a - (1 : Int) ≤ (9223372036854775807 : Int), Prod.snd (plusS l x) = true, List.length l0 = List.length l, wfL l, (0 : Int) ≤ x ∧ x < (256 : Int), decide ((0 : Int) < a) = true])))) := by kernel_rfl
theorem rpX0 : (fun (l0 : Rows2) (x : Int) (l : Rows2) (a : Int) => endV [0, 1] (rndPu 0 [false] l0 x l a)) = fun (l0 : Rows2) (x : Int) (l : Rows2) (a : Int) => some (((V.tup [(V1.one (C.slice ((1 : Nat)) (N.c ((0 : Nat))) ((2 : Nat)) (N.s (List.length l0)) (N.s (List.length l0)))), (V1.one (C.sint (IntKind.i64) (a)))]), ([(SB.mk (false) (Cells.recs ([IntKind.u8, IntKind.i64]) (l0))), (SB.mk (true) (Cells.recs ([IntKind.u8, IntKind.i64]) (l)))], [decide ((0 : Int) < a) = false]))) := by kernel_rfl
theorem rpX1 : (fun (l0 : Rows2) (x : Int) (l : Rows2) (a : Int) => endV [0, 1] (rndPu 0 [true, false] l0 x l a)) = fun (l0 : Rows2) (x : Int) (l : Rows2) (a : Int) => some (((V.tup [(V1.one (C.slice ((1 : Nat)) (N.c ((0 : Nat))) ((2 : Nat)) (N.s (List.length l0)) (N.s (List.length l0)))), (V1.one (C.sint (IntKind.i64) (a)))]), ([(SB.mk (false) (Cells.recs ([IntKind.u8, IntKind.i64]) (l0))), (SB.mk (true) (Cells.recs ([IntKind.u8, IntKind.i64]) (Prod.fst (plusS l x))))], [Prod.snd (plusS l x) = false, List.length l0 = List.length l, wfL l, (0 : Int) ≤ x ∧ x < (256 : Int), decide ((0 : Int) < a) = true]))) := by kernel_rfl
noncomputable def LSo := loopN Try.prog 29 0
noncomputable def LSi := loopN Try.prog 29 1
noncomputable def ESo : List Item := .code (.loop LSo.1) :: LSo.2
noncomputable def KSo : List Item := .inLoop LSo.1 :: LSo.2
noncomputable def ESi : List Item := .code (.loop LSi.1) :: LSi.2
noncomputable def KSi : List Item := .inLoop LSi.1 :: LSi.2
noncomputable def FSp : Func := match Try.prog.funcs[29]? with | some fn => fn | none => default
def TSp (l0 : Rows2) (x : Int) (l : Rows2) (a k : Int) (h : List Bool) : St := ⟨[(1, si .u8 x), (2, si .i64 a), (8, sl 1 l0.length l0.length), (9, si .i64 k)], [ro l0, ow l], h, []⟩
noncomputable def rndSo (lim : Nat) (ls h : List Bool) (l0 : Rows2) (x : Int) (l : Rows2) (a k : Int) := run Try.prog (callR1 3) efO FSp lim 100000 ls (.code LSo.1 :: .inLoop LSo.1 :: LSo.2) (TSp l0 x l a k h)
noncomputable def rndSi (lim : Nat) (h : List Bool) (l0 : Rows2) (x : Int) (l : Rows2) (a k : Int) := run Try.prog (callR1 3) efO FSp lim 100000 [] (.code LSi.1 :: .inLoop LSi.1 :: LSi.2) (TSp l0 x l a k h)
theorem rsA : (fun (l : Rows2) (c : Nat) (x a : Int) => retV [0, 2] (callR1 3 29 [sl 0 l.length c, si .u8 x, si .i64 a] [ro l] [true, true])) = fun (l : Rows2) (c : Nat) (x : Int) (a : Int) => some (((V.tup [(V1.one (C.slice ((2 : Nat)) (N.c ((0 : Nat))) ((2 : Nat)) (N.s (List.length l)) (N.s (List.length l)))), (V1.one (C.int (IntKind.i64) ((103 : Int))))]), ([(SB.mk (false) (Cells.recs ([IntKind.u8, IntKind.i64]) (l))), (SB.mk (true) (Cells.recs ([IntKind.u8, IntKind.i64]) ([] ++ l)))], [(!List.all l okR) = true, List.length l = List.length l, wfL l, (↑(List.length l) : Int) = (↑(List.length l) : Int), (0 : Nat) = (0 : Nat), List.length l = List.length l, List.length l * (16 : Nat) ≤ (140737488355328 : Nat), List.length l ≤ (9223372036854775807 : Nat)]))) := by kernel_rfl
theorem rsB : (fun (l : Rows2) (c : Nat) (x a : Int) => retV [0, 2] (callR1 3 29 [sl 0 l.length c, si .u8 x, si .i64 a] [ro l] [true, false, true])) = fun (l : Rows2) (c : Nat) (x : Int) (a : Int) => some (((V.tup [(V1.one (C.slice ((2 : Nat)) (N.c ((0 : Nat))) ((2 : Nat)) (N.s (List.length l)) (N.s (List.length l)))), (V1.one (C.int (IntKind.i64) ((111 : Int))))]), ([(SB.mk (false) (Cells.recs ([IntKind.u8, IntKind.i64]) (l))), (SB.mk (true) (Cells.recs ([IntKind.u8, IntKind.i64]) ([] ++ l)))], [decide (a < (1 : Int)) = true, (!List.all l okR) = false, List.length l = List.length l, wfL l, (↑(List.length l) : Int) = (↑(List.length l) : Int), (0 : Nat) = (0 : Nat), List.length l = List.length l, List.length l * (16 : Nat) ≤ (140737488355328 : Nat), List.length l ≤ (9223372036854775807 : Nat)]))) := by kernel_rfl
theorem rsC : (fun (l : Rows2) (c : Nat) (x a : Int) => retV [0, 2] (callR1 3 29 [sl 0 l.length c, si .u8 x, si .i64 a] [ro l] [true, false, false, true])) = fun (l : Rows2) (c : Nat) (x : Int) (a : Int) => some (((V.tup [(V1.one (C.slice ((2 : Nat)) (N.c ((0 : Nat))) ((2 : Nat)) (N.s (List.length l)) (N.s (List.length l)))), (V1.one (C.int (IntKind.i64) ((105 : Int))))]), ([(SB.mk (false) (Cells.recs ([IntKind.u8, IntKind.i64]) (l))), (SB.mk (true) (Cells.recs ([IntKind.u8, IntKind.i64]) ([] ++ l)))], [decide (cnt x ([] ++ l) < a) = true, List.length l = List.length ([] ++ l), wfL ([] ++ l), (0 : Int) ≤ x ∧ x < (256 : Int), List.all ([] ++ l) okR = true, decide (a < (1 : Int)) = false, (!List.all l okR) = false, List.length l = List.length l, wfL l, (↑(List.length l) : Int) = (↑(List.length l) : Int), (0 : Nat) = (0 : Nat), List.length l = List.length l, List.length l * (16 : Nat) ≤ (140737488355328 : Nat), List.length l ≤ (9223372036854775807 : Nat)]))) := by kernel_rfl
theorem rsE : (fun (l : Rows2) (c : Nat) (x a : Int) => stopV [1, 2, 8, 9] [0, 2] (run Try.prog (callR1 3) efO FSp 0 100000 [false] [.code (body 29)] ⟨argSlots 0 [sl 0 l.length c, si .u8 x, si .i64 a], [ro l], [true, false, false, false], []⟩)) = fun (l : Rows2) (c : Nat) (x : Int) (a : Int) => some ((ESo, ([(((1 : Nat)), (V.v (V1.one (C.sint (IntKind.u8) (x))))), (((2 : Nat)), (V.v (V1.one (C.sint (IntKind.i64) (a))))), (((8 : Nat)), (V.v (V1.one (C.slice ((2 : Nat)) (N.c ((0 : Nat))) ((2 : Nat)) (N.s (List.length l)) (N.s (List.length l)))))), (((9 : Nat)), (V.v (V1.one (C.sint (IntKind.i64) ((↑(List.length l) : Int) - (1 : Int))))))], ([(SB.mk (false) (Cells.recs ([IntKind.u8, IntKind.i64]) (l))), (SB.mk (true) (Cells.recs ([IntKind.u8, IntKind.i64]) ([] ++ l)))], [(-9223372036854775808 : Int) ≤ (↑(List.length l) : Int) - (1 : Int) ∧ (↑(List.length l) : Int) - (1 : Int) ≤ (9223372036854775807 : Int), decide (cnt x ([] ++ l) < a) = false, List.length l = List.length ([] ++ l), wfL ([] ++ l), (0 : Int) ≤ x ∧ x < (256 : Int), List.all ([] ++ l) okR = true, decide (a < (1 : Int)) = false, (!List.all l okR) = false, List.length l = List.length l, wfL l, (↑(List.length l) : Int) = (↑(List.length l) : Int), (0 : Nat) = (0 : Nat), List.length l = List.length l, List.length l * (16 : Nat) ≤ (140737488355328 : Nat), List.length l ≤ (9223372036854775807 : Nat)])))) := by kernel_rfl
theorem rsO : (fun (l0 : Rows2) (x : Int) (l : Rows2) (a : Int) (k : Nat) => stopV [1, 2, 8, 9] [0, 1] (rndSo 0 [false] [true, true] l0 x l a k)) = fun (l0 : Rows2) (x : Int) (l : Rows2) (a : Int) (k : Nat) => some ((ESi, ([(((1 : Nat)), (V.v (V1.one (C.sint (IntKind.u8) (x))))), (((2 : Nat)), (V.v (V1.one (C.sint (IntKind.i64) (a))))), (((8 : Nat)), (V.v (V1.one (C.slice ((1 : Nat)) (N.c ((0 : Nat))) ((2 : Nat)) (N.s (List.length l0)) (N.s (List.length l0)))))), (((9 : Nat)), (V.v (V1.one (C.sint (IntKind.i64) ((↑k : Int))))))], ([(SB.mk (false) (Cells.recs ([IntKind.u8, IntKind.i64]) (l0))), (SB.mk (true) (Cells.recs ([IntKind.u8, IntKind.i64]) (l)))], [decide ((0 : Int) < a) = true, decide ((0 : Int) ≤ (↑k : Int)) = true])))) := by kernel_rfl
theorem rsX0 : (fun (l0 : Rows2) (x : Int) (l : Rows2) (a k : Int) => endV [0, 1] (rndSo 0 [] [false] l0 x l a k)) = fun (l0 : Rows2) (x : Int) (l : Rows2) (a : Int) (k : Int) => some (((V.tup [(V1.one (C.slice ((1 : Nat)) (N.c ((0 : Nat))) ((2 : Nat)) (N.s (List.length l0)) (N.s (List.length l0)))), (V1.one (C.int (IntKind.i64) ((0 : Int))))]), ([(SB.mk (false) (Cells.recs ([IntKind.u8, IntKind.i64]) (l0))), (SB.mk (true) (Cells.recs ([IntKind.u8, IntKind.i64]) (l)))], [decide ((0 : Int) ≤ k) = false]))) := by kernel_rfl
theorem rsX1 : (fun (l0 : Rows2) (x : Int) (l : Rows2) (a k : Int) => endV [0, 1] (rndSo 0 [] [true, false] l0 x l a k)) = fun (l0 : Rows2) (x : Int) (l : Rows2) (a : Int) (k : Int) => some (((V.tup [(V1.one (C.slice ((1 : Nat)) (N.c ((0 : Nat))) ((2 : Nat)) (N.s (List.length l0)) (N.s (List.length l0)))), (V1.one (C.int (IntKind.i64) ((0 : Int))))]), ([(SB.mk (false) (Cells.recs ([IntKind.u8, IntKind.i64]) (l0))), (SB.mk (true) (Cells.recs ([IntKind.u8, IntKind.i64]) (l)))], [decide ((0 : Int) < a) = false, decide ((0 : Int) ≤ k) = true]))) := by kernel_rfl
theorem rsI : (fun (l0 : Rows2) (x : Int) (l : Rows2) (a : Int) (k : Nat) => stopV [1, 2, 8, 9] [0, 1] (rndSi (LSi.2.length + 1) [true, true, true] l0 x l a k)) = fun (l0 : Rows2) (x : Int) (l : Rows2) (a : Int) (k : Nat) => some ((KSi, ([(((1 : Nat)), (V.v (V1.one (C.sint (IntKind.u8) (x))))), (((2 : Nat)), (V.v (V1.one (C.sint (IntKind.i64) (a - (1 : Int)))))), (((8 : Nat)), (V.v (V1.one (C.slice ((1 : Nat)) (N.c ((0 : Nat))) ((2 : Nat)) (N.s (List.length l0)) (N.s (List.length l0)))))), (((9 : Nat)), (V.v (V1.one (C.sint (IntKind.i64) ((↑k : Int))))))], ([(SB.mk (false) (Cells.recs ([IntKind.u8, IntKind.i64]) (l0))), (SB.mk (true) (Cells.recs ([IntKind.u8, IntKind.i64]) (List.set l (k) (List.set (List.getD l (k) []) (1 : Nat) (List.getD (List.getD l (k) []) (1 : Nat) (0 : Int) - (1 : Int))))))], [(-9223372036854775808 : Int) ≤ a - (1 : Int) ∧ a - (1 : Int) ≤ (9223372036854775807 : Int), k < List.length l, (0 : Int) ≤ (↑k : Int), (↑k : Int) < (↑(List.length l0) : Int), (-9223372036854775808 : Int) ≤ List.getD (List.getD l (k) []) (1 : Nat) (0 : Int) - (1 : Int) ∧ List.getD (List.getD l (k) []) (1 : Nat) (0 : Int) - (1 : Int) ≤ (9223372036854775807 : Int), k < List.length l, (0 : Int) ≤ (↑k : Int), (↑k : Int) < (↑(List.length l0) : Int), decide ((0 : Int) < List.getD (List.getD l (k) []) (1 : Nat) (0 : Int)) = true, k < List.length l, (0 : Int) ≤ (↑k : Int), (↑k : Int) < (↑(List.length l0) : Int), decide (List.getD (List.getD l (k) []) (0 : Nat) (0 : Int) = x) = true, k < List.length l, (0 : Int) ≤ (↑k : Int), (↑k : Int) < (↑(List.length l0) : Int), decide ((0 : Int) < a) = true])))) := by kernel_rfl
theorem rsY0t : (fun (l0 : Rows2) (x : Int) (l : Rows2) (a : Int) (k : Nat) => stopV [1, 2, 8, 9] [0, 1] (rndSi (LSo.2.length + 1) [false, true] l0 x l a k)) = fun (l0 : Rows2) (x : Int) (l : Rows2) (a : Int) (k : Nat) => some ((KSo, ([(((1 : Nat)), (V.v (V1.one (C.sint (IntKind.u8) (x))))), (((2 : Nat)), (V.v (V1.one (C.sint (IntKind.i64) (a))))), (((8 : Nat)), (V.v (V1.one (C.slice ((1 : Nat)) (N.c ((0 : Nat))) ((2 : Nat)) (N.s (List.length l0)) (N.s (List.length l0)))))), (((9 : Nat)), (V.v (V1.one (C.sint (IntKind.i64) ((↑k : Int) - (1 : Int))))))], ([(SB.mk (false) (Cells.recs ([IntKind.u8, IntKind.i64]) (l0))), (SB.mk (true) (Cells.recs ([IntKind.u8, IntKind.i64]) (List.set l (k) [(0 : Int), (0 : Int)])))], [(-9223372036854775808 : Int) ≤ (↑k : Int) - (1 : Int) ∧ (↑k : Int) - (1 : Int) ≤ (9223372036854775807 : Int), k < List.length l, (0 : Int) ≤ (↑k : Int), (↑k : Int) < (↑(List.length l0) : Int), decide (List.getD (List.getD l (k) []) (1 : Nat) (0 : Int) = (0 : Int)) = true, k < List.length l, (0 : Int) ≤ (↑k : Int), (↑k : Int) < (↑(List.length l0) : Int), decide ((0 : Int) < a) = false])))) := by kernel_rfl
theorem rsY0f : (fun (l0 : Rows2) (x : Int) (l : Rows2) (a : Int) (k : Nat) => stopV [1, 2, 8, 9] [0, 1] (rndSi (LSo.2.length + 1) [false, false] l0 x l a k)) = fun (l0 : Rows2) (x : Int) (l : Rows2) (a : Int) (k : Nat) => some ((KSo, ([(((1 : Nat)), (V.v (V1.one (C.sint (IntKind.u8) (x))))), (((2 : Nat)), (V.v (V1.one (C.sint (IntKind.i64) (a))))), (((8 : Nat)), (V.v (V1.one (C.slice ((1 : Nat)) (N.c ((0 : Nat))) ((2 : Nat)) (N.s (List.length l0)) (N.s (List.length l0)))))), (((9 : Nat)), (V.v (V1.one (C.sint (IntKind.i64) ((↑k : Int) - (1 : Int))))))], ([(SB.mk (false) (Cells.recs ([IntKind.u8, IntKind.i64]) (l0))), (SB.mk (true) (Cells.recs ([IntKind.u8, IntKind.i64]) (l)))], [(-9223372036854775808 : Int) ≤ (↑k : Int) - (1 : Int) ∧ (↑k : Int) - (1 : Int) ≤ (9223372036854775807 : Int), decide (List.getD (List.getD l (k) []) (1 : Nat) (0 : Int) = (0 : Int)) = false, k < List.length l, (0 : Int) ≤ (↑k : Int), (↑k : Int) < (↑(List.length l0) : Int), decide ((0 : Int) < a) = false])))) := by kernel_rfl
theorem rsY1t : (fun (l0 : Rows2) (x : Int) (l : Rows2) (a : Int) (k : Nat) => stopV [1, 2, 8, 9] [0, 1] (rndSi (LSo.2.length + 1) [true, false, true] l0 x l a k)) = fun (l0 : Rows2) (x : Int) (l : Rows2) (a : Int) (k : Nat) => some ((KSo, ([(((1 : Nat)), (V.v (V1.one (C.sint (IntKind.u8) (x))))), (((2 : Nat)), (V.v (V1.one (C.sint (IntKind.i64) (a))))), (((8 : Nat)), (V.v (V1.one (C.slice ((1 : Nat)) (N.c ((0 : Nat))) ((2 : Nat)) (N.s (List.length l0)) (N.s (List.length l0)))))), (((9 : Nat)), (V.v (V1.one (C.sint (IntKind.i64) ((↑k : Int) - (1 : Int))))))], ([(SB.mk (false) (Cells.recs ([IntKind.u8, IntKind.i64]) (l0))), (SB.mk (true) (Cells.recs ([IntKind.u8, IntKind.i64]) (List.set l (k) [(0 : Int), (0 : Int)])))], [(-9223372036854775808 : Int) ≤ (↑k : Int) - (1 : Int) ∧ (↑k : Int) - (1 : Int) ≤ (9223372036854775807 : Int), k < List.length l, (0 : Int) ≤ (↑k : Int), (↑k : Int) < (↑(List.length l0) : Int), decide (List.getD (List.getD l (k) []) (1 : Nat) (0 : Int) = (0 : Int)) = true, k < List.length l, (0 : Int) ≤ (↑k : Int), (↑k : Int) < (↑(List.length l0) : Int), decide (List.getD (List.getD l (k) []) (0 : Nat) (0 : Int) = x) = false, k < List.length l, (0 : Int) ≤ (↑k : Int), (↑k : Int) < (↑(List.length l0) : Int), decide ((0 : Int) < a) = true])))) := by kernel_rfl
theorem rsY1f : (fun (l0 : Rows2) (x : Int) (l : Rows2) (a : Int) (k : Nat) => stopV [1, 2, 8, 9] [0, 1] (rndSi (LSo.2.length + 1) [true, false, false] l0 x l a k)) = fun (l0 : Rows2) (x : Int) (l : Rows2) (a : Int) (k : Nat) => some ((KSo, ([(((1 : Nat)), (V.v (V1.one (C.sint (IntKind.u8) (x))))), (((2 : Nat)), (V.v (V1.one (C.sint (IntKind.i64) (a))))), (((8 : Nat)), (V.v (V1.one (C.slice ((1 : Nat)) (N.c ((0 : Nat))) ((2 : Nat)) (N.s (List.length l0)) (N.s (List.length l0)))))), (((9 : Nat)), (V.v (V1.one (C.sint (IntKind.i64) ((↑k : Int) - (1 : Int))))))], ([(SB.mk (false) (Cells.recs ([IntKind.u8, IntKind.i64]) (l0))), (SB.mk (true) (Cells.recs ([IntKind.u8, IntKind.i64]) (l)))], [(-9223372036854775808 : Int) ≤ (↑k : Int) - (1 : Int) ∧ (↑k : Int) - (1 : Int) ≤ (9223372036854775807 : Int), decide (List.getD (List.getD l (k) []) (1 : Nat) (0 : Int) = (0 : Int)) = false, k < List.length l, (0 : Int) ≤ (↑k : Int), (↑k : Int) < (↑(List.length l0) : Int), decide (List.getD (List.getD l (k) []) (0 : Nat) (0 : Int) = x) = false, k < List.length l, (0 : Int) ≤ (↑k : Int), (↑k : Int) < (↑(List.length l0) : Int), decide ((0 : Int) < a) = true])))) := by kernel_rfl
theorem rsY2t : (fun (l0 : Rows2) (x : Int) (l : Rows2) (a : Int) (k : Nat) => stopV [1, 2, 8, 9] [0, 1] (rndSi (LSo.2.length + 1) [true, true, false, true] l0 x l a k)) = fun (l0 : Rows2) (x : Int) (l : Rows2) (a : Int) (k : Nat) => some ((KSo, ([(((1 : Nat)), (V.v (V1.one (C.sint (IntKind.u8) (x))))), (((2 : Nat)), (V.v (V1.one (C.sint (IntKind.i64) (a))))), (((8 : Nat)), (V.v (V1.one (C.slice ((1 : Nat)) (N.c ((0 : Nat))) ((2 : Nat)) (N.s (List.length l0)) (N.s (List.length l0)))))), (((9 : Nat)), (V.v (V1.one (C.sint (IntKind.i64) ((↑k : Int) - (1 : Int))))))], ([(SB.mk (false) (Cells.recs ([IntKind.u8, IntKind.i64]) (l0))), (SB.mk (true) (Cells.recs ([IntKind.u8, IntKind.i64]) (List.set l (k) [(0 : Int), (0 : Int)])))], [(-9223372036854775808 : Int) ≤ (↑k : Int) - (1 : Int) ∧ (↑k : Int) - (1 : Int) ≤ (9223372036854775807 : Int), k < List.length l, (0 : Int) ≤ (↑k : Int), (↑k : Int) < (↑(List.length l0) : Int), decide (List.getD (List.getD l (k) []) (1 : Nat) (0 : Int) = (0 : Int)) = true, k < List.length l, (0 : Int) ≤ (↑k : Int), (↑k : Int) < (↑(List.length l0) : Int), decide ((0 : Int) < List.getD (List.getD l (k) []) (1 : Nat) (0 : Int)) = false, k < List.length l, (0 : Int) ≤ (↑k : Int), (↑k : Int) < (↑(List.length l0) : Int), decide (List.getD (List.getD l (k) []) (0 : Nat) (0 : Int) = x) = true, k < List.length l, (0 : Int) ≤ (↑k : Int), (↑k : Int) < (↑(List.length l0) : Int), decide ((0 : Int) < a) = true])))) := by kernel_rfl
end
section
/- The document's bags: putting, one by one, comes to the same. -/
open Go.ChangeShapes Go.WideShapes Go.ChangeAt Go.RowKit Go.Sx
theorem rightR_tab : TabOk Try.prog 26 (loc w1 (one2n gRightR)) := one2n_ok fun l c i v bs ob hg hob hw => by
  unfold gRightR at hg
  injection hg with hg; injection hg with e1 e2; injection e2 with e2 e3
  subst e1; subst e2; subst e3
  have hi := hob _ (List.Mem.head _)
  subst hi
  exact rightR_works l c hw
theorem countR_tab : TabOk Try.prog 28 (loc w1 (one2i gCount)) := one2i_ok fun l c i v bs ob hg hob hw hi => by
  unfold gCount at hg
  injection hg with hg; injection hg with e1 e2; injection e2 with e2 e3
  subst e1; subst e2; subst e3
  exact countR_works l c i hw (hob _ (by simp))
theorem oneR_tab : TabOk Try.prog 41 (loc wO gOneR) := loc_ok fun xs bs v bs' ob hg hob hok => by
  clear hok
  unfold gOneR at hg
  split at hg
  · split at hg
    · rename_i hk
      have hks := isK2_eq hk
      subst hks
      injection hg with hg; injection hg with e1 e2; injection e2 with e2 e3
      subst e1; subst e2; subst e3
      have hn := hob _ (List.Mem.head _)
      subst hn
      exact one_works _ _ _ (hob _ (by simp)) (hob _ (by simp))
    · cases hg
  · cases hg
theorem tabR1_ok : ∀ f g, tabR1 f = some g → TabOk Try.prog f g := tabs_ok fun x hx => by
  simp only [List.mem_cons, List.not_mem_nil, or_false] at hx
  rcases hx with rfl | rfl | rfl | rfl
  · exact stackR_tab
  · exact rightR_tab
  · exact countR_tab
  · exact oneR_tab
theorem callR1_ok (d : Nat) : CallOk Try.prog (callR1 d) := callN_sound tabR1_ok d
/-! ### plainly -/
theorem fill_none {p : List Int → Bool} {x s : Int} : ∀ {l : Rows2} {n : Int}, (∀ r ∈ l, amt p s r n = 0) → fill p x s l n = (l, n)
  | [], _, _ => rfl
  | r :: t, n, h => by
    have h0 := h r (by simp)
    rw [fill_cons, h0, Int.sub_zero, fill_none (fun r hr => h r (by simp [hr])), putR0 h0]
theorem addP_no {p : List Int → Bool} {u : List Int → List Int} : ∀ {l : Rows2}, addP p u l = none → ∀ r ∈ l, p r = false
  | [], _ => fun r hr => by simp at hr
  | r :: t, h => by
    rw [addP] at h
    split at h
    · cases h
    · rename_i hp
      cases hq : addP p u t with
      | some m => rw [hq] at h; cases h
      | none =>
        intro s hs
        rcases List.mem_cons.1 hs with e | hs
        · subst e; simpa using hp
        · exact addP_no hq s hs
theorem fill_add {p q : List Int → Bool} {u : List Int → List Int} {x s : Int} (h1 : ∀ r : List Int, r.length = 2 → q r = true → amt p s r 1 = 1 ∧ putR p x s r 1 = u r) (h0 : ∀ r, q r = false → amt p s r 1 = 0) :
    ∀ {l m : Rows2}, (∀ r ∈ l, r.length = 2) → addP q u l = some m → fill p x s l 1 = (m, 0)
  | [], _, _, h => by cases h
  | r :: t, m, hw, h => by
    rw [addP] at h
    split at h
    · rename_i hq
      injection h with h; subst h
      obtain ⟨ha, hp⟩ := h1 r (hw r (by simp)) hq
      rw [fill_cons, ha, hp, Int.sub_self, fill_zero]
    · rename_i hq
      have ha := h0 r (by simpa using hq)
      cases hm : addP q u t with
      | none => rw [hm] at h; cases h
      | some m' =>
        rw [hm] at h; injection h with h; subst h
        rw [fill_cons, ha, Int.sub_zero, fill_add h1 h0 (fun s hs => hw s (by simp [hs])) hm, putR0 ha]
theorem stA1 {x : Int} {r : List Int} (hr : r.length = 2) (h : pO x r = true) : amt (pA x) (stackT x) r 1 = 1 ∧ putR (pA x) x (stackT x) r 1 = r.set 1 (nn r + 1) := by
  unfold pO at h
  simp only [Bool.and_eq_true, decide_eq_true_eq] at h
  have ha : amt (pA x) (stackT x) r 1 = 1 := by
    rw [amt_some (by rw [pA_un]; exact decide_eq_true h.1) (by split <;> omega)]
    split <;> omega
  refine ⟨ha, ?_⟩
  rw [putR1 (by rw [ha]; decide), ha]
  match r, hr with
  | [a, b], _ =>
    have : a = x := h.1
    subst this; rfl
theorem stA0 {x n : Int} {r : List Int} (h : pO x r = false) : amt (pA x) (stackT x) r n = 0 := by
  unfold pO at h
  rw [Bool.and_eq_false_iff, decide_eq_false_iff_not, decide_eq_false_iff_not] at h
  rcases h with h | h
  · exact amt_no (by rw [pA_un]; exact decide_eq_false h)
  · exact amt_none (by split <;> omega)
theorem stB1 {x : Int} (hs : 1 ≤ stackT x) {r : List Int} (h : pB r = true) : amt pB (stackT x) r 1 = 1 ∧ putR pB x (stackT x) r 1 = [x, 1] := by
  have h0 : nn r = 0 := of_decide_eq_true h
  have ha : amt pB (stackT x) r 1 = 1 := by
    rw [amt_some h (by rw [h0]; split <;> omega)]
    rw [h0]; split <;> omega
  refine ⟨ha, ?_⟩
  rw [putR1 (by rw [ha]; decide), ha, h0]; rfl
theorem plus_true {l : Rows2} {x : Int} (h : l.all okR = true) (hw : wfL l) (hs : stackT x ≠ 0) (hp : (plusS l x).2 = true) : putS l x 1 = ((plusS l x).1, 0) := by
  have hb := stackT_bd x
  have h2 : ∀ r ∈ l, r.length = 2 := fun r hr => (hw.1 r hr).1
  rw [putS_un h (by decide) hs]
  unfold plusS at hp ⊢
  cases hA : addP (pO x) (fun r => r.set 1 (nn r + 1)) l with
  | some m =>
    rw [fill_add (fun r hr hq => stA1 hr hq) (fun r hq => stA0 hq) h2 hA, fill_zero]
  | none =>
    rw [hA] at hp
    rw [fill_none (fun r hr => stA0 (addP_no hA r hr))]
    cases hB : addP pB (fun _ => [x, 1]) l with
    | some m => rw [fill_add (fun r _ hq => stB1 (by omega) hq) (fun r hq => amt_no hq) h2 hB]
    | none => rw [hB] at hp; cases hp
theorem plus_false {l : Rows2} {x n : Int} (h : l.all okR = true) (hs : stackT x ≠ 0) (hn : 1 ≤ n) (hp : (plusS l x).2 = false) : putS l x n = (l, n) ∧ (plusS l x).1 = l := by
  rw [putS_un h hn hs]
  unfold plusS at hp ⊢
  cases hA : addP (pO x) (fun r => r.set 1 (nn r + 1)) l with
  | some m => rw [hA] at hp; cases hp
  | none =>
    rw [hA] at hp
    rw [fill_none (fun r hr => stA0 (addP_no hA r hr))]
    cases hB : addP pB (fun _ => [x, 1]) l with
    | some m => rw [hB] at hp; cases hp
    | none => exact ⟨fill_none (fun r hr => amt_no (addP_no hB r hr)), rfl⟩
theorem plus_step {l : Rows2} {x n : Int} (h : l.all okR = true) (hw : wfL l) (hs : stackT x ≠ 0) (hn : 1 ≤ n) (hp : (plusS l x).2 = true) : putS l x n = putS (plusS l x).1 x (n - 1) := by
  have h1 := plus_true h hw hs hp
  by_cases hn1 : n = 1
  · subst hn1
    have e : ∀ m : Rows2, putS m x (1 - 1) = (m, 0) := fun m => by unfold putS; rw [if_pos (by decide)]
    rw [e, h1]
  · obtain ⟨p1, p2⟩ := putS_parts (x := x) (a := 1) (b := n - 1) h (by decide) (by omega)
    rw [h1, show (1 : Int) + (n - 1) = n by omega] at p1 p2
    simp only [Int.zero_add] at p1 p2
    exact Prod.ext p1 p2
/-! ### the code -/
theorem funPu : Try.prog.funcs[30]? = some FPu := by kernel_rfl
theorem bodPu : FPu.body = some (body 30) := by kernel_rfl
theorem tmpPu : 3 ≤ FPu.ntmps := Nat.le_of_ble_eq_true (by kernel_rfl)
theorem putR_works (l : Rows2) (c : Nat) (x n : Int) (hw : wfL l) (hx : 0 ≤ x ∧ x < 256) (hn : i64 n) :
    Works Try.prog 30 [sl 0 l.length c, si .u8 x, si .i64 n] [ro l] (tup2 1 l.length (putS l x n).2) [ro l, ow (putS l x n).1] := by
  have hlen := hw.2
  unfold i64 at hn
  have fin : ∀ (l' : Rows2), leBs (List.range 1 ++ [2]) [ro l, ⟨true, .recs ks2 l'⟩] [ro l, ow l'] := fun l' => by simp [leBs, leB, leCells, ro, ow, ks2]
  have fin' : leBs (List.range 1 ++ [2]) [ro l, ⟨true, .recs ks2 ([] ++ l)⟩] [ro l, ow l] := by rw [List.nil_append]; exact fin l
  have fv : ∀ (e e' : Int), e = e' → leV (List.range 1 ++ [2]) (.tup [.one (.slice 2 (.c 0) 2 (.s l.length) (.s l.length)), .one (.sint .i64 e)]) (tup2 1 l.length e') := fun e e' h => by
    subst h; simp [tup2, leV, leL1, leV1, leC, N.v, List.range, List.range.loop]
  by_cases h1 : l.all okR = true
  · by_cases h2 : stackT x = 0
    · have hp : putS l x n = (l, if n < 0 then 0 else n) := by
        unfold putS
        by_cases h : n < 1
        · rw [if_pos h]; congr 1; split <;> omega
        · rw [if_neg h, if_pos (.inl h2), if_neg (by omega)]
      rw [hp]
      refine works_of (r := [2]) tabR1_ok (congrFun (congrFun (congrFun (congrFun rpB l) c) x) n) ?_ (by exact nd1 2 (by omega)) (fv _ _ rfl) fin'
      simp only [allP, h1]; simp [hw, hx, h2]; omega
    · by_cases h3 : n < 1
      · have hp : putS l x n = (l, if n < 0 then 0 else n) := by
          unfold putS; rw [if_pos h3]; congr 1; split <;> omega
        rw [hp]
        refine works_of (r := [2]) tabR1_ok (congrFun (congrFun (congrFun (congrFun rpC l) c) x) n) ?_ (by exact nd1 2 (by omega)) (fv _ _ rfl) fin'
        simp only [allP, h1]; simp [hw, hx, h2, h3]; omega
      · refine works_loop (I := Rows2 × Int) (Inv := fun s h => TPu l x s.1 s.2 h) (good := fun s => s.1.all okR = true ∧ wfL s.1 ∧ s.1.length = l.length ∧ 0 ≤ s.2 ∧ s.2 ≤ n ∧ putS s.1 x s.2 = putS l x n) (μ := fun s => s.2.toNat) (i := (l, n)) (r := [2]) (callR1_ok 3) funPu bodPu (by exact tmpPu) (fun _ _ => ⟨rfl, rfl⟩)
          (congrFun (congrFun (congrFun (congrFun rpE l) c) x) n) ?_ ⟨by exact nd1 2 (by omega), ?_, ?_⟩ ⟨h1, hw, rfl, by simp only; omega, Int.le_refl _, rfl⟩ ?_
        · simp only [allP, h1]; simp [hw, hx, h2, h3]; omega
        · simp [TPu, leSlots, leV, leV1, leC, si, sl, N.v, List.range, List.range.loop]
        · simp [TPu, leBs, leB, leCells, ro, ow, ks2]
        · intro ⟨cur, a⟩ ⟨g1, g2, g3, g4, g5, g6⟩
          simp only at g1 g2 g3 g4 g5 g6
          by_cases ha : 0 < a
          · cases hp : (plusS cur x).2 with
            | true =>
              have q := congrFun (congrFun (congrFun (congrFun rpR l) x) cur) a
              have hst := plus_step (n := a) g1 g2 h2 (by omega) hp
              have ht := plus_true g1 g2 h2 hp
              have ok1 : (plusS cur x).1.all okR = true := by have := putS_ok (x := x) (n := 1) g1; rw [ht] at this; exact this
              have wf1 : wfL (plusS cur x).1 := by have := putS_wf (n := 1) g2 hx; rw [ht] at this; exact this
              have le1 := plusS_len cur x
              refine .round [true, true] [] _ _ [1, 2, 8] [1] _ _ _ ((plusS cur x).1, a - 1) q ?_ ⟨by exact nd1 1 (by omega), ?_, ?_⟩ ⟨ok1, wf1, by simp only; omega, by simp only; omega, by simp only; omega, by rw [← g6, hst]⟩ (by simp only; omega)
              · simp only [allP]; simp [hp, g2, g3, hx, ha]; omega
              · simp [TPu, leSlots, leV, leV1, leC, si, sl, N.v, List.range, List.range.loop]
              · simp [TPu, leBs, leB, leCells, ro, ow, ks2]
            | false =>
              have q := congrFun (congrFun (congrFun (congrFun rpX1 l) x) cur) a
              obtain ⟨e1, e2⟩ := plus_false (n := a) g1 h2 (by omega) hp
              rw [← g6, e1]
              refine .stop [true, false] [] _ _ [1] _ _ _ q ?_ (by exact nd1 1 (by omega)) ?_ ?_
              · simp only [allP]; simp [hp, g2, g3, hx, ha]
              · simp [tup2, leV, leL1, leV1, leC, N.v, List.range, List.range.loop]
              · rw [e2]; simp [leBs, leB, leCells, ro, ow, ks2]
          · have : a = 0 := by omega
            subst this
            have e : putS cur x 0 = (cur, 0) := by unfold putS; rw [if_pos (by decide)]
            rw [← g6, e]
            refine .stop [false] [] _ _ [1] _ _ _ (congrFun (congrFun (congrFun (congrFun rpX0 l) x) cur) 0) ?_ (by exact nd1 1 (by omega)) ?_ ?_
            · simp [allP]
            · simp [tup2, leV, leL1, leV1, leC, N.v, List.range, List.range.loop]
            · simp [leBs, leB, leCells, ro, ow, ks2]
  · have h1' : l.all okR = false := by simpa using h1
    have hp : putS l x n = (l, if n < 0 then 0 else n) := by
      unfold putS
      by_cases h : n < 1
      · rw [if_pos h]; congr 1; split <;> omega
      · rw [if_neg h, if_pos (.inr h1'), if_neg (by omega)]
    rw [hp]
    refine works_of (r := [2]) tabR1_ok (congrFun (congrFun (congrFun (congrFun rpA l) c) x) n) ?_ (by exact nd1 2 (by omega)) (fv _ _ rfl) fin'
    simp only [allP, h1']; simp [hw]; omega
theorem putR_tab : TabOk Try.prog 30 (loc w1 (one2ii gPut)) := one2ii_ok fun l c i a v bs ob hg hob hw hi ha => by
  unfold gPut at hg
  injection hg with hg; injection hg with e1 e2; injection e2 with e2 e3
  subst e1; subst e2; subst e3
  exact putR_works l c i a hw hi ha
end
section
/- The document's bags: spending, one by one, comes to the same. -/
open Go.ChangeShapes Go.WideShapes Go.ChangeAt Go.RowKit Go.Sx
theorem funSp : Try.prog.funcs[29]? = some FSp := by kernel_rfl
theorem bodSp : FSp.body = some (body 29) := by kernel_rfl
theorem tmpSp : 3 ≤ FSp.ntmps := Nat.le_of_ble_eq_true (by kernel_rfl)
theorem set_self {cur : Rows2} {k : Nat} (h : k < cur.length) : cur.set k (cur.getD k []) = cur := by
  simp [List.getD, h]
theorem spend_loops (l : Rows2) (x n : Int) (hw : wfL l) (h1 : l.all okR = true) (hx : x ≠ 0) (hn : i64 n) {ρ : Env} {K : Nat → Prop} {W : World} (hρ1 : ρ.length = 1) {ρ' : Env} {ac : Act} {w : World} (h0 : 0 ≤ n)
    (hr : Rel (ρ ++ ρ') K W FSp.ntmps (TSp l x l n ((l.length : Int) - 1) []) ac w) : Goes Try.prog 29 (RetW ρ K W (tup2 1 l.length 0) [ro l, ow (spend x l n).1]) ESo ac w := by
  have hlen := hw.2
  unfold i64 at hn
  have nd : (List.range ρ.length ++ [1]).Nodup := by rw [hρ1]; decide
  have sel : ([0, 1] : List Nat) = List.range ρ.length ++ [1] := by rw [hρ1]; rfl
  have fv : leV (List.range ρ.length ++ [1]) (.tup [.one (.slice 1 (.c 0) 2 (.s l.length) (.s l.length)), .one (.int .i64 0)]) (tup2 1 l.length 0) := by
    rw [← sel]; simp [tup2, leV, leL1, leV1, leC, N.v]
  refine goes_loop (ρ0 := ρ) (fun s : Rows2 × Int × Int => TSp l x s.1 s.2.1 s.2.2 []) (fun s => SpInv x n l s.1 s.2.1 s.2.2 ∧ 0 ≤ s.2.1 ∧ s.2.1 ≤ n) (fun s => (s.2.2 + 1).toNat) ?_
    (i := (l, n, (l.length : Int) - 1)) ⟨⟨rfl, by simp only; omega, by simp only; omega, by simp only [Int.sub_add_cancel, Int.toNat_natCast, List.drop_length]; rfl, rfl⟩, h0, Int.le_refl _⟩ hr
  intro ⟨cur, a, k⟩ ⟨hf, ha, han⟩ ρ1 a1 w1 hr1 ih
  simp only at hf ha han hr1 ih
  by_cases hk : 0 ≤ k
  · obtain ⟨k, rfl⟩ := Int.eq_ofNat_of_zero_le hk
    by_cases hapos : 0 < a
    · obtain ⟨hre, hkc, hkl⟩ := sp_row hf
      have hs0 := sp_step0 hf
      have hs1 := sp_step1 hf
      have hcl := hf.1
      have hokr := all_row h1 (row_mem hkl)
      have hbd := okR_bd hokr
      have hr2 := (hw.1 _ (row_mem hkl)).1
      have hself := set_self hkc
      rw [hre] at hself
      generalize l.getD k [] = R at *
      match R, hr2 with
      | [y, N0], _ =>
        simp only [it_mk, nn_mk] at hs0 hs1 hbd
        have hset : ∀ (R : List Int), (cur.set k R).getD k [] = R := fun R => by simp [List.getD, hkc]
        have g0 : ∀ (u v : Int), ([u, v] : List Int).getD 0 0 = u := fun _ _ => rfl
        have g1 : ∀ (u v : Int), ([u, v] : List Int).getD 1 0 = v := fun _ _ => rfl
        have s1 : ∀ (u v v' : Int), ([u, v] : List Int).set 1 v' = [u, v'] := fun _ _ _ => rfl
        have qO := congrFun (congrFun (congrFun (congrFun (congrFun rsO l) x) cur) a) k
        rw [sel] at qO
        refine goes_stop (ρ0 := ρ) (r := [1]) (T := TSp l x cur a k []) (S := TSp l x cur a k [true, true]) (callR1_ok 3) funSp qO ?_ ⟨nd, ?_, ?_⟩ (fun ρ2 a2 w2 h2 => ?_) (hr1.hints rfl rfl)
        · simp only [allP]; simp [hapos]
        · rw [← sel]; simp [TSp, leSlots, leV, leV1, leC, si, sl, N.v]
        · rw [← sel]; simp [TSp, leBs, leB, leCells, ro, ow]
        have h2' : Rel (ρ ++ ρ2) K W FSp.ntmps (TSp l x (cur.set k [y, N0 - 0]) (a - 0) k []) a2 w2 := by
          rw [Int.sub_zero, Int.sub_zero, hself]; exact h2
        refine goes_loop (ρ0 := ρ) (fun j : Int => TSp l x (cur.set k [y, N0 - j]) (a - j) k []) (fun j => 0 ≤ j ∧ j ≤ N0 ∧ j ≤ a ∧ (y = x ∨ j = 0)) (fun j => (a - j).toNat) ?_ (i := 0) ⟨Int.le_refl _, hbd.1, ha, .inr rfl⟩ h2'
        intro j ⟨j0, jN, ja, jx⟩ ρ3 a3 w3 hr3 ih3
        have qI := congrFun (congrFun (congrFun (congrFun (congrFun rsI l) x) (cur.set k [y, N0 - j])) (a - j)) k
        have q0t := congrFun (congrFun (congrFun (congrFun (congrFun rsY0t l) x) (cur.set k [y, N0 - j])) (a - j)) k
        have q0f := congrFun (congrFun (congrFun (congrFun (congrFun rsY0f l) x) (cur.set k [y, N0 - j])) (a - j)) k
        have q1t := congrFun (congrFun (congrFun (congrFun (congrFun rsY1t l) x) (cur.set k [y, N0 - j])) (a - j)) k
        have q1f := congrFun (congrFun (congrFun (congrFun (congrFun rsY1f l) x) (cur.set k [y, N0 - j])) (a - j)) k
        have q2t := congrFun (congrFun (congrFun (congrFun (congrFun rsY2t l) x) (cur.set k [y, N0 - j])) (a - j)) k
        simp only [hset, g0, g1, s1, List.set_set, List.length_set] at qI q0t q0f q1t q1f q2t
        rw [sel] at qI q0t q0f q1t q1f q2t
        have kb : (-9223372036854775808 : Int) ≤ (k : Int) - 1 ∧ (k : Int) - 1 ≤ 9223372036854775807 := by omega
        have kl : (k : Int) < l.length := by omega
        have back : ∀ (cur' : Rows2) (a' : Int), SpInv x n l cur' a' ((k : Int) - 1) → 0 ≤ a' → a' ≤ n → ∀ ρ' ac w, Rel (ρ ++ ρ') K W FSp.ntmps (TSp l x cur' a' ((k : Int) - 1) []) ac w → Goes Try.prog 29 (RetW ρ K W (tup2 1 l.length 0) [ro l, ow (spend x l n).1]) (.inLoop LSo.1 :: LSo.2) ac w :=
          fun cur' a' hs h0 hn ρ' ac w hrel => ih (cur', a', (k : Int) - 1) ⟨hs, h0, hn⟩ (by simp only; omega) ρ' ac w hrel
        by_cases hleft : 0 < a - j
        · by_cases hy : y = x
          · have hS := hs1 ⟨hapos, hy⟩
            by_cases hN : 0 < N0 - j
            · refine goes_stop (ρ0 := ρ) (r := [1]) (T := TSp l x (cur.set k [y, N0 - (j + 1)]) (a - (j + 1)) k []) (S := TSp l x (cur.set k [y, N0 - j]) (a - j) k [true, true, true]) (callR1_ok 3) funSp qI ?_ ⟨nd, ?_, ?_⟩
                (fun ρ4 a4 w4 h4 => ih3 (j + 1) ⟨by omega, by omega, by omega, .inl hy⟩ (by omega) ρ4 a4 w4 h4) (hr3.hints rfl rfl)
              · simp only [allP]; simp [hkc, kl, hy, hN, hleft]; omega
              · rw [← sel]; simp [TSp, leSlots, leV, leV1, leC, si, sl, N.v]; omega
              · rw [← sel]; simp [TSp, leBs, leB, leCells, ro, ow]; rw [show N0 - j - 1 = N0 - (j + 1) by omega]
            · have hjN : N0 = j := by omega
              have hm : mn N0 a = N0 := by unfold mn; split <;> omega
              rw [hm, lessR_mk, if_pos (Int.sub_self _)] at hS
              refine goes_stop (ρ0 := ρ) (r := [1]) (T := TSp l x (cur.set k [0, 0]) (a - N0) ((k : Int) - 1) []) (S := TSp l x (cur.set k [y, N0 - j]) (a - j) k [true, true, false, true]) (callR1_ok 3) funSp q2t ?_ ⟨nd, ?_, ?_⟩
                (back _ _ hS (by omega) (by omega)) (hr3.hints rfl rfl)
              · simp only [allP]; simp [hkc, kl, hy, hleft, kb]; omega
              · rw [← sel]; simp [TSp, leSlots, leV, leV1, leC, si, sl, N.v, hjN]
              · rw [← sel]; simp [TSp, leBs, leB, leCells, ro, ow]
          · have hj0 : j = 0 := jx.resolve_left hy
            subst hj0
            have hS := hs0 (fun q => hy q.2)
            by_cases hN : N0 = 0
            · have hy0 : y = 0 := by
                rcases ok_ne hokr with ⟨_, e⟩ | ⟨e, _⟩
                · exact e
                · rw [nn_mk] at e; omega
              subst hN; subst hy0
              refine goes_stop (ρ0 := ρ) (r := [1]) (T := TSp l x cur a ((k : Int) - 1) []) (S := TSp l x (cur.set k [0, 0 - 0]) (a - 0) k [true, false, true]) (callR1_ok 3) funSp q1t ?_ ⟨nd, ?_, ?_⟩
                (back _ _ hS ha han) (hr3.hints rfl rfl)
              · simp only [allP]; simp [hkc, kl, hy, hapos, kb]
              · rw [← sel]; simp [TSp, leSlots, leV, leV1, leC, si, sl, N.v]
              · rw [← sel]; simp [TSp, leBs, leB, leCells, ro, ow, hself]
            · refine goes_stop (ρ0 := ρ) (r := [1]) (T := TSp l x cur a ((k : Int) - 1) []) (S := TSp l x (cur.set k [y, N0 - 0]) (a - 0) k [true, false, false]) (callR1_ok 3) funSp q1f ?_ ⟨nd, ?_, ?_⟩
                (back _ _ hS ha han) (hr3.hints rfl rfl)
              · simp only [allP]; simp [hkc, kl, hy, hapos, kb, hN]
              · rw [← sel]; simp [TSp, leSlots, leV, leV1, leC, si, sl, N.v]
              · rw [← sel]; simp [TSp, leBs, leB, leCells, ro, ow, hself]
        · have hja : a = j := by omega
          have hy : y = x := jx.resolve_right (by omega)
          have hS := hs1 ⟨hapos, hy⟩
          by_cases hN : N0 - j = 0
          · have hm : mn N0 a = N0 := by unfold mn; split <;> omega
            rw [hm, lessR_mk, if_pos (Int.sub_self _)] at hS
            refine goes_stop (ρ0 := ρ) (r := [1]) (T := TSp l x (cur.set k [0, 0]) (a - N0) ((k : Int) - 1) []) (S := TSp l x (cur.set k [y, N0 - j]) (a - j) k [false, true]) (callR1_ok 3) funSp q0t ?_ ⟨nd, ?_, ?_⟩
              (back _ _ hS (by omega) (by omega)) (hr3.hints rfl rfl)
            · simp only [allP]; simp [hkc, kl, hN, hleft, kb]; omega
            · rw [← sel]; simp [TSp, leSlots, leV, leV1, leC, si, sl, N.v]; omega
            · rw [← sel]; simp [TSp, leBs, leB, leCells, ro, ow]
          · have hm : mn N0 a = a := by unfold mn; split <;> omega
            rw [hm, lessR_mk, if_neg (by omega), Int.sub_self] at hS
            refine goes_stop (ρ0 := ρ) (r := [1]) (T := TSp l x (cur.set k [y, N0 - a]) 0 ((k : Int) - 1) []) (S := TSp l x (cur.set k [y, N0 - j]) (a - j) k [false, false]) (callR1_ok 3) funSp q0f ?_ ⟨nd, ?_, ?_⟩
              (back _ _ hS (Int.le_refl _) h0) (hr3.hints rfl rfl)
            · simp only [allP]; simp [hkc, kl, hN, hleft, kb]; omega
            · rw [← sel]; simp [TSp, leSlots, leV, leV1, leC, si, sl, N.v]; omega
            · rw [← sel]; simp [TSp, leBs, leB, leCells, ro, ow, hja]
    · have hsp := spend_stop x l n _ _ _ hf.2.2.2.1 (by omega)
      rw [← hf.2.2.2.2, List.take_append_drop] at hsp
      rw [hsp]
      have q := congrFun (congrFun (congrFun (congrFun (congrFun rsX1 l) x) cur) a) (k : Int)
      rw [sel] at q
      refine goes_retW (S := TSp l x cur a k [true, false]) (callR1_ok 3) funSp q ?_ nd fv ?_ (hr1.hints rfl rfl)
      · simp [allP]; omega
      · rw [← sel]; simp [leBs, leB, leCells, ro, ow]
  · have hk1 : k = -1 := by have := hf.2.1; omega
    subst hk1
    have hsp := hf.2.2.2.1
    simp only [Int.reduceNeg, Int.add_left_neg, Int.toNat_zero, List.drop_zero] at hsp
    rw [hsp]
    have q := congrFun (congrFun (congrFun (congrFun (congrFun rsX0 l) x) cur) a) (-1)
    rw [sel] at q
    refine goes_retW (S := TSp l x cur a (-1) [false]) (callR1_ok 3) funSp q ?_ nd fv ?_ (hr1.hints rfl rfl)
    · simp [allP]
    · rw [← sel]; simp [leBs, leB, leCells, ro, ow]
end
section
/- The document's bags: spending, the contract. -/
open Go.ChangeShapes Go.WideShapes Go.ChangeAt Go.RowKit Go.Sx
theorem cnt_zero (l : Rows2) : cnt 0 l = 0 := by
  induction l with
  | nil => rfl
  | cons r t ih => rw [cnt1, ih, cntR_un, if_pos rfl]; rfl
theorem spendR_works (l : Rows2) (c : Nat) (x n : Int) (hw : wfL l) (hx : 0 ≤ x ∧ x < 256) (hn : i64 n) :
    Works Try.prog 29 [sl 0 l.length c, si .u8 x, si .i64 n] [ro l] (tup2 1 l.length (spendS l x n).2) [ro l, ow (spendS l x n).1] := by
  have hlen := hw.2
  have fin' : leBs (List.range 1 ++ [2]) [ro l, ⟨true, .recs ks2 ([] ++ l)⟩] [ro l, ow l] := by rw [List.nil_append]; simp [leBs, leB, leCells, ro, ow, ks2]
  have fv : ∀ (e : Int), leV (List.range 1 ++ [2]) (.tup [.one (.slice 2 (.c 0) 2 (.s l.length) (.s l.length)), .one (.int .i64 e)]) (tup2 1 l.length e) := fun e => by
    simp [tup2, leV, leL1, leV1, leC, N.v, List.range, List.range.loop]
  by_cases h1 : l.all okR = true
  · by_cases h2 : n < 1
    · have hp : spendS l x n = (l, 111) := by unfold spendS; rw [if_neg (by rw [h1]; simp), if_pos h2]
      rw [hp]
      refine works_of (r := [2]) tabR1_ok (congrFun (congrFun (congrFun (congrFun rsB l) c) x) n) ?_ (by exact nd1 2 (by omega)) (fv _) fin'
      simp only [allP, h1]; simp [hw, h2]; omega
    · by_cases h3 : cnt x l < n
      · have hp : spendS l x n = (l, 105) := by unfold spendS; rw [if_neg (by rw [h1]; simp), if_neg h2, if_pos h3]
        rw [hp]
        refine works_of (r := [2]) tabR1_ok (congrFun (congrFun (congrFun (congrFun rsC l) c) x) n) ?_ (by exact nd1 2 (by omega)) (fv _) fin'
        simp only [allP, List.nil_append, h1]; simp [hw, hx, h2, h3]; omega
      · have hp : spendS l x n = ((spend x l n).1, 0) := by unfold spendS; rw [if_neg (by rw [h1]; simp), if_neg h2, if_neg h3]
        have hx0 : x ≠ 0 := fun e => by subst e; rw [cnt_zero] at h3; omega
        rw [hp]
        refine works_goes funSp bodSp (by exact tmpSp) fun ρ K W a w hρ hr => ?_
        have hρ1 : ρ.length = 1 := hρ
        have nd : (List.range ρ.length ++ [2]).Nodup := by rw [hρ1]; decide
        have sel : ([0, 2] : List Nat) = List.range ρ.length ++ [2] := by rw [hρ1]; rfl
        have qE := congrFun (congrFun (congrFun (congrFun rsE l) c) x) n
        rw [sel] at qE
        refine goes_stop (ρ0 := ρ) (r := [2]) (T := TSp l x l n ((l.length : Int) - 1) []) (S := ⟨argSlots 0 [sl 0 l.length c, si .u8 x, si .i64 n], [ro l], [true, false, false, false], []⟩) (callR1_ok 3) funSp qE ?_ ⟨nd, ?_, ?_⟩
          (fun ρ2 a2 w2 h2' => spend_loops l x n hw h1 hx0 hn hρ1 (by omega) h2') (hr.hints rfl rfl)
        · simp only [allP, List.nil_append, h1]; simp [hw, hx, h2, h3]; omega
        · rw [← sel]; simp [TSp, leSlots, leV, leV1, leC, si, sl, N.v]
        · rw [← sel]; simp [TSp, leBs, leB, leCells, ro, ow]
  · have h1' : l.all okR = false := by simpa using h1
    have hp : spendS l x n = (l, 103) := by unfold spendS; rw [if_pos h1']
    rw [hp]
    refine works_of (r := [2]) tabR1_ok (congrFun (congrFun (congrFun (congrFun rsA l) c) x) n) ?_ (by exact nd1 2 (by omega)) (fv _) fin'
    simp only [allP, h1']; simp [hw]; omega
theorem spendR_tab : TabOk Try.prog 29 (loc w1 (one2ii gSpend)) := one2ii_ok fun l c i a v bs ob hg hob hw hi ha => by
  unfold gSpend at hg
  injection hg with hg; injection hg with e1 e2; injection e2 with e2 e3
  subst e1; subst e2; subst e3
  exact spendR_works l c i a hw hi ha
end
section
/- The document's making, by the code: its runs. -/
open Go.Sx
def tabRM := tabs [(26, loc w1 (one2n gRightR)), (28, loc w1 (one2i gCount)), (30, loc w1 (one2ii gPut)), (29, loc w1 (one2ii gSpend))]
noncomputable def callRM (d : Nat) := callN Try.prog tabRM (fun _ => false) 100000 d
theorem rmA : (fun (l : Rows2) (c : Nat) (n : Int) => retV [0, 2] (callRM 6 11 [sl 0 l.length c, si .i64 n] [ro l] [true, true])) = fun (l : Rows2) (c : Nat) (n : Int) => some (((V.tup [(V1.one (C.slice ((2 : Nat)) (N.c ((0 : Nat))) ((2 : Nat)) (N.s (List.length l)) (N.s (List.length l)))), (V1.one (C.int (IntKind.i64) ((103 : Int))))]), ([(SB.mk (false) (Cells.recs ([IntKind.u8, IntKind.i64]) (l))), (SB.mk (true) (Cells.recs ([IntKind.u8, IntKind.i64]) ([] ++ l)))], [(!List.all l okR) = true, List.length l = List.length l, wfL l, (↑(List.length l) : Int) = (↑(List.length l) : Int), (0 : Nat) = (0 : Nat), List.length l = List.length l, List.length l * (16 : Nat) ≤ (140737488355328 : Nat), List.length l ≤ (9223372036854775807 : Nat)]))) := by kernel_rfl
theorem rmB : (fun (l : Rows2) (c : Nat) (n : Int) => retV [0, 2] (callRM 6 11 [sl 0 l.length c, si .i64 n] [ro l] [true, false, true])) = fun (l : Rows2) (c : Nat) (n : Int) => some (((V.tup [(V1.one (C.slice ((2 : Nat)) (N.c ((0 : Nat))) ((2 : Nat)) (N.s (List.length l)) (N.s (List.length l)))), (V1.one (C.int (IntKind.i64) ((112 : Int))))]), ([(SB.mk (false) (Cells.recs ([IntKind.u8, IntKind.i64]) (l))), (SB.mk (true) (Cells.recs ([IntKind.u8, IntKind.i64]) ([] ++ l)))], [decide (n < (0 : Int)) = true, (!List.all l okR) = false, List.length l = List.length l, wfL l, (↑(List.length l) : Int) = (↑(List.length l) : Int), (0 : Nat) = (0 : Nat), List.length l = List.length l, List.length l * (16 : Nat) ≤ (140737488355328 : Nat), List.length l ≤ (9223372036854775807 : Nat)]))) := by kernel_rfl
theorem rmC : (fun (l : Rows2) (c : Nat) (n : Int) => retV [0, 2] (callRM 6 11 [sl 0 l.length c, si .i64 n] [ro l] [true, false, false, true])) = fun (l : Rows2) (c : Nat) (n : Int) => some (((V.tup [(V1.one (C.slice ((2 : Nat)) (N.c ((0 : Nat))) ((2 : Nat)) (N.s (List.length l)) (N.s (List.length l)))), (V1.one (C.int (IntKind.i64) ((112 : Int))))]), ([(SB.mk (false) (Cells.recs ([IntKind.u8, IntKind.i64]) (l))), (SB.mk (true) (Cells.recs ([IntKind.u8, IntKind.i64]) ([] ++ l)))], [decide ((7 : Int) ≤ n) = true, decide (n < (0 : Int)) = false, (!List.all l okR) = false, List.length l = List.length l, wfL l, (↑(List.length l) : Int) = (↑(List.length l) : Int), (0 : Nat) = (0 : Nat), List.length l = List.length l, List.length l * (16 : Nat) ≤ (140737488355328 : Nat), List.length l ≤ (9223372036854775807 : Nat)]))) := by kernel_rfl
theorem rm0b0 : (fun (l : Rows2) (c : Nat) => retV [0, 2] (callRM 6 11 [sl 0 l.length c, sc 0] [ro l] [true, false, true])) = fun (l : Rows2) (c : Nat) => some (((V.tup [(V1.one (C.slice ((2 : Nat)) (N.c ((0 : Nat))) ((2 : Nat)) (N.s (List.length l)) (N.s (List.length l)))), (V1.one (C.int (IntKind.i64) ((105 : Int))))]), ([(SB.mk (false) (Cells.recs ([IntKind.u8, IntKind.i64]) (l))), (SB.mk (true) (Cells.recs ([IntKind.u8, IntKind.i64]) ([] ++ l)))], [decide (cnt (3 : Int) l < (1 : Int)) = true, List.length l = List.length l, wfL l, (0 : Int) ≤ (3 : Int) ∧ (3 : Int) < (256 : Int), List.all l okR = true, (!List.all l okR) = false, List.length l = List.length l, wfL l, (↑(List.length l) : Int) = (↑(List.length l) : Int), (0 : Nat) = (0 : Nat), List.length l = List.length l, List.length l * (16 : Nat) ≤ (140737488355328 : Nat), List.length l ≤ (9223372036854775807 : Nat)]))) := by kernel_rfl
theorem rm0c : (fun (l : Rows2) (c : Nat) => retV [0, 2] (callRM 6 11 [sl 0 l.length c, sc 0] [ro l] [true, false, false, true])) = fun (l : Rows2) (c : Nat) => some (((V.tup [(V1.one (C.slice ((2 : Nat)) (N.c ((0 : Nat))) ((2 : Nat)) (N.s (List.length l)) (N.s (List.length l)))), (V1.one (C.int (IntKind.i64) ((104 : Int))))]), ([(SB.mk (false) (Cells.recs ([IntKind.u8, IntKind.i64]) (l))), (SB.mk (true) (Cells.recs ([IntKind.u8, IntKind.i64]) ([] ++ l)))], [decide ((0 : Int) < Prod.snd (putS (Prod.fst (spendS l (3 : Int) (1 : Int))) (5 : Int) (4 : Int))) = true, List.length l = List.length (Prod.fst (spendS l (3 : Int) (1 : Int))), wfL (Prod.fst (spendS l (3 : Int) (1 : Int))), (0 : Int) ≤ (5 : Int) ∧ (5 : Int) < (256 : Int), i64 (4 : Int), List.length l = List.length l, wfL l, (0 : Int) ≤ (3 : Int) ∧ (3 : Int) < (256 : Int), i64 (1 : Int), decide (cnt (3 : Int) l < (1 : Int)) = false, List.length l = List.length l, wfL l, (0 : Int) ≤ (3 : Int) ∧ (3 : Int) < (256 : Int), List.all l okR = true, (!List.all l okR) = false, List.length l = List.length l, wfL l, (↑(List.length l) : Int) = (↑(List.length l) : Int), (0 : Nat) = (0 : Nat), List.length l = List.length l, List.length l * (16 : Nat) ≤ (140737488355328 : Nat), List.length l ≤ (9223372036854775807 : Nat)]))) := by kernel_rfl
theorem rm0d : (fun (l : Rows2) (c : Nat) => retV [0, 14] (callRM 6 11 [sl 0 l.length c, sc 0] [ro l] [true, false, false, false])) = fun (l : Rows2) (c : Nat) => some (((V.tup [(V1.one (C.slice ((14 : Nat)) (N.c ((0 : Nat))) ((2 : Nat)) (N.s (List.length (Prod.fst (spendS l (3 : Int) (1 : Int))))) (N.s (List.length (Prod.fst (spendS l (3 : Int) (1 : Int))))))), (V1.one (C.int (IntKind.i64) ((0 : Int))))]), ([(SB.mk (false) (Cells.recs ([IntKind.u8, IntKind.i64]) (l))), (SB.mk (true) (Cells.recs ([IntKind.u8, IntKind.i64]) (Prod.fst (putS (Prod.fst (spendS l (3 : Int) (1 : Int))) (5 : Int) (4 : Int)))))], [decide ((0 : Int) < Prod.snd (putS (Prod.fst (spendS l (3 : Int) (1 : Int))) (5 : Int) (4 : Int))) = false, List.length l = List.length (Prod.fst (spendS l (3 : Int) (1 : Int))), wfL (Prod.fst (spendS l (3 : Int) (1 : Int))), (0 : Int) ≤ (5 : Int) ∧ (5 : Int) < (256 : Int), i64 (4 : Int), List.length l = List.length l, wfL l, (0 : Int) ≤ (3 : Int) ∧ (3 : Int) < (256 : Int), i64 (1 : Int), decide (cnt (3 : Int) l < (1 : Int)) = false, List.length l = List.length l, wfL l, (0 : Int) ≤ (3 : Int) ∧ (3 : Int) < (256 : Int), List.all l okR = true, (!List.all l okR) = false, List.length l = List.length l, wfL l, (↑(List.length l) : Int) = (↑(List.length l) : Int), (0 : Nat) = (0 : Nat), List.length l = List.length l, List.length l * (16 : Nat) ≤ (140737488355328 : Nat), List.length l ≤ (9223372036854775807 : Nat)]))) := by kernel_rfl
theorem rm1b0 : (fun (l : Rows2) (c : Nat) => retV [0, 2] (callRM 6 11 [sl 0 l.length c, sc 1] [ro l] [true, false, true])) = fun (l : Rows2) (c : Nat) => some (((V.tup [(V1.one (C.slice ((2 : Nat)) (N.c ((0 : Nat))) ((2 : Nat)) (N.s (List.length l)) (N.s (List.length l)))), (V1.one (C.int (IntKind.i64) ((105 : Int))))]), ([(SB.mk (false) (Cells.recs ([IntKind.u8, IntKind.i64]) (l))), (SB.mk (true) (Cells.recs ([IntKind.u8, IntKind.i64]) ([] ++ l)))], [decide (cnt (5 : Int) l < (2 : Int)) = true, List.length l = List.length l, wfL l, (0 : Int) ≤ (5 : Int) ∧ (5 : Int) < (256 : Int), List.all l okR = true, (!List.all l okR) = false, List.length l = List.length l, wfL l, (↑(List.length l) : Int) = (↑(List.length l) : Int), (0 : Nat) = (0 : Nat), List.length l = List.length l, List.length l * (16 : Nat) ≤ (140737488355328 : Nat), List.length l ≤ (9223372036854775807 : Nat)]))) := by kernel_rfl
theorem rm1c : (fun (l : Rows2) (c : Nat) => retV [0, 2] (callRM 6 11 [sl 0 l.length c, sc 1] [ro l] [true, false, false, true])) = fun (l : Rows2) (c : Nat) => some (((V.tup [(V1.one (C.slice ((2 : Nat)) (N.c ((0 : Nat))) ((2 : Nat)) (N.s (List.length l)) (N.s (List.length l)))), (V1.one (C.int (IntKind.i64) ((104 : Int))))]), ([(SB.mk (false) (Cells.recs ([IntKind.u8, IntKind.i64]) (l))), (SB.mk (true) (Cells.recs ([IntKind.u8, IntKind.i64]) ([] ++ l)))], [decide ((0 : Int) < Prod.snd (putS (Prod.fst (spendS l (5 : Int) (2 : Int))) (6 : Int) (4 : Int))) = true, List.length l = List.length (Prod.fst (spendS l (5 : Int) (2 : Int))), wfL (Prod.fst (spendS l (5 : Int) (2 : Int))), (0 : Int) ≤ (6 : Int) ∧ (6 : Int) < (256 : Int), i64 (4 : Int), List.length l = List.length l, wfL l, (0 : Int) ≤ (5 : Int) ∧ (5 : Int) < (256 : Int), i64 (2 : Int), decide (cnt (5 : Int) l < (2 : Int)) = false, List.length l = List.length l, wfL l, (0 : Int) ≤ (5 : Int) ∧ (5 : Int) < (256 : Int), List.all l okR = true, (!List.all l okR) = false, List.length l = List.length l, wfL l, (↑(List.length l) : Int) = (↑(List.length l) : Int), (0 : Nat) = (0 : Nat), List.length l = List.length l, List.length l * (16 : Nat) ≤ (140737488355328 : Nat), List.length l ≤ (9223372036854775807 : Nat)]))) := by kernel_rfl
theorem rm1d : (fun (l : Rows2) (c : Nat) => retV [0, 14] (callRM 6 11 [sl 0 l.length c, sc 1] [ro l] [true, false, false, false])) = fun (l : Rows2) (c : Nat) => some (((V.tup [(V1.one (C.slice ((14 : Nat)) (N.c ((0 : Nat))) ((2 : Nat)) (N.s (List.length (Prod.fst (spendS l (5 : Int) (2 : Int))))) (N.s (List.length (Prod.fst (spendS l (5 : Int) (2 : Int))))))), (V1.one (C.int (IntKind.i64) ((0 : Int))))]), ([(SB.mk (false) (Cells.recs ([IntKind.u8, IntKind.i64]) (l))), (SB.mk (true) (Cells.recs ([IntKind.u8, IntKind.i64]) (Prod.fst (putS (Prod.fst (spendS l (5 : Int) (2 : Int))) (6 : Int) (4 : Int)))))], [decide ((0 : Int) < Prod.snd (putS (Prod.fst (spendS l (5 : Int) (2 : Int))) (6 : Int) (4 : Int))) = false, List.length l = List.length (Prod.fst (spendS l (5 : Int) (2 : Int))), wfL (Prod.fst (spendS l (5 : Int) (2 : Int))), (0 : Int) ≤ (6 : Int) ∧ (6 : Int) < (256 : Int), i64 (4 : Int), List.length l = List.length l, wfL l, (0 : Int) ≤ (5 : Int) ∧ (5 : Int) < (256 : Int), i64 (2 : Int), decide (cnt (5 : Int) l < (2 : Int)) = false, List.length l = List.length l, wfL l, (0 : Int) ≤ (5 : Int) ∧ (5 : Int) < (256 : Int), List.all l okR = true, (!List.all l okR) = false, List.length l = List.length l, wfL l, (↑(List.length l) : Int) = (↑(List.length l) : Int), (0 : Nat) = (0 : Nat), List.length l = List.length l, List.length l * (16 : Nat) ≤ (140737488355328 : Nat), List.length l ≤ (9223372036854775807 : Nat)]))) := by kernel_rfl
theorem rm2b0 : (fun (l : Rows2) (c : Nat) => retV [0, 2] (callRM 6 11 [sl 0 l.length c, sc 2] [ro l] [true, false, true])) = fun (l : Rows2) (c : Nat) => some (((V.tup [(V1.one (C.slice ((2 : Nat)) (N.c ((0 : Nat))) ((2 : Nat)) (N.s (List.length l)) (N.s (List.length l)))), (V1.one (C.int (IntKind.i64) ((105 : Int))))]), ([(SB.mk (false) (Cells.recs ([IntKind.u8, IntKind.i64]) (l))), (SB.mk (true) (Cells.recs ([IntKind.u8, IntKind.i64]) ([] ++ l)))], [decide (cnt (5 : Int) l < (8 : Int)) = true, List.length l = List.length l, wfL l, (0 : Int) ≤ (5 : Int) ∧ (5 : Int) < (256 : Int), List.all l okR = true, (!List.all l okR) = false, List.length l = List.length l, wfL l, (↑(List.length l) : Int) = (↑(List.length l) : Int), (0 : Nat) = (0 : Nat), List.length l = List.length l, List.length l * (16 : Nat) ≤ (140737488355328 : Nat), List.length l ≤ (9223372036854775807 : Nat)]))) := by kernel_rfl
theorem rm2c : (fun (l : Rows2) (c : Nat) => retV [0, 2] (callRM 6 11 [sl 0 l.length c, sc 2] [ro l] [true, false, false, true])) = fun (l : Rows2) (c : Nat) => some (((V.tup [(V1.one (C.slice ((2 : Nat)) (N.c ((0 : Nat))) ((2 : Nat)) (N.s (List.length l)) (N.s (List.length l)))), (V1.one (C.int (IntKind.i64) ((104 : Int))))]), ([(SB.mk (false) (Cells.recs ([IntKind.u8, IntKind.i64]) (l))), (SB.mk (true) (Cells.recs ([IntKind.u8, IntKind.i64]) ([] ++ l)))], [decide ((0 : Int) < Prod.snd (putS (Prod.fst (spendS l (5 : Int) (8 : Int))) (9 : Int) (1 : Int))) = true, List.length l = List.length (Prod.fst (spendS l (5 : Int) (8 : Int))), wfL (Prod.fst (spendS l (5 : Int) (8 : Int))), (0 : Int) ≤ (9 : Int) ∧ (9 : Int) < (256 : Int), i64 (1 : Int), List.length l = List.length l, wfL l, (0 : Int) ≤ (5 : Int) ∧ (5 : Int) < (256 : Int), i64 (8 : Int), decide (cnt (5 : Int) l < (8 : Int)) = false, List.length l = List.length l, wfL l, (0 : Int) ≤ (5 : Int) ∧ (5 : Int) < (256 : Int), List.all l okR = true, (!List.all l okR) = false, List.length l = List.length l, wfL l, (↑(List.length l) : Int) = (↑(List.length l) : Int), (0 : Nat) = (0 : Nat), List.length l = List.length l, List.length l * (16 : Nat) ≤ (140737488355328 : Nat), List.length l ≤ (9223372036854775807 : Nat)]))) := by kernel_rfl
theorem rm2d : (fun (l : Rows2) (c : Nat) => retV [0, 14] (callRM 6 11 [sl 0 l.length c, sc 2] [ro l] [true, false, false, false])) = fun (l : Rows2) (c : Nat) => some (((V.tup [(V1.one (C.slice ((14 : Nat)) (N.c ((0 : Nat))) ((2 : Nat)) (N.s (List.length (Prod.fst (spendS l (5 : Int) (8 : Int))))) (N.s (List.length (Prod.fst (spendS l (5 : Int) (8 : Int))))))), (V1.one (C.int (IntKind.i64) ((0 : Int))))]), ([(SB.mk (false) (Cells.recs ([IntKind.u8, IntKind.i64]) (l))), (SB.mk (true) (Cells.recs ([IntKind.u8, IntKind.i64]) (Prod.fst (putS (Prod.fst (spendS l (5 : Int) (8 : Int))) (9 : Int) (1 : Int)))))], [decide ((0 : Int) < Prod.snd (putS (Prod.fst (spendS l (5 : Int) (8 : Int))) (9 : Int) (1 : Int))) = false, List.length l = List.length (Prod.fst (spendS l (5 : Int) (8 : Int))), wfL (Prod.fst (spendS l (5 : Int) (8 : Int))), (0 : Int) ≤ (9 : Int) ∧ (9 : Int) < (256 : Int), i64 (1 : Int), List.length l = List.length l, wfL l, (0 : Int) ≤ (5 : Int) ∧ (5 : Int) < (256 : Int), i64 (8 : Int), decide (cnt (5 : Int) l < (8 : Int)) = false, List.length l = List.length l, wfL l, (0 : Int) ≤ (5 : Int) ∧ (5 : Int) < (256 : Int), List.all l okR = true, (!List.all l okR) = false, List.length l = List.length l, wfL l, (↑(List.length l) : Int) = (↑(List.length l) : Int), (0 : Nat) = (0 : Nat), List.length l = List.length l, List.length l * (16 : Nat) ≤ (140737488355328 : Nat), List.length l ≤ (9223372036854775807 : Nat)]))) := by kernel_rfl
theorem rm3b0 : (fun (l : Rows2) (c : Nat) => retV [0, 2] (callRM 6 11 [sl 0 l.length c, sc 3] [ro l] [true, false, true])) = fun (l : Rows2) (c : Nat) => some (((V.tup [(V1.one (C.slice ((2 : Nat)) (N.c ((0 : Nat))) ((2 : Nat)) (N.s (List.length l)) (N.s (List.length l)))), (V1.one (C.int (IntKind.i64) ((105 : Int))))]), ([(SB.mk (false) (Cells.recs ([IntKind.u8, IntKind.i64]) (l))), (SB.mk (true) (Cells.recs ([IntKind.u8, IntKind.i64]) ([] ++ l)))], [decide (cnt (6 : Int) l < (1 : Int)) = true, List.length l = List.length l, wfL l, (0 : Int) ≤ (6 : Int) ∧ (6 : Int) < (256 : Int), List.all l okR = true, (!List.all l okR) = false, List.length l = List.length l, wfL l, (↑(List.length l) : Int) = (↑(List.length l) : Int), (0 : Nat) = (0 : Nat), List.length l = List.length l, List.length l * (16 : Nat) ≤ (140737488355328 : Nat), List.length l ≤ (9223372036854775807 : Nat)]))) := by kernel_rfl
theorem rm3b1 : (fun (l : Rows2) (c : Nat) => retV [0, 2] (callRM 6 11 [sl 0 l.length c, sc 3] [ro l] [true, false, false, true])) = fun (l : Rows2) (c : Nat) => some (((V.tup [(V1.one (C.slice ((2 : Nat)) (N.c ((0 : Nat))) ((2 : Nat)) (N.s (List.length l)) (N.s (List.length l)))), (V1.one (C.int (IntKind.i64) ((105 : Int))))]), ([(SB.mk (false) (Cells.recs ([IntKind.u8, IntKind.i64]) (l))), (SB.mk (true) (Cells.recs ([IntKind.u8, IntKind.i64]) ([] ++ l)))], [decide (cnt (7 : Int) l < (1 : Int)) = true, List.length l = List.length l, wfL l, (0 : Int) ≤ (7 : Int) ∧ (7 : Int) < (256 : Int), List.all l okR = true, decide (cnt (6 : Int) l < (1 : Int)) = false, List.length l = List.length l, wfL l, (0 : Int) ≤ (6 : Int) ∧ (6 : Int) < (256 : Int), List.all l okR = true, (!List.all l okR) = false, List.length l = List.length l, wfL l, (↑(List.length l) : Int) = (↑(List.length l) : Int), (0 : Nat) = (0 : Nat), List.length l = List.length l, List.length l * (16 : Nat) ≤ (140737488355328 : Nat), List.length l ≤ (9223372036854775807 : Nat)]))) := by kernel_rfl
theorem rm3c : (fun (l : Rows2) (c : Nat) => retV [0, 2] (callRM 6 11 [sl 0 l.length c, sc 3] [ro l] [true, false, false, false, true])) = fun (l : Rows2) (c : Nat) => some (((V.tup [(V1.one (C.slice ((2 : Nat)) (N.c ((0 : Nat))) ((2 : Nat)) (N.s (List.length l)) (N.s (List.length l)))), (V1.one (C.int (IntKind.i64) ((104 : Int))))]), ([(SB.mk (false) (Cells.recs ([IntKind.u8, IntKind.i64]) (l))), (SB.mk (true) (Cells.recs ([IntKind.u8, IntKind.i64]) ([] ++ l)))], [decide ((0 : Int) < Prod.snd (putS (Prod.fst (spendS (Prod.fst (spendS l (6 : Int) (1 : Int))) (7 : Int) (1 : Int))) (10 : Int) (4 : Int))) = true, List.length (Prod.fst (spendS l (6 : Int) (1 : Int))) = List.length (Prod.fst (spendS (Prod.fst (spendS l (6 : Int) (1 : Int))) (7 : Int) (1 : Int))), wfL (Prod.fst (spendS (Prod.fst (spendS l (6 : Int) (1 : Int))) (7 : Int) (1 : Int))), (0 : Int) ≤ (10 : Int) ∧ (10 : Int) < (256 : Int), i64 (4 : Int), List.length l = List.length (Prod.fst (spendS l (6 : Int) (1 : Int))), wfL (Prod.fst (spendS l (6 : Int) (1 : Int))), (0 : Int) ≤ (7 : Int) ∧ (7 : Int) < (256 : Int), i64 (1 : Int), List.length l = List.length l, wfL l, (0 : Int) ≤ (6 : Int) ∧ (6 : Int) < (256 : Int), i64 (1 : Int), decide (cnt (7 : Int) l < (1 : Int)) = false, List.length l = List.length l, wfL l, (0 : Int) ≤ (7 : Int) ∧ (7 : Int) < (256 : Int), List.all l okR = true, decide (cnt (6 : Int) l < (1 : Int)) = false, List.length l = List.length l, wfL l, (0 : Int) ≤ (6 : Int) ∧ (6 : Int) < (256 : Int), List.all l okR = true, (!List.all l okR) = false, List.length l = List.length l, wfL l, (↑(List.length l) : Int) = (↑(List.length l) : Int), (0 : Nat) = (0 : Nat), List.length l = List.length l, List.length l * (16 : Nat) ≤ (140737488355328 : Nat), List.length l ≤ (9223372036854775807 : Nat)]))) := by kernel_rfl
theorem rm3d : (fun (l : Rows2) (c : Nat) => retV [0, 15] (callRM 6 11 [sl 0 l.length c, sc 3] [ro l] [true, false, false, false, false])) = fun (l : Rows2) (c : Nat) => some (((V.tup [(V1.one (C.slice ((15 : Nat)) (N.c ((0 : Nat))) ((2 : Nat)) (N.s (List.length (Prod.fst (spendS (Prod.fst (spendS l (6 : Int) (1 : Int))) (7 : Int) (1 : Int))))) (N.s (List.length (Prod.fst (spendS (Prod.fst (spendS l (6 : Int) (1 : Int))) (7 : Int) (1 : Int))))))), (V1.one (C.int (IntKind.i64) ((0 : Int))))]), ([(SB.mk (false) (Cells.recs ([IntKind.u8, IntKind.i64]) (l))), (SB.mk (true) (Cells.recs ([IntKind.u8, IntKind.i64]) (Prod.fst (putS (Prod.fst (spendS (Prod.fst (spendS l (6 : Int) (1 : Int))) (7 : Int) (1 : Int))) (10 : Int) (4 : Int)))))], [decide ((0 : Int) < Prod.snd (putS (Prod.fst (spendS (Prod.fst (spendS l (6 : Int) (1 : Int))) (7 : Int) (1 : Int))) (10 : Int) (4 : Int))) = false, List.length (Prod.fst (spendS l (6 : Int) (1 : Int))) = List.length (Prod.fst (spendS (Prod.fst (spendS l (6 : Int) (1 : Int))) (7 : Int) (1 : Int))), wfL (Prod.fst (spendS (Prod.fst (spendS l (6 : Int) (1 : Int))) (7 : Int) (1 : Int))), (0 : Int) ≤ (10 : Int) ∧ (10 : Int) < (256 : Int), i64 (4 : Int), List.length l = List.length (Prod.fst (spendS l (6 : Int) (1 : Int))), wfL (Prod.fst (spendS l (6 : Int) (1 : Int))), (0 : Int) ≤ (7 : Int) ∧ (7 : Int) < (256 : Int), i64 (1 : Int), List.length l = List.length l, wfL l, (0 : Int) ≤ (6 : Int) ∧ (6 : Int) < (256 : Int), i64 (1 : Int), decide (cnt (7 : Int) l < (1 : Int)) = false, List.length l = List.length l, wfL l, (0 : Int) ≤ (7 : Int) ∧ (7 : Int) < (256 : Int), List.all l okR = true, decide (cnt (6 : Int) l < (1 : Int)) = false, List.length l = List.length l, wfL l, (0 : Int) ≤ (6 : Int) ∧ (6 : Int) < (256 : Int), List.all l okR = true, (!List.all l okR) = false, List.length l = List.length l, wfL l, (↑(List.length l) : Int) = (↑(List.length l) : Int), (0 : Nat) = (0 : Nat), List.length l = List.length l, List.length l * (16 : Nat) ≤ (140737488355328 : Nat), List.length l ≤ (9223372036854775807 : Nat)]))) := by kernel_rfl
theorem rm4b0 : (fun (l : Rows2) (c : Nat) => retV [0, 2] (callRM 6 11 [sl 0 l.length c, sc 4] [ro l] [true, false, true])) = fun (l : Rows2) (c : Nat) => some (((V.tup [(V1.one (C.slice ((2 : Nat)) (N.c ((0 : Nat))) ((2 : Nat)) (N.s (List.length l)) (N.s (List.length l)))), (V1.one (C.int (IntKind.i64) ((105 : Int))))]), ([(SB.mk (false) (Cells.recs ([IntKind.u8, IntKind.i64]) (l))), (SB.mk (true) (Cells.recs ([IntKind.u8, IntKind.i64]) ([] ++ l)))], [decide (cnt (7 : Int) l < (1 : Int)) = true, List.length l = List.length l, wfL l, (0 : Int) ≤ (7 : Int) ∧ (7 : Int) < (256 : Int), List.all l okR = true, (!List.all l okR) = false, List.length l = List.length l, wfL l, (↑(List.length l) : Int) = (↑(List.length l) : Int), (0 : Nat) = (0 : Nat), List.length l = List.length l, List.length l * (16 : Nat) ≤ (140737488355328 : Nat), List.length l ≤ (9223372036854775807 : Nat)]))) := by kernel_rfl
theorem rm4b1 : (fun (l : Rows2) (c : Nat) => retV [0, 2] (callRM 6 11 [sl 0 l.length c, sc 4] [ro l] [true, false, false, true])) = fun (l : Rows2) (c : Nat) => some (((V.tup [(V1.one (C.slice ((2 : Nat)) (N.c ((0 : Nat))) ((2 : Nat)) (N.s (List.length l)) (N.s (List.length l)))), (V1.one (C.int (IntKind.i64) ((105 : Int))))]), ([(SB.mk (false) (Cells.recs ([IntKind.u8, IntKind.i64]) (l))), (SB.mk (true) (Cells.recs ([IntKind.u8, IntKind.i64]) ([] ++ l)))], [decide (cnt (3 : Int) l < (1 : Int)) = true, List.length l = List.length l, wfL l, (0 : Int) ≤ (3 : Int) ∧ (3 : Int) < (256 : Int), List.all l okR = true, decide (cnt (7 : Int) l < (1 : Int)) = false, List.length l = List.length l, wfL l, (0 : Int) ≤ (7 : Int) ∧ (7 : Int) < (256 : Int), List.all l okR = true, (!List.all l okR) = false, List.length l = List.length l, wfL l, (↑(List.length l) : Int) = (↑(List.length l) : Int), (0 : Nat) = (0 : Nat), List.length l = List.length l, List.length l * (16 : Nat) ≤ (140737488355328 : Nat), List.length l ≤ (9223372036854775807 : Nat)]))) := by kernel_rfl
theorem rm4c : (fun (l : Rows2) (c : Nat) => retV [0, 2] (callRM 6 11 [sl 0 l.length c, sc 4] [ro l] [true, false, false, false, true])) = fun (l : Rows2) (c : Nat) => some (((V.tup [(V1.one (C.slice ((2 : Nat)) (N.c ((0 : Nat))) ((2 : Nat)) (N.s (List.length l)) (N.s (List.length l)))), (V1.one (C.int (IntKind.i64) ((104 : Int))))]), ([(SB.mk (false) (Cells.recs ([IntKind.u8, IntKind.i64]) (l))), (SB.mk (true) (Cells.recs ([IntKind.u8, IntKind.i64]) ([] ++ l)))], [decide ((0 : Int) < Prod.snd (putS (Prod.fst (spendS (Prod.fst (spendS l (7 : Int) (1 : Int))) (3 : Int) (1 : Int))) (8 : Int) (1 : Int))) = true, List.length (Prod.fst (spendS l (7 : Int) (1 : Int))) = List.length (Prod.fst (spendS (Prod.fst (spendS l (7 : Int) (1 : Int))) (3 : Int) (1 : Int))), wfL (Prod.fst (spendS (Prod.fst (spendS l (7 : Int) (1 : Int))) (3 : Int) (1 : Int))), (0 : Int) ≤ (8 : Int) ∧ (8 : Int) < (256 : Int), i64 (1 : Int), List.length l = List.length (Prod.fst (spendS l (7 : Int) (1 : Int))), wfL (Prod.fst (spendS l (7 : Int) (1 : Int))), (0 : Int) ≤ (3 : Int) ∧ (3 : Int) < (256 : Int), i64 (1 : Int), List.length l = List.length l, wfL l, (0 : Int) ≤ (7 : Int) ∧ (7 : Int) < (256 : Int), i64 (1 : Int), decide (cnt (3 : Int) l < (1 : Int)) = false, List.length l = List.length l, wfL l, (0 : Int) ≤ (3 : Int) ∧ (3 : Int) < (256 : Int), List.all l okR = true, decide (cnt (7 : Int) l < (1 : Int)) = false, List.length l = List.length l, wfL l, (0 : Int) ≤ (7 : Int) ∧ (7 : Int) < (256 : Int), List.all l okR = true, (!List.all l okR) = false, List.length l = List.length l, wfL l, (↑(List.length l) : Int) = (↑(List.length l) : Int), (0 : Nat) = (0 : Nat), List.length l = List.length l, List.length l * (16 : Nat) ≤ (140737488355328 : Nat), List.length l ≤ (9223372036854775807 : Nat)]))) := by kernel_rfl
theorem rm4d : (fun (l : Rows2) (c : Nat) => retV [0, 15] (callRM 6 11 [sl 0 l.length c, sc 4] [ro l] [true, false, false, false, false])) = fun (l : Rows2) (c : Nat) => some (((V.tup [(V1.one (C.slice ((15 : Nat)) (N.c ((0 : Nat))) ((2 : Nat)) (N.s (List.length (Prod.fst (spendS (Prod.fst (spendS l (7 : Int) (1 : Int))) (3 : Int) (1 : Int))))) (N.s (List.length (Prod.fst (spendS (Prod.fst (spendS l (7 : Int) (1 : Int))) (3 : Int) (1 : Int))))))), (V1.one (C.int (IntKind.i64) ((0 : Int))))]), ([(SB.mk (false) (Cells.recs ([IntKind.u8, IntKind.i64]) (l))), (SB.mk (true) (Cells.recs ([IntKind.u8, IntKind.i64]) (Prod.fst (putS (Prod.fst (spendS (Prod.fst (spendS l (7 : Int) (1 : Int))) (3 : Int) (1 : Int))) (8 : Int) (1 : Int)))))], [decide ((0 : Int) < Prod.snd (putS (Prod.fst (spendS (Prod.fst (spendS l (7 : Int) (1 : Int))) (3 : Int) (1 : Int))) (8 : Int) (1 : Int))) = false, List.length (Prod.fst (spendS l (7 : Int) (1 : Int))) = List.length (Prod.fst (spendS (Prod.fst (spendS l (7 : Int) (1 : Int))) (3 : Int) (1 : Int))), wfL (Prod.fst (spendS (Prod.fst (spendS l (7 : Int) (1 : Int))) (3 : Int) (1 : Int))), (0 : Int) ≤ (8 : Int) ∧ (8 : Int) < (256 : Int), i64 (1 : Int), List.length l = List.length (Prod.fst (spendS l (7 : Int) (1 : Int))), wfL (Prod.fst (spendS l (7 : Int) (1 : Int))), (0 : Int) ≤ (3 : Int) ∧ (3 : Int) < (256 : Int), i64 (1 : Int), List.length l = List.length l, wfL l, (0 : Int) ≤ (7 : Int) ∧ (7 : Int) < (256 : Int), i64 (1 : Int), decide (cnt (3 : Int) l < (1 : Int)) = false, List.length l = List.length l, wfL l, (0 : Int) ≤ (3 : Int) ∧ (3 : Int) < (256 : Int), List.all l okR = true, decide (cnt (7 : Int) l < (1 : Int)) = false, List.length l = List.length l, wfL l, (0 : Int) ≤ (7 : Int) ∧ (7 : Int) < (256 : Int), List.all l okR = true, (!List.all l okR) = false, List.length l = List.length l, wfL l, (↑(List.length l) : Int) = (↑(List.length l) : Int), (0 : Nat) = (0 : Nat), List.length l = List.length l, List.length l * (16 : Nat) ≤ (140737488355328 : Nat), List.length l ≤ (9223372036854775807 : Nat)]))) := by kernel_rfl
theorem rm5b0 : (fun (l : Rows2) (c : Nat) => retV [0, 2] (callRM 6 11 [sl 0 l.length c, sc 5] [ro l] [true, false, true])) = fun (l : Rows2) (c : Nat) => some (((V.tup [(V1.one (C.slice ((2 : Nat)) (N.c ((0 : Nat))) ((2 : Nat)) (N.s (List.length l)) (N.s (List.length l)))), (V1.one (C.int (IntKind.i64) ((105 : Int))))]), ([(SB.mk (false) (Cells.recs ([IntKind.u8, IntKind.i64]) (l))), (SB.mk (true) (Cells.recs ([IntKind.u8, IntKind.i64]) ([] ++ l)))], [decide (cnt (6 : Int) l < (2 : Int)) = true, List.length l = List.length l, wfL l, (0 : Int) ≤ (6 : Int) ∧ (6 : Int) < (256 : Int), List.all l okR = true, (!List.all l okR) = false, List.length l = List.length l, wfL l, (↑(List.length l) : Int) = (↑(List.length l) : Int), (0 : Nat) = (0 : Nat), List.length l = List.length l, List.length l * (16 : Nat) ≤ (140737488355328 : Nat), List.length l ≤ (9223372036854775807 : Nat)]))) := by kernel_rfl
theorem rm5b1 : (fun (l : Rows2) (c : Nat) => retV [0, 2] (callRM 6 11 [sl 0 l.length c, sc 5] [ro l] [true, false, false, true])) = fun (l : Rows2) (c : Nat) => some (((V.tup [(V1.one (C.slice ((2 : Nat)) (N.c ((0 : Nat))) ((2 : Nat)) (N.s (List.length l)) (N.s (List.length l)))), (V1.one (C.int (IntKind.i64) ((105 : Int))))]), ([(SB.mk (false) (Cells.recs ([IntKind.u8, IntKind.i64]) (l))), (SB.mk (true) (Cells.recs ([IntKind.u8, IntKind.i64]) ([] ++ l)))], [decide (cnt (8 : Int) l < (3 : Int)) = true, List.length l = List.length l, wfL l, (0 : Int) ≤ (8 : Int) ∧ (8 : Int) < (256 : Int), List.all l okR = true, decide (cnt (6 : Int) l < (2 : Int)) = false, List.length l = List.length l, wfL l, (0 : Int) ≤ (6 : Int) ∧ (6 : Int) < (256 : Int), List.all l okR = true, (!List.all l okR) = false, List.length l = List.length l, wfL l, (↑(List.length l) : Int) = (↑(List.length l) : Int), (0 : Nat) = (0 : Nat), List.length l = List.length l, List.length l * (16 : Nat) ≤ (140737488355328 : Nat), List.length l ≤ (9223372036854775807 : Nat)]))) := by kernel_rfl
theorem rm5c : (fun (l : Rows2) (c : Nat) => retV [0, 2] (callRM 6 11 [sl 0 l.length c, sc 5] [ro l] [true, false, false, false, true])) = fun (l : Rows2) (c : Nat) => some (((V.tup [(V1.one (C.slice ((2 : Nat)) (N.c ((0 : Nat))) ((2 : Nat)) (N.s (List.length l)) (N.s (List.length l)))), (V1.one (C.int (IntKind.i64) ((104 : Int))))]), ([(SB.mk (false) (Cells.recs ([IntKind.u8, IntKind.i64]) (l))), (SB.mk (true) (Cells.recs ([IntKind.u8, IntKind.i64]) ([] ++ l)))], [decide ((0 : Int) < Prod.snd (putS (Prod.fst (spendS (Prod.fst (spendS l (6 : Int) (2 : Int))) (8 : Int) (3 : Int))) (12 : Int) (1 : Int))) = true, List.length (Prod.fst (spendS l (6 : Int) (2 : Int))) = List.length (Prod.fst (spendS (Prod.fst (spendS l (6 : Int) (2 : Int))) (8 : Int) (3 : Int))), wfL (Prod.fst (spendS (Prod.fst (spendS l (6 : Int) (2 : Int))) (8 : Int) (3 : Int))), (0 : Int) ≤ (12 : Int) ∧ (12 : Int) < (256 : Int), i64 (1 : Int), List.length l = List.length (Prod.fst (spendS l (6 : Int) (2 : Int))), wfL (Prod.fst (spendS l (6 : Int) (2 : Int))), (0 : Int) ≤ (8 : Int) ∧ (8 : Int) < (256 : Int), i64 (3 : Int), List.length l = List.length l, wfL l, (0 : Int) ≤ (6 : Int) ∧ (6 : Int) < (256 : Int), i64 (2 : Int), decide (cnt (8 : Int) l < (3 : Int)) = false, List.length l = List.length l, wfL l, (0 : Int) ≤ (8 : Int) ∧ (8 : Int) < (256 : Int), List.all l okR = true, decide (cnt (6 : Int) l < (2 : Int)) = false, List.length l = List.length l, wfL l, (0 : Int) ≤ (6 : Int) ∧ (6 : Int) < (256 : Int), List.all l okR = true, (!List.all l okR) = false, List.length l = List.length l, wfL l, (↑(List.length l) : Int) = (↑(List.length l) : Int), (0 : Nat) = (0 : Nat), List.length l = List.length l, List.length l * (16 : Nat) ≤ (140737488355328 : Nat), List.length l ≤ (9223372036854775807 : Nat)]))) := by kernel_rfl
theorem rm5d : (fun (l : Rows2) (c : Nat) => retV [0, 15] (callRM 6 11 [sl 0 l.length c, sc 5] [ro l] [true, false, false, false, false])) = fun (l : Rows2) (c : Nat) => some (((V.tup [(V1.one (C.slice ((15 : Nat)) (N.c ((0 : Nat))) ((2 : Nat)) (N.s (List.length (Prod.fst (spendS (Prod.fst (spendS l (6 : Int) (2 : Int))) (8 : Int) (3 : Int))))) (N.s (List.length (Prod.fst (spendS (Prod.fst (spendS l (6 : Int) (2 : Int))) (8 : Int) (3 : Int))))))), (V1.one (C.int (IntKind.i64) ((0 : Int))))]), ([(SB.mk (false) (Cells.recs ([IntKind.u8, IntKind.i64]) (l))), (SB.mk (true) (Cells.recs ([IntKind.u8, IntKind.i64]) (Prod.fst (putS (Prod.fst (spendS (Prod.fst (spendS l (6 : Int) (2 : Int))) (8 : Int) (3 : Int))) (12 : Int) (1 : Int)))))], [decide ((0 : Int) < Prod.snd (putS (Prod.fst (spendS (Prod.fst (spendS l (6 : Int) (2 : Int))) (8 : Int) (3 : Int))) (12 : Int) (1 : Int))) = false, List.length (Prod.fst (spendS l (6 : Int) (2 : Int))) = List.length (Prod.fst (spendS (Prod.fst (spendS l (6 : Int) (2 : Int))) (8 : Int) (3 : Int))), wfL (Prod.fst (spendS (Prod.fst (spendS l (6 : Int) (2 : Int))) (8 : Int) (3 : Int))), (0 : Int) ≤ (12 : Int) ∧ (12 : Int) < (256 : Int), i64 (1 : Int), List.length l = List.length (Prod.fst (spendS l (6 : Int) (2 : Int))), wfL (Prod.fst (spendS l (6 : Int) (2 : Int))), (0 : Int) ≤ (8 : Int) ∧ (8 : Int) < (256 : Int), i64 (3 : Int), List.length l = List.length l, wfL l, (0 : Int) ≤ (6 : Int) ∧ (6 : Int) < (256 : Int), i64 (2 : Int), decide (cnt (8 : Int) l < (3 : Int)) = false, List.length l = List.length l, wfL l, (0 : Int) ≤ (8 : Int) ∧ (8 : Int) < (256 : Int), List.all l okR = true, decide (cnt (6 : Int) l < (2 : Int)) = false, List.length l = List.length l, wfL l, (0 : Int) ≤ (6 : Int) ∧ (6 : Int) < (256 : Int), List.all l okR = true, (!List.all l okR) = false, List.length l = List.length l, wfL l, (↑(List.length l) : Int) = (↑(List.length l) : Int), (0 : Nat) = (0 : Nat), List.length l = List.length l, List.length l * (16 : Nat) ≤ (140737488355328 : Nat), List.length l ≤ (9223372036854775807 : Nat)]))) := by kernel_rfl
theorem rm6b0 : (fun (l : Rows2) (c : Nat) => retV [0, 2] (callRM 6 11 [sl 0 l.length c, sc 6] [ro l] [true, false, true])) = fun (l : Rows2) (c : Nat) => some (((V.tup [(V1.one (C.slice ((2 : Nat)) (N.c ((0 : Nat))) ((2 : Nat)) (N.s (List.length l)) (N.s (List.length l)))), (V1.one (C.int (IntKind.i64) ((105 : Int))))]), ([(SB.mk (false) (Cells.recs ([IntKind.u8, IntKind.i64]) (l))), (SB.mk (true) (Cells.recs ([IntKind.u8, IntKind.i64]) ([] ++ l)))], [decide (cnt (2 : Int) l < (4 : Int)) = true, List.length l = List.length l, wfL l, (0 : Int) ≤ (2 : Int) ∧ (2 : Int) < (256 : Int), List.all l okR = true, (!List.all l okR) = false, List.length l = List.length l, wfL l, (↑(List.length l) : Int) = (↑(List.length l) : Int), (0 : Nat) = (0 : Nat), List.length l = List.length l, List.length l * (16 : Nat) ≤ (140737488355328 : Nat), List.length l ≤ (9223372036854775807 : Nat)]))) := by kernel_rfl
theorem rm6b1 : (fun (l : Rows2) (c : Nat) => retV [0, 2] (callRM 6 11 [sl 0 l.length c, sc 6] [ro l] [true, false, false, true])) = fun (l : Rows2) (c : Nat) => some (((V.tup [(V1.one (C.slice ((2 : Nat)) (N.c ((0 : Nat))) ((2 : Nat)) (N.s (List.length l)) (N.s (List.length l)))), (V1.one (C.int (IntKind.i64) ((105 : Int))))]), ([(SB.mk (false) (Cells.recs ([IntKind.u8, IntKind.i64]) (l))), (SB.mk (true) (Cells.recs ([IntKind.u8, IntKind.i64]) ([] ++ l)))], [decide (cnt (1 : Int) l < (1 : Int)) = true, List.length l = List.length l, wfL l, (0 : Int) ≤ (1 : Int) ∧ (1 : Int) < (256 : Int), List.all l okR = true, decide (cnt (2 : Int) l < (4 : Int)) = false, List.length l = List.length l, wfL l, (0 : Int) ≤ (2 : Int) ∧ (2 : Int) < (256 : Int), List.all l okR = true, (!List.all l okR) = false, List.length l = List.length l, wfL l, (↑(List.length l) : Int) = (↑(List.length l) : Int), (0 : Nat) = (0 : Nat), List.length l = List.length l, List.length l * (16 : Nat) ≤ (140737488355328 : Nat), List.length l ≤ (9223372036854775807 : Nat)]))) := by kernel_rfl
theorem rm6c : (fun (l : Rows2) (c : Nat) => retV [0, 2] (callRM 6 11 [sl 0 l.length c, sc 6] [ro l] [true, false, false, false, true])) = fun (l : Rows2) (c : Nat) => some (((V.tup [(V1.one (C.slice ((2 : Nat)) (N.c ((0 : Nat))) ((2 : Nat)) (N.s (List.length l)) (N.s (List.length l)))), (V1.one (C.int (IntKind.i64) ((104 : Int))))]), ([(SB.mk (false) (Cells.recs ([IntKind.u8, IntKind.i64]) (l))), (SB.mk (true) (Cells.recs ([IntKind.u8, IntKind.i64]) ([] ++ l)))], [decide ((0 : Int) < Prod.snd (putS (Prod.fst (spendS (Prod.fst (spendS l (2 : Int) (4 : Int))) (1 : Int) (1 : Int))) (7 : Int) (1 : Int))) = true, List.length (Prod.fst (spendS l (2 : Int) (4 : Int))) = List.length (Prod.fst (spendS (Prod.fst (spendS l (2 : Int) (4 : Int))) (1 : Int) (1 : Int))), wfL (Prod.fst (spendS (Prod.fst (spendS l (2 : Int) (4 : Int))) (1 : Int) (1 : Int))), (0 : Int) ≤ (7 : Int) ∧ (7 : Int) < (256 : Int), i64 (1 : Int), List.length l = List.length (Prod.fst (spendS l (2 : Int) (4 : Int))), wfL (Prod.fst (spendS l (2 : Int) (4 : Int))), (0 : Int) ≤ (1 : Int) ∧ (1 : Int) < (256 : Int), i64 (1 : Int), List.length l = List.length l, wfL l, (0 : Int) ≤ (2 : Int) ∧ (2 : Int) < (256 : Int), i64 (4 : Int), decide (cnt (1 : Int) l < (1 : Int)) = false, List.length l = List.length l, wfL l, (0 : Int) ≤ (1 : Int) ∧ (1 : Int) < (256 : Int), List.all l okR = true, decide (cnt (2 : Int) l < (4 : Int)) = false, List.length l = List.length l, wfL l, (0 : Int) ≤ (2 : Int) ∧ (2 : Int) < (256 : Int), List.all l okR = true, (!List.all l okR) = false, List.length l = List.length l, wfL l, (↑(List.length l) : Int) = (↑(List.length l) : Int), (0 : Nat) = (0 : Nat), List.length l = List.length l, List.length l * (16 : Nat) ≤ (140737488355328 : Nat), List.length l ≤ (9223372036854775807 : Nat)]))) := by kernel_rfl
theorem rm6d : (fun (l : Rows2) (c : Nat) => retV [0, 15] (callRM 6 11 [sl 0 l.length c, sc 6] [ro l] [true, false, false, false, false])) = fun (l : Rows2) (c : Nat) => some (((V.tup [(V1.one (C.slice ((15 : Nat)) (N.c ((0 : Nat))) ((2 : Nat)) (N.s (List.length (Prod.fst (spendS (Prod.fst (spendS l (2 : Int) (4 : Int))) (1 : Int) (1 : Int))))) (N.s (List.length (Prod.fst (spendS (Prod.fst (spendS l (2 : Int) (4 : Int))) (1 : Int) (1 : Int))))))), (V1.one (C.int (IntKind.i64) ((0 : Int))))]), ([(SB.mk (false) (Cells.recs ([IntKind.u8, IntKind.i64]) (l))), (SB.mk (true) (Cells.recs ([IntKind.u8, IntKind.i64]) (Prod.fst (putS (Prod.fst (spendS (Prod.fst (spendS l (2 : Int) (4 : Int))) (1 : Int) (1 : Int))) (7 : Int) (1 : Int)))))], [decide ((0 : Int) < Prod.snd (putS (Prod.fst (spendS (Prod.fst (spendS l (2 : Int) (4 : Int))) (1 : Int) (1 : Int))) (7 : Int) (1 : Int))) = false, List.length (Prod.fst (spendS l (2 : Int) (4 : Int))) = List.length (Prod.fst (spendS (Prod.fst (spendS l (2 : Int) (4 : Int))) (1 : Int) (1 : Int))), wfL (Prod.fst (spendS (Prod.fst (spendS l (2 : Int) (4 : Int))) (1 : Int) (1 : Int))), (0 : Int) ≤ (7 : Int) ∧ (7 : Int) < (256 : Int), i64 (1 : Int), List.length l = List.length (Prod.fst (spendS l (2 : Int) (4 : Int))), wfL (Prod.fst (spendS l (2 : Int) (4 : Int))), (0 : Int) ≤ (1 : Int) ∧ (1 : Int) < (256 : Int), i64 (1 : Int), List.length l = List.length l, wfL l, (0 : Int) ≤ (2 : Int) ∧ (2 : Int) < (256 : Int), i64 (4 : Int), decide (cnt (1 : Int) l < (1 : Int)) = false, List.length l = List.length l, wfL l, (0 : Int) ≤ (1 : Int) ∧ (1 : Int) < (256 : Int), List.all l okR = true, decide (cnt (2 : Int) l < (4 : Int)) = false, List.length l = List.length l, wfL l, (0 : Int) ≤ (2 : Int) ∧ (2 : Int) < (256 : Int), List.all l okR = true, (!List.all l okR) = false, List.length l = List.length l, wfL l, (↑(List.length l) : Int) = (↑(List.length l) : Int), (0 : Nat) = (0 : Nat), List.length l = List.length l, List.length l * (16 : Nat) ≤ (140737488355328 : Nat), List.length l ≤ (9223372036854775807 : Nat)]))) := by kernel_rfl
end
section
/- The document's making: the contract. -/
open Go.ChangeShapes Go.WideShapes Go.ChangeAt Go.RowKit Go.Sx
theorem tabRM_ok : ∀ f g, tabRM f = some g → TabOk Try.prog f g := tabs_ok fun x hx => by
  simp only [List.mem_cons, List.not_mem_nil, or_false] at hx
  rcases hx with rfl | rfl | rfl | rfl
  · exact rightR_tab
  · exact countR_tab
  · exact putR_tab
  · exact spendR_tab
theorem mk_scR {l : Rows2} {c : Nat} {n : Int} {v : V} {bs : List SB} (h : Works Try.prog 11 [sl 0 l.length c, sc n] [ro l] v bs) : Works Try.prog 11 [sl 0 l.length c, si .i64 n] [ro l] v bs := h
abbrev MkR (l : Rows2) (c : Nat) (n : Int) : Prop := Works Try.prog 11 [sl 0 l.length c, si .i64 n] [ro l] (tup2 1 l.length (makeS l n).2) [ro l, ow (makeS l n).1]
theorem fin2' (l : Rows2) (k : Nat) : leBs (List.range 1 ++ [k]) [ro l, ⟨true, .recs ks2 ([] ++ l)⟩] [ro l, ow l] := by rw [List.nil_append]; exact fin2 l l k
theorem badR {l : Rows2} {c : Nat} {n : Int} (hw : wfL l) (h1 : l.all okR = false) : MkR l c n := by
  have hlen := hw.2
  have hp : makeS l n = (l, 103) := makeS_bad h1
  unfold MkR; rw [hp]
  refine works_of (r := [2]) tabRM_ok (congrFun (congrFun (congrFun rmA l) c) n) ?_ (by exact nd1 2 (by omega)) (val2 l 2 _ _ rfl) (fin2' l 2)
  simp only [allP, h1]; simp [hw]; omega
theorem mkr0 (l : Rows2) (c : Nat) (hw : wfL l) : MkR l c 0 := by
  have hlen := hw.2
  have hn : ¬ ((0 : Int) < 0 ∨ 7 ≤ (0 : Int)) := by decide
  have w1 := spendS_wf (x := 3) (n := 1) hw
  have l1 := spendS_len l 3 1
  by_cases h1 : l.all okR = true
  · by_cases hc0 : cnt 3 l < 1
    · have hp : makeS l 0 = (l, 105) := makeS_lacks h1 hn (by show (decide _ || _) = true; rw [decide_eq_true (by exact hc0)]; rfl)
      unfold MkR; rw [hp]
      refine mk_scR (works_of (r := [2]) tabRM_ok (congrFun (congrFun rm0b0 l) c) ?_ (by exact nd1 2 (by omega)) (val2 l 2 _ _ rfl) (fin2' l 2))
      simp only [allP, h1]; simp [hw, hc0]; omega
    · have hl : lacks l (recT (Int.toNat 0)).1 = false := (nolack1 (by exact hc0))
      by_cases hr : 0 < (putS (spendS l 3 1).1 5 4).2
      · have hp : makeS l 0 = (l, 104) := makeS_room h1 hn hl hr
        unfold MkR; rw [hp]
        refine mk_scR (works_of (r := [2]) tabRM_ok (congrFun (congrFun rm0c l) c) ?_ (by exact nd1 2 (by omega)) (val2 l 2 _ _ rfl) (fin2' l 2))
        simp only [allP, h1]; simp [i64, hw, hc0, hr, w1, l1]; omega
      · have hp : makeS l 0 = ((putS (spendS l 3 1).1 5 4).1, 0) := makeS_made h1 hn hl hr
        unfold MkR; rw [hp]
        refine mk_scR (works_of (r := [14]) tabRM_ok (congrFun (congrFun rm0d l) c) ?_ (by exact nd1 14 (by omega)) (val2 l 14 _ _ (by simp [spendS_len])) (fin2 l _ 14))
        simp only [allP, h1]; simp [i64, hw, hc0, hr, w1, l1]; omega
  · exact badR hw (by simpa using h1)
theorem mkr1 (l : Rows2) (c : Nat) (hw : wfL l) : MkR l c 1 := by
  have hlen := hw.2
  have hn : ¬ ((1 : Int) < 0 ∨ 7 ≤ (1 : Int)) := by decide
  have w1 := spendS_wf (x := 5) (n := 2) hw
  have l1 := spendS_len l 5 2
  by_cases h1 : l.all okR = true
  · by_cases hc0 : cnt 5 l < 2
    · have hp : makeS l 1 = (l, 105) := makeS_lacks h1 hn (by show (decide _ || _) = true; rw [decide_eq_true (by exact hc0)]; rfl)
      unfold MkR; rw [hp]
      refine mk_scR (works_of (r := [2]) tabRM_ok (congrFun (congrFun rm1b0 l) c) ?_ (by exact nd1 2 (by omega)) (val2 l 2 _ _ rfl) (fin2' l 2))
      simp only [allP, h1]; simp [hw, hc0]; omega
    · have hl : lacks l (recT (Int.toNat 1)).1 = false := (nolack1 (by exact hc0))
      by_cases hr : 0 < (putS (spendS l 5 2).1 6 4).2
      · have hp : makeS l 1 = (l, 104) := makeS_room h1 hn hl hr
        unfold MkR; rw [hp]
        refine mk_scR (works_of (r := [2]) tabRM_ok (congrFun (congrFun rm1c l) c) ?_ (by exact nd1 2 (by omega)) (val2 l 2 _ _ rfl) (fin2' l 2))
        simp only [allP, h1]; simp [i64, hw, hc0, hr, w1, l1]; omega
      · have hp : makeS l 1 = ((putS (spendS l 5 2).1 6 4).1, 0) := makeS_made h1 hn hl hr
        unfold MkR; rw [hp]
        refine mk_scR (works_of (r := [14]) tabRM_ok (congrFun (congrFun rm1d l) c) ?_ (by exact nd1 14 (by omega)) (val2 l 14 _ _ (by simp [spendS_len])) (fin2 l _ 14))
        simp only [allP, h1]; simp [i64, hw, hc0, hr, w1, l1]; omega
  · exact badR hw (by simpa using h1)
theorem mkr2 (l : Rows2) (c : Nat) (hw : wfL l) : MkR l c 2 := by
  have hlen := hw.2
  have hn : ¬ ((2 : Int) < 0 ∨ 7 ≤ (2 : Int)) := by decide
  have w1 := spendS_wf (x := 5) (n := 8) hw
  have l1 := spendS_len l 5 8
  by_cases h1 : l.all okR = true
  · by_cases hc0 : cnt 5 l < 8
    · have hp : makeS l 2 = (l, 105) := makeS_lacks h1 hn (by show (decide _ || _) = true; rw [decide_eq_true (by exact hc0)]; rfl)
      unfold MkR; rw [hp]
      refine mk_scR (works_of (r := [2]) tabRM_ok (congrFun (congrFun rm2b0 l) c) ?_ (by exact nd1 2 (by omega)) (val2 l 2 _ _ rfl) (fin2' l 2))
      simp only [allP, h1]; simp [hw, hc0]; omega
    · have hl : lacks l (recT (Int.toNat 2)).1 = false := (nolack1 (by exact hc0))
      by_cases hr : 0 < (putS (spendS l 5 8).1 9 1).2
      · have hp : makeS l 2 = (l, 104) := makeS_room h1 hn hl hr
        unfold MkR; rw [hp]
        refine mk_scR (works_of (r := [2]) tabRM_ok (congrFun (congrFun rm2c l) c) ?_ (by exact nd1 2 (by omega)) (val2 l 2 _ _ rfl) (fin2' l 2))
        simp only [allP, h1]; simp [i64, hw, hc0, hr, w1, l1]; omega
      · have hp : makeS l 2 = ((putS (spendS l 5 8).1 9 1).1, 0) := makeS_made h1 hn hl hr
        unfold MkR; rw [hp]
        refine mk_scR (works_of (r := [14]) tabRM_ok (congrFun (congrFun rm2d l) c) ?_ (by exact nd1 14 (by omega)) (val2 l 14 _ _ (by simp [spendS_len])) (fin2 l _ 14))
        simp only [allP, h1]; simp [i64, hw, hc0, hr, w1, l1]; omega
  · exact badR hw (by simpa using h1)
theorem mkr3 (l : Rows2) (c : Nat) (hw : wfL l) : MkR l c 3 := by
  have hlen := hw.2
  have hn : ¬ ((3 : Int) < 0 ∨ 7 ≤ (3 : Int)) := by decide
  have w1 := spendS_wf (x := 6) (n := 1) hw
  have l1 := spendS_len l 6 1
  have w2 := spendS_wf (x := 7) (n := 1) w1
  have l2 := spendS_len (spendS l 6 1).1 7 1
  by_cases h1 : l.all okR = true
  · by_cases hc0 : cnt 6 l < 1
    · have hp : makeS l 3 = (l, 105) := makeS_lacks h1 hn (by show (decide _ || _) = true; rw [decide_eq_true (by exact hc0)]; rfl)
      unfold MkR; rw [hp]
      refine mk_scR (works_of (r := [2]) tabRM_ok (congrFun (congrFun rm3b0 l) c) ?_ (by exact nd1 2 (by omega)) (val2 l 2 _ _ rfl) (fin2' l 2))
      simp only [allP, h1]; simp [hw, hc0]; omega
    · by_cases hc1 : cnt 7 l < 1
      · have hp : makeS l 3 = (l, 105) := makeS_lacks h1 hn (lacks2 (by exact hc1))
        unfold MkR; rw [hp]
        refine mk_scR (works_of (r := [2]) tabRM_ok (congrFun (congrFun rm3b1 l) c) ?_ (by exact nd1 2 (by omega)) (val2 l 2 _ _ rfl) (fin2' l 2))
        simp only [allP, h1]; simp [hw, hc0, hc1]; omega
      · have hl : lacks l (recT (Int.toNat 3)).1 = false := (nolack2 (by exact hc0) (by exact hc1))
        by_cases hr : 0 < (putS (spendS (spendS l 6 1).1 7 1).1 10 4).2
        · have hp : makeS l 3 = (l, 104) := makeS_room h1 hn hl hr
          unfold MkR; rw [hp]
          refine mk_scR (works_of (r := [2]) tabRM_ok (congrFun (congrFun rm3c l) c) ?_ (by exact nd1 2 (by omega)) (val2 l 2 _ _ rfl) (fin2' l 2))
          simp only [allP, h1]; simp [i64, hw, hc0, hc1, hr, w1, l1, w2, l2]; omega
        · have hp : makeS l 3 = ((putS (spendS (spendS l 6 1).1 7 1).1 10 4).1, 0) := makeS_made h1 hn hl hr
          unfold MkR; rw [hp]
          refine mk_scR (works_of (r := [15]) tabRM_ok (congrFun (congrFun rm3d l) c) ?_ (by exact nd1 15 (by omega)) (val2 l 15 _ _ (by simp [spendS_len])) (fin2 l _ 15))
          simp only [allP, h1]; simp [i64, hw, hc0, hc1, hr, w1, l1, w2, l2]; omega
  · exact badR hw (by simpa using h1)
theorem mkr4 (l : Rows2) (c : Nat) (hw : wfL l) : MkR l c 4 := by
  have hlen := hw.2
  have hn : ¬ ((4 : Int) < 0 ∨ 7 ≤ (4 : Int)) := by decide
  have w1 := spendS_wf (x := 7) (n := 1) hw
  have l1 := spendS_len l 7 1
  have w2 := spendS_wf (x := 3) (n := 1) w1
  have l2 := spendS_len (spendS l 7 1).1 3 1
  by_cases h1 : l.all okR = true
  · by_cases hc0 : cnt 7 l < 1
    · have hp : makeS l 4 = (l, 105) := makeS_lacks h1 hn (by show (decide _ || _) = true; rw [decide_eq_true (by exact hc0)]; rfl)
      unfold MkR; rw [hp]
      refine mk_scR (works_of (r := [2]) tabRM_ok (congrFun (congrFun rm4b0 l) c) ?_ (by exact nd1 2 (by omega)) (val2 l 2 _ _ rfl) (fin2' l 2))
      simp only [allP, h1]; simp [hw, hc0]; omega
    · by_cases hc1 : cnt 3 l < 1
      · have hp : makeS l 4 = (l, 105) := makeS_lacks h1 hn (lacks2 (by exact hc1))
        unfold MkR; rw [hp]
        refine mk_scR (works_of (r := [2]) tabRM_ok (congrFun (congrFun rm4b1 l) c) ?_ (by exact nd1 2 (by omega)) (val2 l 2 _ _ rfl) (fin2' l 2))
        simp only [allP, h1]; simp [hw, hc0, hc1]; omega
      · have hl : lacks l (recT (Int.toNat 4)).1 = false := (nolack2 (by exact hc0) (by exact hc1))
        by_cases hr : 0 < (putS (spendS (spendS l 7 1).1 3 1).1 8 1).2
        · have hp : makeS l 4 = (l, 104) := makeS_room h1 hn hl hr
          unfold MkR; rw [hp]
          refine mk_scR (works_of (r := [2]) tabRM_ok (congrFun (congrFun rm4c l) c) ?_ (by exact nd1 2 (by omega)) (val2 l 2 _ _ rfl) (fin2' l 2))
          simp only [allP, h1]; simp [i64, hw, hc0, hc1, hr, w1, l1, w2, l2]; omega
        · have hp : makeS l 4 = ((putS (spendS (spendS l 7 1).1 3 1).1 8 1).1, 0) := makeS_made h1 hn hl hr
          unfold MkR; rw [hp]
          refine mk_scR (works_of (r := [15]) tabRM_ok (congrFun (congrFun rm4d l) c) ?_ (by exact nd1 15 (by omega)) (val2 l 15 _ _ (by simp [spendS_len])) (fin2 l _ 15))
          simp only [allP, h1]; simp [i64, hw, hc0, hc1, hr, w1, l1, w2, l2]; omega
  · exact badR hw (by simpa using h1)
theorem mkr5 (l : Rows2) (c : Nat) (hw : wfL l) : MkR l c 5 := by
  have hlen := hw.2
  have hn : ¬ ((5 : Int) < 0 ∨ 7 ≤ (5 : Int)) := by decide
  have w1 := spendS_wf (x := 6) (n := 2) hw
  have l1 := spendS_len l 6 2
  have w2 := spendS_wf (x := 8) (n := 3) w1
  have l2 := spendS_len (spendS l 6 2).1 8 3
  by_cases h1 : l.all okR = true
  · by_cases hc0 : cnt 6 l < 2
    · have hp : makeS l 5 = (l, 105) := makeS_lacks h1 hn (by show (decide _ || _) = true; rw [decide_eq_true (by exact hc0)]; rfl)
      unfold MkR; rw [hp]
      refine mk_scR (works_of (r := [2]) tabRM_ok (congrFun (congrFun rm5b0 l) c) ?_ (by exact nd1 2 (by omega)) (val2 l 2 _ _ rfl) (fin2' l 2))
      simp only [allP, h1]; simp [hw, hc0]; omega
    · by_cases hc1 : cnt 8 l < 3
      · have hp : makeS l 5 = (l, 105) := makeS_lacks h1 hn (lacks2 (by exact hc1))
        unfold MkR; rw [hp]
        refine mk_scR (works_of (r := [2]) tabRM_ok (congrFun (congrFun rm5b1 l) c) ?_ (by exact nd1 2 (by omega)) (val2 l 2 _ _ rfl) (fin2' l 2))
        simp only [allP, h1]; simp [hw, hc0, hc1]; omega
      · have hl : lacks l (recT (Int.toNat 5)).1 = false := (nolack2 (by exact hc0) (by exact hc1))
        by_cases hr : 0 < (putS (spendS (spendS l 6 2).1 8 3).1 12 1).2
        · have hp : makeS l 5 = (l, 104) := makeS_room h1 hn hl hr
          unfold MkR; rw [hp]
          refine mk_scR (works_of (r := [2]) tabRM_ok (congrFun (congrFun rm5c l) c) ?_ (by exact nd1 2 (by omega)) (val2 l 2 _ _ rfl) (fin2' l 2))
          simp only [allP, h1]; simp [i64, hw, hc0, hc1, hr, w1, l1, w2, l2]; omega
        · have hp : makeS l 5 = ((putS (spendS (spendS l 6 2).1 8 3).1 12 1).1, 0) := makeS_made h1 hn hl hr
          unfold MkR; rw [hp]
          refine mk_scR (works_of (r := [15]) tabRM_ok (congrFun (congrFun rm5d l) c) ?_ (by exact nd1 15 (by omega)) (val2 l 15 _ _ (by simp [spendS_len])) (fin2 l _ 15))
          simp only [allP, h1]; simp [i64, hw, hc0, hc1, hr, w1, l1, w2, l2]; omega
  · exact badR hw (by simpa using h1)
theorem mkr6 (l : Rows2) (c : Nat) (hw : wfL l) : MkR l c 6 := by
  have hlen := hw.2
  have hn : ¬ ((6 : Int) < 0 ∨ 7 ≤ (6 : Int)) := by decide
  have w1 := spendS_wf (x := 2) (n := 4) hw
  have l1 := spendS_len l 2 4
  have w2 := spendS_wf (x := 1) (n := 1) w1
  have l2 := spendS_len (spendS l 2 4).1 1 1
  by_cases h1 : l.all okR = true
  · by_cases hc0 : cnt 2 l < 4
    · have hp : makeS l 6 = (l, 105) := makeS_lacks h1 hn (by show (decide _ || _) = true; rw [decide_eq_true (by exact hc0)]; rfl)
      unfold MkR; rw [hp]
      refine mk_scR (works_of (r := [2]) tabRM_ok (congrFun (congrFun rm6b0 l) c) ?_ (by exact nd1 2 (by omega)) (val2 l 2 _ _ rfl) (fin2' l 2))
      simp only [allP, h1]; simp [hw, hc0]; omega
    · by_cases hc1 : cnt 1 l < 1
      · have hp : makeS l 6 = (l, 105) := makeS_lacks h1 hn (lacks2 (by exact hc1))
        unfold MkR; rw [hp]
        refine mk_scR (works_of (r := [2]) tabRM_ok (congrFun (congrFun rm6b1 l) c) ?_ (by exact nd1 2 (by omega)) (val2 l 2 _ _ rfl) (fin2' l 2))
        simp only [allP, h1]; simp [hw, hc0, hc1]; omega
      · have hl : lacks l (recT (Int.toNat 6)).1 = false := (nolack2 (by exact hc0) (by exact hc1))
        by_cases hr : 0 < (putS (spendS (spendS l 2 4).1 1 1).1 7 1).2
        · have hp : makeS l 6 = (l, 104) := makeS_room h1 hn hl hr
          unfold MkR; rw [hp]
          refine mk_scR (works_of (r := [2]) tabRM_ok (congrFun (congrFun rm6c l) c) ?_ (by exact nd1 2 (by omega)) (val2 l 2 _ _ rfl) (fin2' l 2))
          simp only [allP, h1]; simp [i64, hw, hc0, hc1, hr, w1, l1, w2, l2]; omega
        · have hp : makeS l 6 = ((putS (spendS (spendS l 2 4).1 1 1).1 7 1).1, 0) := makeS_made h1 hn hl hr
          unfold MkR; rw [hp]
          refine mk_scR (works_of (r := [15]) tabRM_ok (congrFun (congrFun rm6d l) c) ?_ (by exact nd1 15 (by omega)) (val2 l 15 _ _ (by simp [spendS_len])) (fin2 l _ 15))
          simp only [allP, h1]; simp [i64, hw, hc0, hc1, hr, w1, l1, w2, l2]; omega
  · exact badR hw (by simpa using h1)
theorem makeR_works (l : Rows2) (c : Nat) (n : Int) (hw : wfL l) : MkR l c n := by
  have hlen := hw.2
  by_cases hn : n < 0 ∨ 7 ≤ n
  · by_cases h1 : l.all okR = true
    · have hp : makeS l n = (l, 112) := makeS_none h1 hn
      unfold MkR; rw [hp]
      by_cases h0 : n < 0
      · refine works_of (r := [2]) tabRM_ok (congrFun (congrFun (congrFun rmB l) c) n) ?_ (by exact nd1 2 (by omega)) (val2 l 2 _ _ rfl) (fin2' l 2)
        simp only [allP, h1]; simp [hw, h0]; omega
      · refine works_of (r := [2]) tabRM_ok (congrFun (congrFun (congrFun rmC l) c) n) ?_ (by exact nd1 2 (by omega)) (val2 l 2 _ _ rfl) (fin2' l 2)
        simp only [allP, h1]; simp [hw, h0]; omega
    · exact badR hw (by simpa using h1)
  · rcases mk_range hn with rfl | rfl | rfl | rfl | rfl | rfl | rfl
    · exact mkr0 l c hw
    · exact mkr1 l c hw
    · exact mkr2 l c hw
    · exact mkr3 l c hw
    · exact mkr4 l c hw
    · exact mkr5 l c hw
    · exact mkr6 l c hw
theorem makeR_tab : TabOk Try.prog 11 (loc w1 (one2n gMake)) := one2n_ok fun l c i v bs ob hg hob hw => by
  unfold gMake at hg
  injection hg with hg; injection hg with e1 e2; injection e2 with e2 e3
  subst e1; subst e2; subst e3
  exact makeR_works l c i hw
end
end Go.Proofs.Ytibknlliackohaa
