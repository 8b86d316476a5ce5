/- token.Get: its runs. token.Get: the contract. token.Get: the contract, in the end. What is put is got, and what is got was put: messages. bytes.Equal, Same: their runs. bytes.Equal, Same: the contracts. -/
import Derived.Test.YtbamfolinbehiaaWg
import Derived.Test.YtbamfolinbehiaaSxAI
namespace Go.Proofs.Ytbamfolinbehiaa
section
open Go.Sx
abbrev GB := List Int → Nat → Int → Int → List Int × Int × Int
def gGetBV (G : GB) : Sx.Loc := fun args bs => match args, bs with
 | [.v (.one (.slice 0 (.c 0) 1 (.s n) (.s _))), .v (.one (.sint .i64 a)), .v (.one (.sint .i64 m))], [⟨false, .ints k l⟩] => match decide (k = .u8) with
  | true => some (By.tup3 1 (G l n a m).1.length (G l n a m).2.1 (G l n a m).2.2, [By.roB l, By.owB (G l n a m).1], [n ≤ l.length, n ≤ 1000000000, By.wfB l, By.i64 m])
  | false => none
 | _, _ => none
def gClV : Sx.Loc := fun args bs => match args, bs with
 | [.v (.one (.slice 0 i 1 n _))], [⟨false, .ints k l⟩] => match decide (k = .u8) with
  | true => some (bl0 1 n.v n.v, [By.roB l, By.owB ((l.drop i.v).take n.v)], [i.v + n.v ≤ l.length, n.v ≤ 1000000000])
  | false => none
 | _, _ => none
def tabGt (G : GU) (B : GB) := tabs [(21, byteTab fun n => .v (.one (.sstr (letN n)))), (22, holdT), (28, loc By.wantRo (gGetV G)), (29, loc By.wantRo (gGetBV B)), (30, loc By.wantRo gClV)]
def effGt : Go.FuncId → Bool := fun f => Nat.beq f 27
noncomputable def callGt (G : GU) (B : GB) (d : Nat) := callN Try.prog (tabGt G B) effGt 100000 d
noncomputable def GL := loopN Try.prog 10 0
noncomputable def EGL : List Item := .code (.loop GL.1) :: GL.2
noncomputable def KGL : List Item := .inLoop GL.1 :: GL.2
noncomputable def gtE (G : GU) (B : GB) (l : List Int) (n d : Nat) (h : List Bool) := run Try.prog (callGt G B 6) effGt (fnP 10) 0 100000 [false] [.code (bodyF 10)] ⟨argSlots 0 [bl0 0 n d], [roH l], h, []⟩
def arrGt : V := .v (.agg [.int .u8 101, .ptr 3 (.c 0) 1 1, .int .i64 1099511627776, .int .u8 112, .ptr 3 (.c 0) 1 2, .int .i64 1073741824, .int .u8 115, .ptr 3 (.c 0) 1 3, .int .i64 1099511627776, .int .u8 110, .ptr 3 (.c 0) 1 4, .int .i64 1099511627776, .int .u8 98, .ptr 3 (.c 0) 1 5, .int .i64 1099511627776])
def zerL : List C := [.int .u8 0, .int .i64 0, .int .i64 0, .int .i64 0, .int .i64 0, .int .i64 0, .int .i64 0, .nils]
def ptrV (b : Nat) : V := .v (.one (.ptr b (.c 0) 1 0))
def TGt (l : List Int) (m d : Nat) (e p s n b q : Int) (w : Bool) (i : Nat) (h : List Bool) : St := ⟨[(1, ptrV 1), (2, ptrV 2), (4, ptrV 3), (5, .v (.one (.sstr (letN (l.getD 0 0))))), (6, ptrV 4), (7, ptrV 5), (8, .v (.one (.clos 27 [1, 4, 5]))), (33, arrGt), (34, .v (.one (.int .i64 i)))],
 [roH l, ⟨true, .exp [.slice 0 (.c 0) 1 (.s m) (.s d)]⟩, ⟨true, .exp zerL⟩, ⟨true, .exp [.sint .u8 (l.getD 0 0), .sint .i64 e, .sint .i64 p, .sint .i64 s, .sint .i64 n, .sint .i64 b, .int .i64 0, .nils]⟩, ⟨true, .exp [.sint .i64 q]⟩, ⟨true, .exp [.sbool w]⟩], h, []⟩
noncomputable def gtR (G : GU) (B : GB) (lim : Nat) (S : St) := run Try.prog (callGt G B 6) effGt (fnP 10) lim 100000 [] (.code GL.1 :: .inLoop GL.1 :: GL.2) S
theorem gtE0 : (fun (G : GU) (B : GB) (l : List Int) (m d : Nat) => stopV [1, 2, 4, 5, 6, 7, 8, 33, 34] [0, 1, 2, 3, 4, 5] (gtE G B l m d [false, false])) = fun _ _ l (m : Nat) d => some (EGL, ([(1, ptrV 1), (2, ptrV 2), (4, ptrV 3), (5, .v (.one (.sstr (letN (l.getD 0 0))))), (6, ptrV 4), (7, ptrV 5), (8, .v (.one (.clos (27) [1, 4, 5]))), (33, arrGt), (34, .v (.one (.int .i64 0)))], ([roH l, SB.mk true (.exp [.slice 0 (.c 0) 1 (.s m) (.s d)]), SB.mk true (.exp zerL), SB.mk true (.exp [.sint .u8 (l.getD 0 0), .int .i64 0, .int .i64 0, .int .i64 0, .int .i64 0, .int .i64 0, .int .i64 0, .nils]), SB.mk true (.exp [.int .i64 1]), SB.mk true (.exp [.bool false])], [0 ≤ l.getD 0 0 ∧ List.getD l 0 (0 : Int) < 256, 0 < l.length, 0 < (m : Int), (letN (l.getD 0 0) == Array.toList (ByteArray.data { data := #[] })) = false, 0 ≤ l.getD 0 0 ∧ List.getD l 0 (0 : Int) < 256, 0 < l.length, 0 < (m : Int), decide ((m : Int) = 0) = false]))) := by kernel_rfl
theorem gtE1 : (fun (G : GU) (B : GB) (l : List Int) (m d : Nat) => endV [0] (gtE G B l m d [true])) = fun _ _ l (m : Nat) _ => some (.tup [.agg zerL, .one (.int .i64 132)], ([roH l], [decide ((m : Int) = 0) = true])) := by kernel_rfl
theorem gtE2 : (fun (G : GU) (B : GB) (l : List Int) (m d : Nat) => endV [0] (gtE G B l m d [false, true])) = fun _ _ l (m : Nat) _ => some (.tup [.agg zerL, .one (.int .i64 132)], ([roH l], [(letN (l.getD 0 0) == Array.toList (ByteArray.data { data := #[] })) = true, 0 ≤ l.getD 0 0 ∧ List.getD l 0 (0 : Int) < 256, 0 < l.length, 0 < (m : Int), decide ((m : Int) = 0) = false])) := by kernel_rfl
theorem gtS0 : (fun (G : GU) (B : GB) (l : List Int) (m d : Nat) (e p s n b : Int) (q : Int) (w : Bool) => stopV [1, 2, 4, 5, 6, 7, 8, 33, 34] [0, 1, 2, 3, 4, 5] (gtR G B (GL.2.length + 1) (TGt l m d e p s n b q w 0 [false]))) = fun _ _ l m d e p s n b q w => some (KGL, ([(1, ptrV 1), (2, ptrV 2), (4, ptrV 3), (5, .v (.one (.sstr (letN (l.getD 0 0))))), (6, ptrV 4), (7, ptrV 5), (8, .v (.one (.clos (OfNat.ofNat 27) [1, 4, 5]))), (33, arrGt), (34, .v (.one (.int .i64 1)))], ([roH l, SB.mk true (.exp [.slice 0 (.c 0) 1 (.s m) (.s d)]), SB.mk true (.exp zerL), SB.mk true (.exp [.sint .u8 (l.getD 0 0), .sint .i64 e, .sint .i64 p, .sint .i64 s, .sint .i64 n, .sint .i64 b, .int .i64 0, .nils]), SB.mk true (.exp [.sint .i64 q]), SB.mk true (.exp [.sbool w])], [hasC (letN (l.getD 0 0)) 101 = false, List.Mem (letN (l.getD 0 0)) strsH, List.Mem 101 chrsH]))) := by kernel_rfl
theorem gtB0 : (fun (G : GU) (B : GB) (l : List Int) (m d : Nat) (e p s n b : Int) (q : Int) (w : Bool) => stopV [1, 2, 4, 5, 6, 7, 8, 33, 34] [0, 1, 2, 3, 4, 5] (gtR G B (GL.2.length + 1) (TGt l m d e p s n b q w 0 [true, true]))) = fun _ _ l m d _ p s n b q w => some (KGL, ([(1, ptrV 1), (2, ptrV 2), (4, ptrV 3), (5, .v (.one (.sstr (letN (l.getD 0 0))))), (6, ptrV 4), (7, ptrV 5), (8, .v (.one (.clos (OfNat.ofNat 27) [1, 4, 5]))), (33, arrGt), (34, .v (.one (.int .i64 1)))], ([roH l, SB.mk true (.exp [.slice 0 (.c 0) 1 (.s m) (.s d)]), SB.mk true (.exp zerL), SB.mk true (.exp [.sint .u8 (l.getD 0 0), .int .i64 0, .sint .i64 p, .sint .i64 s, .sint .i64 n, .sint .i64 b, .int .i64 0, .nils]), SB.mk true (.exp [.sint .i64 q]), SB.mk true (.exp [.bool true])], [w = true, m ≤ l.length, m ≤ 1000000000, By.wfB l, hasC (letN (l.getD 0 0)) 101 = true, List.Mem (letN (l.getD 0 0)) strsH, List.Mem 101 chrsH]))) := by kernel_rfl
theorem gtC0 : (fun (G : GU) (B : GB) (l : List Int) (m d : Nat) (e p s n b : Int) (q : Int) (w : Bool) => stopV [1, 2, 4, 5, 6, 7, 8, 33, 34] [0, 1, 2, 3, 4, 5] (gtR G B (GL.2.length + 1) (TGt l m d e p s n b q w 0 [true, false, true]))) = fun G _ l m d _ p s n b q w => some (KGL, ([(1, ptrV 1), (2, ptrV 2), (4, ptrV 3), (5, .v (.one (.sstr (letN (l.getD 0 0))))), (6, ptrV 4), (7, ptrV 5), (8, .v (.one (.clos (OfNat.ofNat 27) [1, 4, 5]))), (33, arrGt), (34, .v (.one (.int .i64 1)))], ([roH l, SB.mk true (.exp [.slice 0 (.c 0) 1 (.s m) (.s d)]), SB.mk true (.exp zerL), SB.mk true (.exp [.sint .u8 (l.getD 0 0), .int .i64 0, .sint .i64 p, .sint .i64 s, .sint .i64 n, .sint .i64 b, .int .i64 0, .nils]), SB.mk true (.exp [.sint .i64 q]), SB.mk true (.exp [.bool true])], [(!decide ((G l m q).2.2 = 0)) = true, w = false, m ≤ l.length, m ≤ 1000000000, By.wfB l, hasC (letN (l.getD 0 0)) 101 = true, List.Mem (letN (l.getD 0 0)) strsH, List.Mem 101 chrsH]))) := by kernel_rfl
theorem gtD0 : (fun (G : GU) (B : GB) (l : List Int) (m d : Nat) (e p s n b : Int) (q : Int) (w : Bool) => stopV [1, 2, 4, 5, 6, 7, 8, 33, 34] [0, 1, 2, 3, 4, 5] (gtR G B (GL.2.length + 1) (TGt l m d e p s n b q w 0 [true, false, false, true]))) = fun G _ l m d _ p s n b q w => some (KGL, ([(1, ptrV 1), (2, ptrV 2), (4, ptrV 3), (5, .v (.one (.sstr (letN (l.getD 0 0))))), (6, ptrV 4), (7, ptrV 5), (8, .v (.one (.clos (OfNat.ofNat 27) [1, 4, 5]))), (33, arrGt), (34, .v (.one (.int .i64 1)))], ([roH l, SB.mk true (.exp [.slice 0 (.c 0) 1 (.s m) (.s d)]), SB.mk true (.exp zerL), SB.mk true (.exp [.sint .u8 (l.getD 0 0), .int .i64 0, .sint .i64 p, .sint .i64 s, .sint .i64 n, .sint .i64 b, .int .i64 0, .nils]), SB.mk true (.exp [.sint .i64 q]), SB.mk true (.exp [.sbool (decide (1099511627776 < (G l m q).1))])], [decide (1099511627776 < (G l m q).1) = true, (!decide ((G l m q).2.2 = 0)) = false, w = false, m ≤ l.length, m ≤ 1000000000, By.wfB l, hasC (letN (l.getD 0 0)) 101 = true, List.Mem (letN (l.getD 0 0)) strsH, List.Mem 101 chrsH]))) := by kernel_rfl
theorem gtO0 : (fun (G : GU) (B : GB) (l : List Int) (m d : Nat) (e p s n b : Int) (q : Int) (w : Bool) => stopV [1, 2, 4, 5, 6, 7, 8, 33, 34] [0, 1, 2, 3, 4, 5] (gtR G B (GL.2.length + 1) (TGt l m d e p s n b q w 0 [true, false, false, false]))) = fun G _ l m d _ p s n b q w => some (KGL, ([(1, ptrV 1), (2, ptrV 2), (4, ptrV 3), (5, .v (.one (.sstr (letN (l.getD 0 0))))), (6, ptrV 4), (7, ptrV 5), (8, .v (.one (.clos (OfNat.ofNat 27) [1, 4, 5]))), (33, arrGt), (34, .v (.one (.int .i64 1)))], ([roH l, SB.mk true (.exp [.slice 0 (.c 0) 1 (.s m) (.s d)]), SB.mk true (.exp zerL), SB.mk true (.exp [.sint .u8 (l.getD 0 0), .sint .i64 (IntKind.wrap .i64 (G l m q).1), .sint .i64 p, .sint .i64 s, .sint .i64 n, .sint .i64 b, .int .i64 0, .nils]), SB.mk true (.exp [.sint .i64 (G l m q).2.1]), SB.mk true (.exp [.sbool (decide (1099511627776 < (G l m q).1))])], [decide (1099511627776 < (G l m q).1) = false, (!decide ((G l m q).2.2 = 0)) = false, w = false, m ≤ l.length, m ≤ 1000000000, By.wfB l, hasC (letN (l.getD 0 0)) 101 = true, List.Mem (letN (l.getD 0 0)) strsH, List.Mem 101 chrsH]))) := by kernel_rfl
theorem gtS1 : (fun (G : GU) (B : GB) (l : List Int) (m d : Nat) (e p s n b : Int) (q : Int) (w : Bool) => stopV [1, 2, 4, 5, 6, 7, 8, 33, 34] [0, 1, 2, 3, 4, 5] (gtR G B (GL.2.length + 1) (TGt l m d e p s n b q w 1 [false]))) = fun _ _ l m d e p s n b q w => some (KGL, ([(1, ptrV 1), (2, ptrV 2), (4, ptrV 3), (5, .v (.one (.sstr (letN (l.getD 0 0))))), (6, ptrV 4), (7, ptrV 5), (8, .v (.one (.clos (OfNat.ofNat 27) [1, 4, 5]))), (33, arrGt), (34, .v (.one (.int .i64 2)))], ([roH l, SB.mk true (.exp [.slice 0 (.c 0) 1 (.s m) (.s d)]), SB.mk true (.exp zerL), SB.mk true (.exp [.sint .u8 (l.getD 0 0), .sint .i64 e, .sint .i64 p, .sint .i64 s, .sint .i64 n, .sint .i64 b, .int .i64 0, .nils]), SB.mk true (.exp [.sint .i64 q]), SB.mk true (.exp [.sbool w])], [hasC (letN (l.getD 0 0)) 112 = false, List.Mem (letN (l.getD 0 0)) strsH, List.Mem 112 chrsH]))) := by kernel_rfl
theorem gtB1 : (fun (G : GU) (B : GB) (l : List Int) (m d : Nat) (e p s n b : Int) (q : Int) (w : Bool) => stopV [1, 2, 4, 5, 6, 7, 8, 33, 34] [0, 1, 2, 3, 4, 5] (gtR G B (GL.2.length + 1) (TGt l m d e p s n b q w 1 [true, true]))) = fun _ _ l m d e _ s n b q w => some (KGL, ([(1, ptrV 1), (2, ptrV 2), (4, ptrV 3), (5, .v (.one (.sstr (letN (l.getD 0 0))))), (6, ptrV 4), (7, ptrV 5), (8, .v (.one (.clos (OfNat.ofNat 27) [1, 4, 5]))), (33, arrGt), (34, .v (.one (.int .i64 2)))], ([roH l, SB.mk true (.exp [.slice 0 (.c 0) 1 (.s m) (.s d)]), SB.mk true (.exp zerL), SB.mk true (.exp [.sint .u8 (l.getD 0 0), .sint .i64 e, .int .i64 0, .sint .i64 s, .sint .i64 n, .sint .i64 b, .int .i64 0, .nils]), SB.mk true (.exp [.sint .i64 q]), SB.mk true (.exp [.bool true])], [w = true, m ≤ l.length, m ≤ 1000000000, By.wfB l, hasC (letN (l.getD 0 0)) 112 = true, List.Mem (letN (l.getD 0 0)) strsH, List.Mem 112 chrsH]))) := by kernel_rfl
theorem gtC1 : (fun (G : GU) (B : GB) (l : List Int) (m d : Nat) (e p s n b : Int) (q : Int) (w : Bool) => stopV [1, 2, 4, 5, 6, 7, 8, 33, 34] [0, 1, 2, 3, 4, 5] (gtR G B (GL.2.length + 1) (TGt l m d e p s n b q w 1 [true, false, true]))) = fun G _ l m d e _ s n b q w => some (KGL, ([(1, ptrV 1), (2, ptrV 2), (4, ptrV 3), (5, .v (.one (.sstr (letN (l.getD 0 0))))), (6, ptrV 4), (7, ptrV 5), (8, .v (.one (.clos (OfNat.ofNat 27) [1, 4, 5]))), (33, arrGt), (34, .v (.one (.int .i64 2)))], ([roH l, SB.mk true (.exp [.slice 0 (.c 0) 1 (.s m) (.s d)]), SB.mk true (.exp zerL), SB.mk true (.exp [.sint .u8 (l.getD 0 0), .sint .i64 e, .int .i64 0, .sint .i64 s, .sint .i64 n, .sint .i64 b, .int .i64 0, .nils]), SB.mk true (.exp [.sint .i64 q]), SB.mk true (.exp [.bool true])], [(!decide ((G l m q).2.2 = 0)) = true, w = false, m ≤ l.length, m ≤ 1000000000, By.wfB l, hasC (letN (l.getD 0 0)) 112 = true, List.Mem (letN (l.getD 0 0)) strsH, List.Mem 112 chrsH]))) := by kernel_rfl
theorem gtD1 : (fun (G : GU) (B : GB) (l : List Int) (m d : Nat) (e p s n b : Int) (q : Int) (w : Bool) => stopV [1, 2, 4, 5, 6, 7, 8, 33, 34] [0, 1, 2, 3, 4, 5] (gtR G B (GL.2.length + 1) (TGt l m d e p s n b q w 1 [true, false, false, true]))) = fun G _ l m d e _ s n b q w => some (KGL, ([(1, ptrV 1), (2, ptrV 2), (4, ptrV 3), (5, .v (.one (.sstr (letN (l.getD 0 0))))), (6, ptrV 4), (7, ptrV 5), (8, .v (.one (.clos (OfNat.ofNat 27) [1, 4, 5]))), (33, arrGt), (34, .v (.one (.int .i64 2)))], ([roH l, SB.mk true (.exp [.slice 0 (.c 0) 1 (.s m) (.s d)]), SB.mk true (.exp zerL), SB.mk true (.exp [.sint .u8 (l.getD 0 0), .sint .i64 e, .int .i64 0, .sint .i64 s, .sint .i64 n, .sint .i64 b, .int .i64 0, .nils]), SB.mk true (.exp [.sint .i64 q]), SB.mk true (.exp [.sbool (decide (1073741824 < (G l m q).1))])], [decide (1073741824 < (G l m q).1) = true, (!decide ((G l m q).2.2 = 0)) = false, w = false, m ≤ l.length, m ≤ 1000000000, By.wfB l, hasC (letN (l.getD 0 0)) 112 = true, List.Mem (letN (l.getD 0 0)) strsH, List.Mem 112 chrsH]))) := by kernel_rfl
theorem gtO1 : (fun (G : GU) (B : GB) (l : List Int) (m d : Nat) (e p s n b : Int) (q : Int) (w : Bool) => stopV [1, 2, 4, 5, 6, 7, 8, 33, 34] [0, 1, 2, 3, 4, 5] (gtR G B (GL.2.length + 1) (TGt l m d e p s n b q w 1 [true, false, false, false]))) = fun G _ l m d e _ s n b q w => some (KGL, ([(1, ptrV 1), (2, ptrV 2), (4, ptrV 3), (5, .v (.one (.sstr (letN (l.getD 0 0))))), (6, ptrV 4), (7, ptrV 5), (8, .v (.one (.clos (OfNat.ofNat 27) [1, 4, 5]))), (33, arrGt), (34, .v (.one (.int .i64 2)))], ([roH l, SB.mk true (.exp [.slice 0 (.c 0) 1 (.s m) (.s d)]), SB.mk true (.exp zerL), SB.mk true (.exp [.sint .u8 (l.getD 0 0), .sint .i64 e, .sint .i64 (IntKind.wrap .i64 (G l m q).1), .sint .i64 s, .sint .i64 n, .sint .i64 b, .int .i64 0, .nils]), SB.mk true (.exp [.sint .i64 (G l m q).2.1]), SB.mk true (.exp [.sbool (decide (1073741824 < (G l m q).1))])], [decide (1073741824 < (G l m q).1) = false, (!decide ((G l m q).2.2 = 0)) = false, w = false, m ≤ l.length, m ≤ 1000000000, By.wfB l, hasC (letN (l.getD 0 0)) 112 = true, List.Mem (letN (l.getD 0 0)) strsH, List.Mem 112 chrsH]))) := by kernel_rfl
theorem gtS2 : (fun (G : GU) (B : GB) (l : List Int) (m d : Nat) (e p s n b : Int) (q : Int) (w : Bool) => stopV [1, 2, 4, 5, 6, 7, 8, 33, 34] [0, 1, 2, 3, 4, 5] (gtR G B (GL.2.length + 1) (TGt l m d e p s n b q w 2 [false]))) = fun _ _ l m d e p s n b q w => some (KGL, ([(1, ptrV 1), (2, ptrV 2), (4, ptrV 3), (5, .v (.one (.sstr (letN (l.getD 0 0))))), (6, ptrV 4), (7, ptrV 5), (8, .v (.one (.clos (OfNat.ofNat 27) [1, 4, 5]))), (33, arrGt), (34, .v (.one (.int .i64 3)))], ([roH l, SB.mk true (.exp [.slice 0 (.c 0) 1 (.s m) (.s d)]), SB.mk true (.exp zerL), SB.mk true (.exp [.sint .u8 (l.getD 0 0), .sint .i64 e, .sint .i64 p, .sint .i64 s, .sint .i64 n, .sint .i64 b, .int .i64 0, .nils]), SB.mk true (.exp [.sint .i64 q]), SB.mk true (.exp [.sbool w])], [hasC (letN (l.getD 0 0)) 115 = false, List.Mem (letN (l.getD 0 0)) strsH, List.Mem 115 chrsH]))) := by kernel_rfl
theorem gtB2 : (fun (G : GU) (B : GB) (l : List Int) (m d : Nat) (e p s n b : Int) (q : Int) (w : Bool) => stopV [1, 2, 4, 5, 6, 7, 8, 33, 34] [0, 1, 2, 3, 4, 5] (gtR G B (GL.2.length + 1) (TGt l m d e p s n b q w 2 [true, true]))) = fun _ _ l m d e p _ n b q w => some (KGL, ([(1, ptrV 1), (2, ptrV 2), (4, ptrV 3), (5, .v (.one (.sstr (letN (l.getD 0 0))))), (6, ptrV 4), (7, ptrV 5), (8, .v (.one (.clos (OfNat.ofNat 27) [1, 4, 5]))), (33, arrGt), (34, .v (.one (.int .i64 3)))], ([roH l, SB.mk true (.exp [.slice 0 (.c 0) 1 (.s m) (.s d)]), SB.mk true (.exp zerL), SB.mk true (.exp [.sint .u8 (l.getD 0 0), .sint .i64 e, .sint .i64 p, .int .i64 0, .sint .i64 n, .sint .i64 b, .int .i64 0, .nils]), SB.mk true (.exp [.sint .i64 q]), SB.mk true (.exp [.bool true])], [w = true, m ≤ l.length, m ≤ 1000000000, By.wfB l, hasC (letN (l.getD 0 0)) 115 = true, List.Mem (letN (l.getD 0 0)) strsH, List.Mem 115 chrsH]))) := by kernel_rfl
theorem gtC2 : (fun (G : GU) (B : GB) (l : List Int) (m d : Nat) (e p s n b : Int) (q : Int) (w : Bool) => stopV [1, 2, 4, 5, 6, 7, 8, 33, 34] [0, 1, 2, 3, 4, 5] (gtR G B (GL.2.length + 1) (TGt l m d e p s n b q w 2 [true, false, true]))) = fun G _ l m d e p _ n b q w => some (KGL, ([(1, ptrV 1), (2, ptrV 2), (4, ptrV 3), (5, .v (.one (.sstr (letN (l.getD 0 0))))), (6, ptrV 4), (7, ptrV 5), (8, .v (.one (.clos (OfNat.ofNat 27) [1, 4, 5]))), (33, arrGt), (34, .v (.one (.int .i64 3)))], ([roH l, SB.mk true (.exp [.slice 0 (.c 0) 1 (.s m) (.s d)]), SB.mk true (.exp zerL), SB.mk true (.exp [.sint .u8 (l.getD 0 0), .sint .i64 e, .sint .i64 p, .int .i64 0, .sint .i64 n, .sint .i64 b, .int .i64 0, .nils]), SB.mk true (.exp [.sint .i64 q]), SB.mk true (.exp [.bool true])], [(!decide ((G l m q).2.2 = 0)) = true, w = false, m ≤ l.length, m ≤ 1000000000, By.wfB l, hasC (letN (l.getD 0 0)) 115 = true, List.Mem (letN (l.getD 0 0)) strsH, List.Mem 115 chrsH]))) := by kernel_rfl
theorem gtD2 : (fun (G : GU) (B : GB) (l : List Int) (m d : Nat) (e p s n b : Int) (q : Int) (w : Bool) => stopV [1, 2, 4, 5, 6, 7, 8, 33, 34] [0, 1, 2, 3, 4, 5] (gtR G B (GL.2.length + 1) (TGt l m d e p s n b q w 2 [true, false, false, true]))) = fun G _ l m d e p _ n b q w => some (KGL, ([(1, ptrV 1), (2, ptrV 2), (4, ptrV 3), (5, .v (.one (.sstr (letN (l.getD 0 0))))), (6, ptrV 4), (7, ptrV 5), (8, .v (.one (.clos (OfNat.ofNat 27) [1, 4, 5]))), (33, arrGt), (34, .v (.one (.int .i64 3)))], ([roH l, SB.mk true (.exp [.slice 0 (.c 0) 1 (.s m) (.s d)]), SB.mk true (.exp zerL), SB.mk true (.exp [.sint .u8 (l.getD 0 0), .sint .i64 e, .sint .i64 p, .int .i64 0, .sint .i64 n, .sint .i64 b, .int .i64 0, .nils]), SB.mk true (.exp [.sint .i64 q]), SB.mk true (.exp [.sbool (decide (1099511627776 < (G l m q).1))])], [decide (1099511627776 < (G l m q).1) = true, (!decide ((G l m q).2.2 = 0)) = false, w = false, m ≤ l.length, m ≤ 1000000000, By.wfB l, hasC (letN (l.getD 0 0)) 115 = true, List.Mem (letN (l.getD 0 0)) strsH, List.Mem 115 chrsH]))) := by kernel_rfl
theorem gtO2 : (fun (G : GU) (B : GB) (l : List Int) (m d : Nat) (e p s n b : Int) (q : Int) (w : Bool) => stopV [1, 2, 4, 5, 6, 7, 8, 33, 34] [0, 1, 2, 3, 4, 5] (gtR G B (GL.2.length + 1) (TGt l m d e p s n b q w 2 [true, false, false, false]))) = fun G _ l m d e p _ n b q w => some (KGL, ([(1, ptrV 1), (2, ptrV 2), (4, ptrV 3), (5, .v (.one (.sstr (letN (l.getD 0 0))))), (6, ptrV 4), (7, ptrV 5), (8, .v (.one (.clos (OfNat.ofNat 27) [1, 4, 5]))), (33, arrGt), (34, .v (.one (.int .i64 3)))], ([roH l, SB.mk true (.exp [.slice 0 (.c 0) 1 (.s m) (.s d)]), SB.mk true (.exp zerL), SB.mk true (.exp [.sint .u8 (l.getD 0 0), .sint .i64 e, .sint .i64 p, .sint .i64 (IntKind.wrap .i64 (G l m q).1), .sint .i64 n, .sint .i64 b, .int .i64 0, .nils]), SB.mk true (.exp [.sint .i64 (G l m q).2.1]), SB.mk true (.exp [.sbool (decide (1099511627776 < (G l m q).1))])], [decide (1099511627776 < (G l m q).1) = false, (!decide ((G l m q).2.2 = 0)) = false, w = false, m ≤ l.length, m ≤ 1000000000, By.wfB l, hasC (letN (l.getD 0 0)) 115 = true, List.Mem (letN (l.getD 0 0)) strsH, List.Mem 115 chrsH]))) := by kernel_rfl
theorem gtS3 : (fun (G : GU) (B : GB) (l : List Int) (m d : Nat) (e p s n b : Int) (q : Int) (w : Bool) => stopV [1, 2, 4, 5, 6, 7, 8, 33, 34] [0, 1, 2, 3, 4, 5] (gtR G B (GL.2.length + 1) (TGt l m d e p s n b q w 3 [false]))) = fun _ _ l m d e p s n b q w => some (KGL, ([(1, ptrV 1), (2, ptrV 2), (4, ptrV 3), (5, .v (.one (.sstr (letN (l.getD 0 0))))), (6, ptrV 4), (7, ptrV 5), (8, .v (.one (.clos (OfNat.ofNat 27) [1, 4, 5]))), (33, arrGt), (34, .v (.one (.int .i64 4)))], ([roH l, SB.mk true (.exp [.slice 0 (.c 0) 1 (.s m) (.s d)]), SB.mk true (.exp zerL), SB.mk true (.exp [.sint .u8 (l.getD 0 0), .sint .i64 e, .sint .i64 p, .sint .i64 s, .sint .i64 n, .sint .i64 b, .int .i64 0, .nils]), SB.mk true (.exp [.sint .i64 q]), SB.mk true (.exp [.sbool w])], [hasC (letN (l.getD 0 0)) 110 = false, List.Mem (letN (l.getD 0 0)) strsH, List.Mem 110 chrsH]))) := by kernel_rfl
theorem gtB3 : (fun (G : GU) (B : GB) (l : List Int) (m d : Nat) (e p s n b : Int) (q : Int) (w : Bool) => stopV [1, 2, 4, 5, 6, 7, 8, 33, 34] [0, 1, 2, 3, 4, 5] (gtR G B (GL.2.length + 1) (TGt l m d e p s n b q w 3 [true, true]))) = fun _ _ l m d e p s _ b q w => some (KGL, ([(1, ptrV 1), (2, ptrV 2), (4, ptrV 3), (5, .v (.one (.sstr (letN (l.getD 0 0))))), (6, ptrV 4), (7, ptrV 5), (8, .v (.one (.clos (OfNat.ofNat 27) [1, 4, 5]))), (33, arrGt), (34, .v (.one (.int .i64 4)))], ([roH l, SB.mk true (.exp [.slice 0 (.c 0) 1 (.s m) (.s d)]), SB.mk true (.exp zerL), SB.mk true (.exp [.sint .u8 (l.getD 0 0), .sint .i64 e, .sint .i64 p, .sint .i64 s, .int .i64 0, .sint .i64 b, .int .i64 0, .nils]), SB.mk true (.exp [.sint .i64 q]), SB.mk true (.exp [.bool true])], [w = true, m ≤ l.length, m ≤ 1000000000, By.wfB l, hasC (letN (l.getD 0 0)) 110 = true, List.Mem (letN (l.getD 0 0)) strsH, List.Mem 110 chrsH]))) := by kernel_rfl
theorem gtC3 : (fun (G : GU) (B : GB) (l : List Int) (m d : Nat) (e p s n b : Int) (q : Int) (w : Bool) => stopV [1, 2, 4, 5, 6, 7, 8, 33, 34] [0, 1, 2, 3, 4, 5] (gtR G B (GL.2.length + 1) (TGt l m d e p s n b q w 3 [true, false, true]))) = fun G _ l m d e p s _ b q w => some (KGL, ([(1, ptrV 1), (2, ptrV 2), (4, ptrV 3), (5, .v (.one (.sstr (letN (l.getD 0 0))))), (6, ptrV 4), (7, ptrV 5), (8, .v (.one (.clos (OfNat.ofNat 27) [1, 4, 5]))), (33, arrGt), (34, .v (.one (.int .i64 4)))], ([roH l, SB.mk true (.exp [.slice 0 (.c 0) 1 (.s m) (.s d)]), SB.mk true (.exp zerL), SB.mk true (.exp [.sint .u8 (l.getD 0 0), .sint .i64 e, .sint .i64 p, .sint .i64 s, .int .i64 0, .sint .i64 b, .int .i64 0, .nils]), SB.mk true (.exp [.sint .i64 q]), SB.mk true (.exp [.bool true])], [(!decide ((G l m q).2.2 = 0)) = true, w = false, m ≤ l.length, m ≤ 1000000000, By.wfB l, hasC (letN (l.getD 0 0)) 110 = true, List.Mem (letN (l.getD 0 0)) strsH, List.Mem 110 chrsH]))) := by kernel_rfl
theorem gtD3 : (fun (G : GU) (B : GB) (l : List Int) (m d : Nat) (e p s n b : Int) (q : Int) (w : Bool) => stopV [1, 2, 4, 5, 6, 7, 8, 33, 34] [0, 1, 2, 3, 4, 5] (gtR G B (GL.2.length + 1) (TGt l m d e p s n b q w 3 [true, false, false, true]))) = fun G _ l m d e p s _ b q w => some (KGL, ([(1, ptrV 1), (2, ptrV 2), (4, ptrV 3), (5, .v (.one (.sstr (letN (l.getD 0 0))))), (6, ptrV 4), (7, ptrV 5), (8, .v (.one (.clos (OfNat.ofNat 27) [1, 4, 5]))), (33, arrGt), (34, .v (.one (.int .i64 4)))], ([roH l, SB.mk true (.exp [.slice 0 (.c 0) 1 (.s m) (.s d)]), SB.mk true (.exp zerL), SB.mk true (.exp [.sint .u8 (l.getD 0 0), .sint .i64 e, .sint .i64 p, .sint .i64 s, .int .i64 0, .sint .i64 b, .int .i64 0, .nils]), SB.mk true (.exp [.sint .i64 q]), SB.mk true (.exp [.sbool (decide (1099511627776 < (G l m q).1))])], [decide (1099511627776 < (G l m q).1) = true, (!decide ((G l m q).2.2 = 0)) = false, w = false, m ≤ l.length, m ≤ 1000000000, By.wfB l, hasC (letN (l.getD 0 0)) 110 = true, List.Mem (letN (l.getD 0 0)) strsH, List.Mem 110 chrsH]))) := by kernel_rfl
theorem gtO3 : (fun (G : GU) (B : GB) (l : List Int) (m d : Nat) (e p s n b : Int) (q : Int) (w : Bool) => stopV [1, 2, 4, 5, 6, 7, 8, 33, 34] [0, 1, 2, 3, 4, 5] (gtR G B (GL.2.length + 1) (TGt l m d e p s n b q w 3 [true, false, false, false]))) = fun G _ l m d e p s _ b q w => some (KGL, ([(1, ptrV 1), (2, ptrV 2), (4, ptrV 3), (5, .v (.one (.sstr (letN (l.getD 0 0))))), (6, ptrV 4), (7, ptrV 5), (8, .v (.one (.clos (OfNat.ofNat 27) [1, 4, 5]))), (33, arrGt), (34, .v (.one (.int .i64 4)))], ([roH l, SB.mk true (.exp [.slice 0 (.c 0) 1 (.s m) (.s d)]), SB.mk true (.exp zerL), SB.mk true (.exp [.sint .u8 (l.getD 0 0), .sint .i64 e, .sint .i64 p, .sint .i64 s, .sint .i64 (IntKind.wrap .i64 (G l m q).1), .sint .i64 b, .int .i64 0, .nils]), SB.mk true (.exp [.sint .i64 (G l m q).2.1]), SB.mk true (.exp [.sbool (decide (1099511627776 < (G l m q).1))])], [decide (1099511627776 < (G l m q).1) = false, (!decide ((G l m q).2.2 = 0)) = false, w = false, m ≤ l.length, m ≤ 1000000000, By.wfB l, hasC (letN (l.getD 0 0)) 110 = true, List.Mem (letN (l.getD 0 0)) strsH, List.Mem 110 chrsH]))) := by kernel_rfl
theorem gtS4 : (fun (G : GU) (B : GB) (l : List Int) (m d : Nat) (e p s n b : Int) (q : Int) (w : Bool) => stopV [1, 2, 4, 5, 6, 7, 8, 33, 34] [0, 1, 2, 3, 4, 5] (gtR G B (GL.2.length + 1) (TGt l m d e p s n b q w 4 [false]))) = fun _ _ l m d e p s n b q w => some (KGL, ([(1, ptrV 1), (2, ptrV 2), (4, ptrV 3), (5, .v (.one (.sstr (letN (l.getD 0 0))))), (6, ptrV 4), (7, ptrV 5), (8, .v (.one (.clos (OfNat.ofNat 27) [1, 4, 5]))), (33, arrGt), (34, .v (.one (.int .i64 5)))], ([roH l, SB.mk true (.exp [.slice 0 (.c 0) 1 (.s m) (.s d)]), SB.mk true (.exp zerL), SB.mk true (.exp [.sint .u8 (l.getD 0 0), .sint .i64 e, .sint .i64 p, .sint .i64 s, .sint .i64 n, .sint .i64 b, .int .i64 0, .nils]), SB.mk true (.exp [.sint .i64 q]), SB.mk true (.exp [.sbool w])], [hasC (letN (l.getD 0 0)) 98 = false, List.Mem (letN (l.getD 0 0)) strsH, List.Mem 98 chrsH]))) := by kernel_rfl
theorem gtB4 : (fun (G : GU) (B : GB) (l : List Int) (m d : Nat) (e p s n b : Int) (q : Int) (w : Bool) => stopV [1, 2, 4, 5, 6, 7, 8, 33, 34] [0, 1, 2, 3, 4, 5] (gtR G B (GL.2.length + 1) (TGt l m d e p s n b q w 4 [true, true]))) = fun _ _ l m d e p s n _ q w => some (KGL, ([(1, ptrV 1), (2, ptrV 2), (4, ptrV 3), (5, .v (.one (.sstr (letN (l.getD 0 0))))), (6, ptrV 4), (7, ptrV 5), (8, .v (.one (.clos (OfNat.ofNat 27) [1, 4, 5]))), (33, arrGt), (34, .v (.one (.int .i64 5)))], ([roH l, SB.mk true (.exp [.slice 0 (.c 0) 1 (.s m) (.s d)]), SB.mk true (.exp zerL), SB.mk true (.exp [.sint .u8 (l.getD 0 0), .sint .i64 e, .sint .i64 p, .sint .i64 s, .sint .i64 n, .int .i64 0, .int .i64 0, .nils]), SB.mk true (.exp [.sint .i64 q]), SB.mk true (.exp [.bool true])], [w = true, m ≤ l.length, m ≤ 1000000000, By.wfB l, hasC (letN (l.getD 0 0)) 98 = true, List.Mem (letN (l.getD 0 0)) strsH, List.Mem 98 chrsH]))) := by kernel_rfl
theorem gtC4 : (fun (G : GU) (B : GB) (l : List Int) (m d : Nat) (e p s n b : Int) (q : Int) (w : Bool) => stopV [1, 2, 4, 5, 6, 7, 8, 33, 34] [0, 1, 2, 3, 4, 5] (gtR G B (GL.2.length + 1) (TGt l m d e p s n b q w 4 [true, false, true]))) = fun G _ l m d e p s n _ q w => some (KGL, ([(1, ptrV 1), (2, ptrV 2), (4, ptrV 3), (5, .v (.one (.sstr (letN (l.getD 0 0))))), (6, ptrV 4), (7, ptrV 5), (8, .v (.one (.clos (OfNat.ofNat 27) [1, 4, 5]))), (33, arrGt), (34, .v (.one (.int .i64 5)))], ([roH l, SB.mk true (.exp [.slice 0 (.c 0) 1 (.s m) (.s d)]), SB.mk true (.exp zerL), SB.mk true (.exp [.sint .u8 (l.getD 0 0), .sint .i64 e, .sint .i64 p, .sint .i64 s, .sint .i64 n, .int .i64 0, .int .i64 0, .nils]), SB.mk true (.exp [.sint .i64 q]), SB.mk true (.exp [.bool true])], [(!decide ((G l m q).2.2 = 0)) = true, w = false, m ≤ l.length, m ≤ 1000000000, By.wfB l, hasC (letN (l.getD 0 0)) 98 = true, List.Mem (letN (l.getD 0 0)) strsH, List.Mem 98 chrsH]))) := by kernel_rfl
theorem gtD4 : (fun (G : GU) (B : GB) (l : List Int) (m d : Nat) (e p s n b : Int) (q : Int) (w : Bool) => stopV [1, 2, 4, 5, 6, 7, 8, 33, 34] [0, 1, 2, 3, 4, 5] (gtR G B (GL.2.length + 1) (TGt l m d e p s n b q w 4 [true, false, false, true]))) = fun G _ l m d e p s n _ q w => some (KGL, ([(1, ptrV 1), (2, ptrV 2), (4, ptrV 3), (5, .v (.one (.sstr (letN (l.getD 0 0))))), (6, ptrV 4), (7, ptrV 5), (8, .v (.one (.clos (OfNat.ofNat 27) [1, 4, 5]))), (33, arrGt), (34, .v (.one (.int .i64 5)))], ([roH l, SB.mk true (.exp [.slice 0 (.c 0) 1 (.s m) (.s d)]), SB.mk true (.exp zerL), SB.mk true (.exp [.sint .u8 (l.getD 0 0), .sint .i64 e, .sint .i64 p, .sint .i64 s, .sint .i64 n, .int .i64 0, .int .i64 0, .nils]), SB.mk true (.exp [.sint .i64 q]), SB.mk true (.exp [.sbool (decide (1099511627776 < (G l m q).1))])], [decide (1099511627776 < (G l m q).1) = true, (!decide ((G l m q).2.2 = 0)) = false, w = false, m ≤ l.length, m ≤ 1000000000, By.wfB l, hasC (letN (l.getD 0 0)) 98 = true, List.Mem (letN (l.getD 0 0)) strsH, List.Mem 98 chrsH]))) := by kernel_rfl
theorem gtO4 : (fun (G : GU) (B : GB) (l : List Int) (m d : Nat) (e p s n b : Int) (q : Int) (w : Bool) => stopV [1, 2, 4, 5, 6, 7, 8, 33, 34] [0, 1, 2, 3, 4, 5] (gtR G B (GL.2.length + 1) (TGt l m d e p s n b q w 4 [true, false, false, false]))) = fun G _ l m d e p s n _ q w => some (KGL, ([(1, ptrV 1), (2, ptrV 2), (4, ptrV 3), (5, .v (.one (.sstr (letN (l.getD 0 0))))), (6, ptrV 4), (7, ptrV 5), (8, .v (.one (.clos (OfNat.ofNat 27) [1, 4, 5]))), (33, arrGt), (34, .v (.one (.int .i64 5)))], ([roH l, SB.mk true (.exp [.slice 0 (.c 0) 1 (.s m) (.s d)]), SB.mk true (.exp zerL), SB.mk true (.exp [.sint .u8 (l.getD 0 0), .sint .i64 e, .sint .i64 p, .sint .i64 s, .sint .i64 n, .sint .i64 (IntKind.wrap .i64 (G l m q).1), .int .i64 0, .nils]), SB.mk true (.exp [.sint .i64 (G l m q).2.1]), SB.mk true (.exp [.sbool (decide (1099511627776 < (G l m q).1))])], [decide (1099511627776 < (G l m q).1) = false, (!decide ((G l m q).2.2 = 0)) = false, w = false, m ≤ l.length, m ≤ 1000000000, By.wfB l, hasC (letN (l.getD 0 0)) 98 = true, List.Mem (letN (l.getD 0 0)) strsH, List.Mem 98 chrsH]))) := by kernel_rfl
theorem gtX0 : (fun (G : GU) (B : GB) (l : List Int) (m d : Nat) (e p s n b : Int) (q : Int) (w : Bool) => endV [0] (gtR G B 0 (TGt l m d e p s n b q w 5 [false, false, true]))) = fun _ _ l _ _ _ _ _ _ _ _ w => some (.tup [.agg zerL, .one (.int .i64 132)], ([roH l], [w = true, hasC (letN (l.getD 0 0)) 120 = false, List.Mem (letN (l.getD 0 0)) strsH, List.Mem 120 chrsH, hasC (letN (l.getD 0 0)) 114 = false, List.Mem (letN (l.getD 0 0)) strsH, List.Mem 114 chrsH])) := by kernel_rfl
theorem gtX1 : (fun (G : GU) (B : GB) (l : List Int) (m d : Nat) (e p s n b : Int) (q : Int) (w : Bool) => endV [0] (gtR G B 0 (TGt l m d e p s n b q w 5 [false, false, false, true]))) = fun _ _ l (m : Nat) _ _ _ _ _ _ q w => some (.tup [.agg zerL, .one (.int .i64 132)], ([roH l], [(!decide (q = (m : Int))) = true, w = false, hasC (letN (l.getD 0 0)) 120 = false, List.Mem (letN (l.getD 0 0)) strsH, List.Mem 120 chrsH, hasC (letN (l.getD 0 0)) 114 = false, List.Mem (letN (l.getD 0 0)) strsH, List.Mem 114 chrsH])) := by kernel_rfl
theorem gtX2 : (fun (G : GU) (B : GB) (l : List Int) (m d : Nat) (e p s n b : Int) (q : Int) (w : Bool) => endV [0] (gtR G B 0 (TGt l m d e p s n b q w 5 [false, false, false, false]))) = fun _ _ l (m : Nat) _ e p s n b q w => some (.tup [.agg [.sint .u8 (l.getD 0 0), .sint .i64 e, .sint .i64 p, .sint .i64 s, .sint .i64 n, .sint .i64 b, .int .i64 0, .nils], .one (.int .i64 0)], ([roH l], [(!decide (q = (m : Int))) = false, w = false, hasC (letN (l.getD 0 0)) 120 = false, List.Mem (letN (l.getD 0 0)) strsH, List.Mem 120 chrsH, hasC (letN (l.getD 0 0)) 114 = false, List.Mem (letN (l.getD 0 0)) strsH, List.Mem 114 chrsH])) := by kernel_rfl
theorem gtX3 : (fun (G : GU) (B : GB) (l : List Int) (m d : Nat) (e p s n b : Int) (q : Int) (w : Bool) => endV [0] (gtR G B 0 (TGt l m d e p s n b q w 5 [false, true, true, true]))) = fun _ B l m _ _ _ _ _ _ q w => some (.tup [.agg zerL, .one (.int .i64 132)], ([roH l], [(!decide ((B l m q 1048576).2.2 = 0)) = true, 0 + (B l m q 1048576).1.length ≤ (B l m q 1048576).1.length, (B l m q 1048576).1.length ≤ 1000000000, m ≤ l.length, m ≤ 1000000000, By.wfB l, By.i64 1048576, (!w) = true, hasC (letN (l.getD 0 0)) 120 = true, List.Mem (letN (l.getD 0 0)) strsH, List.Mem 120 chrsH, hasC (letN (l.getD 0 0)) 114 = false, List.Mem (letN (l.getD 0 0)) strsH, List.Mem 114 chrsH])) := by kernel_rfl
theorem gtX4 : (fun (G : GU) (B : GB) (l : List Int) (m d : Nat) (e p s n b : Int) (q : Int) (w : Bool) => endV [0] (gtR G B 0 (TGt l m d e p s n b q w 5 [false, true, false, true]))) = fun _ _ l _ _ _ _ _ _ _ _ w => some (.tup [.agg zerL, .one (.int .i64 132)], ([roH l], [w = true, (!w) = false, hasC (letN (l.getD 0 0)) 120 = true, List.Mem (letN (l.getD 0 0)) strsH, List.Mem 120 chrsH, hasC (letN (l.getD 0 0)) 114 = false, List.Mem (letN (l.getD 0 0)) strsH, List.Mem 114 chrsH])) := by kernel_rfl
theorem gtX5 : (fun (G : GU) (B : GB) (l : List Int) (m d : Nat) (e p s n b : Int) (q : Int) (w : Bool) => endV [0] (gtR G B 0 (TGt l m d e p s n b q w 5 [false, true, true, false, true]))) = fun _ B l (m : Nat) _ _ _ _ _ _ q w => some (.tup [.agg zerL, .one (.int .i64 132)], ([roH l], [(!decide ((B l m q 1048576).2.1 = (m : Int))) = true, (!decide ((B l m q 1048576).2.2 = 0)) = false, 0 + (B l m q 1048576).1.length ≤ (B l m q 1048576).1.length, (B l m q 1048576).1.length ≤ 1000000000, m ≤ l.length, m ≤ 1000000000, By.wfB l, By.i64 1048576, (!w) = true, hasC (letN (l.getD 0 0)) 120 = true, List.Mem (letN (l.getD 0 0)) strsH, List.Mem 120 chrsH, hasC (letN (l.getD 0 0)) 114 = false, List.Mem (letN (l.getD 0 0)) strsH, List.Mem 114 chrsH])) := by kernel_rfl
theorem gtX6 : (fun (G : GU) (B : GB) (l : List Int) (m d : Nat) (e p s n b : Int) (q : Int) (w : Bool) => endV [0, 7] (gtR G B 0 (TGt l m d e p s n b q w 5 [false, true, true, false, false]))) = fun _ B l (m : Nat) _ e p s n b q w => some (.tup [.agg [.sint .u8 (l.getD 0 0), .sint .i64 e, .sint .i64 p, .sint .i64 s, .sint .i64 n, .sint .i64 b, .int .i64 0, .slice 7 (.c 0) 1 (.s (B l m q 1048576).1.length) (.s (B l m q 1048576).1.length)], .one (.int .i64 0)], ([roH l, SB.mk true (.ints .u8 (List.take (B l m q 1048576).1.length (List.drop 0 (B l m q 1048576).1)))], [(!decide ((B l m q 1048576).2.1 = (m : Int))) = false, (!decide ((B l m q 1048576).2.2 = 0)) = false, 0 + (B l m q 1048576).1.length ≤ (B l m q 1048576).1.length, (B l m q 1048576).1.length ≤ 1000000000, m ≤ l.length, m ≤ 1000000000, By.wfB l, By.i64 1048576, (!w) = true, hasC (letN (l.getD 0 0)) 120 = true, List.Mem (letN (l.getD 0 0)) strsH, List.Mem 120 chrsH, hasC (letN (l.getD 0 0)) 114 = false, List.Mem (letN (l.getD 0 0)) strsH, List.Mem 114 chrsH])) := by kernel_rfl
theorem gtY0 : (fun (G : GU) (B : GB) (l : List Int) (m d : Nat) (e p s n b : Int) (q : Int) (w : Bool) => endV [0] (gtR G B 0 (TGt l m d e p s n b q w 5 [true, true, false]))) = fun _ _ l m _ _ _ _ _ _ _ w => some (.tup [.agg zerL, .one (.int .i64 132)], ([roH l], [hasC (letN (l.getD 0 0)) 120 = false, List.Mem (letN (l.getD 0 0)) strsH, List.Mem 120 chrsH, w = true, m ≤ l.length, m ≤ 1000000000, By.wfB l, hasC (letN (l.getD 0 0)) 114 = true, List.Mem (letN (l.getD 0 0)) strsH, List.Mem 114 chrsH])) := by kernel_rfl
theorem gtY1 : (fun (G : GU) (B : GB) (l : List Int) (m d : Nat) (e p s n b : Int) (q : Int) (w : Bool) => endV [0] (gtR G B 0 (TGt l m d e p s n b q w 5 [true, false, true, false]))) = fun G _ l m _ _ _ _ _ _ q w => some (.tup [.agg zerL, .one (.int .i64 132)], ([roH l], [hasC (letN (l.getD 0 0)) 120 = false, List.Mem (letN (l.getD 0 0)) strsH, List.Mem 120 chrsH, (!decide ((G l m q).2.2 = 0)) = true, w = false, m ≤ l.length, m ≤ 1000000000, By.wfB l, hasC (letN (l.getD 0 0)) 114 = true, List.Mem (letN (l.getD 0 0)) strsH, List.Mem 114 chrsH])) := by kernel_rfl
theorem gtY2 : (fun (G : GU) (B : GB) (l : List Int) (m d : Nat) (e p s n b : Int) (q : Int) (w : Bool) => endV [0] (gtR G B 0 (TGt l m d e p s n b q w 5 [true, false, false, true, false, true]))) = fun G _ l m _ _ _ _ _ _ q w => some (.tup [.agg zerL, .one (.int .i64 132)], ([roH l], [decide (255 < (G l m q).1) = true, hasC (letN (l.getD 0 0)) 120 = false, List.Mem (letN (l.getD 0 0)) strsH, List.Mem 120 chrsH, decide (255 < (G l m q).1) = true, (!decide ((G l m q).2.2 = 0)) = false, w = false, m ≤ l.length, m ≤ 1000000000, By.wfB l, hasC (letN (l.getD 0 0)) 114 = true, List.Mem (letN (l.getD 0 0)) strsH, List.Mem 114 chrsH])) := by kernel_rfl
theorem gtY3 : (fun (G : GU) (B : GB) (l : List Int) (m d : Nat) (e p s n b : Int) (q : Int) (w : Bool) => endV [0] (gtR G B 0 (TGt l m d e p s n b q w 5 [true, false, false, false, false, false, true]))) = fun G _ l (m : Nat) _ _ _ _ _ _ q w => some (.tup [.agg zerL, .one (.int .i64 132)], ([roH l], [(!decide ((G l m q).2.1 = (m : Int))) = true, decide (255 < (G l m q).1) = false, hasC (letN (l.getD 0 0)) 120 = false, List.Mem (letN (l.getD 0 0)) strsH, List.Mem 120 chrsH, decide (255 < (G l m q).1) = false, (!decide ((G l m q).2.2 = 0)) = false, w = false, m ≤ l.length, m ≤ 1000000000, By.wfB l, hasC (letN (l.getD 0 0)) 114 = true, List.Mem (letN (l.getD 0 0)) strsH, List.Mem 114 chrsH])) := by kernel_rfl
theorem gtY4 : (fun (G : GU) (B : GB) (l : List Int) (m d : Nat) (e p s n b : Int) (q : Int) (w : Bool) => endV [0] (gtR G B 0 (TGt l m d e p s n b q w 5 [true, false, false, false, false, false, false]))) = fun G _ l (m : Nat) _ e p s n b q w => some (.tup [.agg [.sint .u8 (l.getD 0 0), .sint .i64 e, .sint .i64 p, .sint .i64 s, .sint .i64 n, .sint .i64 b, .sint .i64 (IntKind.wrap .i64 (G l m q).1), .nils], .one (.int .i64 0)], ([roH l], [(!decide ((G l m q).2.1 = (m : Int))) = false, decide (255 < (G l m q).1) = false, hasC (letN (l.getD 0 0)) 120 = false, List.Mem (letN (l.getD 0 0)) strsH, List.Mem 120 chrsH, decide (255 < (G l m q).1) = false, (!decide ((G l m q).2.2 = 0)) = false, w = false, m ≤ l.length, m ≤ 1000000000, By.wfB l, hasC (letN (l.getD 0 0)) 114 = true, List.Mem (letN (l.getD 0 0)) strsH, List.Mem 114 chrsH])) := by kernel_rfl
end
section
open Go.ChangeShapes Go.WideShapes Go.ChangeAt Go.RowKit Go.Sx
def rdI (l : List Int) (m : Nat) (most q : Int) (w : Bool) : Int × Int × Bool :=
 if w = true ∨ (By.getU l m q).2.2 ≠ 0 ∨ most < (By.getU l m q).1 then (0, q, true) else ((By.getU l m q).1, (By.getU l m q).2.1, false)
def stG (l : List Int) (m : Nat) : Nat → List Int × Int × Bool
 | 0 => ([0, 0, 0, 0, 0], 1, false)
 | i + 1 => if hasC (letN (l.getD 0 0)) (fChr i) = true then ((stG l m i).1.set i (rdI l m (fMax i) (stG l m i).2.1 (stG l m i).2.2).1, (rdI l m (fMax i) (stG l m i).2.1 (stG l m i).2.2).2.1, (rdI l m (fMax i) (stG l m i).2.1 (stG l m i).2.2).2.2) else stG l m i
theorem stG_len (l : List Int) (m : Nat) : ∀ i, (stG l m i).1.length = 5
 | 0 => rfl
 | i + 1 => by
  unfold stG
  split
  ·rw [List.length_set]; exact stG_len l m i
  ·exact stG_len l m i
theorem setG {l : List Int} {i j : Nat} {n : Int} (h : l.length = 5) (hi : i < 5) : (l.set i n).getD j 0 = if j = i then n else l.getD j 0 := by
 simp only [List.getD_eq_getElem?_getD, List.getElem?_set]
 by_cases e : j = i
 ·subst e; simp [h, hi]
 ·rw [if_neg (Ne.symm e), if_neg e]
theorem stG_no {l : List Int} {m i : Nat} (h : hasC (letN (l.getD 0 0)) (fChr i) = false) : stG l m (i + 1) = stG l m i := by
 show (if _ then _ else _) = _
 rw [if_neg (by rw [h]; decide)]
theorem stG_yes {l : List Int} {m i : Nat} {x : Int × Int × Bool} (h : hasC (letN (l.getD 0 0)) (fChr i) = true) (hx : rdI l m (fMax i) (stG l m i).2.1 (stG l m i).2.2 = x) : stG l m (i + 1) = ((stG l m i).1.set i x.1, x.2.1, x.2.2) := by
 show (if _ then _ else _) = _
 rw [if_pos h, hx]
theorem rdI_bad {l : List Int} {m : Nat} {most q : Int} {w : Bool} (h : w = true ∨ (By.getU l m q).2.2 ≠ 0 ∨ most < (By.getU l m q).1) : rdI l m most q w = (0, q, true) := if_pos h
theorem rdI_ok {l : List Int} {m : Nat} {most q : Int} {w : Bool} (h1 : w = false) (h2 : (By.getU l m q).2.2 = 0) (h3 : ¬ most < (By.getU l m q).1) : rdI l m most q w = ((By.getU l m q).1, (By.getU l m q).2.1, false) :=
 if_neg fun h => by
  rcases h with h | h | h
  ·rw [h1] at h; cases h
  ·exact h h2
  ·exact h3 h
theorem cl_tab : TabOk Try.prog 30 (loc By.wantRo gClV) := loc_ok fun xs bs v bs' ob hg hob hokb => by
 unfold gClV at hg
 split at hg
 ·rename_i i n c k l
  split at hg
  ·rename_i hk
   cases hg
   have hk' : k = .u8 := of_decide_eq_true hk
   subst hk'
   intro ρ K w us hm hu
   obtain ⟨u1, s1, rfl, k1, k2⟩ := hu
   exact By.cloneO_works l i.v n.v c.v (hob _ (by simp)) (hob (n.v ≤ 1000000000) (by simp)) ρ K w _ hm ⟨u1, _, rfl, slH_rel k1, k2⟩
  ·cases hg
 ·cases hg
theorem tabGt_ok : ∀ f g, tabGt By.getU By.getB f = some g → TabOk Try.prog f g := tabs_ok fun x hx => by
 simp only [List.mem_cons, List.not_mem_nil, or_false] at hx
 rcases hx with rfl | rfl | rfl | rfl | rfl
 ·exact has_tab
 ·exact hold_tab
 ·exact By.get_tab
 ·exact By.getb_tab
 ·exact cl_tab
theorem callGt_ok (d : Nat) : CallOk Try.prog (callGt By.getU By.getB d) := callN_sound tabGt_ok d
theorem funGt : Try.prog.funcs[10]? = some (fnP 10) := by kernel_rfl
theorem bodGt : (fnP 10).body = some (bodyF 10) := by kernel_rfl
theorem tmpGt : 1 ≤ (fnP 10).ntmps := Nat.le_of_ble_eq_true (by kernel_rfl)
theorem nd6G : (List.range 1 ++ [1, 2, 3, 4, 5]).Nodup := by decide
theorem nd0G : (List.range 1 ++ ([] : List Nat)).Nodup := by decide
theorem nd7G : (List.range 1 ++ [7]).Nodup := by decide
theorem appG {A : Type} {f g : GU → GB → List Int → Nat → Nat → A} (h : f = g) (l : List Int) (m d : Nat) : f By.getU By.getB l m d = g By.getU By.getB l m d := by rw [h]
theorem appH {A : Type} {f g : GU → GB → List Int → Nat → Nat → Int → Int → Int → Int → Int → Int → Bool → A} (h : f = g) (l : List Int) (m d : Nat) (e p s n b q : Int) (w : Bool) : f By.getU By.getB l m d e p s n b q w = g By.getU By.getB l m d e p s n b q w := by rw [h]
theorem arrG_le : leV (List.range 1 ++ [1, 2, 3, 4, 5]) arrGt arrGt :=
 ⟨⟨rfl, rfl⟩, ⟨rfl, rfl, rfl, rfl⟩, ⟨rfl, rfl⟩, ⟨rfl, rfl⟩, ⟨rfl, rfl, rfl, rfl⟩, ⟨rfl, rfl⟩, ⟨rfl, rfl⟩, ⟨rfl, rfl, rfl, rfl⟩, ⟨rfl, rfl⟩, ⟨rfl, rfl⟩, ⟨rfl, rfl, rfl, rfl⟩, ⟨rfl, rfl⟩, ⟨rfl, rfl⟩, ⟨rfl, rfl, rfl, rfl⟩, ⟨rfl, rfl⟩, trivial⟩
theorem zer_le {sel : List Nat} : leL sel zerL zerL := ⟨⟨rfl, rfl⟩, ⟨rfl, rfl⟩, ⟨rfl, rfl⟩, ⟨rfl, rfl⟩, ⟨rfl, rfl⟩, ⟨rfl, rfl⟩, ⟨rfl, rfl⟩, trivial, trivial⟩
section
variable {e0 : E} {K : Nat → Prop} {W : World} {l : List Int} {m d : Nat}
abbrev InvG (l : List Int) (m d : Nat) (i : Nat) (h : List Bool) : St := TGt l m d ((stG l m i).1.getD 0 0) ((stG l m i).1.getD 1 0) ((stG l m i).1.getD 2 0) ((stG l m i).1.getD 3 0) ((stG l m i).1.getD 4 0) (stG l m i).2.1 (stG l m i).2.2 i h
theorem gt_step0 {R : Ending → World → Prop} {good : Nat → Prop} (hg : good (0 + 1)) (hl : u8L l) (hm : m ≤ l.length) (hm2 : m ≤ 1000000000) (hmd : m ≤ d) : Step3 Try.prog 10 (callGt By.getU By.getB 6) effGt (fnP 10) GL.1 GL.2 [] [e0] K W R (InvG l m d) good (fun j => 5 - j) 0 := by
 have cm := chr_mem (c := 101) (by decide)
 have lm := letN_mem (l.getD 0 0)
 have L5 := stG_len l m 0
 have rng := By.getU_range hl m (stG l m 0).2.1
 have slots : leSlots (List.range 1 ++ [1, 2, 3, 4, 5]) (TGt l m d 0 0 0 0 0 0 false (0 + 1) []).sl (InvG l m d (0 + 1) []).sl :=
  ⟨⟨rfl, rfl, rfl, rfl, rfl⟩, ⟨rfl, rfl, rfl, rfl, rfl⟩, ⟨rfl, rfl, rfl, rfl, rfl⟩, ⟨rfl, rfl⟩, ⟨rfl, rfl, rfl, rfl, rfl⟩, ⟨rfl, rfl, rfl, rfl, rfl⟩, ⟨rfl, rfl, rfl⟩, ⟨rfl, arrG_le⟩, ⟨rfl, rfl, rfl⟩, trivial⟩
 have mem : ∀ {x0 x1 x2 x3 x4 xq xw : C}, leC (List.range 1 ++ [1, 2, 3, 4, 5]) x0 (.sint .i64 ((stG l m (0 + 1)).1.getD 0 0)) → leC (List.range 1 ++ [1, 2, 3, 4, 5]) x1 (.sint .i64 ((stG l m (0 + 1)).1.getD 1 0)) → leC (List.range 1 ++ [1, 2, 3, 4, 5]) x2 (.sint .i64 ((stG l m (0 + 1)).1.getD 2 0)) → leC (List.range 1 ++ [1, 2, 3, 4, 5]) x3 (.sint .i64 ((stG l m (0 + 1)).1.getD 3 0)) → leC (List.range 1 ++ [1, 2, 3, 4, 5]) x4 (.sint .i64 ((stG l m (0 + 1)).1.getD 4 0)) → leC (List.range 1 ++ [1, 2, 3, 4, 5]) xq (.sint .i64 (stG l m (0 + 1)).2.1) → leC (List.range 1 ++ [1, 2, 3, 4, 5]) xw (.sbool (stG l m (0 + 1)).2.2) →
   leBs (List.range 1 ++ [1, 2, 3, 4, 5]) [roH l, ⟨true, .exp [.slice 0 (.c 0) 1 (.s m) (.s d)]⟩, ⟨true, .exp zerL⟩, ⟨true, .exp [.sint .u8 (l.getD 0 0), x0, x1, x2, x3, x4, .int .i64 0, .nils]⟩, ⟨true, .exp [xq]⟩, ⟨true, .exp [xw]⟩] (InvG l m d (0 + 1) []).m := fun h0 h1 h2 h3 h4 hq hw =>
  ⟨⟨fun h => h, rfl, rfl⟩, ⟨fun h => h, ⟨rfl, rfl, rfl, rfl, Nat.le_refl _, hmd⟩, trivial⟩, ⟨fun h => h, zer_le⟩, ⟨fun h => h, ⟨rfl, rfl⟩, h0, h1, h2, h3, h4, ⟨rfl, rfl⟩, trivial, trivial⟩, ⟨fun h => h, hq, trivial⟩, ⟨fun h => h, hw, trivial⟩, trivial⟩
 cases hc : hasC (letN (l.getD 0 0)) 101 with
 | false =>
  have hS := stG_no (m := m) (i := 0) hc
  have e : ∀ j, (stG l m (0 + 1)).1.getD j 0 = (stG l m 0).1.getD j 0 := fun j => by rw [hS]
  exact .round [false] [] _ _ [1, 2, 4, 5, 6, 7, 8, 33, 34] [1, 2, 3, 4, 5] _ _ _ (0 + 1) (appH gtS0 l m d ((stG l m 0).1.getD 0 0) ((stG l m 0).1.getD 1 0) ((stG l m 0).1.getD 2 0) ((stG l m 0).1.getD 3 0) ((stG l m 0).1.getD 4 0) (stG l m 0).2.1 (stG l m 0).2.2) ⟨hc, lm, cm, trivial⟩ ⟨nd6G, slots, mem ⟨rfl, (e 0).symm⟩ ⟨rfl, (e 1).symm⟩ ⟨rfl, (e 2).symm⟩ ⟨rfl, (e 3).symm⟩ ⟨rfl, (e 4).symm⟩ ⟨rfl, by rw [hS]⟩ (by show _ = _; rw [hS])⟩ hg (by decide)
 | true =>
  by_cases hbad : (stG l m 0).2.2 = true ∨ (By.getU l m (stG l m 0).2.1).2.2 ≠ 0 ∨ 1099511627776 < (By.getU l m (stG l m 0).2.1).1
  ·have hS := stG_yes (m := m) (i := 0) hc (rdI_bad (most := fMax 0) hbad)
   have e : ∀ j, (stG l m (0 + 1)).1.getD j 0 = if j = 0 then 0 else (stG l m 0).1.getD j 0 := fun j => by rw [hS]; exact setG L5 (by decide)
   have eq : (stG l m (0 + 1)).2.1 = (stG l m 0).2.1 := by rw [hS]
   have ew : (stG l m (0 + 1)).2.2 = true := by rw [hS]
   cases hw : (stG l m 0).2.2 with
   | true =>
    exact .round [true, true] [] _ _ [1, 2, 4, 5, 6, 7, 8, 33, 34] [1, 2, 3, 4, 5] _ _ _ (0 + 1) (appH gtB0 l m d ((stG l m 0).1.getD 0 0) ((stG l m 0).1.getD 1 0) ((stG l m 0).1.getD 2 0) ((stG l m 0).1.getD 3 0) ((stG l m 0).1.getD 4 0) (stG l m 0).2.1 (stG l m 0).2.2) ⟨hw, hm, hm2, hl, hc, lm, cm, trivial⟩ ⟨nd6G, slots, mem ⟨rfl, (e 0).symm⟩ ⟨rfl, (e 1).symm⟩ ⟨rfl, (e 2).symm⟩ ⟨rfl, (e 3).symm⟩ ⟨rfl, (e 4).symm⟩ ⟨rfl, eq.symm⟩ ew.symm⟩ hg (by decide)
   | false =>
    by_cases he : (By.getU l m (stG l m 0).2.1).2.2 = 0
    ·have ho : 1099511627776 < (By.getU l m (stG l m 0).2.1).1 := by
      rcases hbad with h | h | h
      ·rw [hw] at h; cases h
      ·exact absurd he h
      ·exact h
     exact .round [true, false, false, true] [] _ _ [1, 2, 4, 5, 6, 7, 8, 33, 34] [1, 2, 3, 4, 5] _ _ _ (0 + 1) (appH gtD0 l m d ((stG l m 0).1.getD 0 0) ((stG l m 0).1.getD 1 0) ((stG l m 0).1.getD 2 0) ((stG l m 0).1.getD 3 0) ((stG l m 0).1.getD 4 0) (stG l m 0).2.1 (stG l m 0).2.2) ⟨decide_eq_true ho, notT (decide_eq_true he), hw, hm, hm2, hl, hc, lm, cm, trivial⟩ ⟨nd6G, slots, mem ⟨rfl, (e 0).symm⟩ ⟨rfl, (e 1).symm⟩ ⟨rfl, (e 2).symm⟩ ⟨rfl, (e 3).symm⟩ ⟨rfl, (e 4).symm⟩ ⟨rfl, eq.symm⟩ (by rw [ew]; exact decide_eq_true ho)⟩ hg (by decide)
    ·exact .round [true, false, true] [] _ _ [1, 2, 4, 5, 6, 7, 8, 33, 34] [1, 2, 3, 4, 5] _ _ _ (0 + 1) (appH gtC0 l m d ((stG l m 0).1.getD 0 0) ((stG l m 0).1.getD 1 0) ((stG l m 0).1.getD 2 0) ((stG l m 0).1.getD 3 0) ((stG l m 0).1.getD 4 0) (stG l m 0).2.1 (stG l m 0).2.2) ⟨notF (decide_eq_false he), hw, hm, hm2, hl, hc, lm, cm, trivial⟩ ⟨nd6G, slots, mem ⟨rfl, (e 0).symm⟩ ⟨rfl, (e 1).symm⟩ ⟨rfl, (e 2).symm⟩ ⟨rfl, (e 3).symm⟩ ⟨rfl, (e 4).symm⟩ ⟨rfl, eq.symm⟩ ew.symm⟩ hg (by decide)
  ·have hw : (stG l m 0).2.2 = false := by
    cases hw : (stG l m 0).2.2 with
    | false => rfl
    | true => exact absurd (.inl hw) hbad
   have he : (By.getU l m (stG l m 0).2.1).2.2 = 0 := Classical.byContradiction fun h => hbad (.inr (.inl h))
   have ho : ¬ 1099511627776 < (By.getU l m (stG l m 0).2.1).1 := fun h => hbad (.inr (.inr h))
   have hS := stG_yes (m := m) (i := 0) hc (rdI_ok (most := fMax 0) hw he ho)
   have ev : IntKind.wrap .i64 (By.getU l m (stG l m 0).2.1).1 = (By.getU l m (stG l m 0).2.1).1 := By.wi64 (by omega) (by omega)
   have e : ∀ j, (stG l m (0 + 1)).1.getD j 0 = if j = 0 then (By.getU l m (stG l m 0).2.1).1 else (stG l m 0).1.getD j 0 := fun j => by rw [hS]; exact setG L5 (by decide)
   have eq : (stG l m (0 + 1)).2.1 = (By.getU l m (stG l m 0).2.1).2.1 := by rw [hS]
   have ew : (stG l m (0 + 1)).2.2 = false := by rw [hS]
   exact .round [true, false, false, false] [] _ _ [1, 2, 4, 5, 6, 7, 8, 33, 34] [1, 2, 3, 4, 5] _ _ _ (0 + 1) (appH gtO0 l m d ((stG l m 0).1.getD 0 0) ((stG l m 0).1.getD 1 0) ((stG l m 0).1.getD 2 0) ((stG l m 0).1.getD 3 0) ((stG l m 0).1.getD 4 0) (stG l m 0).2.1 (stG l m 0).2.2) ⟨decide_eq_false ho, notT (decide_eq_true he), hw, hm, hm2, hl, hc, lm, cm, trivial⟩ ⟨nd6G, slots, mem ⟨rfl, ev.trans (e 0).symm⟩ ⟨rfl, (e 1).symm⟩ ⟨rfl, (e 2).symm⟩ ⟨rfl, (e 3).symm⟩ ⟨rfl, (e 4).symm⟩ ⟨rfl, eq.symm⟩ (by rw [ew]; exact decide_eq_false ho)⟩ hg (by decide)
theorem gt_step1 {R : Ending → World → Prop} {good : Nat → Prop} (hg : good (1 + 1)) (hl : u8L l) (hm : m ≤ l.length) (hm2 : m ≤ 1000000000) (hmd : m ≤ d) : Step3 Try.prog 10 (callGt By.getU By.getB 6) effGt (fnP 10) GL.1 GL.2 [] [e0] K W R (InvG l m d) good (fun j => 5 - j) 1 := by
 have cm := chr_mem (c := 112) (by decide)
 have lm := letN_mem (l.getD 0 0)
 have L5 := stG_len l m 1
 have rng := By.getU_range hl m (stG l m 1).2.1
 have slots : leSlots (List.range 1 ++ [1, 2, 3, 4, 5]) (TGt l m d 0 0 0 0 0 0 false (1 + 1) []).sl (InvG l m d (1 + 1) []).sl :=
  ⟨⟨rfl, rfl, rfl, rfl, rfl⟩, ⟨rfl, rfl, rfl, rfl, rfl⟩, ⟨rfl, rfl, rfl, rfl, rfl⟩, ⟨rfl, rfl⟩, ⟨rfl, rfl, rfl, rfl, rfl⟩, ⟨rfl, rfl, rfl, rfl, rfl⟩, ⟨rfl, rfl, rfl⟩, ⟨rfl, arrG_le⟩, ⟨rfl, rfl, rfl⟩, trivial⟩
 have mem : ∀ {x0 x1 x2 x3 x4 xq xw : C}, leC (List.range 1 ++ [1, 2, 3, 4, 5]) x0 (.sint .i64 ((stG l m (1 + 1)).1.getD 0 0)) → leC (List.range 1 ++ [1, 2, 3, 4, 5]) x1 (.sint .i64 ((stG l m (1 + 1)).1.getD 1 0)) → leC (List.range 1 ++ [1, 2, 3, 4, 5]) x2 (.sint .i64 ((stG l m (1 + 1)).1.getD 2 0)) → leC (List.range 1 ++ [1, 2, 3, 4, 5]) x3 (.sint .i64 ((stG l m (1 + 1)).1.getD 3 0)) → leC (List.range 1 ++ [1, 2, 3, 4, 5]) x4 (.sint .i64 ((stG l m (1 + 1)).1.getD 4 0)) → leC (List.range 1 ++ [1, 2, 3, 4, 5]) xq (.sint .i64 (stG l m (1 + 1)).2.1) → leC (List.range 1 ++ [1, 2, 3, 4, 5]) xw (.sbool (stG l m (1 + 1)).2.2) →
   leBs (List.range 1 ++ [1, 2, 3, 4, 5]) [roH l, ⟨true, .exp [.slice 0 (.c 0) 1 (.s m) (.s d)]⟩, ⟨true, .exp zerL⟩, ⟨true, .exp [.sint .u8 (l.getD 0 0), x0, x1, x2, x3, x4, .int .i64 0, .nils]⟩, ⟨true, .exp [xq]⟩, ⟨true, .exp [xw]⟩] (InvG l m d (1 + 1) []).m := fun h0 h1 h2 h3 h4 hq hw =>
  ⟨⟨fun h => h, rfl, rfl⟩, ⟨fun h => h, ⟨rfl, rfl, rfl, rfl, Nat.le_refl _, hmd⟩, trivial⟩, ⟨fun h => h, zer_le⟩, ⟨fun h => h, ⟨rfl, rfl⟩, h0, h1, h2, h3, h4, ⟨rfl, rfl⟩, trivial, trivial⟩, ⟨fun h => h, hq, trivial⟩, ⟨fun h => h, hw, trivial⟩, trivial⟩
 cases hc : hasC (letN (l.getD 0 0)) 112 with
 | false =>
  have hS := stG_no (m := m) (i := 1) hc
  have e : ∀ j, (stG l m (1 + 1)).1.getD j 0 = (stG l m 1).1.getD j 0 := fun j => by rw [hS]
  exact .round [false] [] _ _ [1, 2, 4, 5, 6, 7, 8, 33, 34] [1, 2, 3, 4, 5] _ _ _ (1 + 1) (appH gtS1 l m d ((stG l m 1).1.getD 0 0) ((stG l m 1).1.getD 1 0) ((stG l m 1).1.getD 2 0) ((stG l m 1).1.getD 3 0) ((stG l m 1).1.getD 4 0) (stG l m 1).2.1 (stG l m 1).2.2) ⟨hc, lm, cm, trivial⟩ ⟨nd6G, slots, mem ⟨rfl, (e 0).symm⟩ ⟨rfl, (e 1).symm⟩ ⟨rfl, (e 2).symm⟩ ⟨rfl, (e 3).symm⟩ ⟨rfl, (e 4).symm⟩ ⟨rfl, by rw [hS]⟩ (by show _ = _; rw [hS])⟩ hg (by decide)
 | true =>
  by_cases hbad : (stG l m 1).2.2 = true ∨ (By.getU l m (stG l m 1).2.1).2.2 ≠ 0 ∨ 1073741824 < (By.getU l m (stG l m 1).2.1).1
  ·have hS := stG_yes (m := m) (i := 1) hc (rdI_bad (most := fMax 1) hbad)
   have e : ∀ j, (stG l m (1 + 1)).1.getD j 0 = if j = 1 then 0 else (stG l m 1).1.getD j 0 := fun j => by rw [hS]; exact setG L5 (by decide)
   have eq : (stG l m (1 + 1)).2.1 = (stG l m 1).2.1 := by rw [hS]
   have ew : (stG l m (1 + 1)).2.2 = true := by rw [hS]
   cases hw : (stG l m 1).2.2 with
   | true =>
    exact .round [true, true] [] _ _ [1, 2, 4, 5, 6, 7, 8, 33, 34] [1, 2, 3, 4, 5] _ _ _ (1 + 1) (appH gtB1 l m d ((stG l m 1).1.getD 0 0) ((stG l m 1).1.getD 1 0) ((stG l m 1).1.getD 2 0) ((stG l m 1).1.getD 3 0) ((stG l m 1).1.getD 4 0) (stG l m 1).2.1 (stG l m 1).2.2) ⟨hw, hm, hm2, hl, hc, lm, cm, trivial⟩ ⟨nd6G, slots, mem ⟨rfl, (e 0).symm⟩ ⟨rfl, (e 1).symm⟩ ⟨rfl, (e 2).symm⟩ ⟨rfl, (e 3).symm⟩ ⟨rfl, (e 4).symm⟩ ⟨rfl, eq.symm⟩ ew.symm⟩ hg (by decide)
   | false =>
    by_cases he : (By.getU l m (stG l m 1).2.1).2.2 = 0
    ·have ho : 1073741824 < (By.getU l m (stG l m 1).2.1).1 := by
      rcases hbad with h | h | h
      ·rw [hw] at h; cases h
      ·exact absurd he h
      ·exact h
     exact .round [true, false, false, true] [] _ _ [1, 2, 4, 5, 6, 7, 8, 33, 34] [1, 2, 3, 4, 5] _ _ _ (1 + 1) (appH gtD1 l m d ((stG l m 1).1.getD 0 0) ((stG l m 1).1.getD 1 0) ((stG l m 1).1.getD 2 0) ((stG l m 1).1.getD 3 0) ((stG l m 1).1.getD 4 0) (stG l m 1).2.1 (stG l m 1).2.2) ⟨decide_eq_true ho, notT (decide_eq_true he), hw, hm, hm2, hl, hc, lm, cm, trivial⟩ ⟨nd6G, slots, mem ⟨rfl, (e 0).symm⟩ ⟨rfl, (e 1).symm⟩ ⟨rfl, (e 2).symm⟩ ⟨rfl, (e 3).symm⟩ ⟨rfl, (e 4).symm⟩ ⟨rfl, eq.symm⟩ (by rw [ew]; exact decide_eq_true ho)⟩ hg (by decide)
    ·exact .round [true, false, true] [] _ _ [1, 2, 4, 5, 6, 7, 8, 33, 34] [1, 2, 3, 4, 5] _ _ _ (1 + 1) (appH gtC1 l m d ((stG l m 1).1.getD 0 0) ((stG l m 1).1.getD 1 0) ((stG l m 1).1.getD 2 0) ((stG l m 1).1.getD 3 0) ((stG l m 1).1.getD 4 0) (stG l m 1).2.1 (stG l m 1).2.2) ⟨notF (decide_eq_false he), hw, hm, hm2, hl, hc, lm, cm, trivial⟩ ⟨nd6G, slots, mem ⟨rfl, (e 0).symm⟩ ⟨rfl, (e 1).symm⟩ ⟨rfl, (e 2).symm⟩ ⟨rfl, (e 3).symm⟩ ⟨rfl, (e 4).symm⟩ ⟨rfl, eq.symm⟩ ew.symm⟩ hg (by decide)
  ·have hw : (stG l m 1).2.2 = false := by
    cases hw : (stG l m 1).2.2 with
    | false => rfl
    | true => exact absurd (.inl hw) hbad
   have he : (By.getU l m (stG l m 1).2.1).2.2 = 0 := Classical.byContradiction fun h => hbad (.inr (.inl h))
   have ho : ¬ 1073741824 < (By.getU l m (stG l m 1).2.1).1 := fun h => hbad (.inr (.inr h))
   have hS := stG_yes (m := m) (i := 1) hc (rdI_ok (most := fMax 1) hw he ho)
   have ev : IntKind.wrap .i64 (By.getU l m (stG l m 1).2.1).1 = (By.getU l m (stG l m 1).2.1).1 := By.wi64 (by omega) (by omega)
   have e : ∀ j, (stG l m (1 + 1)).1.getD j 0 = if j = 1 then (By.getU l m (stG l m 1).2.1).1 else (stG l m 1).1.getD j 0 := fun j => by rw [hS]; exact setG L5 (by decide)
   have eq : (stG l m (1 + 1)).2.1 = (By.getU l m (stG l m 1).2.1).2.1 := by rw [hS]
   have ew : (stG l m (1 + 1)).2.2 = false := by rw [hS]
   exact .round [true, false, false, false] [] _ _ [1, 2, 4, 5, 6, 7, 8, 33, 34] [1, 2, 3, 4, 5] _ _ _ (1 + 1) (appH gtO1 l m d ((stG l m 1).1.getD 0 0) ((stG l m 1).1.getD 1 0) ((stG l m 1).1.getD 2 0) ((stG l m 1).1.getD 3 0) ((stG l m 1).1.getD 4 0) (stG l m 1).2.1 (stG l m 1).2.2) ⟨decide_eq_false ho, notT (decide_eq_true he), hw, hm, hm2, hl, hc, lm, cm, trivial⟩ ⟨nd6G, slots, mem ⟨rfl, (e 0).symm⟩ ⟨rfl, ev.trans (e 1).symm⟩ ⟨rfl, (e 2).symm⟩ ⟨rfl, (e 3).symm⟩ ⟨rfl, (e 4).symm⟩ ⟨rfl, eq.symm⟩ (by rw [ew]; exact decide_eq_false ho)⟩ hg (by decide)
theorem gt_step2 {R : Ending → World → Prop} {good : Nat → Prop} (hg : good (2 + 1)) (hl : u8L l) (hm : m ≤ l.length) (hm2 : m ≤ 1000000000) (hmd : m ≤ d) : Step3 Try.prog 10 (callGt By.getU By.getB 6) effGt (fnP 10) GL.1 GL.2 [] [e0] K W R (InvG l m d) good (fun j => 5 - j) 2 := by
 have cm := chr_mem (c := 115) (by decide)
 have lm := letN_mem (l.getD 0 0)
 have L5 := stG_len l m 2
 have rng := By.getU_range hl m (stG l m 2).2.1
 have slots : leSlots (List.range 1 ++ [1, 2, 3, 4, 5]) (TGt l m d 0 0 0 0 0 0 false (2 + 1) []).sl (InvG l m d (2 + 1) []).sl :=
  ⟨⟨rfl, rfl, rfl, rfl, rfl⟩, ⟨rfl, rfl, rfl, rfl, rfl⟩, ⟨rfl, rfl, rfl, rfl, rfl⟩, ⟨rfl, rfl⟩, ⟨rfl, rfl, rfl, rfl, rfl⟩, ⟨rfl, rfl, rfl, rfl, rfl⟩, ⟨rfl, rfl, rfl⟩, ⟨rfl, arrG_le⟩, ⟨rfl, rfl, rfl⟩, trivial⟩
 have mem : ∀ {x0 x1 x2 x3 x4 xq xw : C}, leC (List.range 1 ++ [1, 2, 3, 4, 5]) x0 (.sint .i64 ((stG l m (2 + 1)).1.getD 0 0)) → leC (List.range 1 ++ [1, 2, 3, 4, 5]) x1 (.sint .i64 ((stG l m (2 + 1)).1.getD 1 0)) → leC (List.range 1 ++ [1, 2, 3, 4, 5]) x2 (.sint .i64 ((stG l m (2 + 1)).1.getD 2 0)) → leC (List.range 1 ++ [1, 2, 3, 4, 5]) x3 (.sint .i64 ((stG l m (2 + 1)).1.getD 3 0)) → leC (List.range 1 ++ [1, 2, 3, 4, 5]) x4 (.sint .i64 ((stG l m (2 + 1)).1.getD 4 0)) → leC (List.range 1 ++ [1, 2, 3, 4, 5]) xq (.sint .i64 (stG l m (2 + 1)).2.1) → leC (List.range 1 ++ [1, 2, 3, 4, 5]) xw (.sbool (stG l m (2 + 1)).2.2) →
   leBs (List.range 1 ++ [1, 2, 3, 4, 5]) [roH l, ⟨true, .exp [.slice 0 (.c 0) 1 (.s m) (.s d)]⟩, ⟨true, .exp zerL⟩, ⟨true, .exp [.sint .u8 (l.getD 0 0), x0, x1, x2, x3, x4, .int .i64 0, .nils]⟩, ⟨true, .exp [xq]⟩, ⟨true, .exp [xw]⟩] (InvG l m d (2 + 1) []).m := fun h0 h1 h2 h3 h4 hq hw =>
  ⟨⟨fun h => h, rfl, rfl⟩, ⟨fun h => h, ⟨rfl, rfl, rfl, rfl, Nat.le_refl _, hmd⟩, trivial⟩, ⟨fun h => h, zer_le⟩, ⟨fun h => h, ⟨rfl, rfl⟩, h0, h1, h2, h3, h4, ⟨rfl, rfl⟩, trivial, trivial⟩, ⟨fun h => h, hq, trivial⟩, ⟨fun h => h, hw, trivial⟩, trivial⟩
 cases hc : hasC (letN (l.getD 0 0)) 115 with
 | false =>
  have hS := stG_no (m := m) (i := 2) hc
  have e : ∀ j, (stG l m (2 + 1)).1.getD j 0 = (stG l m 2).1.getD j 0 := fun j => by rw [hS]
  exact .round [false] [] _ _ [1, 2, 4, 5, 6, 7, 8, 33, 34] [1, 2, 3, 4, 5] _ _ _ (2 + 1) (appH gtS2 l m d ((stG l m 2).1.getD 0 0) ((stG l m 2).1.getD 1 0) ((stG l m 2).1.getD 2 0) ((stG l m 2).1.getD 3 0) ((stG l m 2).1.getD 4 0) (stG l m 2).2.1 (stG l m 2).2.2) ⟨hc, lm, cm, trivial⟩ ⟨nd6G, slots, mem ⟨rfl, (e 0).symm⟩ ⟨rfl, (e 1).symm⟩ ⟨rfl, (e 2).symm⟩ ⟨rfl, (e 3).symm⟩ ⟨rfl, (e 4).symm⟩ ⟨rfl, by rw [hS]⟩ (by show _ = _; rw [hS])⟩ hg (by decide)
 | true =>
  by_cases hbad : (stG l m 2).2.2 = true ∨ (By.getU l m (stG l m 2).2.1).2.2 ≠ 0 ∨ 1099511627776 < (By.getU l m (stG l m 2).2.1).1
  ·have hS := stG_yes (m := m) (i := 2) hc (rdI_bad (most := fMax 2) hbad)
   have e : ∀ j, (stG l m (2 + 1)).1.getD j 0 = if j = 2 then 0 else (stG l m 2).1.getD j 0 := fun j => by rw [hS]; exact setG L5 (by decide)
   have eq : (stG l m (2 + 1)).2.1 = (stG l m 2).2.1 := by rw [hS]
   have ew : (stG l m (2 + 1)).2.2 = true := by rw [hS]
   cases hw : (stG l m 2).2.2 with
   | true =>
    exact .round [true, true] [] _ _ [1, 2, 4, 5, 6, 7, 8, 33, 34] [1, 2, 3, 4, 5] _ _ _ (2 + 1) (appH gtB2 l m d ((stG l m 2).1.getD 0 0) ((stG l m 2).1.getD 1 0) ((stG l m 2).1.getD 2 0) ((stG l m 2).1.getD 3 0) ((stG l m 2).1.getD 4 0) (stG l m 2).2.1 (stG l m 2).2.2) ⟨hw, hm, hm2, hl, hc, lm, cm, trivial⟩ ⟨nd6G, slots, mem ⟨rfl, (e 0).symm⟩ ⟨rfl, (e 1).symm⟩ ⟨rfl, (e 2).symm⟩ ⟨rfl, (e 3).symm⟩ ⟨rfl, (e 4).symm⟩ ⟨rfl, eq.symm⟩ ew.symm⟩ hg (by decide)
   | false =>
    by_cases he : (By.getU l m (stG l m 2).2.1).2.2 = 0
    ·have ho : 1099511627776 < (By.getU l m (stG l m 2).2.1).1 := by
      rcases hbad with h | h | h
      ·rw [hw] at h; cases h
      ·exact absurd he h
      ·exact h
     exact .round [true, false, false, true] [] _ _ [1, 2, 4, 5, 6, 7, 8, 33, 34] [1, 2, 3, 4, 5] _ _ _ (2 + 1) (appH gtD2 l m d ((stG l m 2).1.getD 0 0) ((stG l m 2).1.getD 1 0) ((stG l m 2).1.getD 2 0) ((stG l m 2).1.getD 3 0) ((stG l m 2).1.getD 4 0) (stG l m 2).2.1 (stG l m 2).2.2) ⟨decide_eq_true ho, notT (decide_eq_true he), hw, hm, hm2, hl, hc, lm, cm, trivial⟩ ⟨nd6G, slots, mem ⟨rfl, (e 0).symm⟩ ⟨rfl, (e 1).symm⟩ ⟨rfl, (e 2).symm⟩ ⟨rfl, (e 3).symm⟩ ⟨rfl, (e 4).symm⟩ ⟨rfl, eq.symm⟩ (by rw [ew]; exact decide_eq_true ho)⟩ hg (by decide)
    ·exact .round [true, false, true] [] _ _ [1, 2, 4, 5, 6, 7, 8, 33, 34] [1, 2, 3, 4, 5] _ _ _ (2 + 1) (appH gtC2 l m d ((stG l m 2).1.getD 0 0) ((stG l m 2).1.getD 1 0) ((stG l m 2).1.getD 2 0) ((stG l m 2).1.getD 3 0) ((stG l m 2).1.getD 4 0) (stG l m 2).2.1 (stG l m 2).2.2) ⟨notF (decide_eq_false he), hw, hm, hm2, hl, hc, lm, cm, trivial⟩ ⟨nd6G, slots, mem ⟨rfl, (e 0).symm⟩ ⟨rfl, (e 1).symm⟩ ⟨rfl, (e 2).symm⟩ ⟨rfl, (e 3).symm⟩ ⟨rfl, (e 4).symm⟩ ⟨rfl, eq.symm⟩ ew.symm⟩ hg (by decide)
  ·have hw : (stG l m 2).2.2 = false := by
    cases hw : (stG l m 2).2.2 with
    | false => rfl
    | true => exact absurd (.inl hw) hbad
   have he : (By.getU l m (stG l m 2).2.1).2.2 = 0 := Classical.byContradiction fun h => hbad (.inr (.inl h))
   have ho : ¬ 1099511627776 < (By.getU l m (stG l m 2).2.1).1 := fun h => hbad (.inr (.inr h))
   have hS := stG_yes (m := m) (i := 2) hc (rdI_ok (most := fMax 2) hw he ho)
   have ev : IntKind.wrap .i64 (By.getU l m (stG l m 2).2.1).1 = (By.getU l m (stG l m 2).2.1).1 := By.wi64 (by omega) (by omega)
   have e : ∀ j, (stG l m (2 + 1)).1.getD j 0 = if j = 2 then (By.getU l m (stG l m 2).2.1).1 else (stG l m 2).1.getD j 0 := fun j => by rw [hS]; exact setG L5 (by decide)
   have eq : (stG l m (2 + 1)).2.1 = (By.getU l m (stG l m 2).2.1).2.1 := by rw [hS]
   have ew : (stG l m (2 + 1)).2.2 = false := by rw [hS]
   exact .round [true, false, false, false] [] _ _ [1, 2, 4, 5, 6, 7, 8, 33, 34] [1, 2, 3, 4, 5] _ _ _ (2 + 1) (appH gtO2 l m d ((stG l m 2).1.getD 0 0) ((stG l m 2).1.getD 1 0) ((stG l m 2).1.getD 2 0) ((stG l m 2).1.getD 3 0) ((stG l m 2).1.getD 4 0) (stG l m 2).2.1 (stG l m 2).2.2) ⟨decide_eq_false ho, notT (decide_eq_true he), hw, hm, hm2, hl, hc, lm, cm, trivial⟩ ⟨nd6G, slots, mem ⟨rfl, (e 0).symm⟩ ⟨rfl, (e 1).symm⟩ ⟨rfl, ev.trans (e 2).symm⟩ ⟨rfl, (e 3).symm⟩ ⟨rfl, (e 4).symm⟩ ⟨rfl, eq.symm⟩ (by rw [ew]; exact decide_eq_false ho)⟩ hg (by decide)
theorem gt_step3 {R : Ending → World → Prop} {good : Nat → Prop} (hg : good (3 + 1)) (hl : u8L l) (hm : m ≤ l.length) (hm2 : m ≤ 1000000000) (hmd : m ≤ d) : Step3 Try.prog 10 (callGt By.getU By.getB 6) effGt (fnP 10) GL.1 GL.2 [] [e0] K W R (InvG l m d) good (fun j => 5 - j) 3 := by
 have cm := chr_mem (c := 110) (by decide)
 have lm := letN_mem (l.getD 0 0)
 have L5 := stG_len l m 3
 have rng := By.getU_range hl m (stG l m 3).2.1
 have slots : leSlots (List.range 1 ++ [1, 2, 3, 4, 5]) (TGt l m d 0 0 0 0 0 0 false (3 + 1) []).sl (InvG l m d (3 + 1) []).sl :=
  ⟨⟨rfl, rfl, rfl, rfl, rfl⟩, ⟨rfl, rfl, rfl, rfl, rfl⟩, ⟨rfl, rfl, rfl, rfl, rfl⟩, ⟨rfl, rfl⟩, ⟨rfl, rfl, rfl, rfl, rfl⟩, ⟨rfl, rfl, rfl, rfl, rfl⟩, ⟨rfl, rfl, rfl⟩, ⟨rfl, arrG_le⟩, ⟨rfl, rfl, rfl⟩, trivial⟩
 have mem : ∀ {x0 x1 x2 x3 x4 xq xw : C}, leC (List.range 1 ++ [1, 2, 3, 4, 5]) x0 (.sint .i64 ((stG l m (3 + 1)).1.getD 0 0)) → leC (List.range 1 ++ [1, 2, 3, 4, 5]) x1 (.sint .i64 ((stG l m (3 + 1)).1.getD 1 0)) → leC (List.range 1 ++ [1, 2, 3, 4, 5]) x2 (.sint .i64 ((stG l m (3 + 1)).1.getD 2 0)) → leC (List.range 1 ++ [1, 2, 3, 4, 5]) x3 (.sint .i64 ((stG l m (3 + 1)).1.getD 3 0)) → leC (List.range 1 ++ [1, 2, 3, 4, 5]) x4 (.sint .i64 ((stG l m (3 + 1)).1.getD 4 0)) → leC (List.range 1 ++ [1, 2, 3, 4, 5]) xq (.sint .i64 (stG l m (3 + 1)).2.1) → leC (List.range 1 ++ [1, 2, 3, 4, 5]) xw (.sbool (stG l m (3 + 1)).2.2) →
   leBs (List.range 1 ++ [1, 2, 3, 4, 5]) [roH l, ⟨true, .exp [.slice 0 (.c 0) 1 (.s m) (.s d)]⟩, ⟨true, .exp zerL⟩, ⟨true, .exp [.sint .u8 (l.getD 0 0), x0, x1, x2, x3, x4, .int .i64 0, .nils]⟩, ⟨true, .exp [xq]⟩, ⟨true, .exp [xw]⟩] (InvG l m d (3 + 1) []).m := fun h0 h1 h2 h3 h4 hq hw =>
  ⟨⟨fun h => h, rfl, rfl⟩, ⟨fun h => h, ⟨rfl, rfl, rfl, rfl, Nat.le_refl _, hmd⟩, trivial⟩, ⟨fun h => h, zer_le⟩, ⟨fun h => h, ⟨rfl, rfl⟩, h0, h1, h2, h3, h4, ⟨rfl, rfl⟩, trivial, trivial⟩, ⟨fun h => h, hq, trivial⟩, ⟨fun h => h, hw, trivial⟩, trivial⟩
 cases hc : hasC (letN (l.getD 0 0)) 110 with
 | false =>
  have hS := stG_no (m := m) (i := 3) hc
  have e : ∀ j, (stG l m (3 + 1)).1.getD j 0 = (stG l m 3).1.getD j 0 := fun j => by rw [hS]
  exact .round [false] [] _ _ [1, 2, 4, 5, 6, 7, 8, 33, 34] [1, 2, 3, 4, 5] _ _ _ (3 + 1) (appH gtS3 l m d ((stG l m 3).1.getD 0 0) ((stG l m 3).1.getD 1 0) ((stG l m 3).1.getD 2 0) ((stG l m 3).1.getD 3 0) ((stG l m 3).1.getD 4 0) (stG l m 3).2.1 (stG l m 3).2.2) ⟨hc, lm, cm, trivial⟩ ⟨nd6G, slots, mem ⟨rfl, (e 0).symm⟩ ⟨rfl, (e 1).symm⟩ ⟨rfl, (e 2).symm⟩ ⟨rfl, (e 3).symm⟩ ⟨rfl, (e 4).symm⟩ ⟨rfl, by rw [hS]⟩ (by show _ = _; rw [hS])⟩ hg (by decide)
 | true =>
  by_cases hbad : (stG l m 3).2.2 = true ∨ (By.getU l m (stG l m 3).2.1).2.2 ≠ 0 ∨ 1099511627776 < (By.getU l m (stG l m 3).2.1).1
  ·have hS := stG_yes (m := m) (i := 3) hc (rdI_bad (most := fMax 3) hbad)
   have e : ∀ j, (stG l m (3 + 1)).1.getD j 0 = if j = 3 then 0 else (stG l m 3).1.getD j 0 := fun j => by rw [hS]; exact setG L5 (by decide)
   have eq : (stG l m (3 + 1)).2.1 = (stG l m 3).2.1 := by rw [hS]
   have ew : (stG l m (3 + 1)).2.2 = true := by rw [hS]
   cases hw : (stG l m 3).2.2 with
   | true =>
    exact .round [true, true] [] _ _ [1, 2, 4, 5, 6, 7, 8, 33, 34] [1, 2, 3, 4, 5] _ _ _ (3 + 1) (appH gtB3 l m d ((stG l m 3).1.getD 0 0) ((stG l m 3).1.getD 1 0) ((stG l m 3).1.getD 2 0) ((stG l m 3).1.getD 3 0) ((stG l m 3).1.getD 4 0) (stG l m 3).2.1 (stG l m 3).2.2) ⟨hw, hm, hm2, hl, hc, lm, cm, trivial⟩ ⟨nd6G, slots, mem ⟨rfl, (e 0).symm⟩ ⟨rfl, (e 1).symm⟩ ⟨rfl, (e 2).symm⟩ ⟨rfl, (e 3).symm⟩ ⟨rfl, (e 4).symm⟩ ⟨rfl, eq.symm⟩ ew.symm⟩ hg (by decide)
   | false =>
    by_cases he : (By.getU l m (stG l m 3).2.1).2.2 = 0
    ·have ho : 1099511627776 < (By.getU l m (stG l m 3).2.1).1 := by
      rcases hbad with h | h | h
      ·rw [hw] at h; cases h
      ·exact absurd he h
      ·exact h
     exact .round [true, false, false, true] [] _ _ [1, 2, 4, 5, 6, 7, 8, 33, 34] [1, 2, 3, 4, 5] _ _ _ (3 + 1) (appH gtD3 l m d ((stG l m 3).1.getD 0 0) ((stG l m 3).1.getD 1 0) ((stG l m 3).1.getD 2 0) ((stG l m 3).1.getD 3 0) ((stG l m 3).1.getD 4 0) (stG l m 3).2.1 (stG l m 3).2.2) ⟨decide_eq_true ho, notT (decide_eq_true he), hw, hm, hm2, hl, hc, lm, cm, trivial⟩ ⟨nd6G, slots, mem ⟨rfl, (e 0).symm⟩ ⟨rfl, (e 1).symm⟩ ⟨rfl, (e 2).symm⟩ ⟨rfl, (e 3).symm⟩ ⟨rfl, (e 4).symm⟩ ⟨rfl, eq.symm⟩ (by rw [ew]; exact decide_eq_true ho)⟩ hg (by decide)
    ·exact .round [true, false, true] [] _ _ [1, 2, 4, 5, 6, 7, 8, 33, 34] [1, 2, 3, 4, 5] _ _ _ (3 + 1) (appH gtC3 l m d ((stG l m 3).1.getD 0 0) ((stG l m 3).1.getD 1 0) ((stG l m 3).1.getD 2 0) ((stG l m 3).1.getD 3 0) ((stG l m 3).1.getD 4 0) (stG l m 3).2.1 (stG l m 3).2.2) ⟨notF (decide_eq_false he), hw, hm, hm2, hl, hc, lm, cm, trivial⟩ ⟨nd6G, slots, mem ⟨rfl, (e 0).symm⟩ ⟨rfl, (e 1).symm⟩ ⟨rfl, (e 2).symm⟩ ⟨rfl, (e 3).symm⟩ ⟨rfl, (e 4).symm⟩ ⟨rfl, eq.symm⟩ ew.symm⟩ hg (by decide)
  ·have hw : (stG l m 3).2.2 = false := by
    cases hw : (stG l m 3).2.2 with
    | false => rfl
    | true => exact absurd (.inl hw) hbad
   have he : (By.getU l m (stG l m 3).2.1).2.2 = 0 := Classical.byContradiction fun h => hbad (.inr (.inl h))
   have ho : ¬ 1099511627776 < (By.getU l m (stG l m 3).2.1).1 := fun h => hbad (.inr (.inr h))
   have hS := stG_yes (m := m) (i := 3) hc (rdI_ok (most := fMax 3) hw he ho)
   have ev : IntKind.wrap .i64 (By.getU l m (stG l m 3).2.1).1 = (By.getU l m (stG l m 3).2.1).1 := By.wi64 (by omega) (by omega)
   have e : ∀ j, (stG l m (3 + 1)).1.getD j 0 = if j = 3 then (By.getU l m (stG l m 3).2.1).1 else (stG l m 3).1.getD j 0 := fun j => by rw [hS]; exact setG L5 (by decide)
   have eq : (stG l m (3 + 1)).2.1 = (By.getU l m (stG l m 3).2.1).2.1 := by rw [hS]
   have ew : (stG l m (3 + 1)).2.2 = false := by rw [hS]
   exact .round [true, false, false, false] [] _ _ [1, 2, 4, 5, 6, 7, 8, 33, 34] [1, 2, 3, 4, 5] _ _ _ (3 + 1) (appH gtO3 l m d ((stG l m 3).1.getD 0 0) ((stG l m 3).1.getD 1 0) ((stG l m 3).1.getD 2 0) ((stG l m 3).1.getD 3 0) ((stG l m 3).1.getD 4 0) (stG l m 3).2.1 (stG l m 3).2.2) ⟨decide_eq_false ho, notT (decide_eq_true he), hw, hm, hm2, hl, hc, lm, cm, trivial⟩ ⟨nd6G, slots, mem ⟨rfl, (e 0).symm⟩ ⟨rfl, (e 1).symm⟩ ⟨rfl, (e 2).symm⟩ ⟨rfl, ev.trans (e 3).symm⟩ ⟨rfl, (e 4).symm⟩ ⟨rfl, eq.symm⟩ (by rw [ew]; exact decide_eq_false ho)⟩ hg (by decide)
theorem gt_step4 {R : Ending → World → Prop} {good : Nat → Prop} (hg : good (4 + 1)) (hl : u8L l) (hm : m ≤ l.length) (hm2 : m ≤ 1000000000) (hmd : m ≤ d) : Step3 Try.prog 10 (callGt By.getU By.getB 6) effGt (fnP 10) GL.1 GL.2 [] [e0] K W R (InvG l m d) good (fun j => 5 - j) 4 := by
 have cm := chr_mem (c := 98) (by decide)
 have lm := letN_mem (l.getD 0 0)
 have L5 := stG_len l m 4
 have rng := By.getU_range hl m (stG l m 4).2.1
 have slots : leSlots (List.range 1 ++ [1, 2, 3, 4, 5]) (TGt l m d 0 0 0 0 0 0 false (4 + 1) []).sl (InvG l m d (4 + 1) []).sl :=
  ⟨⟨rfl, rfl, rfl, rfl, rfl⟩, ⟨rfl, rfl, rfl, rfl, rfl⟩, ⟨rfl, rfl, rfl, rfl, rfl⟩, ⟨rfl, rfl⟩, ⟨rfl, rfl, rfl, rfl, rfl⟩, ⟨rfl, rfl, rfl, rfl, rfl⟩, ⟨rfl, rfl, rfl⟩, ⟨rfl, arrG_le⟩, ⟨rfl, rfl, rfl⟩, trivial⟩
 have mem : ∀ {x0 x1 x2 x3 x4 xq xw : C}, leC (List.range 1 ++ [1, 2, 3, 4, 5]) x0 (.sint .i64 ((stG l m (4 + 1)).1.getD 0 0)) → leC (List.range 1 ++ [1, 2, 3, 4, 5]) x1 (.sint .i64 ((stG l m (4 + 1)).1.getD 1 0)) → leC (List.range 1 ++ [1, 2, 3, 4, 5]) x2 (.sint .i64 ((stG l m (4 + 1)).1.getD 2 0)) → leC (List.range 1 ++ [1, 2, 3, 4, 5]) x3 (.sint .i64 ((stG l m (4 + 1)).1.getD 3 0)) → leC (List.range 1 ++ [1, 2, 3, 4, 5]) x4 (.sint .i64 ((stG l m (4 + 1)).1.getD 4 0)) → leC (List.range 1 ++ [1, 2, 3, 4, 5]) xq (.sint .i64 (stG l m (4 + 1)).2.1) → leC (List.range 1 ++ [1, 2, 3, 4, 5]) xw (.sbool (stG l m (4 + 1)).2.2) →
   leBs (List.range 1 ++ [1, 2, 3, 4, 5]) [roH l, ⟨true, .exp [.slice 0 (.c 0) 1 (.s m) (.s d)]⟩, ⟨true, .exp zerL⟩, ⟨true, .exp [.sint .u8 (l.getD 0 0), x0, x1, x2, x3, x4, .int .i64 0, .nils]⟩, ⟨true, .exp [xq]⟩, ⟨true, .exp [xw]⟩] (InvG l m d (4 + 1) []).m := fun h0 h1 h2 h3 h4 hq hw =>
  ⟨⟨fun h => h, rfl, rfl⟩, ⟨fun h => h, ⟨rfl, rfl, rfl, rfl, Nat.le_refl _, hmd⟩, trivial⟩, ⟨fun h => h, zer_le⟩, ⟨fun h => h, ⟨rfl, rfl⟩, h0, h1, h2, h3, h4, ⟨rfl, rfl⟩, trivial, trivial⟩, ⟨fun h => h, hq, trivial⟩, ⟨fun h => h, hw, trivial⟩, trivial⟩
 cases hc : hasC (letN (l.getD 0 0)) 98 with
 | false =>
  have hS := stG_no (m := m) (i := 4) hc
  have e : ∀ j, (stG l m (4 + 1)).1.getD j 0 = (stG l m 4).1.getD j 0 := fun j => by rw [hS]
  exact .round [false] [] _ _ [1, 2, 4, 5, 6, 7, 8, 33, 34] [1, 2, 3, 4, 5] _ _ _ (4 + 1) (appH gtS4 l m d ((stG l m 4).1.getD 0 0) ((stG l m 4).1.getD 1 0) ((stG l m 4).1.getD 2 0) ((stG l m 4).1.getD 3 0) ((stG l m 4).1.getD 4 0) (stG l m 4).2.1 (stG l m 4).2.2) ⟨hc, lm, cm, trivial⟩ ⟨nd6G, slots, mem ⟨rfl, (e 0).symm⟩ ⟨rfl, (e 1).symm⟩ ⟨rfl, (e 2).symm⟩ ⟨rfl, (e 3).symm⟩ ⟨rfl, (e 4).symm⟩ ⟨rfl, by rw [hS]⟩ (by show _ = _; rw [hS])⟩ hg (by decide)
 | true =>
  by_cases hbad : (stG l m 4).2.2 = true ∨ (By.getU l m (stG l m 4).2.1).2.2 ≠ 0 ∨ 1099511627776 < (By.getU l m (stG l m 4).2.1).1
  ·have hS := stG_yes (m := m) (i := 4) hc (rdI_bad (most := fMax 4) hbad)
   have e : ∀ j, (stG l m (4 + 1)).1.getD j 0 = if j = 4 then 0 else (stG l m 4).1.getD j 0 := fun j => by rw [hS]; exact setG L5 (by decide)
   have eq : (stG l m (4 + 1)).2.1 = (stG l m 4).2.1 := by rw [hS]
   have ew : (stG l m (4 + 1)).2.2 = true := by rw [hS]
   cases hw : (stG l m 4).2.2 with
   | true =>
    exact .round [true, true] [] _ _ [1, 2, 4, 5, 6, 7, 8, 33, 34] [1, 2, 3, 4, 5] _ _ _ (4 + 1) (appH gtB4 l m d ((stG l m 4).1.getD 0 0) ((stG l m 4).1.getD 1 0) ((stG l m 4).1.getD 2 0) ((stG l m 4).1.getD 3 0) ((stG l m 4).1.getD 4 0) (stG l m 4).2.1 (stG l m 4).2.2) ⟨hw, hm, hm2, hl, hc, lm, cm, trivial⟩ ⟨nd6G, slots, mem ⟨rfl, (e 0).symm⟩ ⟨rfl, (e 1).symm⟩ ⟨rfl, (e 2).symm⟩ ⟨rfl, (e 3).symm⟩ ⟨rfl, (e 4).symm⟩ ⟨rfl, eq.symm⟩ ew.symm⟩ hg (by decide)
   | false =>
    by_cases he : (By.getU l m (stG l m 4).2.1).2.2 = 0
    ·have ho : 1099511627776 < (By.getU l m (stG l m 4).2.1).1 := by
      rcases hbad with h | h | h
      ·rw [hw] at h; cases h
      ·exact absurd he h
      ·exact h
     exact .round [true, false, false, true] [] _ _ [1, 2, 4, 5, 6, 7, 8, 33, 34] [1, 2, 3, 4, 5] _ _ _ (4 + 1) (appH gtD4 l m d ((stG l m 4).1.getD 0 0) ((stG l m 4).1.getD 1 0) ((stG l m 4).1.getD 2 0) ((stG l m 4).1.getD 3 0) ((stG l m 4).1.getD 4 0) (stG l m 4).2.1 (stG l m 4).2.2) ⟨decide_eq_true ho, notT (decide_eq_true he), hw, hm, hm2, hl, hc, lm, cm, trivial⟩ ⟨nd6G, slots, mem ⟨rfl, (e 0).symm⟩ ⟨rfl, (e 1).symm⟩ ⟨rfl, (e 2).symm⟩ ⟨rfl, (e 3).symm⟩ ⟨rfl, (e 4).symm⟩ ⟨rfl, eq.symm⟩ (by rw [ew]; exact decide_eq_true ho)⟩ hg (by decide)
    ·exact .round [true, false, true] [] _ _ [1, 2, 4, 5, 6, 7, 8, 33, 34] [1, 2, 3, 4, 5] _ _ _ (4 + 1) (appH gtC4 l m d ((stG l m 4).1.getD 0 0) ((stG l m 4).1.getD 1 0) ((stG l m 4).1.getD 2 0) ((stG l m 4).1.getD 3 0) ((stG l m 4).1.getD 4 0) (stG l m 4).2.1 (stG l m 4).2.2) ⟨notF (decide_eq_false he), hw, hm, hm2, hl, hc, lm, cm, trivial⟩ ⟨nd6G, slots, mem ⟨rfl, (e 0).symm⟩ ⟨rfl, (e 1).symm⟩ ⟨rfl, (e 2).symm⟩ ⟨rfl, (e 3).symm⟩ ⟨rfl, (e 4).symm⟩ ⟨rfl, eq.symm⟩ ew.symm⟩ hg (by decide)
  ·have hw : (stG l m 4).2.2 = false := by
    cases hw : (stG l m 4).2.2 with
    | false => rfl
    | true => exact absurd (.inl hw) hbad
   have he : (By.getU l m (stG l m 4).2.1).2.2 = 0 := Classical.byContradiction fun h => hbad (.inr (.inl h))
   have ho : ¬ 1099511627776 < (By.getU l m (stG l m 4).2.1).1 := fun h => hbad (.inr (.inr h))
   have hS := stG_yes (m := m) (i := 4) hc (rdI_ok (most := fMax 4) hw he ho)
   have ev : IntKind.wrap .i64 (By.getU l m (stG l m 4).2.1).1 = (By.getU l m (stG l m 4).2.1).1 := By.wi64 (by omega) (by omega)
   have e : ∀ j, (stG l m (4 + 1)).1.getD j 0 = if j = 4 then (By.getU l m (stG l m 4).2.1).1 else (stG l m 4).1.getD j 0 := fun j => by rw [hS]; exact setG L5 (by decide)
   have eq : (stG l m (4 + 1)).2.1 = (By.getU l m (stG l m 4).2.1).2.1 := by rw [hS]
   have ew : (stG l m (4 + 1)).2.2 = false := by rw [hS]
   exact .round [true, false, false, false] [] _ _ [1, 2, 4, 5, 6, 7, 8, 33, 34] [1, 2, 3, 4, 5] _ _ _ (4 + 1) (appH gtO4 l m d ((stG l m 4).1.getD 0 0) ((stG l m 4).1.getD 1 0) ((stG l m 4).1.getD 2 0) ((stG l m 4).1.getD 3 0) ((stG l m 4).1.getD 4 0) (stG l m 4).2.1 (stG l m 4).2.2) ⟨decide_eq_false ho, notT (decide_eq_true he), hw, hm, hm2, hl, hc, lm, cm, trivial⟩ ⟨nd6G, slots, mem ⟨rfl, (e 0).symm⟩ ⟨rfl, (e 1).symm⟩ ⟨rfl, (e 2).symm⟩ ⟨rfl, (e 3).symm⟩ ⟨rfl, ev.trans (e 4).symm⟩ ⟨rfl, eq.symm⟩ (by rw [ew]; exact decide_eq_false ho)⟩ hg (by decide)
end
end
section
open Go.ChangeShapes Go.WideShapes Go.ChangeAt Go.RowKit Go.Sx
structure Got where
 k : Int
 v : List Int
 r : Int
 blob : List Int
 e : Int
def gotX : Got := ⟨0, [0, 0, 0, 0, 0], 0, [], 132⟩
def endS (l : List Int) (m : Nat) (v : List Int) (q : Int) (w : Bool) : Got :=
 if hasC (letN (l.getD 0 0)) 114 = true then
  (if (rdI l m 255 q w).2.2 = true ∨ (rdI l m 255 q w).2.1 ≠ (m : Int) then gotX else ⟨l.getD 0 0, v, (rdI l m 255 q w).1, [], 0⟩)
 else if hasC (letN (l.getD 0 0)) 120 = true then
  (if w = true ∨ (By.getB l m q 1048576).2.2 ≠ 0 ∨ (By.getB l m q 1048576).2.1 ≠ (m : Int) then gotX else ⟨l.getD 0 0, v, 0, (By.getB l m q 1048576).1, 0⟩)
 else if w = true ∨ q ≠ (m : Int) then gotX else ⟨l.getD 0 0, v, 0, [], 0⟩
def getS (l : List Int) (m : Nat) : Got := if m = 0 ∨ letN (l.getD 0 0) = [] then gotX else endS l m (stG l m 5).1 (stG l m 5).2.1 (stG l m 5).2.2
def headL (g : Got) : List C := [.sint .u8 g.k, .sint .i64 (g.v.getD 0 0), .sint .i64 (g.v.getD 1 0), .sint .i64 (g.v.getD 2 0), .sint .i64 (g.v.getD 3 0), .sint .i64 (g.v.getD 4 0), .sint .i64 g.r]
def gotN (g : Got) : V := .tup [.agg (headL g ++ [.nils]), .one (.sint .i64 g.e)]
def gotV (g : Got) : V := .tup [.agg (headL g ++ [.slice 1 (.c 0) 1 (.s g.blob.length) (.s g.blob.length)]), .one (.sint .i64 g.e)]
theorem let_apart (k : Int) (h : hasC (letN k) 114 = true) : hasC (letN k) 120 = false := by
 have hk := letN_in k
 revert h
 generalize letN k = x at hk ⊢
 revert hk
 have : ∀ x ∈ strsH, hasC x 114 = true → hasC x 120 = false := by decide
 exact this x
theorem getB_len (l : List Int) (n : Nat) (a m : Int) : ((By.getB l n a m).1.length : Int) ≤ max m 0 := by
 unfold By.getB
 split
 ·exact Int.le_max_right _ _
 split
 ·exact Int.le_max_right _ _
 split
 ·exact Int.le_max_right _ _
 ·rename_i h _
  have : ((l.drop (By.getU l n a).2.1.toNat).take (By.getU l n a).1.toNat).length ≤ (By.getU l n a).1.toNat := by rw [List.length_take]; omega
  show ((((l.drop (By.getU l n a).2.1.toNat).take (By.getU l n a).1.toNat).length : Nat) : Int) ≤ _
  omega
theorem ghost_txt {f : FuncId} {args : List V} {l : List Int} {g : Got} (h0 : g.blob = []) (h : Works Try.prog f args [roH l] (gotN g) [roH l]) : Works Try.prog f args [roH l] (gotV g) [roH l, oB g.blob] := by
 rw [h0]
 intro ρ K w us hm hu
 refine (h ρ K w us hm hu).mono fun en w' ⟨u, ρ', he, hv, hm'⟩ => ?_
 have hg := hm'.beside (ghost_rel w' (.ints .u8 []) (fun ρ g i r h => by simp at h) rfl) rfl
 have hl := hm'.len
 refine ⟨u, ρ' ++ [⟨0, 0, 0⟩], he, ?_, ?_⟩
 ·obtain ⟨vs, hv1, v1, s1, rfl, ⟨cs, rfl, hc, h1⟩, v2, s2, rfl, ⟨h3, h3'⟩, h5⟩ := hv
  obtain ⟨u0, t0, rfl, r0, u1, t1, rfl, r1, u2, t2, rfl, r2, u3, t3, rfl, r3, u4, t4, rfl, r4, u5, t5, rfl, r5, u6, t6, rfl, r6, u7, t7, rfl, r7, r8⟩ := hc
  refine ⟨_, hv1, _, _, rfl, ⟨_, rfl, ⟨u0, _, rfl, r0, u1, _, rfl, r1, u2, _, rfl, r2, u3, _, rfl, r3, u4, _, rfl, r4, u5, _, rfl, r5, u6, _, rfl, r6, u7, _, rfl, ?_, r8⟩, h1⟩, v2, _, rfl, ⟨h3, h3'⟩, h5⟩
  simp only [C.rel] at r7
  refine ⟨⟨0, 0, 0⟩, ?_, .inl ⟨by rw [h0]; rfl, by rw [h0]; rfl, r7⟩⟩
  rw [← List.append_assoc, List.getElem?_append_right (by rw [hl]; simp)]
  rw [hl]; rfl
 ·rw [← List.append_assoc]; exact hg
section
variable {e0 : E} {K : Nat → Prop} {W : World} {l : List Int} {m d : Nat}
theorem gt_entry {R : Ending → World → Prop} (hl : u8L l) (hm : m ≤ l.length) (hm2 : m ≤ 1000000000) (hmd : m ≤ d) (h0 : m ≠ 0) (h1 : letN (l.getD 0 0) ≠ [])
  (hg : ∀ ρ' a w, RelD [] ([e0] ++ ρ') K W (fnP 10).ntmps (InvG l m d 5 []) a w → Goes Try.prog 10 R (.code GL.1 :: .inLoop GL.1 :: GL.2) a w)
  {a : Act} {w : World} (hr : RelD [] ([e0] ++ []) K W (fnP 10).ntmps ⟨argSlots 0 [bl0 0 m d], [roH l], [], []⟩ a w) : Goes Try.prog 10 R [.code (bodyF 10)] a w := by
 have b0 := u8L_get hl 0
 have f1 : (letN (l.getD 0 0) == Array.toList (ByteArray.data { data := #[] })) = false := by rw [strE]; exact decide_eq_false h1
 refine goes_stop (ρ0 := [e0]) (r := [1, 2, 3, 4, 5]) (k' := EGL) (T := InvG l m d 0 []) (callGt_ok 6) funGt (appG gtE0 l m d) ⟨b0, by omega, by omega, f1, b0, by omega, by omega, decide_eq_false (by omega), trivial⟩ ⟨nd6G, ?_, ?_⟩ (fun ρ2 a2 w2 h2 => ?_) (hr.hints (S' := ⟨argSlots 0 [bl0 0 m d], [roH l], [false, false], []⟩) rfl rfl)
 ·exact ⟨⟨rfl, rfl, rfl, rfl, rfl⟩, ⟨rfl, rfl, rfl, rfl, rfl⟩, ⟨rfl, rfl, rfl, rfl, rfl⟩, ⟨rfl, rfl⟩, ⟨rfl, rfl, rfl, rfl, rfl⟩, ⟨rfl, rfl, rfl, rfl, rfl⟩, ⟨rfl, rfl, rfl⟩, ⟨rfl, arrG_le⟩, ⟨rfl, rfl, rfl⟩, trivial⟩
 ·exact ⟨⟨fun h => h, rfl, rfl⟩, ⟨fun h => h, ⟨rfl, rfl, rfl, rfl, Nat.le_refl _, hmd⟩, trivial⟩, ⟨fun h => h, zer_le⟩, ⟨fun h => h, ⟨rfl, rfl⟩, ⟨rfl, rfl⟩, ⟨rfl, rfl⟩, ⟨rfl, rfl⟩, ⟨rfl, rfl⟩, ⟨rfl, rfl⟩, ⟨rfl, rfl⟩, trivial, trivial⟩, ⟨fun h => h, ⟨rfl, rfl⟩, trivial⟩, ⟨fun h => h, rfl, trivial⟩, trivial⟩
 refine loop3_goes (ρ := [e0]) (I := Nat) (eff := effGt) (Inv := InvG l m d) (good := fun j => j ≤ 5) (μ := fun j => 5 - j) (callGt_ok 6) funGt (fun _ _ => ⟨rfl, rfl⟩) ?_ (i := 0) (Nat.zero_le _) h2
 intro i hi
 match i, hi with
 | 0, _ => exact gt_step0 (by decide) hl hm hm2 hmd
 | 1, _ => exact gt_step1 (by decide) hl hm hm2 hmd
 | 2, _ => exact gt_step2 (by decide) hl hm hm2 hmd
 | 3, _ => exact gt_step3 (by decide) hl hm hm2 hmd
 | 4, _ => exact gt_step4 (by decide) hl hm hm2 hmd
 | 5, _ => exact .any hg
theorem zer_tup {g : Got} (h : g = gotX) : leV (List.range 1 ++ ([] : List Nat)) (.tup [.agg zerL, .one (.int .i64 132)]) (gotN g) := by
 subst h
 exact ⟨⟨⟨rfl, rfl⟩, ⟨rfl, rfl⟩, ⟨rfl, rfl⟩, ⟨rfl, rfl⟩, ⟨rfl, rfl⟩, ⟨rfl, rfl⟩, ⟨rfl, rfl⟩, trivial, trivial⟩, ⟨rfl, rfl⟩, trivial⟩
theorem gt_end (hl : u8L l) (hm : m ≤ l.length) (hm2 : m ≤ 1000000000) {v : List Int} {q : Int} {w0 : Bool} (hs : stG l m 5 = (v, q, w0)) :
  ∀ ρ' a w, RelD [] ([e0] ++ ρ') K W (fnP 10).ntmps (InvG l m d 5 []) a w → (hasC (letN (l.getD 0 0)) 114 = true ∨ hasC (letN (l.getD 0 0)) 120 = false ∨ endS l m v q w0 = gotX) → Goes Try.prog 10 (RetW [e0] K W (gotN (endS l m v q w0)) [roH l]) (.code GL.1 :: .inLoop GL.1 :: GL.2) a w := fun ρ' a w hrel hx => by
 have cx := chr_mem (c := 120) (by decide)
 have cr := chr_mem (c := 114) (by decide)
 have lm := letN_mem (l.getD 0 0)
 have rng := By.getU_range hl m q
 have hI : ∀ h, InvG l m d 5 h = TGt l m d (v.getD 0 0) (v.getD 1 0) (v.getD 2 0) (v.getD 3 0) (v.getD 4 0) q w0 5 h := fun h => by unfold InvG; rw [hs]
 have hint : ∀ h : List Bool, RelD [] ([e0] ++ ρ') K W (fnP 10).ntmps (TGt l m d (v.getD 0 0) (v.getD 1 0) (v.getD 2 0) (v.getD 3 0) (v.getD 4 0) q w0 5 h) a w := fun h => hrel.hints (by rw [hI]; rfl) (by rw [hI]; rfl)
 have lb : leBs (List.range 1 ++ ([] : List Nat)) [roH l] [roH l] := ⟨⟨fun h => h, rfl, rfl⟩, trivial⟩
 have tt : ∀ {b : Bool}, b = true → (!b) = false := fun h => notT h
 have i6 : By.i64 1048576 := by unfold By.i64; omega
 cases h1 : hasC (letN (l.getD 0 0)) 114 with
 | true =>
  have h2 := let_apart _ h1
  have hE : endS l m v q w0 = if (rdI l m 255 q w0).2.2 = true ∨ (rdI l m 255 q w0).2.1 ≠ (m : Int) then gotX else ⟨l.getD 0 0, v, (rdI l m 255 q w0).1, [], 0⟩ := by unfold endS; rw [if_pos h1]
  by_cases hbad : w0 = true ∨ (By.getU l m q).2.2 ≠ 0 ∨ 255 < (By.getU l m q).1
  ·have hg : endS l m v q w0 = gotX := by rw [hE, rdI_bad hbad, if_pos (.inl rfl)]
   cases hw : w0 with
   | true =>
    rw [hw] at hint hg
    exact goes_retW (ρ := [e0]) (r := []) (callGt_ok 6) funGt (appH gtY0 l m d (v.getD 0 0) (v.getD 1 0) (v.getD 2 0) (v.getD 3 0) (v.getD 4 0) q true) ⟨h2, lm, cx, rfl, hm, hm2, hl, h1, lm, cr, trivial⟩ nd0G (zer_tup hg) lb (hint [true, true, false])
   | false =>
    rw [hw] at hint hg hbad
    by_cases he : (By.getU l m q).2.2 = 0
    ·have ho : 255 < (By.getU l m q).1 := by
      rcases hbad with h | h | h
      ·cases h
      ·exact absurd he h
      ·exact h
     exact goes_retW (ρ := [e0]) (r := []) (callGt_ok 6) funGt (appH gtY2 l m d (v.getD 0 0) (v.getD 1 0) (v.getD 2 0) (v.getD 3 0) (v.getD 4 0) q false) ⟨decide_eq_true ho, h2, lm, cx, decide_eq_true ho, tt (decide_eq_true he), rfl, hm, hm2, hl, h1, lm, cr, trivial⟩ nd0G (zer_tup hg) lb (hint [true, false, false, true, false, true])
    ·exact goes_retW (ρ := [e0]) (r := []) (callGt_ok 6) funGt (appH gtY1 l m d (v.getD 0 0) (v.getD 1 0) (v.getD 2 0) (v.getD 3 0) (v.getD 4 0) q false) ⟨h2, lm, cx, notF (decide_eq_false he), rfl, hm, hm2, hl, h1, lm, cr, trivial⟩ nd0G (zer_tup hg) lb (hint [true, false, true, false])
  ·have hw : w0 = false := by
    cases hw : w0 with
    | false => rfl
    | true => exact absurd (.inl hw) hbad
   have he : (By.getU l m q).2.2 = 0 := Classical.byContradiction fun h => hbad (.inr (.inl h))
   have ho : ¬ 255 < (By.getU l m q).1 := fun h => hbad (.inr (.inr h))
   have ev : IntKind.wrap .i64 (By.getU l m q).1 = (By.getU l m q).1 := By.wi64 (by omega) (by omega)
   subst hw
   rw [rdI_ok rfl he ho] at hE
   by_cases ha : (By.getU l m q).2.1 = (m : Int)
   ·have hg : endS l m v q false = ⟨l.getD 0 0, v, (By.getU l m q).1, [], 0⟩ := by
     rw [hE, if_neg]
     rintro (h | h)
     ·cases h
     ·exact h ha
    rw [hg]
    have qq := appH gtY4 l m d (v.getD 0 0) (v.getD 1 0) (v.getD 2 0) (v.getD 3 0) (v.getD 4 0) q false
    rw [ev] at qq
    exact goes_retW (ρ := [e0]) (r := []) (v := gotN ⟨l.getD 0 0, v, (By.getU l m q).1, [], 0⟩) (bs' := [roH l]) (callGt_ok 6) funGt qq ⟨tt (decide_eq_true ha), decide_eq_false ho, h2, lm, cx, decide_eq_false ho, tt (decide_eq_true he), rfl, hm, hm2, hl, h1, lm, cr, trivial⟩ nd0G ⟨⟨⟨rfl, rfl⟩, ⟨rfl, rfl⟩, ⟨rfl, rfl⟩, ⟨rfl, rfl⟩, ⟨rfl, rfl⟩, ⟨rfl, rfl⟩, ⟨rfl, rfl⟩, trivial, trivial⟩, ⟨rfl, rfl⟩, trivial⟩ lb (hint [true, false, false, false, false, false, false])
   ·have hg : endS l m v q false = gotX := by rw [hE, if_pos (.inr ha)]
    exact goes_retW (ρ := [e0]) (r := []) (callGt_ok 6) funGt (appH gtY3 l m d (v.getD 0 0) (v.getD 1 0) (v.getD 2 0) (v.getD 3 0) (v.getD 4 0) q false) ⟨notF (decide_eq_false ha), decide_eq_false ho, h2, lm, cx, decide_eq_false ho, tt (decide_eq_true he), rfl, hm, hm2, hl, h1, lm, cr, trivial⟩ nd0G (zer_tup hg) lb (hint [true, false, false, false, false, false, true])
 | false =>
  cases h2 : hasC (letN (l.getD 0 0)) 120 with
  | false =>
   have hE : endS l m v q w0 = if w0 = true ∨ q ≠ (m : Int) then gotX else ⟨l.getD 0 0, v, 0, [], 0⟩ := by unfold endS; rw [if_neg (by rw [h1]; decide), if_neg (by rw [h2]; decide)]
   cases hw : w0 with
   | true =>
    have hg : endS l m v q w0 = gotX := by rw [hE, if_pos (.inl hw)]
    rw [hw] at hint hg
    exact goes_retW (ρ := [e0]) (r := []) (callGt_ok 6) funGt (appH gtX0 l m d (v.getD 0 0) (v.getD 1 0) (v.getD 2 0) (v.getD 3 0) (v.getD 4 0) q true) ⟨rfl, h2, lm, cx, h1, lm, cr, trivial⟩ nd0G (zer_tup hg) lb (hint [false, false, true])
   | false =>
    subst hw
    by_cases ha : q = (m : Int)
    ·have hg : endS l m v q false = ⟨l.getD 0 0, v, 0, [], 0⟩ := by
      rw [hE, if_neg]
      rintro (h | h)
      ·cases h
      ·exact h ha
     rw [hg]
     exact goes_retW (ρ := [e0]) (r := []) (v := gotN ⟨l.getD 0 0, v, 0, [], 0⟩) (bs' := [roH l]) (callGt_ok 6) funGt (appH gtX2 l m d (v.getD 0 0) (v.getD 1 0) (v.getD 2 0) (v.getD 3 0) (v.getD 4 0) q false) ⟨tt (decide_eq_true ha), rfl, h2, lm, cx, h1, lm, cr, trivial⟩ nd0G ⟨⟨⟨rfl, rfl⟩, ⟨rfl, rfl⟩, ⟨rfl, rfl⟩, ⟨rfl, rfl⟩, ⟨rfl, rfl⟩, ⟨rfl, rfl⟩, ⟨rfl, rfl⟩, trivial, trivial⟩, ⟨rfl, rfl⟩, trivial⟩ lb (hint [false, false, false, false])
    ·have hg : endS l m v q false = gotX := by rw [hE, if_pos (.inr ha)]
     exact goes_retW (ρ := [e0]) (r := []) (callGt_ok 6) funGt (appH gtX1 l m d (v.getD 0 0) (v.getD 1 0) (v.getD 2 0) (v.getD 3 0) (v.getD 4 0) q false) ⟨notF (decide_eq_false ha), rfl, h2, lm, cx, h1, lm, cr, trivial⟩ nd0G (zer_tup hg) lb (hint [false, false, false, true])
  | true =>
   have hE : endS l m v q w0 = if w0 = true ∨ (By.getB l m q 1048576).2.2 ≠ 0 ∨ (By.getB l m q 1048576).2.1 ≠ (m : Int) then gotX else ⟨l.getD 0 0, v, 0, (By.getB l m q 1048576).1, 0⟩ := by unfold endS; rw [if_neg (by rw [h1]; decide), if_pos h2]
   have hg : endS l m v q w0 = gotX := by
    rcases hx with h | h | h
    ·rw [h1] at h; cases h
    ·rw [h2] at h; cases h
    ·exact h
   cases hw : w0 with
   | true =>
    rw [hw] at hint hg
    exact goes_retW (ρ := [e0]) (r := []) (callGt_ok 6) funGt (appH gtX4 l m d (v.getD 0 0) (v.getD 1 0) (v.getD 2 0) (v.getD 3 0) (v.getD 4 0) q true) ⟨rfl, rfl, h2, lm, cx, h1, lm, cr, trivial⟩ nd0G (zer_tup hg) lb (hint [false, true, false, true])
   | false =>
    subst hw
    have hx2 := getB_len l m q 1048576
    by_cases he : (By.getB l m q 1048576).2.2 = 0
    ·have ha : (By.getB l m q 1048576).2.1 ≠ (m : Int) := fun ha => by
      rw [hE, if_neg] at hg
      ·have := congrArg Got.e hg
       exact absurd this (by decide : ¬ ((0 : Int) = 132))
      ·rintro (h | h | h)
       ·cases h
       ·exact h he
       ·exact h ha
     exact goes_retW (ρ := [e0]) (r := []) (callGt_ok 6) funGt (appH gtX5 l m d (v.getD 0 0) (v.getD 1 0) (v.getD 2 0) (v.getD 3 0) (v.getD 4 0) q false) ⟨notF (decide_eq_false ha), tt (decide_eq_true he), by omega, by omega, hm, hm2, hl, i6, rfl, h2, lm, cx, h1, lm, cr, trivial⟩ nd0G (zer_tup hg) lb (hint [false, true, true, false, true])
    ·exact goes_retW (ρ := [e0]) (r := []) (callGt_ok 6) funGt (appH gtX3 l m d (v.getD 0 0) (v.getD 1 0) (v.getD 2 0) (v.getD 3 0) (v.getD 4 0) q false) ⟨notF (decide_eq_false he), by omega, by omega, hm, hm2, hl, i6, rfl, h2, lm, cx, h1, lm, cr, trivial⟩ nd0G (zer_tup hg) lb (hint [false, true, true, true])
theorem gt_blob (hl : u8L l) (hm : m ≤ l.length) (hm2 : m ≤ 1000000000) {v : List Int} {q : Int} (hs : stG l m 5 = (v, q, false)) (h1 : hasC (letN (l.getD 0 0)) 114 = false) (h2 : hasC (letN (l.getD 0 0)) 120 = true) (he : (By.getB l m q 1048576).2.2 = 0) (ha : (By.getB l m q 1048576).2.1 = (m : Int)) :
  ∀ ρ' a w, RelD [] ([e0] ++ ρ') K W (fnP 10).ntmps (InvG l m d 5 []) a w → Goes Try.prog 10 (RetW [e0] K W (gotV ⟨l.getD 0 0, v, 0, (By.getB l m q 1048576).1, 0⟩) [roH l, oB (By.getB l m q 1048576).1]) (.code GL.1 :: .inLoop GL.1 :: GL.2) a w := fun ρ' a w hrel => by
 have cx := chr_mem (c := 120) (by decide)
 have cr := chr_mem (c := 114) (by decide)
 have lm := letN_mem (l.getD 0 0)
 have hI : ∀ h, InvG l m d 5 h = TGt l m d (v.getD 0 0) (v.getD 1 0) (v.getD 2 0) (v.getD 3 0) (v.getD 4 0) q false 5 h := fun h => by unfold InvG; rw [hs]
 have hx2 := getB_len l m q 1048576
 have i6 : By.i64 1048576 := by unfold By.i64; omega
 have qq := appH gtX6 l m d (v.getD 0 0) (v.getD 1 0) (v.getD 2 0) (v.getD 3 0) (v.getD 4 0) q false
 rw [List.drop_zero, List.take_length] at qq
 exact goes_retW (ρ := [e0]) (r := [7]) (v := gotV ⟨l.getD 0 0, v, 0, (By.getB l m q 1048576).1, 0⟩) (bs' := [roH l, oB (By.getB l m q 1048576).1]) (callGt_ok 6) funGt qq ⟨notT (decide_eq_true ha), notT (decide_eq_true he), by omega, by omega, hm, hm2, hl, i6, rfl, h2, lm, cx, h1, lm, cr, trivial⟩ nd7G
  ⟨⟨⟨rfl, rfl⟩, ⟨rfl, rfl⟩, ⟨rfl, rfl⟩, ⟨rfl, rfl⟩, ⟨rfl, rfl⟩, ⟨rfl, rfl⟩, ⟨rfl, rfl⟩, ⟨rfl, rfl, rfl, rfl, Nat.le_refl _, Nat.le_refl _⟩, trivial⟩, ⟨rfl, rfl⟩, trivial⟩ ⟨⟨fun h => h, rfl, rfl⟩, ⟨fun h => h, rfl, rfl⟩, trivial⟩ (hrel.hints (S' := TGt l m d (v.getD 0 0) (v.getD 1 0) (v.getD 2 0) (v.getD 3 0) (v.getD 4 0) q false 5 [false, true, true, false, false]) (by rw [hI]; rfl) (by rw [hI]; rfl))
end
theorem get_cap {m d : Nat} {ρ : Env} {us : List Value} (hu : relVs ρ [bl0 0 m d] us) : m ≤ d := by
 obtain ⟨u, s1, rfl, ⟨⟨e, _, hu⟩, _⟩, _⟩ := hu
 rcases hu with ⟨h0, _⟩ | ⟨_, _, _, h1, _⟩
 ·simp only [N.v] at h0; omega
 ·exact h1
theorem get_works {l : List Int} {m d : Nat} (hl : u8L l) (hm : m ≤ l.length) (hm2 : m ≤ 1000000000) : Works Try.prog 10 [bl0 0 m d] [roH l] (gotV (getS l m)) [roH l, oB (getS l m).blob] := fun ρ K w us hmr hu => by
 have hmd := get_cap hu
 revert ρ K w us
 show Works _ _ _ _ _ _
 by_cases h0 : m = 0
 ·have hg : getS l m = gotX := if_pos (.inl h0)
  rw [hg]
  exact ghost_txt rfl (works_goes funGt bodGt (by exact tmpGt) (fun ρ K W a w hρ hr => by
   obtain ⟨e0, rfl⟩ := List.length_eq_one_iff.1 hρ
   exact goes_retW (ρ := [e0]) (r := []) (v := gotN gotX) (bs' := [roH l]) (callGt_ok 6) funGt (appG gtE1 l m d) ⟨decide_eq_true (by omega), trivial⟩ nd0G (zer_tup rfl) ⟨⟨fun h => h, rfl, rfl⟩, trivial⟩ (hr.hints (S' := ⟨argSlots 0 [bl0 0 m d], [roH l], [true], []⟩) rfl rfl)))
 by_cases h1 : letN (l.getD 0 0) = []
 ·have hg : getS l m = gotX := if_pos (.inr h1)
  rw [hg]
  have b0 := u8L_get hl 0
  exact ghost_txt rfl (works_goes funGt bodGt (by exact tmpGt) (fun ρ K W a w hρ hr => by
   obtain ⟨e0, rfl⟩ := List.length_eq_one_iff.1 hρ
   exact goes_retW (ρ := [e0]) (r := []) (v := gotN gotX) (bs' := [roH l]) (callGt_ok 6) funGt (appG gtE2 l m d) ⟨by rw [strE]; exact decide_eq_true h1, b0, by omega, by omega, decide_eq_false (by omega), trivial⟩ nd0G (zer_tup rfl) ⟨⟨fun h => h, rfl, rfl⟩, trivial⟩ (hr.hints (S' := ⟨argSlots 0 [bl0 0 m d], [roH l], [false, true], []⟩) rfl rfl)))
 obtain ⟨v, q, w0, hs⟩ : ∃ v q w, stG l m 5 = (v, q, w) := ⟨_, _, _, rfl⟩
 have hg : getS l m = endS l m v q w0 := by
  unfold getS
  rw [if_neg (by rintro (h | h); exact h0 h; exact h1 h), hs]
 rw [hg]
 by_cases hx : hasC (letN (l.getD 0 0)) 114 = true ∨ hasC (letN (l.getD 0 0)) 120 = false ∨ endS l m v q w0 = gotX
 ·refine ghost_txt ?_ (works_goes funGt bodGt (by exact tmpGt) (fun ρ K W a w hρ hr => by
   obtain ⟨e0, rfl⟩ := List.length_eq_one_iff.1 hρ
   exact gt_entry hl hm hm2 hmd h0 h1 (fun ρ' a w hr' => gt_end hl hm hm2 hs ρ' a w hr' hx) hr))
  unfold endS at hx ⊢
  split
  ·split <;> rfl
  ·rename_i n1
   split
   ·rename_i n2
    rcases hx with h | h | h
    ·exact absurd h n1
    ·rw [n2] at h; cases h
    ·rw [if_neg n1, if_pos n2] at h
     rw [h]; rfl
   ·split <;> rfl
 ·have n1 : hasC (letN (l.getD 0 0)) 114 = false := by
   cases h : hasC (letN (l.getD 0 0)) 114 with
   | false => rfl
   | true => exact absurd (.inl h) hx
  have n2 : hasC (letN (l.getD 0 0)) 120 = true := by
   cases h : hasC (letN (l.getD 0 0)) 120 with
   | true => rfl
   | false => exact absurd (.inr (.inl h)) hx
  have hE : endS l m v q w0 = if w0 = true ∨ (By.getB l m q 1048576).2.2 ≠ 0 ∨ (By.getB l m q 1048576).2.1 ≠ (m : Int) then gotX else ⟨l.getD 0 0, v, 0, (By.getB l m q 1048576).1, 0⟩ := by unfold endS; rw [if_neg (by rw [n1]; decide), if_pos n2]
  have hnb : ¬ (w0 = true ∨ (By.getB l m q 1048576).2.2 ≠ 0 ∨ (By.getB l m q 1048576).2.1 ≠ (m : Int)) := fun h => hx (.inr (.inr (by rw [hE, if_pos h])))
  have hw : w0 = false := by
   cases w0 with
   | false => rfl
   | true => exact absurd (.inl rfl) hnb
  subst hw
  have he : (By.getB l m q 1048576).2.2 = 0 := Classical.byContradiction fun h => hnb (.inr (.inl h))
  have ha : (By.getB l m q 1048576).2.1 = (m : Int) := Classical.byContradiction fun h => hnb (.inr (.inr h))
  rw [hE, if_neg hnb]
  exact works_goes funGt bodGt (by exact tmpGt) (fun ρ K W a w hρ hr => by
   obtain ⟨e0, rfl⟩ := List.length_eq_one_iff.1 hρ
   exact gt_entry hl hm hm2 hmd h0 h1 (gt_blob hl hm hm2 hs n1 n2 he ha) hr)
def gGt (ge : List Int → Nat → Got) : Sx.Loc := fun args bs => match args, bs with
 | [.v (.one (.slice 0 (.c 0) 1 m _))], [⟨false, .ints .u8 l⟩] => some (gotV (ge l m.v), [roH l, oB (ge l m.v).blob], [u8L l, m.v ≤ l.length, m.v ≤ 1000000000])
 | _, _ => none
theorem get_tab : TabOk Try.prog 10 (loc wantH (gGt getS)) := loc_ok fun xs bs v bs' ob hg hob hokb => by
 unfold gGt at hg
 split at hg
 ·rename_i m d l
  cases hg
  intro ρ K w us hm hu
  obtain ⟨u1, s1, rfl, k1, k2⟩ := hu
  exact get_works (hob (u8L l) (by simp)) (hob (m.v ≤ l.length) (by simp)) (hob (m.v ≤ 1000000000) (by simp)) ρ K w _ hm ⟨u1, _, rfl, bl0_rel k1, k2⟩
 ·cases hg
end
section
open Go.ChangeShapes Go.WideShapes Go.ChangeAt Go.RowKit Go.Sx
end
section
open Go.Sx
theorem be1 : (fun (l k : List Int) (n c m d : Nat) => retV [0, 1] (call0 4 12 [bl0 0 n c, bl0 1 m d] [roH l, roH k] [false, false])) = fun l k n _ m _ => some (.v (.one (.sbool (List.map (fun (n : Int) => UInt8.ofNat (Int.toNat n)) (List.take n (List.drop 0 l)) == List.map (fun (n : Int) => UInt8.ofNat (Int.toNat n)) (List.take m (List.drop 0 k))))), ([roH l, SB.mk false (.ints .u8 k)], [0 + m ≤ k.length, 0 + n ≤ l.length])) := by kernel_rfl
theorem be2 : (fun (l : List Int) (n c : Nat) => retV [0] (call0 4 12 [bl0 0 n c, .v (.one .nils)] [roH l] [false])) = fun l n _ => some (.v (.one (.sbool (List.map (fun (n : Int) => UInt8.ofNat (Int.toNat n)) (List.take n (List.drop 0 l)) == List.map (fun (n : Int) => UInt8.ofNat (Int.toNat n)) []))), ([roH l], [0 + n ≤ l.length])) := by kernel_rfl
def gBe : Sx.Loc := fun args bs => match args, bs with
 | [.v (.one (.slice 0 (.c 0) 1 n _)), .v (.one (.slice 1 (.c 0) 1 m _))], [⟨false, .ints .u8 l⟩, ⟨false, .ints .u8 k⟩] => some (.v (.one (.sbool (decide (l.take n.v = k.take m.v)))), [roH l, roH k], [n.v ≤ l.length, m.v ≤ k.length, u8L l, u8L k])
 | [.v (.one (.slice 0 (.c 0) 1 n _)), .v (.one .nils)], [⟨false, .ints .u8 l⟩] => some (.v (.one (.sbool (decide (l.take n.v = [])))), [roH l], [n.v ≤ l.length, u8L l])
 | _, _ => none
def wantE : List V → List Want
 | [_, .v (.one .nils)] => [(false, .ints .u8)]
 | _ => [(false, .ints .u8), (false, .ints .u8)]
def tabSa := tabs [(12, loc wantE gBe)]
def txtC (k e p s n b r : Int) (c : C) : V := .v (.agg [.sint .u8 k, .sint .i64 e, .sint .i64 p, .sint .i64 s, .sint .i64 n, .sint .i64 b, .sint .i64 r, c])
def slC (j m d : Nat) : C := .slice j (.c 0) 1 (.s m) (.s d)
noncomputable def saR (k e p s n b r : Int) (m d : Nat) (k' e' p' s' n' b' r' : Int) (m' d' : Nat) (l l' : List Int) (h : List Bool) := retV [0, 1] (callN Try.prog tabSa (fun _ => false) 100000 4 11 [txtC k e p s n b r (slC 0 m d), txtC k' e' p' s' n' b' r' (slC 1 m' d')] [roH l, roH l'] h)
noncomputable def sbR (k e p s n b r : Int) (m d : Nat) (k' e' p' s' n' b' r' : Int) (l : List Int) (h : List Bool) := retV [0] (callN Try.prog tabSa (fun _ => false) 100000 4 11 [txtC k e p s n b r (slC 0 m d), txtC k' e' p' s' n' b' r' .nils] [roH l] h)
theorem sa0 : (fun (k e p s n b r : Int) (m d : Nat) (k' e' p' s' n' b' r' : Int) (m' d' : Nat) (l l' : List Int) => saR k e p s n b r m d k' e' p' s' n' b' r' m' d' l l' [false]) = fun k _ _ _ _ _ _ _ _ k' e' p' s' n' b' r' m' d' l l' => some (.v (.one (.bool false)), ([roH l, SB.mk false (.ints .u8 l')], [decide (k = k') = false])) := by kernel_rfl
theorem sa1 : (fun (k e p s n b r : Int) (m d : Nat) (k' e' p' s' n' b' r' : Int) (m' d' : Nat) (l l' : List Int) => saR k e p s n b r m d k' e' p' s' n' b' r' m' d' l l' [true, false]) = fun k e _ _ _ _ _ _ _ k' e' p' s' n' b' r' m' d' l l' => some (.v (.one (.bool false)), ([roH l, SB.mk false (.ints .u8 l')], [decide (e = e') = false, decide (k = k') = true])) := by kernel_rfl
theorem sa2 : (fun (k e p s n b r : Int) (m d : Nat) (k' e' p' s' n' b' r' : Int) (m' d' : Nat) (l l' : List Int) => saR k e p s n b r m d k' e' p' s' n' b' r' m' d' l l' [true, true, false]) = fun k e p _ _ _ _ _ _ k' e' p' s' n' b' r' m' d' l l' => some (.v (.one (.bool false)), ([roH l, SB.mk false (.ints .u8 l')], [decide (p = p') = false, decide (e = e') = true, decide (k = k') = true])) := by kernel_rfl
theorem sa3 : (fun (k e p s n b r : Int) (m d : Nat) (k' e' p' s' n' b' r' : Int) (m' d' : Nat) (l l' : List Int) => saR k e p s n b r m d k' e' p' s' n' b' r' m' d' l l' [true, true, true, false]) = fun k e p s _ _ _ _ _ k' e' p' s' n' b' r' m' d' l l' => some (.v (.one (.bool false)), ([roH l, SB.mk false (.ints .u8 l')], [decide (s = s') = false, decide (p = p') = true, decide (e = e') = true, decide (k = k') = true])) := by kernel_rfl
theorem sa4 : (fun (k e p s n b r : Int) (m d : Nat) (k' e' p' s' n' b' r' : Int) (m' d' : Nat) (l l' : List Int) => saR k e p s n b r m d k' e' p' s' n' b' r' m' d' l l' [true, true, true, true, false]) = fun k e p s n _ _ _ _ k' e' p' s' n' b' r' m' d' l l' => some (.v (.one (.bool false)), ([roH l, SB.mk false (.ints .u8 l')], [decide (n = n') = false, decide (s = s') = true, decide (p = p') = true, decide (e = e') = true, decide (k = k') = true])) := by kernel_rfl
theorem sa5 : (fun (k e p s n b r : Int) (m d : Nat) (k' e' p' s' n' b' r' : Int) (m' d' : Nat) (l l' : List Int) => saR k e p s n b r m d k' e' p' s' n' b' r' m' d' l l' [true, true, true, true, true, false]) = fun k e p s n b _ _ _ k' e' p' s' n' b' r' m' d' l l' => some (.v (.one (.bool false)), ([roH l, SB.mk false (.ints .u8 l')], [decide (b = b') = false, decide (n = n') = true, decide (s = s') = true, decide (p = p') = true, decide (e = e') = true, decide (k = k') = true])) := by kernel_rfl
theorem sa6 : (fun (k e p s n b r : Int) (m d : Nat) (k' e' p' s' n' b' r' : Int) (m' d' : Nat) (l l' : List Int) => saR k e p s n b r m d k' e' p' s' n' b' r' m' d' l l' [true, true, true, true, true, true, false]) = fun k e p s n b r _ _ k' e' p' s' n' b' r' m' d' l l' => some (.v (.one (.bool false)), ([roH l, SB.mk false (.ints .u8 l')], [decide (r = r') = false, decide (b = b') = true, decide (n = n') = true, decide (s = s') = true, decide (p = p') = true, decide (e = e') = true, decide (k = k') = true])) := by kernel_rfl
theorem sa7 : (fun (k e p s n b r : Int) (m d : Nat) (k' e' p' s' n' b' r' : Int) (m' d' : Nat) (l l' : List Int) => saR k e p s n b r m d k' e' p' s' n' b' r' m' d' l l' [true, true, true, true, true, true, true]) = fun k e p s n b r m _ k' e' p' s' n' b' r' m' d' l l' => some (.v (.one (.sbool (decide (l.take m = List.take m' l')))), ([roH l, SB.mk false (.ints .u8 l')], [m ≤ l.length, m' ≤ l'.length, u8L l, u8L l', decide (r = r') = true, decide (b = b') = true, decide (n = n') = true, decide (s = s') = true, decide (p = p') = true, decide (e = e') = true, decide (k = k') = true])) := by kernel_rfl
theorem sb0 : (fun (k e p s n b r : Int) (m d : Nat) (k' e' p' s' n' b' r' : Int) (l : List Int) => sbR k e p s n b r m d k' e' p' s' n' b' r' l [false]) = fun k _ _ _ _ _ _ _ _ k' e' p' s' n' b' r' l => some (.v (.one (.bool false)), ([roH l], [decide (k = k') = false])) := by kernel_rfl
theorem sb1 : (fun (k e p s n b r : Int) (m d : Nat) (k' e' p' s' n' b' r' : Int) (l : List Int) => sbR k e p s n b r m d k' e' p' s' n' b' r' l [true, false]) = fun k e _ _ _ _ _ _ _ k' e' p' s' n' b' r' l => some (.v (.one (.bool false)), ([roH l], [decide (e = e') = false, decide (k = k') = true])) := by kernel_rfl
theorem sb2 : (fun (k e p s n b r : Int) (m d : Nat) (k' e' p' s' n' b' r' : Int) (l : List Int) => sbR k e p s n b r m d k' e' p' s' n' b' r' l [true, true, false]) = fun k e p _ _ _ _ _ _ k' e' p' s' n' b' r' l => some (.v (.one (.bool false)), ([roH l], [decide (p = p') = false, decide (e = e') = true, decide (k = k') = true])) := by kernel_rfl
theorem sb3 : (fun (k e p s n b r : Int) (m d : Nat) (k' e' p' s' n' b' r' : Int) (l : List Int) => sbR k e p s n b r m d k' e' p' s' n' b' r' l [true, true, true, false]) = fun k e p s _ _ _ _ _ k' e' p' s' n' b' r' l => some (.v (.one (.bool false)), ([roH l], [decide (s = s') = false, decide (p = p') = true, decide (e = e') = true, decide (k = k') = true])) := by kernel_rfl
theorem sb4 : (fun (k e p s n b r : Int) (m d : Nat) (k' e' p' s' n' b' r' : Int) (l : List Int) => sbR k e p s n b r m d k' e' p' s' n' b' r' l [true, true, true, true, false]) = fun k e p s n _ _ _ _ k' e' p' s' n' b' r' l => some (.v (.one (.bool false)), ([roH l], [decide (n = n') = false, decide (s = s') = true, decide (p = p') = true, decide (e = e') = true, decide (k = k') = true])) := by kernel_rfl
theorem sb5 : (fun (k e p s n b r : Int) (m d : Nat) (k' e' p' s' n' b' r' : Int) (l : List Int) => sbR k e p s n b r m d k' e' p' s' n' b' r' l [true, true, true, true, true, false]) = fun k e p s n b _ _ _ k' e' p' s' n' b' r' l => some (.v (.one (.bool false)), ([roH l], [decide (b = b') = false, decide (n = n') = true, decide (s = s') = true, decide (p = p') = true, decide (e = e') = true, decide (k = k') = true])) := by kernel_rfl
theorem sb6 : (fun (k e p s n b r : Int) (m d : Nat) (k' e' p' s' n' b' r' : Int) (l : List Int) => sbR k e p s n b r m d k' e' p' s' n' b' r' l [true, true, true, true, true, true, false]) = fun k e p s n b r _ _ k' e' p' s' n' b' r' l => some (.v (.one (.bool false)), ([roH l], [decide (r = r') = false, decide (b = b') = true, decide (n = n') = true, decide (s = s') = true, decide (p = p') = true, decide (e = e') = true, decide (k = k') = true])) := by kernel_rfl
theorem sb7 : (fun (k e p s n b r : Int) (m d : Nat) (k' e' p' s' n' b' r' : Int) (l : List Int) => sbR k e p s n b r m d k' e' p' s' n' b' r' l [true, true, true, true, true, true, true]) = fun k e p s n b r m _ k' e' p' s' n' b' r' l => some (.v (.one (.sbool (decide (l.take m = [])))), ([roH l], [m ≤ l.length, u8L l, decide (r = r') = true, decide (b = b') = true, decide (n = n') = true, decide (s = s') = true, decide (p = p') = true, decide (e = e') = true, decide (k = k') = true])) := by kernel_rfl
end
section
open Go.ChangeShapes Go.WideShapes Go.ChangeAt Go.RowKit Go.Sx
theorem u8L_take {l : List Int} (h : u8L l) (n : Nat) : u8L (l.take n) := fun x hx => h x (List.mem_of_mem_take hx)
theorem toB_inj : ∀ {a b : List Int}, u8L a → u8L b → List.map (fun (n : Int) => UInt8.ofNat (Int.toNat n)) a = List.map (fun (n : Int) => UInt8.ofNat (Int.toNat n)) b → a = b
 | [], [], _, _, _ => rfl
 | [], _ :: _, _, _, h => by cases h
 | _ :: _, [], _, _, h => by cases h
 | x :: a, y :: b, ha, hb, h => by
  injection h with h1 h2
  have hx := ha x (List.mem_cons_self ..)
  have hy := hb y (List.mem_cons_self ..)
  have h3 := congrArg UInt8.toNat h1
  rw [UInt8.toNat_ofNat', UInt8.toNat_ofNat', Nat.mod_eq_of_lt (by omega), Nat.mod_eq_of_lt (by omega)] at h3
  rw [show x = y by omega, toB_inj (fun z hz => ha z (List.mem_cons_of_mem _ hz)) (fun z hz => hb z (List.mem_cons_of_mem _ hz)) h2]
theorem beq_bytes {a b : List Int} (ha : u8L a) (hb : u8L b) : (List.map (fun (n : Int) => UInt8.ofNat (Int.toNat n)) a == List.map (fun (n : Int) => UInt8.ofNat (Int.toNat n)) b) = decide (a = b) := by
 by_cases h : a = b
 ·rw [decide_eq_true h, h]; exact beq_self_eq_true _
 ·rw [decide_eq_false h]; exact beq_eq_false_iff_ne.2 fun hh => h (toB_inj ha hb hh)
theorem ndS2 : (List.range 2 ++ ([] : List Nat)).Nodup := by decide
theorem ndS1 : (List.range 1 ++ ([] : List Nat)).Nodup := by decide
theorem be_two {l k : List Int} {n c m d : Nat} (h1 : n ≤ l.length) (h2 : m ≤ k.length) (h3 : u8L l) (h4 : u8L k) : Works Try.prog 12 [bl0 0 n c, bl0 1 m d] [roH l, roH k] (.v (.one (.sbool (decide (l.take n = k.take m))))) [roH l, roH k] := by
 have q := cf6 be1 l k n c m d
 rw [List.drop_zero, List.drop_zero, beq_bytes (u8L_take h3 _) (u8L_take h4 _)] at q
 exact works_of (r := []) no_tabs q ⟨by omega, by omega, trivial⟩ ndS2 rfl ⟨⟨fun h => h, rfl, rfl⟩, ⟨fun h => h, rfl, rfl⟩, trivial⟩
theorem be_nil {l : List Int} {n c : Nat} (h1 : n ≤ l.length) (h3 : u8L l) : Works Try.prog 12 [bl0 0 n c, .v (.one .nils)] [roH l] (.v (.one (.sbool (decide (l.take n = []))))) [roH l] := by
 have q := cf3 be2 l n c
 rw [List.drop_zero, beq_bytes (u8L_take h3 _) (fun x hx => by cases hx)] at q
 exact works_of (r := []) no_tabs q ⟨by omega, trivial⟩ ndS1 rfl ⟨⟨fun h => h, rfl, rfl⟩, trivial⟩
theorem be_tab : TabOk Try.prog 12 (loc wantE gBe) := loc_ok fun xs bs v bs' ob hg hob hokb => by
 unfold gBe at hg
 split at hg
 ·rename_i n c m d l k
  cases hg
  intro ρ K w us hm hu
  obtain ⟨u1, s1, rfl, k1, u2, s2, rfl, k2, k3⟩ := hu
  exact be_two (hob (n.v ≤ l.length) (by simp)) (hob (m.v ≤ k.length) (by simp)) (hob (u8L l) (by simp)) (hob (u8L k) (by simp)) ρ K w _ hm ⟨u1, _, rfl, bl0_rel k1, u2, _, rfl, bl0_rel k2, k3⟩
 ·rename_i n c l
  cases hg
  intro ρ K w us hm hu
  obtain ⟨u1, s1, rfl, k1, k3⟩ := hu
  exact be_nil (hob (n.v ≤ l.length) (by simp)) (hob (u8L l) (by simp)) ρ K w _ hm ⟨u1, _, rfl, bl0_rel k1, k3⟩
 ·cases hg
theorem tabSa_ok : ∀ f g, tabSa f = some g → TabOk Try.prog f g := tabs_ok fun x hx => by
 simp only [List.mem_cons, List.not_mem_nil, or_false] at hx
 subst hx
 exact be_tab
section
variable {k e p s n b r : Int} {m d : Nat} {k' e' p' s' n' b' r' : Int} {m' d' : Nat} {l l' : List Int}
theorem same_works (hm : m ≤ l.length) (hm' : m' ≤ l'.length) (hl : u8L l) (hl' : u8L l') :
  Works Try.prog 11 [txtC k e p s n b r (slC 0 m d), txtC k' e' p' s' n' b' r' (slC 1 m' d')] [roH l, roH l'] (.v (.one (.sbool (decide (k = k' ∧ e = e' ∧ p = p' ∧ s = s' ∧ n = n' ∧ b = b' ∧ r = r' ∧ l.take m = l'.take m'))))) [roH l, roH l'] := by
 have app : ∀ {A : Type} {f g : Int → Int → Int → Int → Int → Int → Int → Nat → Nat → Int → Int → Int → Int → Int → Int → Int → Nat → Nat → List Int → List Int → A}, f = g → f k e p s n b r m d k' e' p' s' n' b' r' m' d' l l' = g k e p s n b r m d k' e' p' s' n' b' r' m' d' l l' := fun h => by rw [h]
 have lb : leBs (List.range 2 ++ []) [roH l, roH l'] [roH l, roH l'] := ⟨⟨fun h => h, rfl, rfl⟩, ⟨fun h => h, rfl, rfl⟩, trivial⟩
 by_cases h0 : k = k'
 ·by_cases h1 : e = e'
  ·by_cases h2 : p = p'
   ·by_cases h3 : s = s'
    ·by_cases h4 : n = n'
     ·by_cases h5 : b = b'
      ·by_cases h6 : r = r'
       ·have hh := app sa7
        refine works_of (r := []) tabSa_ok hh ⟨hm, hm', hl, hl', decide_eq_true h6, decide_eq_true h5, decide_eq_true h4, decide_eq_true h3, decide_eq_true h2, decide_eq_true h1, decide_eq_true h0, trivial⟩ ndS2 ?_ lb
        show decide _ = decide _
        exact decide_eq_decide.2 ⟨fun h => ⟨h0, h1, h2, h3, h4, h5, h6, h⟩, fun h => h.2.2.2.2.2.2.2⟩
       ·refine works_of (r := []) tabSa_ok (app sa6) ⟨decide_eq_false h6, decide_eq_true h5, decide_eq_true h4, decide_eq_true h3, decide_eq_true h2, decide_eq_true h1, decide_eq_true h0, trivial⟩ ndS2 ?_ lb
        show false = decide _
        exact (decide_eq_false fun h => h6 h.2.2.2.2.2.2.1).symm
      ·refine works_of (r := []) tabSa_ok (app sa5) ⟨decide_eq_false h5, decide_eq_true h4, decide_eq_true h3, decide_eq_true h2, decide_eq_true h1, decide_eq_true h0, trivial⟩ ndS2 ?_ lb
       show false = decide _
       exact (decide_eq_false fun h => h5 h.2.2.2.2.2.1).symm
     ·refine works_of (r := []) tabSa_ok (app sa4) ⟨decide_eq_false h4, decide_eq_true h3, decide_eq_true h2, decide_eq_true h1, decide_eq_true h0, trivial⟩ ndS2 ?_ lb
      show false = decide _
      exact (decide_eq_false fun h => h4 h.2.2.2.2.1).symm
    ·refine works_of (r := []) tabSa_ok (app sa3) ⟨decide_eq_false h3, decide_eq_true h2, decide_eq_true h1, decide_eq_true h0, trivial⟩ ndS2 ?_ lb
     show false = decide _
     exact (decide_eq_false fun h => h3 h.2.2.2.1).symm
   ·refine works_of (r := []) tabSa_ok (app sa2) ⟨decide_eq_false h2, decide_eq_true h1, decide_eq_true h0, trivial⟩ ndS2 ?_ lb
    show false = decide _
    exact (decide_eq_false fun h => h2 h.2.2.1).symm
  ·refine works_of (r := []) tabSa_ok (app sa1) ⟨decide_eq_false h1, decide_eq_true h0, trivial⟩ ndS2 ?_ lb
   show false = decide _
   exact (decide_eq_false fun h => h1 h.2.1).symm
 ·refine works_of (r := []) tabSa_ok (app sa0) ⟨decide_eq_false h0, trivial⟩ ndS2 ?_ lb
  show false = decide _
  exact (decide_eq_false fun h => h0 h.1).symm
theorem same_nil (hm : m ≤ l.length) (hl : u8L l) :
  Works Try.prog 11 [txtC k e p s n b r (slC 0 m d), txtC k' e' p' s' n' b' r' .nils] [roH l] (.v (.one (.sbool (decide (k = k' ∧ e = e' ∧ p = p' ∧ s = s' ∧ n = n' ∧ b = b' ∧ r = r' ∧ l.take m = []))))) [roH l] := by
 have app : ∀ {A : Type} {f g : Int → Int → Int → Int → Int → Int → Int → Nat → Nat → Int → Int → Int → Int → Int → Int → Int → List Int → A}, f = g → f k e p s n b r m d k' e' p' s' n' b' r' l = g k e p s n b r m d k' e' p' s' n' b' r' l := fun h => by rw [h]
 have lb : leBs (List.range 1 ++ []) [roH l] [roH l] := ⟨⟨fun h => h, rfl, rfl⟩, trivial⟩
 by_cases h0 : k = k'
 ·by_cases h1 : e = e'
  ·by_cases h2 : p = p'
   ·by_cases h3 : s = s'
    ·by_cases h4 : n = n'
     ·by_cases h5 : b = b'
      ·by_cases h6 : r = r'
       ·have hh := app sb7
        refine works_of (r := []) tabSa_ok hh ⟨hm, hl, decide_eq_true h6, decide_eq_true h5, decide_eq_true h4, decide_eq_true h3, decide_eq_true h2, decide_eq_true h1, decide_eq_true h0, trivial⟩ ndS1 ?_ lb
        show decide _ = decide _
        exact decide_eq_decide.2 ⟨fun h => ⟨h0, h1, h2, h3, h4, h5, h6, h⟩, fun h => h.2.2.2.2.2.2.2⟩
       ·refine works_of (r := []) tabSa_ok (app sb6) ⟨decide_eq_false h6, decide_eq_true h5, decide_eq_true h4, decide_eq_true h3, decide_eq_true h2, decide_eq_true h1, decide_eq_true h0, trivial⟩ ndS1 ?_ lb
        show false = decide _
        exact (decide_eq_false fun h => h6 h.2.2.2.2.2.2.1).symm
      ·refine works_of (r := []) tabSa_ok (app sb5) ⟨decide_eq_false h5, decide_eq_true h4, decide_eq_true h3, decide_eq_true h2, decide_eq_true h1, decide_eq_true h0, trivial⟩ ndS1 ?_ lb
       show false = decide _
       exact (decide_eq_false fun h => h5 h.2.2.2.2.2.1).symm
     ·refine works_of (r := []) tabSa_ok (app sb4) ⟨decide_eq_false h4, decide_eq_true h3, decide_eq_true h2, decide_eq_true h1, decide_eq_true h0, trivial⟩ ndS1 ?_ lb
      show false = decide _
      exact (decide_eq_false fun h => h4 h.2.2.2.2.1).symm
    ·refine works_of (r := []) tabSa_ok (app sb3) ⟨decide_eq_false h3, decide_eq_true h2, decide_eq_true h1, decide_eq_true h0, trivial⟩ ndS1 ?_ lb
     show false = decide _
     exact (decide_eq_false fun h => h3 h.2.2.2.1).symm
   ·refine works_of (r := []) tabSa_ok (app sb2) ⟨decide_eq_false h2, decide_eq_true h1, decide_eq_true h0, trivial⟩ ndS1 ?_ lb
    show false = decide _
    exact (decide_eq_false fun h => h2 h.2.2.1).symm
  ·refine works_of (r := []) tabSa_ok (app sb1) ⟨decide_eq_false h1, decide_eq_true h0, trivial⟩ ndS1 ?_ lb
   show false = decide _
   exact (decide_eq_false fun h => h1 h.2.1).symm
 ·refine works_of (r := []) tabSa_ok (app sb0) ⟨decide_eq_false h0, trivial⟩ ndS1 ?_ lb
  show false = decide _
  exact (decide_eq_false fun h => h0 h.1).symm
end
def gSm : Sx.Loc := fun args bs => match args, bs with
 | [.v (.agg [.sint .u8 k, .sint .i64 e, .sint .i64 p, .sint .i64 s, .sint .i64 n, .sint .i64 b, .sint .i64 r, .slice 0 (.c 0) 1 m _]), .v (.agg [.sint .u8 k', .sint .i64 e', .sint .i64 p', .sint .i64 s', .sint .i64 n', .sint .i64 b', .sint .i64 r', .slice 1 (.c 0) 1 m' _])], [⟨false, .ints .u8 l⟩, ⟨false, .ints .u8 l'⟩] =>
  some (.v (.one (.sbool (decide (k = k' ∧ e = e' ∧ p = p' ∧ s = s' ∧ n = n' ∧ b = b' ∧ r = r' ∧ l.take m.v = l'.take m'.v)))), [roH l, roH l'], [m.v ≤ l.length, m'.v ≤ l'.length, u8L l, u8L l'])
 | [.v (.agg [.sint .u8 k, .sint .i64 e, .sint .i64 p, .sint .i64 s, .sint .i64 n, .sint .i64 b, .sint .i64 r, .slice 0 (.c 0) 1 m _]), .v (.agg [.sint .u8 k', .sint .i64 e', .sint .i64 p', .sint .i64 s', .sint .i64 n', .sint .i64 b', .sint .i64 r', .nils])], [⟨false, .ints .u8 l⟩] =>
  some (.v (.one (.sbool (decide (k = k' ∧ e = e' ∧ p = p' ∧ s = s' ∧ n = n' ∧ b = b' ∧ r = r' ∧ l.take m.v = [])))), [roH l], [m.v ≤ l.length, u8L l])
 | _, _ => none
def wantS : List V → List Want
 | [_, .v (.agg [_, _, _, _, _, _, _, .nils])] => [(false, .ints .u8)]
 | _ => [(false, .ints .u8), (false, .ints .u8)]
theorem same_tab : TabOk Try.prog 11 (loc wantS gSm) := loc_ok fun xs bs v bs' ob hg hob hokb => by
 unfold gSm at hg
 split at hg
 ·rename_i k e p s n b r m d k' e' p' s' n' b' r' m' d' l l'
  cases hg
  intro ρ K w us hm hu
  exact same_works (d := d.v) (d' := d'.v) (hob (m.v ≤ l.length) (by simp)) (hob (m'.v ≤ l'.length) (by simp)) (hob (u8L l) (by simp)) (hob (u8L l') (by simp)) ρ K w us hm hu
 ·rename_i k e p s n b r m d k' e' p' s' n' b' r' l
  cases hg
  intro ρ K w us hm hu
  exact same_nil (d := d.v) (hob (m.v ≤ l.length) (by simp)) (hob (u8L l) (by simp)) ρ K w us hm hu
 ·cases hg
end
end Go.Proofs.Ytbamfolinbehiaa
