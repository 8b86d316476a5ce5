/- token.has and token.holds: what they come to, by their values. token.Put: its runs. token.Put: the contract. token.Put: the contract, in the end. -/
import Derived.Test.YtbamfolinbehiaaWf
import Derived.Test.YtbamfolinbehiaaSxAI
namespace Go.Proofs.Ytbamfolinbehiaa
section
open Go.ChangeShapes Go.WideShapes Go.ChangeAt Go.RowKit Go.Sx
def letN (k : Int) : List UInt8 :=
 if k = 1 then [112] else if k = 2 then [120] else if k = 3 then [115, 120] else if k = 4 then [101, 115, 110] else if k = 5 then [101, 112, 115, 120] else if k = 6 then [115, 114] else if k = 7 then [101, 115, 110, 98, 120] else if k = 8 then [114] else []
def hasC (l : List UInt8) (c : Int) : Bool := l.any fun x => decide ((x.toNat : Int) = c)
def strsH : List (List UInt8) := [[], [112], [120], [115, 120], [101, 115, 110], [101, 112, 115, 120], [115, 114], [101, 115, 110, 98, 120], [114]]
def chrsH : List Int := [101, 112, 115, 110, 98, 114, 120]
theorem letN_in (k : Int) : letN k ∈ strsH := by
 unfold letN
 repeat' split
 all_goals decide
noncomputable def hasP (n : Nat) : Bool := okV (.v (.one (.sstr (letN n)))) (call0 4 21 [.v (.one (.int .u8 n))] [] [])
theorem has0 : allF hasP 0 64 = true := by kernel_rfl
theorem has1 : allF hasP 64 64 = true := by kernel_rfl
theorem has2 : allF hasP 128 64 = true := by kernel_rfl
theorem has3 : allF hasP 192 64 = true := by kernel_rfl
theorem has_tab : TabOk Try.prog 21 (byteTab fun n => .v (.one (.sstr (letN n)))) := byteTab_ok no_tabs fun n hn => by
 show hasP n = true
 rcases Nat.lt_or_ge n 64 with h | h
 ·exact allF_spec has0 n (by omega) (by omega)
 rcases Nat.lt_or_ge n 128 with h | h
 ·exact allF_spec has1 n (by omega) (by omega)
 rcases Nat.lt_or_ge n 192 with h | h
 ·exact allF_spec has2 n (by omega) (by omega)
 ·exact allF_spec has3 n (by omega) (by omega)
noncomputable def holdP (l : List UInt8) (c : Int) : Bool := okV (.v (.one (.sbool (hasC l c)))) (call0 6 22 [.v (.one (.str l)), .v (.one (.int .u8 c))] [] [])
theorem hold_all : (strsH.all fun l => chrsH.all fun c => holdP l c) = true := by kernel_rfl
def holdT := fresh fun args h => match args with
 | [a, b] => match svOf a, ivOf b with
  | some l, some (.u8, c) => some (.v (.one (.sbool (hasC l c))), [], h, [l ∈ strsH, c ∈ chrsH])
  | _, _ => none
 | _ => none
theorem memRel_belowK {w w' : World} (h : Kept (upto w) w w') : MemRel [] (upto w) w w' [] where
 below := h
 base := fun k hk => Nat.lt_of_lt_of_le hk h.size
 len := rfl
 blk := fun i e s h => by simp at h
 own := fun i e s h => by simp at h
 sep := fun i j e e' s s' _ h => by simp at h
 maps := fun i e s kk l h => by simp at h
 msep := fun i j e e' s s' kk kk' l l' _ h => by simp at h
theorem hold_tab : TabOk Try.prog 22 holdT := fresh_ok fun args h v bs h' ob hg hob => by
 split at hg
 ·rename_i a b
  split at hg
  ·rename_i l c hl hc
   cases hg
   have h1 : l ∈ strsH := hob _ (by simp)
   have h2 : c ∈ chrsH := hob (c ∈ chrsH) (by simp)
   have hp : holdP l c = true := List.all_eq_true.1 (List.all_eq_true.1 hold_all l h1) c h2
   refine ⟨rfl, fun ρ us hu => ?_⟩
   obtain ⟨u1, s1, rfl, r1, u2, s2, rfl, r2, rfl⟩ := hu
   have e1 := svOf_rel hl r1
   have e2 := ivOf_rel hc r2
   subst e1; subst e2
   obtain ⟨v', m', hh, hc', hv⟩ := okV_spec hp
   intro w
   refine (callN_sound no_tabs 6 _ _ [] [] _ _ _ _ hc' (fun _ h => by cases h) [] _ w w [.string ⟨l.toArray⟩, .int .u8 c] (MemRel.nil w) ⟨_, _, rfl, ⟨rfl, rfl⟩, _, _, rfl, ⟨rfl, rfl⟩, rfl⟩).mono fun e w' ⟨u, ρ', he, hu, hm'⟩ => ?_
   exact ⟨u, [], he, hv _ _ _ hu, memRel_belowK hm'.below⟩
  ·cases hg
 ·cases hg
end
section
open Go.Sx
noncomputable def fnP (f : Go.FuncId) : Go.Func := match Try.prog.funcs[f]? with | some fn => fn | none => default
def txtL (k e p s n b r : Int) (blob : C) : List C := [.sint .u8 k, .sint .i64 e, .sint .i64 p, .sint .i64 s, .sint .i64 n, .sint .i64 b, .sint .i64 r, blob]
def blbC (m d : Nat) : C := .slice 0 (.c 0) 1 (.s m) (.s d)
def tabPt := tabs [(21, byteTab fun n => .v (.one (.sstr (letN n)))), (22, holdT), (23, numTab [.i64, .i64, .i64] gWi), (25, loc By.ownB1 (By.putL .u64 By.vint By.u64)), (26, loc By.blobW By.gBlob)]
def effPt : Go.FuncId → Bool := fun f => Nat.beq f 25 || Nat.beq f 26
noncomputable def callPt (d : Nat) := callN Try.prog tabPt effPt 100000 d
noncomputable def PL := loopN Try.prog 8 0
noncomputable def EPL : List Item := .code (.loop PL.1) :: PL.2
noncomputable def KPL : List Item := .inLoop PL.1 :: PL.2
noncomputable def ptE (k e p s n b r : Int) (l : List Int) (m d : Nat) (h : List Bool) := run Try.prog (callPt 6) effPt (fnP 8) 0 100000 [false] [.code (bodyF 8)] ⟨argSlots 0 [.v (.agg (txtL k e p s n b r (blbC m d)))], [roH l], h, []⟩
def arrPt : V := .v (.agg [.int .u8 101, .ptr 1 (.c 0) 1 1, .int .i64 1099511627776, .int .u8 112, .ptr 1 (.c 0) 1 2, .int .i64 1073741824, .int .u8 115, .ptr 1 (.c 0) 1 3, .int .i64 1099511627776, .int .u8 110, .ptr 1 (.c 0) 1 4, .int .i64 1099511627776, .int .u8 98, .ptr 1 (.c 0) 1 5, .int .i64 1099511627776])
def TPt (k e p s n b r : Int) (l out : List Int) (m d : Nat) (i : Nat) (h : List Bool) : St := ⟨[(1, .v (.one (.ptr 1 (.c 0) 1 0))), (4, .v (.one (.sstr (letN k)))), (5, bl0 2 out.length out.length), (49, arrPt), (50, .v (.one (.int .i64 i)))], [roH l, ⟨true, .exp (txtL k e p s n b r (blbC m d))⟩, oB out], h, []⟩
noncomputable def ptR (lim : Nat) (S : St) := run Try.prog (callPt 6) effPt (fnP 8) lim 100000 [] (.code PL.1 :: .inLoop PL.1 :: PL.2) S
theorem ptO0 : (fun (k e p s n b r : Int) (l : List Int) (m d : Nat) => stopV [1, 4, 5, 49, 50] [0, 1, 2] (ptE k e p s n b r l m d [false, false, false, false, false])) = fun k e p s n b r l (m : Nat) d => some (EPL, ([(1, .v (.one (.ptr 1 (.c 0) 1 0))), (4, .v (.one (.sstr (letN k)))), (5, .v (.one (.slice 2 (.c 0) 1 (.c 1) (.c 1)))), (49, arrPt), (50, .v (.one (.int .i64 0)))], ([roH l, SB.mk true (.exp (txtL k e p s n b r (blbC m d))), SB.mk true (.exp [.sint .u8 k])], [(!decide (r = 0)) = false, (!decide (0 ≤ r ∧ r ≤ 255)) = false, decide (0 < (m : Int)) = false, decide (1048576 < (m : Int)) = false, (letN k == Array.toList (ByteArray.data { data := #[] })) = false, 0 ≤ k ∧ k < 256]))) := by kernel_rfl
theorem ptO1 : (fun (k e p s n b r : Int) (l : List Int) (m d : Nat) => stopV [1, 4, 5, 49, 50] [0, 1, 2] (ptE k e p s n b r l m d [false, false, false, false, true, false])) = fun k e p s n b r l (m : Nat) d => some (EPL, ([(1, .v (.one (.ptr 1 (.c 0) 1 0))), (4, .v (.one (.sstr (letN k)))), (5, .v (.one (.slice 2 (.c 0) 1 (.c 1) (.c 1)))), (49, arrPt), (50, .v (.one (.int .i64 0)))], ([roH l, SB.mk true (.exp (txtL k e p s n b r (blbC m d))), SB.mk true (.exp [.sint .u8 k])], [(!hasC (letN k) 114) = false, List.Mem (letN k) strsH, List.Mem 114 chrsH, (!decide (r = 0)) = true, (!decide (0 ≤ r ∧ r ≤ 255)) = false, decide (0 < (m : Int)) = false, decide (1048576 < (m : Int)) = false, (letN k == Array.toList (ByteArray.data { data := #[] })) = false, 0 ≤ k ∧ k < 256]))) := by kernel_rfl
theorem ptO2 : (fun (k e p s n b r : Int) (l : List Int) (m d : Nat) => stopV [1, 4, 5, 49, 50] [0, 1, 2] (ptE k e p s n b r l m d [false, false, true, false, false, false])) = fun k e p s n b r l (m : Nat) d => some (EPL, ([(1, .v (.one (.ptr 1 (.c 0) 1 0))), (4, .v (.one (.sstr (letN k)))), (5, .v (.one (.slice 2 (.c 0) 1 (.c 1) (.c 1)))), (49, arrPt), (50, .v (.one (.int .i64 0)))], ([roH l, SB.mk true (.exp (txtL k e p s n b r (blbC m d))), SB.mk true (.exp [.sint .u8 k])], [(!decide (r = 0)) = false, (!decide (0 ≤ r ∧ r ≤ 255)) = false, (!hasC (letN k) 120) = false, List.Mem (letN k) strsH, List.Mem 120 chrsH, decide (0 < (m : Int)) = true, decide (1048576 < (m : Int)) = false, (letN k == Array.toList (ByteArray.data { data := #[] })) = false, 0 ≤ k ∧ k < 256]))) := by kernel_rfl
theorem ptO3 : (fun (k e p s n b r : Int) (l : List Int) (m d : Nat) => stopV [1, 4, 5, 49, 50] [0, 1, 2] (ptE k e p s n b r l m d [false, false, true, false, false, true, false])) = fun k e p s n b r l (m : Nat) d => some (EPL, ([(1, .v (.one (.ptr 1 (.c 0) 1 0))), (4, .v (.one (.sstr (letN k)))), (5, .v (.one (.slice 2 (.c 0) 1 (.c 1) (.c 1)))), (49, arrPt), (50, .v (.one (.int .i64 0)))], ([roH l, SB.mk true (.exp (txtL k e p s n b r (blbC m d))), SB.mk true (.exp [.sint .u8 k])], [(!hasC (letN k) 114) = false, List.Mem (letN k) strsH, List.Mem 114 chrsH, (!decide (r = 0)) = true, (!decide (0 ≤ r ∧ r ≤ 255)) = false, (!hasC (letN k) 120) = false, List.Mem (letN k) strsH, List.Mem 120 chrsH, decide (0 < (m : Int)) = true, decide (1048576 < (m : Int)) = false, (letN k == Array.toList (ByteArray.data { data := #[] })) = false, 0 ≤ k ∧ k < 256]))) := by kernel_rfl
theorem ptF0 : (fun (k e p s n b r : Int) (l : List Int) (m d : Nat) => endV [0] (ptE k e p s n b r l m d [true])) = fun k _ _ _ _ _ _ l _ _ => some (.tup [.one .nils, .one (.int .i64 132)], ([roH l], [(letN k == Array.toList (ByteArray.data { data := #[] })) = true, 0 ≤ k ∧ k < 256])) := by kernel_rfl
theorem ptF1 : (fun (k e p s n b r : Int) (l : List Int) (m d : Nat) => endV [0] (ptE k e p s n b r l m d [false, true])) = fun k _ _ _ _ _ _ l (m : Nat) _ => some (.tup [.one .nils, .one (.int .i64 132)], ([roH l], [decide (1048576 < (m : Int)) = true, (letN k == Array.toList (ByteArray.data { data := #[] })) = false, 0 ≤ k ∧ k < 256])) := by kernel_rfl
theorem ptF2 : (fun (k e p s n b r : Int) (l : List Int) (m d : Nat) => endV [0] (ptE k e p s n b r l m d [false, false, true, true])) = fun k _ _ _ _ _ _ l (m : Nat) _ => some (.tup [.one .nils, .one (.int .i64 132)], ([roH l], [(!hasC (letN k) 120) = true, List.Mem (letN k) strsH, List.Mem 120 chrsH, decide (0 < (m : Int)) = true, decide (1048576 < (m : Int)) = false, (letN k == Array.toList (ByteArray.data { data := #[] })) = false, 0 ≤ k ∧ k < 256])) := by kernel_rfl
theorem ptF3 : (fun (k e p s n b r : Int) (l : List Int) (m d : Nat) => endV [0] (ptE k e p s n b r l m d [false, false, false, true])) = fun k _ _ _ _ _ r l (m : Nat) _ => some (.tup [.one .nils, .one (.int .i64 132)], ([roH l], [(!decide (0 ≤ r ∧ r ≤ 255)) = true, decide (0 < (m : Int)) = false, decide (1048576 < (m : Int)) = false, (letN k == Array.toList (ByteArray.data { data := #[] })) = false, 0 ≤ k ∧ k < 256])) := by kernel_rfl
theorem ptF4 : (fun (k e p s n b r : Int) (l : List Int) (m d : Nat) => endV [0] (ptE k e p s n b r l m d [false, false, true, false, true])) = fun k _ _ _ _ _ r l (m : Nat) _ => some (.tup [.one .nils, .one (.int .i64 132)], ([roH l], [(!decide (0 ≤ r ∧ r ≤ 255)) = true, (!hasC (letN k) 120) = false, List.Mem (letN k) strsH, List.Mem 120 chrsH, decide (0 < (m : Int)) = true, decide (1048576 < (m : Int)) = false, (letN k == Array.toList (ByteArray.data { data := #[] })) = false, 0 ≤ k ∧ k < 256])) := by kernel_rfl
theorem ptF5 : (fun (k e p s n b r : Int) (l : List Int) (m d : Nat) => endV [0] (ptE k e p s n b r l m d [false, false, false, false, true, true])) = fun k _ _ _ _ _ r l (m : Nat) _ => some (.tup [.one .nils, .one (.int .i64 132)], ([roH l], [(!hasC (letN k) 114) = true, List.Mem (letN k) strsH, List.Mem 114 chrsH, (!decide (r = 0)) = true, (!decide (0 ≤ r ∧ r ≤ 255)) = false, decide (0 < (m : Int)) = false, decide (1048576 < (m : Int)) = false, (letN k == Array.toList (ByteArray.data { data := #[] })) = false, 0 ≤ k ∧ k < 256])) := by kernel_rfl
theorem ptF6 : (fun (k e p s n b r : Int) (l : List Int) (m d : Nat) => endV [0] (ptE k e p s n b r l m d [false, false, true, false, false, true, true])) = fun k _ _ _ _ _ r l (m : Nat) _ => some (.tup [.one .nils, .one (.int .i64 132)], ([roH l], [(!hasC (letN k) 114) = true, List.Mem (letN k) strsH, List.Mem 114 chrsH, (!decide (r = 0)) = true, (!decide (0 ≤ r ∧ r ≤ 255)) = false, (!hasC (letN k) 120) = false, List.Mem (letN k) strsH, List.Mem 120 chrsH, decide (0 < (m : Int)) = true, decide (1048576 < (m : Int)) = false, (letN k == Array.toList (ByteArray.data { data := #[] })) = false, 0 ≤ k ∧ k < 256])) := by kernel_rfl
theorem ptA0 : (fun (k e p s n b r : Int) (l out : List Int) (m d : Nat) => stopV [1, 4, 5, 49, 50] [0, 1, 4] (ptR (PL.2.length + 1) (TPt k e p s n b r l out m d 0 [false, true, false, true]))) = fun k e p s n b r l out m d => some (KPL, ([(1, .v (.one (.ptr 1 (.c 0) 1 0))), (4, .v (.one (.sstr (letN k)))), (5, .v (.one (.slice 4 (.c 0) 1 (.s (out ++ By.vint (IntKind.wrap .u64 e)).length) (.s (out ++ By.vint (IntKind.wrap .u64 e)).length)))), (49, arrPt), (50, .v (.one (.int .i64 1)))], ([roH l, SB.mk true (.exp (txtL k e p s n b r (blbC m d))), SB.mk true (.ints .u8 (out ++ By.vint (IntKind.wrap .u64 e)))], [By.u64 (IntKind.wrap .u64 e), out.length = out.length, out.length + 10 ≤ 140737488355328, hasC (letN k) 101 = true, List.Mem (letN k) strsH, List.Mem 101 chrsH, (!hasC (letN k) 101) = false, List.Mem (letN k) strsH, List.Mem 101 chrsH, decide (0 < e) = true, (!decide (0 ≤ e ∧ e ≤ 1099511627776)) = false]))) := by kernel_rfl
theorem ptB0 : (fun (k e p s n b r : Int) (l out : List Int) (m d : Nat) => stopV [1, 4, 5, 49, 50] [0, 1, 4] (ptR (PL.2.length + 1) (TPt k e p s n b r l out m d 0 [false, false, true]))) = fun k e p s n b r l out m d => some (KPL, ([(1, .v (.one (.ptr 1 (.c 0) 1 0))), (4, .v (.one (.sstr (letN k)))), (5, .v (.one (.slice 4 (.c 0) 1 (.s (out ++ By.vint (IntKind.wrap .u64 e)).length) (.s (out ++ By.vint (IntKind.wrap .u64 e)).length)))), (49, arrPt), (50, .v (.one (.int .i64 1)))], ([roH l, SB.mk true (.exp (txtL k e p s n b r (blbC m d))), SB.mk true (.ints .u8 (out ++ By.vint (IntKind.wrap .u64 e)))], [By.u64 (IntKind.wrap .u64 e), out.length = out.length, out.length + 10 ≤ 140737488355328, hasC (letN k) 101 = true, List.Mem (letN k) strsH, List.Mem 101 chrsH, decide (0 < e) = false, (!decide (0 ≤ e ∧ e ≤ 1099511627776)) = false]))) := by kernel_rfl
theorem ptC0 : (fun (k e p s n b r : Int) (l out : List Int) (m d : Nat) => stopV [1, 4, 5, 49, 50] [0, 1, 2] (ptR (PL.2.length + 1) (TPt k e p s n b r l out m d 0 [false, false, false]))) = fun k e p s n b r l out m d => some (KPL, ([(1, .v (.one (.ptr 1 (.c 0) 1 0))), (4, .v (.one (.sstr (letN k)))), (5, .v (.one (.slice 2 (.c 0) 1 (.s out.length) (.s out.length)))), (49, arrPt), (50, .v (.one (.int .i64 1)))], ([roH l, SB.mk true (.exp (txtL k e p s n b r (blbC m d))), SB.mk true (.ints .u8 out)], [hasC (letN k) 101 = false, List.Mem (letN k) strsH, List.Mem 101 chrsH, decide (0 < e) = false, (!decide (0 ≤ e ∧ e ≤ 1099511627776)) = false]))) := by kernel_rfl
theorem ptG0 : (fun (k e p s n b r : Int) (l out : List Int) (m d : Nat) => endV [0] (ptR 0 (TPt k e p s n b r l out m d 0 [true]))) = fun _ e _ _ _ _ _ l _ _ _ => some (.tup [.one .nils, .one (.int .i64 132)], ([roH l], [(!decide (0 ≤ e ∧ e ≤ 1099511627776)) = true])) := by kernel_rfl
theorem ptH0 : (fun (k e p s n b r : Int) (l out : List Int) (m d : Nat) => endV [0] (ptR 0 (TPt k e p s n b r l out m d 0 [false, true, true]))) = fun k e _ _ _ _ _ l _ _ _ => some (.tup [.one .nils, .one (.int .i64 132)], ([roH l], [(!hasC (letN k) 101) = true, List.Mem (letN k) strsH, List.Mem 101 chrsH, decide (0 < e) = true, (!decide (0 ≤ e ∧ e ≤ 1099511627776)) = false])) := by kernel_rfl
theorem ptA1 : (fun (k e p s n b r : Int) (l out : List Int) (m d : Nat) => stopV [1, 4, 5, 49, 50] [0, 1, 4] (ptR (PL.2.length + 1) (TPt k e p s n b r l out m d 1 [false, true, false, true]))) = fun k e p s n b r l out m d => some (KPL, ([(1, .v (.one (.ptr 1 (.c 0) 1 0))), (4, .v (.one (.sstr (letN k)))), (5, .v (.one (.slice 4 (.c 0) 1 (.s (out ++ By.vint (IntKind.wrap .u64 p)).length) (.s (out ++ By.vint (IntKind.wrap .u64 p)).length)))), (49, arrPt), (50, .v (.one (.int .i64 2)))], ([roH l, SB.mk true (.exp (txtL k e p s n b r (blbC m d))), SB.mk true (.ints .u8 (out ++ By.vint (IntKind.wrap .u64 p)))], [By.u64 (IntKind.wrap .u64 p), out.length = out.length, out.length + 10 ≤ 140737488355328, hasC (letN k) 112 = true, List.Mem (letN k) strsH, List.Mem 112 chrsH, (!hasC (letN k) 112) = false, List.Mem (letN k) strsH, List.Mem 112 chrsH, decide (0 < p) = true, (!decide (0 ≤ p ∧ p ≤ 1073741824)) = false]))) := by kernel_rfl
theorem ptB1 : (fun (k e p s n b r : Int) (l out : List Int) (m d : Nat) => stopV [1, 4, 5, 49, 50] [0, 1, 4] (ptR (PL.2.length + 1) (TPt k e p s n b r l out m d 1 [false, false, true]))) = fun k e p s n b r l out m d => some (KPL, ([(1, .v (.one (.ptr 1 (.c 0) 1 0))), (4, .v (.one (.sstr (letN k)))), (5, .v (.one (.slice 4 (.c 0) 1 (.s (out ++ By.vint (IntKind.wrap .u64 p)).length) (.s (out ++ By.vint (IntKind.wrap .u64 p)).length)))), (49, arrPt), (50, .v (.one (.int .i64 2)))], ([roH l, SB.mk true (.exp (txtL k e p s n b r (blbC m d))), SB.mk true (.ints .u8 (out ++ By.vint (IntKind.wrap .u64 p)))], [By.u64 (IntKind.wrap .u64 p), out.length = out.length, out.length + 10 ≤ 140737488355328, hasC (letN k) 112 = true, List.Mem (letN k) strsH, List.Mem 112 chrsH, decide (0 < p) = false, (!decide (0 ≤ p ∧ p ≤ 1073741824)) = false]))) := by kernel_rfl
theorem ptC1 : (fun (k e p s n b r : Int) (l out : List Int) (m d : Nat) => stopV [1, 4, 5, 49, 50] [0, 1, 2] (ptR (PL.2.length + 1) (TPt k e p s n b r l out m d 1 [false, false, false]))) = fun k e p s n b r l out m d => some (KPL, ([(1, .v (.one (.ptr 1 (.c 0) 1 0))), (4, .v (.one (.sstr (letN k)))), (5, .v (.one (.slice 2 (.c 0) 1 (.s out.length) (.s out.length)))), (49, arrPt), (50, .v (.one (.int .i64 2)))], ([roH l, SB.mk true (.exp (txtL k e p s n b r (blbC m d))), SB.mk true (.ints .u8 out)], [hasC (letN k) 112 = false, List.Mem (letN k) strsH, List.Mem 112 chrsH, decide (0 < p) = false, (!decide (0 ≤ p ∧ p ≤ 1073741824)) = false]))) := by kernel_rfl
theorem ptG1 : (fun (k e p s n b r : Int) (l out : List Int) (m d : Nat) => endV [0] (ptR 0 (TPt k e p s n b r l out m d 1 [true]))) = fun _ _ p _ _ _ _ l _ _ _ => some (.tup [.one .nils, .one (.int .i64 132)], ([roH l], [(!decide (0 ≤ p ∧ p ≤ 1073741824)) = true])) := by kernel_rfl
theorem ptH1 : (fun (k e p s n b r : Int) (l out : List Int) (m d : Nat) => endV [0] (ptR 0 (TPt k e p s n b r l out m d 1 [false, true, true]))) = fun k _ p _ _ _ _ l _ _ _ => some (.tup [.one .nils, .one (.int .i64 132)], ([roH l], [(!hasC (letN k) 112) = true, List.Mem (letN k) strsH, List.Mem 112 chrsH, decide (0 < p) = true, (!decide (0 ≤ p ∧ p ≤ 1073741824)) = false])) := by kernel_rfl
theorem ptA2 : (fun (k e p s n b r : Int) (l out : List Int) (m d : Nat) => stopV [1, 4, 5, 49, 50] [0, 1, 4] (ptR (PL.2.length + 1) (TPt k e p s n b r l out m d 2 [false, true, false, true]))) = fun k e p s n b r l out m d => some (KPL, ([(1, .v (.one (.ptr 1 (.c 0) 1 0))), (4, .v (.one (.sstr (letN k)))), (5, .v (.one (.slice 4 (.c 0) 1 (.s (out ++ By.vint (IntKind.wrap .u64 s)).length) (.s (out ++ By.vint (IntKind.wrap .u64 s)).length)))), (49, arrPt), (50, .v (.one (.int .i64 3)))], ([roH l, SB.mk true (.exp (txtL k e p s n b r (blbC m d))), SB.mk true (.ints .u8 (out ++ By.vint (IntKind.wrap .u64 s)))], [By.u64 (IntKind.wrap .u64 s), out.length = out.length, out.length + 10 ≤ 140737488355328, hasC (letN k) 115 = true, List.Mem (letN k) strsH, List.Mem 115 chrsH, (!hasC (letN k) 115) = false, List.Mem (letN k) strsH, List.Mem 115 chrsH, decide (0 < s) = true, (!decide (0 ≤ s ∧ s ≤ 1099511627776)) = false]))) := by kernel_rfl
theorem ptB2 : (fun (k e p s n b r : Int) (l out : List Int) (m d : Nat) => stopV [1, 4, 5, 49, 50] [0, 1, 4] (ptR (PL.2.length + 1) (TPt k e p s n b r l out m d 2 [false, false, true]))) = fun k e p s n b r l out m d => some (KPL, ([(1, .v (.one (.ptr 1 (.c 0) 1 0))), (4, .v (.one (.sstr (letN k)))), (5, .v (.one (.slice 4 (.c 0) 1 (.s (out ++ By.vint (IntKind.wrap .u64 s)).length) (.s (out ++ By.vint (IntKind.wrap .u64 s)).length)))), (49, arrPt), (50, .v (.one (.int .i64 3)))], ([roH l, SB.mk true (.exp (txtL k e p s n b r (blbC m d))), SB.mk true (.ints .u8 (out ++ By.vint (IntKind.wrap .u64 s)))], [By.u64 (IntKind.wrap .u64 s), out.length = out.length, out.length + 10 ≤ 140737488355328, hasC (letN k) 115 = true, List.Mem (letN k) strsH, List.Mem 115 chrsH, decide (0 < s) = false, (!decide (0 ≤ s ∧ s ≤ 1099511627776)) = false]))) := by kernel_rfl
theorem ptC2 : (fun (k e p s n b r : Int) (l out : List Int) (m d : Nat) => stopV [1, 4, 5, 49, 50] [0, 1, 2] (ptR (PL.2.length + 1) (TPt k e p s n b r l out m d 2 [false, false, false]))) = fun k e p s n b r l out m d => some (KPL, ([(1, .v (.one (.ptr 1 (.c 0) 1 0))), (4, .v (.one (.sstr (letN k)))), (5, .v (.one (.slice 2 (.c 0) 1 (.s out.length) (.s out.length)))), (49, arrPt), (50, .v (.one (.int .i64 3)))], ([roH l, SB.mk true (.exp (txtL k e p s n b r (blbC m d))), SB.mk true (.ints .u8 out)], [hasC (letN k) 115 = false, List.Mem (letN k) strsH, List.Mem 115 chrsH, decide (0 < s) = false, (!decide (0 ≤ s ∧ s ≤ 1099511627776)) = false]))) := by kernel_rfl
theorem ptG2 : (fun (k e p s n b r : Int) (l out : List Int) (m d : Nat) => endV [0] (ptR 0 (TPt k e p s n b r l out m d 2 [true]))) = fun _ _ _ s _ _ _ l _ _ _ => some (.tup [.one .nils, .one (.int .i64 132)], ([roH l], [(!decide (0 ≤ s ∧ s ≤ 1099511627776)) = true])) := by kernel_rfl
theorem ptH2 : (fun (k e p s n b r : Int) (l out : List Int) (m d : Nat) => endV [0] (ptR 0 (TPt k e p s n b r l out m d 2 [false, true, true]))) = fun k _ _ s _ _ _ l _ _ _ => some (.tup [.one .nils, .one (.int .i64 132)], ([roH l], [(!hasC (letN k) 115) = true, List.Mem (letN k) strsH, List.Mem 115 chrsH, decide (0 < s) = true, (!decide (0 ≤ s ∧ s ≤ 1099511627776)) = false])) := by kernel_rfl
theorem ptA3 : (fun (k e p s n b r : Int) (l out : List Int) (m d : Nat) => stopV [1, 4, 5, 49, 50] [0, 1, 4] (ptR (PL.2.length + 1) (TPt k e p s n b r l out m d 3 [false, true, false, true]))) = fun k e p s n b r l out m d => some (KPL, ([(1, .v (.one (.ptr 1 (.c 0) 1 0))), (4, .v (.one (.sstr (letN k)))), (5, .v (.one (.slice 4 (.c 0) 1 (.s (out ++ By.vint (IntKind.wrap .u64 n)).length) (.s (out ++ By.vint (IntKind.wrap .u64 n)).length)))), (49, arrPt), (50, .v (.one (.int .i64 4)))], ([roH l, SB.mk true (.exp (txtL k e p s n b r (blbC m d))), SB.mk true (.ints .u8 (out ++ By.vint (IntKind.wrap .u64 n)))], [By.u64 (IntKind.wrap .u64 n), out.length = out.length, out.length + 10 ≤ 140737488355328, hasC (letN k) 110 = true, List.Mem (letN k) strsH, List.Mem 110 chrsH, (!hasC (letN k) 110) = false, List.Mem (letN k) strsH, List.Mem 110 chrsH, decide (0 < n) = true, (!decide (0 ≤ n ∧ n ≤ 1099511627776)) = false]))) := by kernel_rfl
theorem ptB3 : (fun (k e p s n b r : Int) (l out : List Int) (m d : Nat) => stopV [1, 4, 5, 49, 50] [0, 1, 4] (ptR (PL.2.length + 1) (TPt k e p s n b r l out m d 3 [false, false, true]))) = fun k e p s n b r l out m d => some (KPL, ([(1, .v (.one (.ptr 1 (.c 0) 1 0))), (4, .v (.one (.sstr (letN k)))), (5, .v (.one (.slice 4 (.c 0) 1 (.s (out ++ By.vint (IntKind.wrap .u64 n)).length) (.s (out ++ By.vint (IntKind.wrap .u64 n)).length)))), (49, arrPt), (50, .v (.one (.int .i64 4)))], ([roH l, SB.mk true (.exp (txtL k e p s n b r (blbC m d))), SB.mk true (.ints .u8 (out ++ By.vint (IntKind.wrap .u64 n)))], [By.u64 (IntKind.wrap .u64 n), out.length = out.length, out.length + 10 ≤ 140737488355328, hasC (letN k) 110 = true, List.Mem (letN k) strsH, List.Mem 110 chrsH, decide (0 < n) = false, (!decide (0 ≤ n ∧ n ≤ 1099511627776)) = false]))) := by kernel_rfl
theorem ptC3 : (fun (k e p s n b r : Int) (l out : List Int) (m d : Nat) => stopV [1, 4, 5, 49, 50] [0, 1, 2] (ptR (PL.2.length + 1) (TPt k e p s n b r l out m d 3 [false, false, false]))) = fun k e p s n b r l out m d => some (KPL, ([(1, .v (.one (.ptr 1 (.c 0) 1 0))), (4, .v (.one (.sstr (letN k)))), (5, .v (.one (.slice 2 (.c 0) 1 (.s out.length) (.s out.length)))), (49, arrPt), (50, .v (.one (.int .i64 4)))], ([roH l, SB.mk true (.exp (txtL k e p s n b r (blbC m d))), SB.mk true (.ints .u8 out)], [hasC (letN k) 110 = false, List.Mem (letN k) strsH, List.Mem 110 chrsH, decide (0 < n) = false, (!decide (0 ≤ n ∧ n ≤ 1099511627776)) = false]))) := by kernel_rfl
theorem ptG3 : (fun (k e p s n b r : Int) (l out : List Int) (m d : Nat) => endV [0] (ptR 0 (TPt k e p s n b r l out m d 3 [true]))) = fun _ _ _ _ n _ _ l _ _ _ => some (.tup [.one .nils, .one (.int .i64 132)], ([roH l], [(!decide (0 ≤ n ∧ n ≤ 1099511627776)) = true])) := by kernel_rfl
theorem ptH3 : (fun (k e p s n b r : Int) (l out : List Int) (m d : Nat) => endV [0] (ptR 0 (TPt k e p s n b r l out m d 3 [false, true, true]))) = fun k _ _ _ n _ _ l _ _ _ => some (.tup [.one .nils, .one (.int .i64 132)], ([roH l], [(!hasC (letN k) 110) = true, List.Mem (letN k) strsH, List.Mem 110 chrsH, decide (0 < n) = true, (!decide (0 ≤ n ∧ n ≤ 1099511627776)) = false])) := by kernel_rfl
theorem ptA4 : (fun (k e p s n b r : Int) (l out : List Int) (m d : Nat) => stopV [1, 4, 5, 49, 50] [0, 1, 4] (ptR (PL.2.length + 1) (TPt k e p s n b r l out m d 4 [false, true, false, true]))) = fun k e p s n b r l out m d => some (KPL, ([(1, .v (.one (.ptr 1 (.c 0) 1 0))), (4, .v (.one (.sstr (letN k)))), (5, .v (.one (.slice 4 (.c 0) 1 (.s (out ++ By.vint (IntKind.wrap .u64 b)).length) (.s (out ++ By.vint (IntKind.wrap .u64 b)).length)))), (49, arrPt), (50, .v (.one (.int .i64 5)))], ([roH l, SB.mk true (.exp (txtL k e p s n b r (blbC m d))), SB.mk true (.ints .u8 (out ++ By.vint (IntKind.wrap .u64 b)))], [By.u64 (IntKind.wrap .u64 b), out.length = out.length, out.length + 10 ≤ 140737488355328, hasC (letN k) 98 = true, List.Mem (letN k) strsH, List.Mem 98 chrsH, (!hasC (letN k) 98) = false, List.Mem (letN k) strsH, List.Mem 98 chrsH, decide (0 < b) = true, (!decide (0 ≤ b ∧ b ≤ 1099511627776)) = false]))) := by kernel_rfl
theorem ptB4 : (fun (k e p s n b r : Int) (l out : List Int) (m d : Nat) => stopV [1, 4, 5, 49, 50] [0, 1, 4] (ptR (PL.2.length + 1) (TPt k e p s n b r l out m d 4 [false, false, true]))) = fun k e p s n b r l out m d => some (KPL, ([(1, .v (.one (.ptr 1 (.c 0) 1 0))), (4, .v (.one (.sstr (letN k)))), (5, .v (.one (.slice 4 (.c 0) 1 (.s (out ++ By.vint (IntKind.wrap .u64 b)).length) (.s (out ++ By.vint (IntKind.wrap .u64 b)).length)))), (49, arrPt), (50, .v (.one (.int .i64 5)))], ([roH l, SB.mk true (.exp (txtL k e p s n b r (blbC m d))), SB.mk true (.ints .u8 (out ++ By.vint (IntKind.wrap .u64 b)))], [By.u64 (IntKind.wrap .u64 b), out.length = out.length, out.length + 10 ≤ 140737488355328, hasC (letN k) 98 = true, List.Mem (letN k) strsH, List.Mem 98 chrsH, decide (0 < b) = false, (!decide (0 ≤ b ∧ b ≤ 1099511627776)) = false]))) := by kernel_rfl
theorem ptC4 : (fun (k e p s n b r : Int) (l out : List Int) (m d : Nat) => stopV [1, 4, 5, 49, 50] [0, 1, 2] (ptR (PL.2.length + 1) (TPt k e p s n b r l out m d 4 [false, false, false]))) = fun k e p s n b r l out m d => some (KPL, ([(1, .v (.one (.ptr 1 (.c 0) 1 0))), (4, .v (.one (.sstr (letN k)))), (5, .v (.one (.slice 2 (.c 0) 1 (.s out.length) (.s out.length)))), (49, arrPt), (50, .v (.one (.int .i64 5)))], ([roH l, SB.mk true (.exp (txtL k e p s n b r (blbC m d))), SB.mk true (.ints .u8 out)], [hasC (letN k) 98 = false, List.Mem (letN k) strsH, List.Mem 98 chrsH, decide (0 < b) = false, (!decide (0 ≤ b ∧ b ≤ 1099511627776)) = false]))) := by kernel_rfl
theorem ptG4 : (fun (k e p s n b r : Int) (l out : List Int) (m d : Nat) => endV [0] (ptR 0 (TPt k e p s n b r l out m d 4 [true]))) = fun _ _ _ _ _ b _ l _ _ _ => some (.tup [.one .nils, .one (.int .i64 132)], ([roH l], [(!decide (0 ≤ b ∧ b ≤ 1099511627776)) = true])) := by kernel_rfl
theorem ptH4 : (fun (k e p s n b r : Int) (l out : List Int) (m d : Nat) => endV [0] (ptR 0 (TPt k e p s n b r l out m d 4 [false, true, true]))) = fun k _ _ _ _ b _ l _ _ _ => some (.tup [.one .nils, .one (.int .i64 132)], ([roH l], [(!hasC (letN k) 98) = true, List.Mem (letN k) strsH, List.Mem 98 chrsH, decide (0 < b) = true, (!decide (0 ≤ b ∧ b ≤ 1099511627776)) = false])) := by kernel_rfl
theorem ptX0 : (fun (k e p s n b r : Int) (l out : List Int) (m d : Nat) => endV [0, 2] (ptR 0 (TPt k e p s n b r l out m d 5 [false, false]))) = fun k _ _ _ _ _ _ l out _ _ => some (.tup [.one (.slice 2 (.c 0) 1 (.s out.length) (.s out.length)), .one (.int .i64 0)], ([roH l, SB.mk true (.ints .u8 out)], [hasC (letN k) 120 = false, List.Mem (letN k) strsH, List.Mem 120 chrsH, hasC (letN k) 114 = false, List.Mem (letN k) strsH, List.Mem 114 chrsH])) := by kernel_rfl
theorem ptX1 : (fun (k e p s n b r : Int) (l out : List Int) (m d : Nat) => endV [0, 3] (ptR 0 (TPt k e p s n b r l out m d 5 [true, false]))) = fun k _ _ _ _ _ r l out _ _ => some (.tup [.one (.slice 3 (.c 0) 1 (.s (out ++ By.vint (IntKind.wrap .u64 r)).length) (.s (out ++ By.vint (IntKind.wrap .u64 r)).length)), .one (.int .i64 0)], ([roH l, SB.mk true (.ints .u8 (out ++ By.vint (IntKind.wrap .u64 r)))], [hasC (letN k) 120 = false, List.Mem (letN k) strsH, List.Mem 120 chrsH, By.u64 (IntKind.wrap .u64 r), out.length = out.length, out.length + 10 ≤ 140737488355328, hasC (letN k) 114 = true, List.Mem (letN k) strsH, List.Mem 114 chrsH])) := by kernel_rfl
theorem ptX2 : (fun (k e p s n b r : Int) (l out : List Int) (m d : Nat) => endV [0, 3] (ptR 0 (TPt k e p s n b r l out m d 5 [false, true]))) = fun k _ _ _ _ _ _ l out (m : Nat) _ => some (.tup [.one (.slice 3 (.c 0) 1 (.s (out ++ By.vint (m : Int) ++ l.take m).length) (.s (out ++ By.vint (m : Int) ++ l.take m).length)), .one (.int .i64 0)], ([roH l, SB.mk true (.ints .u8 (out ++ By.vint (m : Int) ++ l.take m))], [out.length = out.length, m ≤ l.length, out.length + m + 20 ≤ 140737488355328, hasC (letN k) 120 = true, List.Mem (letN k) strsH, List.Mem 120 chrsH, hasC (letN k) 114 = false, List.Mem (letN k) strsH, List.Mem 114 chrsH])) := by kernel_rfl
theorem ptX3 : (fun (k e p s n b r : Int) (l out : List Int) (m d : Nat) => endV [0, 4] (ptR 0 (TPt k e p s n b r l out m d 5 [true, true]))) = fun k _ _ _ _ _ r l out (m : Nat) _ => some (.tup [.one (.slice 4 (.c 0) 1 (.s (out ++ By.vint (IntKind.wrap .u64 r) ++ By.vint (m : Int) ++ l.take m).length) (.s (out ++ By.vint (IntKind.wrap .u64 r) ++ By.vint (m : Int) ++ l.take m).length)), .one (.int .i64 0)], ([roH l, SB.mk true (.ints .u8 (out ++ By.vint (IntKind.wrap .u64 r) ++ By.vint (m : Int) ++ l.take m))], [(out ++ By.vint (IntKind.wrap .u64 r)).length = (out ++ By.vint (IntKind.wrap .u64 r)).length, m ≤ l.length, (out ++ By.vint (IntKind.wrap .u64 r)).length + m + 20 ≤ 140737488355328, hasC (letN k) 120 = true, List.Mem (letN k) strsH, List.Mem 120 chrsH, By.u64 (IntKind.wrap .u64 r), out.length = out.length, out.length + 10 ≤ 140737488355328, hasC (letN k) 114 = true, List.Mem (letN k) strsH, List.Mem 114 chrsH])) := by kernel_rfl
end
section
open Go.ChangeShapes Go.WideShapes Go.ChangeAt Go.RowKit Go.Sx
def fMax (i : Nat) : Int := [1099511627776, 1073741824, 1099511627776, 1099511627776, 1099511627776].getD i 0
def fChr (i : Nat) : Int := [101, 112, 115, 110, 98].getD i 0
def fOk (k : Int) (i : Nat) (v : Int) : Prop := (0 ≤ v ∧ v ≤ fMax i) ∧ (0 < v → hasC (letN k) (fChr i) = true)
def fAdd (k : Int) (i : Nat) (v : Int) (out : List Int) : List Int := if hasC (letN k) (fChr i) = true then out ++ By.vint v else out
def outP (k : Int) (v : List Int) : Nat → List Int
 | 0 => [k]
 | i + 1 => fAdd k i (v.getD i 0) (outP k v i)
def preR (k r : Int) (m : Nat) : Prop := letN k ≠ [] ∧ m ≤ 1048576 ∧ (0 < m → hasC (letN k) 120 = true) ∧ (0 ≤ r ∧ r ≤ 255) ∧ (r ≠ 0 → hasC (letN k) 114 = true)
def textR (k : Int) (v : List Int) (r : Int) (m : Nat) : Prop := preR k r m ∧ ∀ i, i < 5 → fOk k i (v.getD i 0)
def endP (k r : Int) (out blob : List Int) : List Int := out ++ (if hasC (letN k) 114 = true then By.vint r else []) ++ (if hasC (letN k) 120 = true then By.vint ((blob.length : Nat) : Int) ++ blob else [])
def putS (k : Int) (v : List Int) (r : Int) (blob : List Int) : List Int := endP k r (outP k v 5) blob
theorem fMax_le (i : Nat) : fMax i ≤ 1099511627776 := by
 unfold fMax
 match i with
 | 0 | 1 | 2 | 3 | 4 => decide
 | n + 5 => simp
theorem fAdd_len (k : Int) (i : Nat) {v : Int} (out : List Int) (h : 0 ≤ v ∧ v ≤ 1099511627776) : (fAdd k i v out).length ≤ out.length + 10 := by
 unfold fAdd
 have := By.vint_le (tok_u64 h.1 h.2)
 split
 ·rw [List.length_append]; omega
 ·omega
theorem outP_len {k : Int} {v : List Int} : ∀ i, (∀ j, j < i → 0 ≤ v.getD j 0 ∧ v.getD j 0 ≤ 1099511627776) → (outP k v i).length ≤ 1 + 10 * i
 | 0, _ => Nat.le_refl _
 | i + 1, h => by
  have h1 := outP_len i (k := k) (fun j hj => h j (by omega))
  have h2 := fAdd_len k i (outP k v i) (h i (by omega))
  show (fAdd k i (v.getD i 0) (outP k v i)).length ≤ _
  omega
theorem fOk_le {k : Int} {i : Nat} {v : Int} (h : fOk k i v) : 0 ≤ v ∧ v ≤ 1099511627776 := ⟨h.1.1, Int.le_trans h.1.2 (fMax_le i)⟩
theorem letN_mem (k : Int) : List.Mem (letN k) strsH := letN_in k
theorem chr_mem {c : Int} (h : chrsH.contains c = true) : List.Mem c chrsH := List.contains_iff_mem.1 h
theorem tabPt_ok : ∀ f g, tabPt f = some g → TabOk Try.prog f g := tabs_ok fun x hx => by
 simp only [List.mem_cons, List.not_mem_nil, or_false] at hx
 rcases hx with rfl | rfl | rfl | rfl | rfl
 ·exact has_tab
 ·exact hold_tab
 ·exact wi_tab
 ·exact By.uint_tab
 ·exact By.blob_tab
theorem callPt_ok (d : Nat) : CallOk Try.prog (callPt d) := callN_sound tabPt_ok d
theorem funPt : Try.prog.funcs[8]? = some (fnP 8) := by kernel_rfl
theorem bodPt : (fnP 8).body = some (bodyF 8) := by kernel_rfl
theorem tmpPt : 1 ≤ (fnP 8).ntmps := Nat.le_of_ble_eq_true (by kernel_rfl)
theorem arr_le {sel : List Nat} (h : sel[1]? = some 1) : leV sel arrPt arrPt :=
 ⟨⟨rfl, rfl⟩, ⟨h, rfl, rfl, rfl⟩, ⟨rfl, rfl⟩, ⟨rfl, rfl⟩, ⟨h, rfl, rfl, rfl⟩, ⟨rfl, rfl⟩, ⟨rfl, rfl⟩, ⟨h, rfl, rfl, rfl⟩, ⟨rfl, rfl⟩, ⟨rfl, rfl⟩, ⟨h, rfl, rfl, rfl⟩, ⟨rfl, rfl⟩, ⟨rfl, rfl⟩, ⟨h, rfl, rfl, rfl⟩, ⟨rfl, rfl⟩, trivial⟩
theorem txt_le {sel : List Nat} (h : sel[0]? = some 0) (k e p s n b r : Int) {m d : Nat} (hm : m ≤ d) : leL sel (txtL k e p s n b r (blbC m d)) (txtL k e p s n b r (blbC m d)) :=
 ⟨⟨rfl, rfl⟩, ⟨rfl, rfl⟩, ⟨rfl, rfl⟩, ⟨rfl, rfl⟩, ⟨rfl, rfl⟩, ⟨rfl, rfl⟩, ⟨rfl, rfl⟩, ⟨h, rfl, rfl, rfl, Nat.le_refl _, hm⟩, trivial⟩
theorem nd014 : (List.range 1 ++ [1, 4]).Nodup := by decide
theorem nd012P : (List.range 1 ++ [1, 2]).Nodup := by decide
theorem nd0P : (List.range 1 ++ ([] : List Nat)).Nodup := by decide
theorem app11 {A : Type} {f g : Int → Int → Int → Int → Int → Int → Int → List Int → List Int → Nat → Nat → A} (h : f = g) (k e p s n b r : Int) (l out : List Int) (m d : Nat) : f k e p s n b r l out m d = g k e p s n b r l out m d := by rw [h]
theorem app10 {A : Type} {f g : Int → Int → Int → Int → Int → Int → Int → List Int → Nat → Nat → A} (h : f = g) (k e p s n b r : Int) (l : List Int) (m d : Nat) : f k e p s n b r l m d = g k e p s n b r l m d := by rw [h]
theorem notT {b : Bool} (h : b = true) : (!b) = false := by rw [h]; rfl
theorem notF {b : Bool} (h : b = false) : (!b) = true := by rw [h]; rfl
section
variable {ρ : Env} {K : Nat → Prop} {W : World} {k e p s n b r : Int} {l : List Int} {m d : Nat}
abbrev InvP (k e p s n b r : Int) (l : List Int) (m d : Nat) (j : Nat) (h : List Bool) : St := TPt k e p s n b r l (outP k [e, p, s, n, b] j) m d j h
def badV : V := .tup [.one .nils, .one (.int .i64 132)]
theorem pt_step0 {R : Ending → World → Prop} {good : Nat → Prop} (hg : good (0 + 1)) (hρ : ρ.length = 1) (hmd : m ≤ d) (hf : fOk k 0 e) (hl : (outP k [e, p, s, n, b] 0).length ≤ 1000) : Step3 Try.prog 8 (callPt 6) effPt (fnP 8) PL.1 PL.2 [] ρ K W R (InvP k e p s n b r l m d) good (fun j => 5 - j) 0 := by
 obtain ⟨e0, rfl⟩ := List.length_eq_one_iff.1 hρ
 have hv := fOk_le hf
 have hr : decide (0 ≤ e ∧ e ≤ 1099511627776) = true := decide_eq_true hf.1
 have cm := chr_mem (c := 101) (by decide)
 by_cases hc : hasC (letN k) 101 = true
 ·have hO : outP k [e, p, s, n, b] (0 + 1) = outP k [e, p, s, n, b] 0 ++ By.vint e := by
   show fAdd k 0 e (outP k [e, p, s, n, b] 0) = _
   unfold fAdd
   exact if_pos hc
  by_cases h0 : 0 < e
  ·have q := app11 ptA0 k e p s n b r l (outP k [e, p, s, n, b] 0) m d
   rw [w64u hv.1 hv.2, ← hO] at q
   refine .round [false, true, false, true] [] _ _ [1, 4, 5, 49, 50] [1, 4] _ _ _ (0 + 1) q ⟨tok_u64 hv.1 hv.2, rfl, by omega, hc, letN_mem k, cm, notT hc, letN_mem k, cm, decide_eq_true h0, notT hr, trivial⟩ ⟨nd014, ?_, ?_⟩ hg (by decide)
   ·exact ⟨⟨rfl, rfl, rfl, rfl, rfl⟩, ⟨rfl, rfl⟩, ⟨rfl, rfl, rfl, rfl, rfl, Nat.le_refl _, Nat.le_refl _⟩, ⟨rfl, arr_le rfl⟩, ⟨rfl, rfl, rfl⟩, trivial⟩
   ·exact ⟨⟨fun h => h, rfl, rfl⟩, ⟨fun h => h, txt_le rfl _ _ _ _ _ _ _ hmd⟩, ⟨fun h => h, rfl, rfl⟩, trivial⟩
  ·have q := app11 ptB0 k e p s n b r l (outP k [e, p, s, n, b] 0) m d
   rw [w64u hv.1 hv.2, ← hO] at q
   refine .round [false, false, true] [] _ _ [1, 4, 5, 49, 50] [1, 4] _ _ _ (0 + 1) q ⟨tok_u64 hv.1 hv.2, rfl, by omega, hc, letN_mem k, cm, decide_eq_false h0, notT hr, trivial⟩ ⟨nd014, ?_, ?_⟩ hg (by decide)
   ·exact ⟨⟨rfl, rfl, rfl, rfl, rfl⟩, ⟨rfl, rfl⟩, ⟨rfl, rfl, rfl, rfl, rfl, Nat.le_refl _, Nat.le_refl _⟩, ⟨rfl, arr_le rfl⟩, ⟨rfl, rfl, rfl⟩, trivial⟩
   ·exact ⟨⟨fun h => h, rfl, rfl⟩, ⟨fun h => h, txt_le rfl _ _ _ _ _ _ _ hmd⟩, ⟨fun h => h, rfl, rfl⟩, trivial⟩
 ·have h0 : ¬ 0 < e := fun h => hc (hf.2 h)
  have hO : outP k [e, p, s, n, b] (0 + 1) = outP k [e, p, s, n, b] 0 := by
   show fAdd k 0 e (outP k [e, p, s, n, b] 0) = _
   unfold fAdd
   exact if_neg hc
  have q := app11 ptC0 k e p s n b r l (outP k [e, p, s, n, b] 0) m d
  refine .round [false, false, false] [] _ _ [1, 4, 5, 49, 50] [1, 2] _ _ _ (0 + 1) q ⟨by simpa using hc, letN_mem k, cm, decide_eq_false h0, notT hr, trivial⟩ ⟨nd012P, ?_, ?_⟩ hg (by decide)
  ·exact ⟨⟨rfl, rfl, rfl, rfl, rfl⟩, ⟨rfl, rfl⟩, ⟨rfl, rfl, rfl, rfl, congrArg List.length hO.symm, Nat.le_of_eq (congrArg List.length hO), Nat.le_of_eq (congrArg List.length hO.symm)⟩, ⟨rfl, arr_le rfl⟩, ⟨rfl, rfl, rfl⟩, trivial⟩
  ·exact ⟨⟨fun h => h, rfl, rfl⟩, ⟨fun h => h, txt_le rfl _ _ _ _ _ _ _ hmd⟩, ⟨fun h => h, rfl, hO.symm⟩, trivial⟩
theorem pt_fail0 (hρ : ρ.length = 1) (hf : ¬ fOk k 0 e) : ∀ ρ' a w, RelD [] (ρ ++ ρ') K W (fnP 8).ntmps (InvP k e p s n b r l m d 0 []) a w → Goes Try.prog 8 (RetW ρ K W badV [roH l]) (.code PL.1 :: .inLoop PL.1 :: PL.2) a w := fun ρ' a w hr => by
 obtain ⟨e0, rfl⟩ := List.length_eq_one_iff.1 hρ
 have cm := chr_mem (c := 101) (by decide)
 by_cases h1 : 0 ≤ e ∧ e ≤ 1099511627776
 ·have h2 : 0 < e := Classical.byContradiction fun h2 => hf ⟨h1, fun h => absurd h h2⟩
  have h3 : hasC (letN k) 101 = false := by
   cases h3 : hasC (letN k) 101 with
   | false => rfl
   | true => exact absurd ⟨h1, fun _ => h3⟩ hf
  exact goes_retW (ρ := [e0]) (r := []) (v := badV) (bs' := [roH l]) (callPt_ok 6) funPt (app11 ptH0 k e p s n b r l (outP k [e, p, s, n, b] 0) m d) ⟨notF h3, letN_mem k, cm, decide_eq_true h2, notT (decide_eq_true h1), trivial⟩ nd0P ⟨trivial, ⟨rfl, rfl⟩, trivial⟩ ⟨⟨fun h => h, rfl, rfl⟩, trivial⟩ (hr.hints (S' := InvP k e p s n b r l m d 0 [false, true, true]) rfl rfl)
 ·exact goes_retW (ρ := [e0]) (r := []) (v := badV) (bs' := [roH l]) (callPt_ok 6) funPt (app11 ptG0 k e p s n b r l (outP k [e, p, s, n, b] 0) m d) ⟨notF (decide_eq_false h1), trivial⟩ nd0P ⟨trivial, ⟨rfl, rfl⟩, trivial⟩ ⟨⟨fun h => h, rfl, rfl⟩, trivial⟩ (hr.hints (S' := InvP k e p s n b r l m d 0 [true]) rfl rfl)
theorem pt_step1 {R : Ending → World → Prop} {good : Nat → Prop} (hg : good (1 + 1)) (hρ : ρ.length = 1) (hmd : m ≤ d) (hf : fOk k 1 p) (hl : (outP k [e, p, s, n, b] 1).length ≤ 1000) : Step3 Try.prog 8 (callPt 6) effPt (fnP 8) PL.1 PL.2 [] ρ K W R (InvP k e p s n b r l m d) good (fun j => 5 - j) 1 := by
 obtain ⟨e0, rfl⟩ := List.length_eq_one_iff.1 hρ
 have hv := fOk_le hf
 have hr : decide (0 ≤ p ∧ p ≤ 1073741824) = true := decide_eq_true hf.1
 have cm := chr_mem (c := 112) (by decide)
 by_cases hc : hasC (letN k) 112 = true
 ·have hO : outP k [e, p, s, n, b] (1 + 1) = outP k [e, p, s, n, b] 1 ++ By.vint p := by
   show fAdd k 1 p (outP k [e, p, s, n, b] 1) = _
   unfold fAdd
   exact if_pos hc
  by_cases h0 : 0 < p
  ·have q := app11 ptA1 k e p s n b r l (outP k [e, p, s, n, b] 1) m d
   rw [w64u hv.1 hv.2, ← hO] at q
   refine .round [false, true, false, true] [] _ _ [1, 4, 5, 49, 50] [1, 4] _ _ _ (1 + 1) q ⟨tok_u64 hv.1 hv.2, rfl, by omega, hc, letN_mem k, cm, notT hc, letN_mem k, cm, decide_eq_true h0, notT hr, trivial⟩ ⟨nd014, ?_, ?_⟩ hg (by decide)
   ·exact ⟨⟨rfl, rfl, rfl, rfl, rfl⟩, ⟨rfl, rfl⟩, ⟨rfl, rfl, rfl, rfl, rfl, Nat.le_refl _, Nat.le_refl _⟩, ⟨rfl, arr_le rfl⟩, ⟨rfl, rfl, rfl⟩, trivial⟩
   ·exact ⟨⟨fun h => h, rfl, rfl⟩, ⟨fun h => h, txt_le rfl _ _ _ _ _ _ _ hmd⟩, ⟨fun h => h, rfl, rfl⟩, trivial⟩
  ·have q := app11 ptB1 k e p s n b r l (outP k [e, p, s, n, b] 1) m d
   rw [w64u hv.1 hv.2, ← hO] at q
   refine .round [false, false, true] [] _ _ [1, 4, 5, 49, 50] [1, 4] _ _ _ (1 + 1) q ⟨tok_u64 hv.1 hv.2, rfl, by omega, hc, letN_mem k, cm, decide_eq_false h0, notT hr, trivial⟩ ⟨nd014, ?_, ?_⟩ hg (by decide)
   ·exact ⟨⟨rfl, rfl, rfl, rfl, rfl⟩, ⟨rfl, rfl⟩, ⟨rfl, rfl, rfl, rfl, rfl, Nat.le_refl _, Nat.le_refl _⟩, ⟨rfl, arr_le rfl⟩, ⟨rfl, rfl, rfl⟩, trivial⟩
   ·exact ⟨⟨fun h => h, rfl, rfl⟩, ⟨fun h => h, txt_le rfl _ _ _ _ _ _ _ hmd⟩, ⟨fun h => h, rfl, rfl⟩, trivial⟩
 ·have h0 : ¬ 0 < p := fun h => hc (hf.2 h)
  have hO : outP k [e, p, s, n, b] (1 + 1) = outP k [e, p, s, n, b] 1 := by
   show fAdd k 1 p (outP k [e, p, s, n, b] 1) = _
   unfold fAdd
   exact if_neg hc
  have q := app11 ptC1 k e p s n b r l (outP k [e, p, s, n, b] 1) m d
  refine .round [false, false, false] [] _ _ [1, 4, 5, 49, 50] [1, 2] _ _ _ (1 + 1) q ⟨by simpa using hc, letN_mem k, cm, decide_eq_false h0, notT hr, trivial⟩ ⟨nd012P, ?_, ?_⟩ hg (by decide)
  ·exact ⟨⟨rfl, rfl, rfl, rfl, rfl⟩, ⟨rfl, rfl⟩, ⟨rfl, rfl, rfl, rfl, congrArg List.length hO.symm, Nat.le_of_eq (congrArg List.length hO), Nat.le_of_eq (congrArg List.length hO.symm)⟩, ⟨rfl, arr_le rfl⟩, ⟨rfl, rfl, rfl⟩, trivial⟩
  ·exact ⟨⟨fun h => h, rfl, rfl⟩, ⟨fun h => h, txt_le rfl _ _ _ _ _ _ _ hmd⟩, ⟨fun h => h, rfl, hO.symm⟩, trivial⟩
theorem pt_fail1 (hρ : ρ.length = 1) (hf : ¬ fOk k 1 p) : ∀ ρ' a w, RelD [] (ρ ++ ρ') K W (fnP 8).ntmps (InvP k e p s n b r l m d 1 []) a w → Goes Try.prog 8 (RetW ρ K W badV [roH l]) (.code PL.1 :: .inLoop PL.1 :: PL.2) a w := fun ρ' a w hr => by
 obtain ⟨e0, rfl⟩ := List.length_eq_one_iff.1 hρ
 have cm := chr_mem (c := 112) (by decide)
 by_cases h1 : 0 ≤ p ∧ p ≤ 1073741824
 ·have h2 : 0 < p := Classical.byContradiction fun h2 => hf ⟨h1, fun h => absurd h h2⟩
  have h3 : hasC (letN k) 112 = false := by
   cases h3 : hasC (letN k) 112 with
   | false => rfl
   | true => exact absurd ⟨h1, fun _ => h3⟩ hf
  exact goes_retW (ρ := [e0]) (r := []) (v := badV) (bs' := [roH l]) (callPt_ok 6) funPt (app11 ptH1 k e p s n b r l (outP k [e, p, s, n, b] 1) m d) ⟨notF h3, letN_mem k, cm, decide_eq_true h2, notT (decide_eq_true h1), trivial⟩ nd0P ⟨trivial, ⟨rfl, rfl⟩, trivial⟩ ⟨⟨fun h => h, rfl, rfl⟩, trivial⟩ (hr.hints (S' := InvP k e p s n b r l m d 1 [false, true, true]) rfl rfl)
 ·exact goes_retW (ρ := [e0]) (r := []) (v := badV) (bs' := [roH l]) (callPt_ok 6) funPt (app11 ptG1 k e p s n b r l (outP k [e, p, s, n, b] 1) m d) ⟨notF (decide_eq_false h1), trivial⟩ nd0P ⟨trivial, ⟨rfl, rfl⟩, trivial⟩ ⟨⟨fun h => h, rfl, rfl⟩, trivial⟩ (hr.hints (S' := InvP k e p s n b r l m d 1 [true]) rfl rfl)
theorem pt_step2 {R : Ending → World → Prop} {good : Nat → Prop} (hg : good (2 + 1)) (hρ : ρ.length = 1) (hmd : m ≤ d) (hf : fOk k 2 s) (hl : (outP k [e, p, s, n, b] 2).length ≤ 1000) : Step3 Try.prog 8 (callPt 6) effPt (fnP 8) PL.1 PL.2 [] ρ K W R (InvP k e p s n b r l m d) good (fun j => 5 - j) 2 := by
 obtain ⟨e0, rfl⟩ := List.length_eq_one_iff.1 hρ
 have hv := fOk_le hf
 have hr : decide (0 ≤ s ∧ s ≤ 1099511627776) = true := decide_eq_true hf.1
 have cm := chr_mem (c := 115) (by decide)
 by_cases hc : hasC (letN k) 115 = true
 ·have hO : outP k [e, p, s, n, b] (2 + 1) = outP k [e, p, s, n, b] 2 ++ By.vint s := by
   show fAdd k 2 s (outP k [e, p, s, n, b] 2) = _
   unfold fAdd
   exact if_pos hc
  by_cases h0 : 0 < s
  ·have q := app11 ptA2 k e p s n b r l (outP k [e, p, s, n, b] 2) m d
   rw [w64u hv.1 hv.2, ← hO] at q
   refine .round [false, true, false, true] [] _ _ [1, 4, 5, 49, 50] [1, 4] _ _ _ (2 + 1) q ⟨tok_u64 hv.1 hv.2, rfl, by omega, hc, letN_mem k, cm, notT hc, letN_mem k, cm, decide_eq_true h0, notT hr, trivial⟩ ⟨nd014, ?_, ?_⟩ hg (by decide)
   ·exact ⟨⟨rfl, rfl, rfl, rfl, rfl⟩, ⟨rfl, rfl⟩, ⟨rfl, rfl, rfl, rfl, rfl, Nat.le_refl _, Nat.le_refl _⟩, ⟨rfl, arr_le rfl⟩, ⟨rfl, rfl, rfl⟩, trivial⟩
   ·exact ⟨⟨fun h => h, rfl, rfl⟩, ⟨fun h => h, txt_le rfl _ _ _ _ _ _ _ hmd⟩, ⟨fun h => h, rfl, rfl⟩, trivial⟩
  ·have q := app11 ptB2 k e p s n b r l (outP k [e, p, s, n, b] 2) m d
   rw [w64u hv.1 hv.2, ← hO] at q
   refine .round [false, false, true] [] _ _ [1, 4, 5, 49, 50] [1, 4] _ _ _ (2 + 1) q ⟨tok_u64 hv.1 hv.2, rfl, by omega, hc, letN_mem k, cm, decide_eq_false h0, notT hr, trivial⟩ ⟨nd014, ?_, ?_⟩ hg (by decide)
   ·exact ⟨⟨rfl, rfl, rfl, rfl, rfl⟩, ⟨rfl, rfl⟩, ⟨rfl, rfl, rfl, rfl, rfl, Nat.le_refl _, Nat.le_refl _⟩, ⟨rfl, arr_le rfl⟩, ⟨rfl, rfl, rfl⟩, trivial⟩
   ·exact ⟨⟨fun h => h, rfl, rfl⟩, ⟨fun h => h, txt_le rfl _ _ _ _ _ _ _ hmd⟩, ⟨fun h => h, rfl, rfl⟩, trivial⟩
 ·have h0 : ¬ 0 < s := fun h => hc (hf.2 h)
  have hO : outP k [e, p, s, n, b] (2 + 1) = outP k [e, p, s, n, b] 2 := by
   show fAdd k 2 s (outP k [e, p, s, n, b] 2) = _
   unfold fAdd
   exact if_neg hc
  have q := app11 ptC2 k e p s n b r l (outP k [e, p, s, n, b] 2) m d
  refine .round [false, false, false] [] _ _ [1, 4, 5, 49, 50] [1, 2] _ _ _ (2 + 1) q ⟨by simpa using hc, letN_mem k, cm, decide_eq_false h0, notT hr, trivial⟩ ⟨nd012P, ?_, ?_⟩ hg (by decide)
  ·exact ⟨⟨rfl, rfl, rfl, rfl, rfl⟩, ⟨rfl, rfl⟩, ⟨rfl, rfl, rfl, rfl, congrArg List.length hO.symm, Nat.le_of_eq (congrArg List.length hO), Nat.le_of_eq (congrArg List.length hO.symm)⟩, ⟨rfl, arr_le rfl⟩, ⟨rfl, rfl, rfl⟩, trivial⟩
  ·exact ⟨⟨fun h => h, rfl, rfl⟩, ⟨fun h => h, txt_le rfl _ _ _ _ _ _ _ hmd⟩, ⟨fun h => h, rfl, hO.symm⟩, trivial⟩
theorem pt_fail2 (hρ : ρ.length = 1) (hf : ¬ fOk k 2 s) : ∀ ρ' a w, RelD [] (ρ ++ ρ') K W (fnP 8).ntmps (InvP k e p s n b r l m d 2 []) a w → Goes Try.prog 8 (RetW ρ K W badV [roH l]) (.code PL.1 :: .inLoop PL.1 :: PL.2) a w := fun ρ' a w hr => by
 obtain ⟨e0, rfl⟩ := List.length_eq_one_iff.1 hρ
 have cm := chr_mem (c := 115) (by decide)
 by_cases h1 : 0 ≤ s ∧ s ≤ 1099511627776
 ·have h2 : 0 < s := Classical.byContradiction fun h2 => hf ⟨h1, fun h => absurd h h2⟩
  have h3 : hasC (letN k) 115 = false := by
   cases h3 : hasC (letN k) 115 with
   | false => rfl
   | true => exact absurd ⟨h1, fun _ => h3⟩ hf
  exact goes_retW (ρ := [e0]) (r := []) (v := badV) (bs' := [roH l]) (callPt_ok 6) funPt (app11 ptH2 k e p s n b r l (outP k [e, p, s, n, b] 2) m d) ⟨notF h3, letN_mem k, cm, decide_eq_true h2, notT (decide_eq_true h1), trivial⟩ nd0P ⟨trivial, ⟨rfl, rfl⟩, trivial⟩ ⟨⟨fun h => h, rfl, rfl⟩, trivial⟩ (hr.hints (S' := InvP k e p s n b r l m d 2 [false, true, true]) rfl rfl)
 ·exact goes_retW (ρ := [e0]) (r := []) (v := badV) (bs' := [roH l]) (callPt_ok 6) funPt (app11 ptG2 k e p s n b r l (outP k [e, p, s, n, b] 2) m d) ⟨notF (decide_eq_false h1), trivial⟩ nd0P ⟨trivial, ⟨rfl, rfl⟩, trivial⟩ ⟨⟨fun h => h, rfl, rfl⟩, trivial⟩ (hr.hints (S' := InvP k e p s n b r l m d 2 [true]) rfl rfl)
theorem pt_step3 {R : Ending → World → Prop} {good : Nat → Prop} (hg : good (3 + 1)) (hρ : ρ.length = 1) (hmd : m ≤ d) (hf : fOk k 3 n) (hl : (outP k [e, p, s, n, b] 3).length ≤ 1000) : Step3 Try.prog 8 (callPt 6) effPt (fnP 8) PL.1 PL.2 [] ρ K W R (InvP k e p s n b r l m d) good (fun j => 5 - j) 3 := by
 obtain ⟨e0, rfl⟩ := List.length_eq_one_iff.1 hρ
 have hv := fOk_le hf
 have hr : decide (0 ≤ n ∧ n ≤ 1099511627776) = true := decide_eq_true hf.1
 have cm := chr_mem (c := 110) (by decide)
 by_cases hc : hasC (letN k) 110 = true
 ·have hO : outP k [e, p, s, n, b] (3 + 1) = outP k [e, p, s, n, b] 3 ++ By.vint n := by
   show fAdd k 3 n (outP k [e, p, s, n, b] 3) = _
   unfold fAdd
   exact if_pos hc
  by_cases h0 : 0 < n
  ·have q := app11 ptA3 k e p s n b r l (outP k [e, p, s, n, b] 3) m d
   rw [w64u hv.1 hv.2, ← hO] at q
   refine .round [false, true, false, true] [] _ _ [1, 4, 5, 49, 50] [1, 4] _ _ _ (3 + 1) q ⟨tok_u64 hv.1 hv.2, rfl, by omega, hc, letN_mem k, cm, notT hc, letN_mem k, cm, decide_eq_true h0, notT hr, trivial⟩ ⟨nd014, ?_, ?_⟩ hg (by decide)
   ·exact ⟨⟨rfl, rfl, rfl, rfl, rfl⟩, ⟨rfl, rfl⟩, ⟨rfl, rfl, rfl, rfl, rfl, Nat.le_refl _, Nat.le_refl _⟩, ⟨rfl, arr_le rfl⟩, ⟨rfl, rfl, rfl⟩, trivial⟩
   ·exact ⟨⟨fun h => h, rfl, rfl⟩, ⟨fun h => h, txt_le rfl _ _ _ _ _ _ _ hmd⟩, ⟨fun h => h, rfl, rfl⟩, trivial⟩
  ·have q := app11 ptB3 k e p s n b r l (outP k [e, p, s, n, b] 3) m d
   rw [w64u hv.1 hv.2, ← hO] at q
   refine .round [false, false, true] [] _ _ [1, 4, 5, 49, 50] [1, 4] _ _ _ (3 + 1) q ⟨tok_u64 hv.1 hv.2, rfl, by omega, hc, letN_mem k, cm, decide_eq_false h0, notT hr, trivial⟩ ⟨nd014, ?_, ?_⟩ hg (by decide)
   ·exact ⟨⟨rfl, rfl, rfl, rfl, rfl⟩, ⟨rfl, rfl⟩, ⟨rfl, rfl, rfl, rfl, rfl, Nat.le_refl _, Nat.le_refl _⟩, ⟨rfl, arr_le rfl⟩, ⟨rfl, rfl, rfl⟩, trivial⟩
   ·exact ⟨⟨fun h => h, rfl, rfl⟩, ⟨fun h => h, txt_le rfl _ _ _ _ _ _ _ hmd⟩, ⟨fun h => h, rfl, rfl⟩, trivial⟩
 ·have h0 : ¬ 0 < n := fun h => hc (hf.2 h)
  have hO : outP k [e, p, s, n, b] (3 + 1) = outP k [e, p, s, n, b] 3 := by
   show fAdd k 3 n (outP k [e, p, s, n, b] 3) = _
   unfold fAdd
   exact if_neg hc
  have q := app11 ptC3 k e p s n b r l (outP k [e, p, s, n, b] 3) m d
  refine .round [false, false, false] [] _ _ [1, 4, 5, 49, 50] [1, 2] _ _ _ (3 + 1) q ⟨by simpa using hc, letN_mem k, cm, decide_eq_false h0, notT hr, trivial⟩ ⟨nd012P, ?_, ?_⟩ hg (by decide)
  ·exact ⟨⟨rfl, rfl, rfl, rfl, rfl⟩, ⟨rfl, rfl⟩, ⟨rfl, rfl, rfl, rfl, congrArg List.length hO.symm, Nat.le_of_eq (congrArg List.length hO), Nat.le_of_eq (congrArg List.length hO.symm)⟩, ⟨rfl, arr_le rfl⟩, ⟨rfl, rfl, rfl⟩, trivial⟩
  ·exact ⟨⟨fun h => h, rfl, rfl⟩, ⟨fun h => h, txt_le rfl _ _ _ _ _ _ _ hmd⟩, ⟨fun h => h, rfl, hO.symm⟩, trivial⟩
theorem pt_fail3 (hρ : ρ.length = 1) (hf : ¬ fOk k 3 n) : ∀ ρ' a w, RelD [] (ρ ++ ρ') K W (fnP 8).ntmps (InvP k e p s n b r l m d 3 []) a w → Goes Try.prog 8 (RetW ρ K W badV [roH l]) (.code PL.1 :: .inLoop PL.1 :: PL.2) a w := fun ρ' a w hr => by
 obtain ⟨e0, rfl⟩ := List.length_eq_one_iff.1 hρ
 have cm := chr_mem (c := 110) (by decide)
 by_cases h1 : 0 ≤ n ∧ n ≤ 1099511627776
 ·have h2 : 0 < n := Classical.byContradiction fun h2 => hf ⟨h1, fun h => absurd h h2⟩
  have h3 : hasC (letN k) 110 = false := by
   cases h3 : hasC (letN k) 110 with
   | false => rfl
   | true => exact absurd ⟨h1, fun _ => h3⟩ hf
  exact goes_retW (ρ := [e0]) (r := []) (v := badV) (bs' := [roH l]) (callPt_ok 6) funPt (app11 ptH3 k e p s n b r l (outP k [e, p, s, n, b] 3) m d) ⟨notF h3, letN_mem k, cm, decide_eq_true h2, notT (decide_eq_true h1), trivial⟩ nd0P ⟨trivial, ⟨rfl, rfl⟩, trivial⟩ ⟨⟨fun h => h, rfl, rfl⟩, trivial⟩ (hr.hints (S' := InvP k e p s n b r l m d 3 [false, true, true]) rfl rfl)
 ·exact goes_retW (ρ := [e0]) (r := []) (v := badV) (bs' := [roH l]) (callPt_ok 6) funPt (app11 ptG3 k e p s n b r l (outP k [e, p, s, n, b] 3) m d) ⟨notF (decide_eq_false h1), trivial⟩ nd0P ⟨trivial, ⟨rfl, rfl⟩, trivial⟩ ⟨⟨fun h => h, rfl, rfl⟩, trivial⟩ (hr.hints (S' := InvP k e p s n b r l m d 3 [true]) rfl rfl)
theorem pt_step4 {R : Ending → World → Prop} {good : Nat → Prop} (hg : good (4 + 1)) (hρ : ρ.length = 1) (hmd : m ≤ d) (hf : fOk k 4 b) (hl : (outP k [e, p, s, n, b] 4).length ≤ 1000) : Step3 Try.prog 8 (callPt 6) effPt (fnP 8) PL.1 PL.2 [] ρ K W R (InvP k e p s n b r l m d) good (fun j => 5 - j) 4 := by
 obtain ⟨e0, rfl⟩ := List.length_eq_one_iff.1 hρ
 have hv := fOk_le hf
 have hr : decide (0 ≤ b ∧ b ≤ 1099511627776) = true := decide_eq_true hf.1
 have cm := chr_mem (c := 98) (by decide)
 by_cases hc : hasC (letN k) 98 = true
 ·have hO : outP k [e, p, s, n, b] (4 + 1) = outP k [e, p, s, n, b] 4 ++ By.vint b := by
   show fAdd k 4 b (outP k [e, p, s, n, b] 4) = _
   unfold fAdd
   exact if_pos hc
  by_cases h0 : 0 < b
  ·have q := app11 ptA4 k e p s n b r l (outP k [e, p, s, n, b] 4) m d
   rw [w64u hv.1 hv.2, ← hO] at q
   refine .round [false, true, false, true] [] _ _ [1, 4, 5, 49, 50] [1, 4] _ _ _ (4 + 1) q ⟨tok_u64 hv.1 hv.2, rfl, by omega, hc, letN_mem k, cm, notT hc, letN_mem k, cm, decide_eq_true h0, notT hr, trivial⟩ ⟨nd014, ?_, ?_⟩ hg (by decide)
   ·exact ⟨⟨rfl, rfl, rfl, rfl, rfl⟩, ⟨rfl, rfl⟩, ⟨rfl, rfl, rfl, rfl, rfl, Nat.le_refl _, Nat.le_refl _⟩, ⟨rfl, arr_le rfl⟩, ⟨rfl, rfl, rfl⟩, trivial⟩
   ·exact ⟨⟨fun h => h, rfl, rfl⟩, ⟨fun h => h, txt_le rfl _ _ _ _ _ _ _ hmd⟩, ⟨fun h => h, rfl, rfl⟩, trivial⟩
  ·have q := app11 ptB4 k e p s n b r l (outP k [e, p, s, n, b] 4) m d
   rw [w64u hv.1 hv.2, ← hO] at q
   refine .round [false, false, true] [] _ _ [1, 4, 5, 49, 50] [1, 4] _ _ _ (4 + 1) q ⟨tok_u64 hv.1 hv.2, rfl, by omega, hc, letN_mem k, cm, decide_eq_false h0, notT hr, trivial⟩ ⟨nd014, ?_, ?_⟩ hg (by decide)
   ·exact ⟨⟨rfl, rfl, rfl, rfl, rfl⟩, ⟨rfl, rfl⟩, ⟨rfl, rfl, rfl, rfl, rfl, Nat.le_refl _, Nat.le_refl _⟩, ⟨rfl, arr_le rfl⟩, ⟨rfl, rfl, rfl⟩, trivial⟩
   ·exact ⟨⟨fun h => h, rfl, rfl⟩, ⟨fun h => h, txt_le rfl _ _ _ _ _ _ _ hmd⟩, ⟨fun h => h, rfl, rfl⟩, trivial⟩
 ·have h0 : ¬ 0 < b := fun h => hc (hf.2 h)
  have hO : outP k [e, p, s, n, b] (4 + 1) = outP k [e, p, s, n, b] 4 := by
   show fAdd k 4 b (outP k [e, p, s, n, b] 4) = _
   unfold fAdd
   exact if_neg hc
  have q := app11 ptC4 k e p s n b r l (outP k [e, p, s, n, b] 4) m d
  refine .round [false, false, false] [] _ _ [1, 4, 5, 49, 50] [1, 2] _ _ _ (4 + 1) q ⟨by simpa using hc, letN_mem k, cm, decide_eq_false h0, notT hr, trivial⟩ ⟨nd012P, ?_, ?_⟩ hg (by decide)
  ·exact ⟨⟨rfl, rfl, rfl, rfl, rfl⟩, ⟨rfl, rfl⟩, ⟨rfl, rfl, rfl, rfl, congrArg List.length hO.symm, Nat.le_of_eq (congrArg List.length hO), Nat.le_of_eq (congrArg List.length hO.symm)⟩, ⟨rfl, arr_le rfl⟩, ⟨rfl, rfl, rfl⟩, trivial⟩
  ·exact ⟨⟨fun h => h, rfl, rfl⟩, ⟨fun h => h, txt_le rfl _ _ _ _ _ _ _ hmd⟩, ⟨fun h => h, rfl, hO.symm⟩, trivial⟩
theorem pt_fail4 (hρ : ρ.length = 1) (hf : ¬ fOk k 4 b) : ∀ ρ' a w, RelD [] (ρ ++ ρ') K W (fnP 8).ntmps (InvP k e p s n b r l m d 4 []) a w → Goes Try.prog 8 (RetW ρ K W badV [roH l]) (.code PL.1 :: .inLoop PL.1 :: PL.2) a w := fun ρ' a w hr => by
 obtain ⟨e0, rfl⟩ := List.length_eq_one_iff.1 hρ
 have cm := chr_mem (c := 98) (by decide)
 by_cases h1 : 0 ≤ b ∧ b ≤ 1099511627776
 ·have h2 : 0 < b := Classical.byContradiction fun h2 => hf ⟨h1, fun h => absurd h h2⟩
  have h3 : hasC (letN k) 98 = false := by
   cases h3 : hasC (letN k) 98 with
   | false => rfl
   | true => exact absurd ⟨h1, fun _ => h3⟩ hf
  exact goes_retW (ρ := [e0]) (r := []) (v := badV) (bs' := [roH l]) (callPt_ok 6) funPt (app11 ptH4 k e p s n b r l (outP k [e, p, s, n, b] 4) m d) ⟨notF h3, letN_mem k, cm, decide_eq_true h2, notT (decide_eq_true h1), trivial⟩ nd0P ⟨trivial, ⟨rfl, rfl⟩, trivial⟩ ⟨⟨fun h => h, rfl, rfl⟩, trivial⟩ (hr.hints (S' := InvP k e p s n b r l m d 4 [false, true, true]) rfl rfl)
 ·exact goes_retW (ρ := [e0]) (r := []) (v := badV) (bs' := [roH l]) (callPt_ok 6) funPt (app11 ptG4 k e p s n b r l (outP k [e, p, s, n, b] 4) m d) ⟨notF (decide_eq_false h1), trivial⟩ nd0P ⟨trivial, ⟨rfl, rfl⟩, trivial⟩ ⟨⟨fun h => h, rfl, rfl⟩, trivial⟩ (hr.hints (S' := InvP k e p s n b r l m d 4 [true]) rfl rfl)
end
end
section
open Go.ChangeShapes Go.WideShapes Go.ChangeAt Go.RowKit Go.Sx
section
variable {e0 : E} {K : Nat → Prop} {W : World} {k e p s n b r : Int} {l : List Int} {m d : Nat}
def txtA (k e p s n b r : Int) (m d : Nat) : V := .v (.agg (txtL k e p s n b r (blbC m d)))
theorem strE : (letN k == Array.toList (ByteArray.data { data := #[] })) = decide (letN k = []) := by
 cases letN k <;> rfl
theorem pt_entry {R : Ending → World → Prop} (hk : 0 ≤ k ∧ k < 256) (hmd : m ≤ d) (h : preR k r m)
  (hg : ∀ ρ' a w, RelD [] ([e0] ++ ρ') K W (fnP 8).ntmps (InvP k e p s n b r l m d 0 []) a w → Goes Try.prog 8 R (.code (.loop PL.1) :: PL.2) a w)
  {a : Act} {w : World} (hr : RelD [] ([e0] ++ []) K W (fnP 8).ntmps ⟨argSlots 0 [txtA k e p s n b r m d], [roH l], [], []⟩ a w) : Goes Try.prog 8 R [.code (bodyF 8)] a w := by
 obtain ⟨h1, h2, h3, h4, h5⟩ := h
 have f1 : (letN k == Array.toList (ByteArray.data { data := #[] })) = false := by rw [strE]; exact decide_eq_false h1
 have f2 : decide ((1048576 : Int) < (m : Int)) = false := decide_eq_false (by omega)
 have f4 : (!decide (0 ≤ r ∧ r ≤ 255)) = false := notT (decide_eq_true h4)
 have cx := chr_mem (c := 120) (by decide)
 have cr := chr_mem (c := 114) (by decide)
 have hm := letN_mem k
 by_cases hm0 : 0 < m
 ·have f3 : decide ((0 : Int) < (m : Int)) = true := decide_eq_true (by omega)
  by_cases hr0 : r = 0
  ·refine goes_stop (ρ0 := [e0]) (r := [1, 2]) (k' := EPL) (T := InvP k e p s n b r l m d 0 []) (callPt_ok 6) funPt (app10 ptO2 k e p s n b r l m d) ⟨notT (decide_eq_true hr0), f4, notT (h3 hm0), hm, cx, f3, f2, f1, hk, trivial⟩ ⟨nd012P, ?_, ?_⟩ hg (hr.hints (S' := ⟨argSlots 0 [txtA k e p s n b r m d], [roH l], [false, false, true, false, false, false], []⟩) rfl rfl)
   ·exact ⟨⟨rfl, rfl, rfl, rfl, rfl⟩, ⟨rfl, rfl⟩, ⟨rfl, rfl, rfl, rfl, rfl, Nat.le_refl _, Nat.le_refl _⟩, ⟨rfl, arr_le rfl⟩, ⟨rfl, rfl, rfl⟩, trivial⟩
   ·exact ⟨⟨fun h => h, rfl, rfl⟩, ⟨fun h => h, txt_le rfl _ _ _ _ _ _ _ hmd⟩, ⟨fun h => h, ⟨rfl, rfl⟩, trivial⟩, trivial⟩
  ·refine goes_stop (ρ0 := [e0]) (r := [1, 2]) (k' := EPL) (T := InvP k e p s n b r l m d 0 []) (callPt_ok 6) funPt (app10 ptO3 k e p s n b r l m d) ⟨notT (h5 hr0), hm, cr, notF (decide_eq_false hr0), f4, notT (h3 hm0), hm, cx, f3, f2, f1, hk, trivial⟩ ⟨nd012P, ?_, ?_⟩ hg (hr.hints (S' := ⟨argSlots 0 [txtA k e p s n b r m d], [roH l], [false, false, true, false, false, true, false], []⟩) rfl rfl)
   ·exact ⟨⟨rfl, rfl, rfl, rfl, rfl⟩, ⟨rfl, rfl⟩, ⟨rfl, rfl, rfl, rfl, rfl, Nat.le_refl _, Nat.le_refl _⟩, ⟨rfl, arr_le rfl⟩, ⟨rfl, rfl, rfl⟩, trivial⟩
   ·exact ⟨⟨fun h => h, rfl, rfl⟩, ⟨fun h => h, txt_le rfl _ _ _ _ _ _ _ hmd⟩, ⟨fun h => h, ⟨rfl, rfl⟩, trivial⟩, trivial⟩
 ·have f3 : decide ((0 : Int) < (m : Int)) = false := decide_eq_false (by omega)
  by_cases hr0 : r = 0
  ·refine goes_stop (ρ0 := [e0]) (r := [1, 2]) (k' := EPL) (T := InvP k e p s n b r l m d 0 []) (callPt_ok 6) funPt (app10 ptO0 k e p s n b r l m d) ⟨notT (decide_eq_true hr0), f4, f3, f2, f1, hk, trivial⟩ ⟨nd012P, ?_, ?_⟩ hg (hr.hints (S' := ⟨argSlots 0 [txtA k e p s n b r m d], [roH l], [false, false, false, false, false], []⟩) rfl rfl)
   ·exact ⟨⟨rfl, rfl, rfl, rfl, rfl⟩, ⟨rfl, rfl⟩, ⟨rfl, rfl, rfl, rfl, rfl, Nat.le_refl _, Nat.le_refl _⟩, ⟨rfl, arr_le rfl⟩, ⟨rfl, rfl, rfl⟩, trivial⟩
   ·exact ⟨⟨fun h => h, rfl, rfl⟩, ⟨fun h => h, txt_le rfl _ _ _ _ _ _ _ hmd⟩, ⟨fun h => h, ⟨rfl, rfl⟩, trivial⟩, trivial⟩
  ·refine goes_stop (ρ0 := [e0]) (r := [1, 2]) (k' := EPL) (T := InvP k e p s n b r l m d 0 []) (callPt_ok 6) funPt (app10 ptO1 k e p s n b r l m d) ⟨notT (h5 hr0), hm, cr, notF (decide_eq_false hr0), f4, f3, f2, f1, hk, trivial⟩ ⟨nd012P, ?_, ?_⟩ hg (hr.hints (S' := ⟨argSlots 0 [txtA k e p s n b r m d], [roH l], [false, false, false, false, true, false], []⟩) rfl rfl)
   ·exact ⟨⟨rfl, rfl, rfl, rfl, rfl⟩, ⟨rfl, rfl⟩, ⟨rfl, rfl, rfl, rfl, rfl, Nat.le_refl _, Nat.le_refl _⟩, ⟨rfl, arr_le rfl⟩, ⟨rfl, rfl, rfl⟩, trivial⟩
   ·exact ⟨⟨fun h => h, rfl, rfl⟩, ⟨fun h => h, txt_le rfl _ _ _ _ _ _ _ hmd⟩, ⟨fun h => h, ⟨rfl, rfl⟩, trivial⟩, trivial⟩
theorem pt_refuse (hk : 0 ≤ k ∧ k < 256) (h : ¬ preR k r m) {a : Act} {w : World} (hr : RelD [] ([e0] ++ []) K W (fnP 8).ntmps ⟨argSlots 0 [txtA k e p s n b r m d], [roH l], [], []⟩ a w) :
  Goes Try.prog 8 (RetW [e0] K W badV [roH l]) [.code (bodyF 8)] a w := by
 have cx := chr_mem (c := 120) (by decide)
 have cr := chr_mem (c := 114) (by decide)
 have hm := letN_mem k
 have out : ∀ {h : List Bool} {lim fuel : Nat} {ls : List Bool} {ob : List Prop}, endV (List.range [e0].length ++ []) (run Try.prog (callPt 6) effPt (fnP 8) lim fuel ls [.code (bodyF 8)] ⟨argSlots 0 [txtA k e p s n b r m d], [roH l], h, []⟩) = some (badV, [roH l], ob) → allP ob → Goes Try.prog 8 (RetW [e0] K W badV [roH l]) [.code (bodyF 8)] a w := fun {h} {_} {_} {_} {_} q hob =>
  goes_retW (ρ := [e0]) (r := []) (v := badV) (bs' := [roH l]) (callPt_ok 6) funPt q hob nd0P ⟨trivial, ⟨rfl, rfl⟩, trivial⟩ ⟨⟨fun h => h, rfl, rfl⟩, trivial⟩ (hr.hints (S' := ⟨argSlots 0 [txtA k e p s n b r m d], [roH l], h, []⟩) rfl rfl)
 by_cases h1 : letN k = []
 ·exact out (app10 ptF0 k e p s n b r l m d) ⟨by rw [strE]; exact decide_eq_true h1, hk, trivial⟩
 have f1 : (letN k == Array.toList (ByteArray.data { data := #[] })) = false := by rw [strE]; exact decide_eq_false h1
 by_cases h2 : m ≤ 1048576
 ·have f2 : decide ((1048576 : Int) < (m : Int)) = false := decide_eq_false (by omega)
  by_cases hm0 : 0 < m
  ·have f3 : decide ((0 : Int) < (m : Int)) = true := decide_eq_true (by omega)
   cases h3 : hasC (letN k) 120 with
   | false => exact out (app10 ptF2 k e p s n b r l m d) ⟨notF h3, hm, cx, f3, f2, f1, hk, trivial⟩
   | true =>
    by_cases h4 : 0 ≤ r ∧ r ≤ 255
    ·have f4 : (!decide (0 ≤ r ∧ r ≤ 255)) = false := notT (decide_eq_true h4)
     have hr0 : r ≠ 0 := fun hr0 => h ⟨h1, h2, fun _ => h3, h4, fun hh => absurd hr0 hh⟩
     cases h5 : hasC (letN k) 114 with
     | true => exact absurd ⟨h1, h2, fun _ => h3, h4, fun _ => h5⟩ h
     | false => exact out (app10 ptF6 k e p s n b r l m d) ⟨notF h5, hm, cr, notF (decide_eq_false hr0), f4, notT h3, hm, cx, f3, f2, f1, hk, trivial⟩
    ·exact out (app10 ptF4 k e p s n b r l m d) ⟨notF (decide_eq_false h4), notT h3, hm, cx, f3, f2, f1, hk, trivial⟩
  ·have f3 : decide ((0 : Int) < (m : Int)) = false := decide_eq_false (by omega)
   by_cases h4 : 0 ≤ r ∧ r ≤ 255
   ·have f4 : (!decide (0 ≤ r ∧ r ≤ 255)) = false := notT (decide_eq_true h4)
    have hr0 : r ≠ 0 := fun hr0 => h ⟨h1, h2, fun hh => absurd hh hm0, h4, fun hh => absurd hr0 hh⟩
    cases h5 : hasC (letN k) 114 with
    | true => exact absurd ⟨h1, h2, fun hh => absurd hh hm0, h4, fun _ => h5⟩ h
    | false => exact out (app10 ptF5 k e p s n b r l m d) ⟨notF h5, hm, cr, notF (decide_eq_false hr0), f4, f3, f2, f1, hk, trivial⟩
   ·exact out (app10 ptF3 k e p s n b r l m d) ⟨notF (decide_eq_false h4), f3, f2, f1, hk, trivial⟩
 ·exact out (app10 ptF1 k e p s n b r l m d) ⟨decide_eq_true (by omega), f1, hk, trivial⟩
theorem nd02P : (List.range 1 ++ [2]).Nodup := by decide
theorem nd03P : (List.range 1 ++ [3]).Nodup := by decide
theorem nd04P : (List.range 1 ++ [4]).Nodup := by decide
def okV1 (L : Nat) : V := .tup [.one (.slice 1 (.c 0) 1 (.s L) (.s L)), .one (.int .i64 0)]
theorem pt_exit (hr : 0 ≤ r ∧ r ≤ 255) (hm : m ≤ l.length) (hm2 : m ≤ 1048576) (ho : (outP k [e, p, s, n, b] 5).length ≤ 1000) :
  ∀ ρ' a w, RelD [] ([e0] ++ ρ') K W (fnP 8).ntmps (InvP k e p s n b r l m d 5 []) a w → Goes Try.prog 8 (RetW [e0] K W (okV1 (putS k [e, p, s, n, b] r (l.take m)).length) [roH l, oB (putS k [e, p, s, n, b] r (l.take m))]) (.code PL.1 :: .inLoop PL.1 :: PL.2) a w := fun ρ' a w hrel => by
 have cx := chr_mem (c := 120) (by decide)
 have cr := chr_mem (c := 114) (by decide)
 have hmm := letN_mem k
 have hb : (l.take m).length = m := by rw [List.length_take]; omega
 have hv := By.vint_le (tok_u64 hr.1 (by omega : r ≤ 1099511627776))
 obtain ⟨out, hout⟩ : ∃ out, outP k [e, p, s, n, b] 5 = out := ⟨_, rfl⟩
 have hI : ∀ h, InvP k e p s n b r l m d 5 h = TPt k e p s n b r l out m d 5 h := fun h => by show TPt k e p s n b r l (outP k [e, p, s, n, b] 5) m d 5 h = _; rw [hout]
 have hP : putS k [e, p, s, n, b] r (l.take m) = endP k r out (l.take m) := by unfold putS; rw [hout]
 rw [hP]
 rw [hout] at ho
 have qs := w64u hr.1 (by omega : r ≤ 1099511627776)
 cases h1 : hasC (letN k) 114 with
 | false => cases h2 : hasC (letN k) 120 with
  | false =>
   have hE : endP k r out (l.take m) = out := by unfold endP; rw [if_neg (by rw [h1]; decide), if_neg (by rw [h2]; decide)]; simp
   rw [hE]
   exact goes_retW (ρ := [e0]) (r := [2]) (v := okV1 out.length) (bs' := [roH l, oB out]) (callPt_ok 6) funPt (app11 ptX0 k e p s n b r l out m d) ⟨h2, hmm, cx, h1, hmm, cr, trivial⟩ nd02P ⟨⟨rfl, rfl, rfl, rfl, Nat.le_refl _, Nat.le_refl _⟩, ⟨rfl, rfl⟩, trivial⟩ ⟨⟨fun h => h, rfl, rfl⟩, ⟨fun h => h, rfl, rfl⟩, trivial⟩ (hrel.hints (S' := TPt k e p s n b r l out m d 5 [false, false]) (by rw [hI]; rfl) (by rw [hI]; rfl))
  | true =>
   have hE : endP k r out (l.take m) = out ++ By.vint ((m : Nat) : Int) ++ l.take m := by unfold endP; rw [if_neg (by rw [h1]; decide), if_pos h2, hb]; simp
   rw [hE]
   exact goes_retW (ρ := [e0]) (r := [3]) (v := okV1 (out ++ By.vint ((m : Nat) : Int) ++ l.take m).length) (bs' := [roH l, oB (out ++ By.vint ((m : Nat) : Int) ++ l.take m)]) (callPt_ok 6) funPt (app11 ptX2 k e p s n b r l out m d) ⟨rfl, hm, by omega, h2, hmm, cx, h1, hmm, cr, trivial⟩ nd03P ⟨⟨rfl, rfl, rfl, rfl, Nat.le_refl _, Nat.le_refl _⟩, ⟨rfl, rfl⟩, trivial⟩ ⟨⟨fun h => h, rfl, rfl⟩, ⟨fun h => h, rfl, rfl⟩, trivial⟩ (hrel.hints (S' := TPt k e p s n b r l out m d 5 [false, true]) (by rw [hI]; rfl) (by rw [hI]; rfl))
 | true => cases h2 : hasC (letN k) 120 with
  | false =>
   have hE : endP k r out (l.take m) = out ++ By.vint r := by unfold endP; rw [if_pos h1, if_neg (by rw [h2]; decide)]; simp
   rw [hE]
   have q := app11 ptX1 k e p s n b r l out m d
   rw [qs] at q
   exact goes_retW (ρ := [e0]) (r := [3]) (v := okV1 (out ++ By.vint r).length) (bs' := [roH l, oB (out ++ By.vint r)]) (callPt_ok 6) funPt q ⟨h2, hmm, cx, tok_u64 hr.1 (by omega), rfl, by omega, h1, hmm, cr, trivial⟩ nd03P ⟨⟨rfl, rfl, rfl, rfl, Nat.le_refl _, Nat.le_refl _⟩, ⟨rfl, rfl⟩, trivial⟩ ⟨⟨fun h => h, rfl, rfl⟩, ⟨fun h => h, rfl, rfl⟩, trivial⟩ (hrel.hints (S' := TPt k e p s n b r l out m d 5 [true, false]) (by rw [hI]; rfl) (by rw [hI]; rfl))
  | true =>
   have hE : endP k r out (l.take m) = out ++ By.vint r ++ By.vint ((m : Nat) : Int) ++ l.take m := by unfold endP; rw [if_pos h1, if_pos h2, hb]; simp
   rw [hE]
   have q := app11 ptX3 k e p s n b r l out m d
   rw [qs] at q
   have hl2 : (out ++ By.vint r).length ≤ 1010 := by rw [List.length_append]; omega
   exact goes_retW (ρ := [e0]) (r := [4]) (v := okV1 (out ++ By.vint r ++ By.vint ((m : Nat) : Int) ++ l.take m).length) (bs' := [roH l, oB (out ++ By.vint r ++ By.vint ((m : Nat) : Int) ++ l.take m)]) (callPt_ok 6) funPt q ⟨rfl, hm, by omega, h2, hmm, cx, tok_u64 hr.1 (by omega), rfl, by omega, h1, hmm, cr, trivial⟩ nd04P ⟨⟨rfl, rfl, rfl, rfl, Nat.le_refl _, Nat.le_refl _⟩, ⟨rfl, rfl⟩, trivial⟩ ⟨⟨fun h => h, rfl, rfl⟩, ⟨fun h => h, rfl, rfl⟩, trivial⟩ (hrel.hints (S' := TPt k e p s n b r l out m d 5 [true, true]) (by rw [hI]; rfl) (by rw [hI]; rfl))
end
theorem put_cap {k e p s n b r : Int} {m d : Nat} {ρ : Env} {us : List Value} (hu : relVs ρ [txtA k e p s n b r m d] us) : m ≤ d := by
 obtain ⟨u, s1, rfl, ⟨cs, rfl, hc, _⟩, _⟩ := hu
 obtain ⟨_, _, _, _, _, _, _, _, _, _, _, _, _, _, _, _, _, _, _, _, _, _, _, _, _, _, _, _, u8, _, _, h8, _⟩ := hc
 obtain ⟨e, _, hu⟩ := h8
 rcases hu with ⟨h0, _⟩ | ⟨_, _, _, h1, _⟩
 ·simp only [N.v] at h0; omega
 ·exact h1
theorem put_ok {k e p s n b r : Int} {l : List Int} {m d : Nat} (hk : 0 ≤ k ∧ k < 256) (hm : m ≤ l.length) (h : textR k [e, p, s, n, b] r m) :
  Works Try.prog 8 [txtA k e p s n b r m d] [roH l] (okV1 (putS k [e, p, s, n, b] r (l.take m)).length) [roH l, oB (putS k [e, p, s, n, b] r (l.take m))] := fun ρ K w us hmr hu => by
 have hmd := put_cap hu
 refine works_goes funPt bodPt (by exact tmpPt) (fun ρ K W a w hρ hr => ?_) ρ K w us hmr hu
 obtain ⟨e0, rfl⟩ := List.length_eq_one_iff.1 hρ
 obtain ⟨hpre, hf⟩ := h
 have hol : ∀ i, i ≤ 5 → (outP k [e, p, s, n, b] i).length ≤ 1000 := fun i hi => Nat.le_trans (outP_len i fun j hj => fOk_le (hf j (by omega))) (by omega)
 refine pt_entry hk hmd hpre (fun ρ' a w hr' => ?_) hr
 refine loop3_goes (ρ := [e0]) (I := Nat) (eff := effPt) (Inv := InvP k e p s n b r l m d) (good := fun j => j ≤ 5) (μ := fun j => 5 - j) (callPt_ok 6) funPt (fun _ _ => ⟨rfl, rfl⟩) ?_ (i := 0) (Nat.zero_le _) hr'
 intro i hi
 match i, hi with
 | 0, _ => exact pt_step0 (by decide) rfl hmd (hf 0 (by decide)) (hol 0 (by decide))
 | 1, _ => exact pt_step1 (by decide) rfl hmd (hf 1 (by decide)) (hol 1 (by decide))
 | 2, _ => exact pt_step2 (by decide) rfl hmd (hf 2 (by decide)) (hol 2 (by decide))
 | 3, _ => exact pt_step3 (by decide) rfl hmd (hf 3 (by decide)) (hol 3 (by decide))
 | 4, _ => exact pt_step4 (by decide) rfl hmd (hf 4 (by decide)) (hol 4 (by decide))
 | 5, _ => exact .any (pt_exit hpre.2.2.2.1 hm hpre.2.1 (hol 5 (by decide)))
theorem put_bad {k e p s n b r : Int} {l : List Int} {m d : Nat} (hk : 0 ≤ k ∧ k < 256) (h : ¬ textR k [e, p, s, n, b] r m) :
  Works Try.prog 8 [txtA k e p s n b r m d] [roH l] badV [roH l] := fun ρ K w us hmr hu => by
 have hmd := put_cap hu
 refine works_goes funPt bodPt (by exact tmpPt) (fun ρ K W a w hρ hr => ?_) ρ K w us hmr hu
 obtain ⟨e0, rfl⟩ := List.length_eq_one_iff.1 hρ
 by_cases hpre : preR k r m
 ·have hol : ∀ i, i ≤ 5 → (∀ j, j < i → fOk k j ([e, p, s, n, b].getD j 0)) → (outP k [e, p, s, n, b] i).length ≤ 1000 := fun i hi hf => Nat.le_trans (outP_len i fun j hj => fOk_le (hf j hj)) (by omega)
  refine pt_entry hk hmd hpre (fun ρ' a w hr' => ?_) hr
  refine loop3_goes (ρ := [e0]) (I := Nat) (eff := effPt) (Inv := InvP k e p s n b r l m d) (good := fun i => i ≤ 5 ∧ ∀ j, j < i → fOk k j ([e, p, s, n, b].getD j 0)) (μ := fun j => 5 - j) (callPt_ok 6) funPt (fun _ _ => ⟨rfl, rfl⟩) ?_ (i := 0) ⟨Nat.zero_le _, fun j h => by omega⟩ hr'
  intro i ⟨hi, hf⟩
  have nx : ∀ i, (∀ j, j < i → fOk k j ([e, p, s, n, b].getD j 0)) → fOk k i ([e, p, s, n, b].getD i 0) → ∀ j, j < i + 1 → fOk k j ([e, p, s, n, b].getD j 0) := fun i hf hg j hj => by
   rcases Nat.lt_or_ge j i with h | h
   ·exact hf j h
   ·have : j = i := by omega
    subst this; exact hg
  match i, hi, hf with
  | 0, hi, hf =>
   by_cases hg : fOk k 0 e
   ·exact pt_step0 (good := fun i => i ≤ 5 ∧ ∀ j, j < i → fOk k j ([e, p, s, n, b].getD j 0)) ⟨by decide, nx 0 hf hg⟩ rfl hmd hg (hol 0 hi hf)
   ·exact .any (pt_fail0 rfl hg)
  | 1, hi, hf =>
   by_cases hg : fOk k 1 p
   ·exact pt_step1 (good := fun i => i ≤ 5 ∧ ∀ j, j < i → fOk k j ([e, p, s, n, b].getD j 0)) ⟨by decide, nx 1 hf hg⟩ rfl hmd hg (hol 1 hi hf)
   ·exact .any (pt_fail1 rfl hg)
  | 2, hi, hf =>
   by_cases hg : fOk k 2 s
   ·exact pt_step2 (good := fun i => i ≤ 5 ∧ ∀ j, j < i → fOk k j ([e, p, s, n, b].getD j 0)) ⟨by decide, nx 2 hf hg⟩ rfl hmd hg (hol 2 hi hf)
   ·exact .any (pt_fail2 rfl hg)
  | 3, hi, hf =>
   by_cases hg : fOk k 3 n
   ·exact pt_step3 (good := fun i => i ≤ 5 ∧ ∀ j, j < i → fOk k j ([e, p, s, n, b].getD j 0)) ⟨by decide, nx 3 hf hg⟩ rfl hmd hg (hol 3 hi hf)
   ·exact .any (pt_fail3 rfl hg)
  | 4, hi, hf =>
   by_cases hg : fOk k 4 b
   ·exact pt_step4 (good := fun i => i ≤ 5 ∧ ∀ j, j < i → fOk k j ([e, p, s, n, b].getD j 0)) ⟨by decide, nx 4 hf hg⟩ rfl hmd hg (hol 4 hi hf)
   ·exact .any (pt_fail4 rfl hg)
  | 5, _, hf => exact absurd ⟨hpre, hf⟩ h
 ·exact pt_refuse hk hpre hr
def gPtT (pu : Int → List Int → Int → List Int → List Int) : Sx.Loc := fun args bs => match args, bs with
 | [.v (.agg [.sint .u8 k, .sint .i64 e, .sint .i64 p, .sint .i64 s, .sint .i64 n, .sint .i64 b, .sint .i64 r, .slice 0 (.c 0) 1 m _])], [⟨false, .ints .u8 l⟩] => some (okV1 (pu k [e, p, s, n, b] r (l.take m.v)).length, [roH l, oB (pu k [e, p, s, n, b] r (l.take m.v))], [0 ≤ k ∧ k < 256, textR k [e, p, s, n, b] r m.v, m.v ≤ l.length])
 | _, _ => none
def gPtF : Sx.Loc := fun args bs => match args, bs with
 | [.v (.agg [.sint .u8 k, .sint .i64 e, .sint .i64 p, .sint .i64 s, .sint .i64 n, .sint .i64 b, .sint .i64 r, .slice 0 (.c 0) 1 m _])], [⟨false, .ints .u8 l⟩] => some (badV, [roH l], [0 ≤ k ∧ k < 256, ¬ textR k [e, p, s, n, b] r m.v])
 | _, _ => none
def gPt (pu : Int → List Int → Int → List Int → List Int) : Bool → Sx.Loc
 | true => gPtT pu
 | false => gPtF
theorem put_tab : TabOk Try.prog 8 (locH wantH (gPt putS)) := locH_ok
 (loc_ok fun xs bs v bs' ob hg hob hokb => by
  change gPtT putS _ _ = _ at hg
  unfold gPtT at hg
  split at hg
  ·rename_i k e p s n b r m d l
   cases hg
   intro ρ K w us hm hu
   exact put_ok (d := d.v) (hob (0 ≤ k ∧ k < 256) (by simp)) (hob (m.v ≤ l.length) (by simp)) (hob (textR k [e, p, s, n, b] r m.v) (by simp)) ρ K w us hm hu
  ·cases hg)
 (loc_ok fun xs bs v bs' ob hg hob hokb => by
  change gPtF _ _ = _ at hg
  unfold gPtF at hg
  split at hg
  ·rename_i k e p s n b r m d l
   cases hg
   intro ρ K w us hm hu
   exact put_bad (d := d.v) (hob (0 ≤ k ∧ k < 256) (by simp)) (hob (¬ textR k [e, p, s, n, b] r m.v) (by simp)) ρ K w us hm hu
  ·cases hg)
end
end Go.Proofs.Ytbamfolinbehiaa
