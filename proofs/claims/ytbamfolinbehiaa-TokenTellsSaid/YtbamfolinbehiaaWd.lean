/- The hash by a key, plainly. sha.Hmac: its runs. sha.Hmac: the contract. -/
import Derived.Test.YtbamfolinbehiaaWc
namespace Go.Proofs.Ytbamfolinbehiaa
section
open Go.ChangeShapes Go.WideShapes Go.ChangeAt Go.RowKit Go.Sx
def xrN (v : Nat) (l : List Nat) : List Nat := l.map (fun b => b ^^^ v)
def hkN (k : List Nat) : List Nat := if 64 < k.length then shaN k else k
def blN (k : List Nat) : List Nat := hkN k ++ List.replicate (64 - (hkN k).length) 0
def hmacN (k x : List Nat) : List Nat := shaN (xrN 92 (blN k) ++ shaN (xrN 54 (blN k) ++ x))
theorem shaN_len (x : List Nat) : (shaN x).length = 32 := hashN_len _ _ _
theorem shaN_wf (x : List Nat) : wfB8 (shaN x) := hashN_wf _ _ _
theorem hkN_len (k : List Nat) : (hkN k).length ≤ 64 := by
 unfold hkN; split
 ·rw [shaN_len]; decide
 ·omega
theorem blN_len (k : List Nat) : (blN k).length = 64 := by
 have := hkN_len k
 simp only [blN, List.length_append, List.length_replicate]; omega
theorem hkN_wf {k : List Nat} (h : wfB8 k) : wfB8 (hkN k) := by
 unfold hkN; split
 ·exact shaN_wf k
 ·exact h
theorem blN_wf {k : List Nat} (h : wfB8 k) : wfB8 (blN k) := fun y hy => by
 rcases List.mem_append.1 hy with hy | hy
 ·exact hkN_wf h y hy
 ·have := List.eq_of_mem_replicate hy; omega
theorem xrN_len (v : Nat) (l : List Nat) : (xrN v l).length = l.length := List.length_map _
theorem xor8 {a b : Nat} (ha : a < 256) (hb : b < 256) : a ^^^ b < 256 := Nat.xor_lt_two_pow (n := 8) ha hb
theorem xrN_wf {v : Nat} {l : List Nat} (hv : v < 256) (h : wfB8 l) : wfB8 (xrN v l) := fun y hy => by
 obtain ⟨x, hx, rfl⟩ := List.mem_map.1 hy
 exact xor8 (h x hx) hv
theorem w8s {n : Nat} (h : n < 256) : IntKind.wrap .u8 (n : Int) = (n : Int) := by
 simp only [IntKind.wrap, IntKind.signed, IntKind.bits]
 simp; omega
theorem bxor8 {a b : Nat} (ha : a < 256) (hb : b < 256) : bits .xor .u8 (a : Int) (b : Int) = ((a ^^^ b : Nat) : Int) := by
 have e1 : BitVec.ofInt 8 ((a : Nat) : Int) = BitVec.ofNat 8 a := by simp
 have e2 : BitVec.ofInt 8 ((b : Nat) : Int) = BitVec.ofNat 8 b := by simp
 show IntKind.wrap .u8 (((BitVec.ofInt 8 (a : Int) ^^^ BitVec.ofInt 8 (b : Int)).toNat : Nat) : Int) = _
 rw [e1, e2, BitVec.toNat_xor, BitVec.toNat_ofNat, BitVec.toNat_ofNat, Nat.mod_eq_of_lt ha, Nat.mod_eq_of_lt hb, w8s (xor8 ha hb)]
theorem hmacN_len (k x : List Nat) : (hmacN k x).length = 32 := shaN_len _
theorem hmacN_wf (k x : List Nat) : wfB8 (hmacN k x) := shaN_wf _
theorem set_mix {f : Nat → Nat} {l r : List Nat} {j : Nat} (h : j < l.length) (hr : r.length = l.length - j) :
  ((l.take j).map f ++ r).set j (f (l.getD j 0)) = (l.take (j + 1)).map f ++ r.drop 1 := by
 have hlen : ((l.take j).map f).length = j := by rw [List.length_map, List.length_take]; omega
 obtain ⟨a, r', rfl⟩ : ∃ a r', r = a :: r' := by
  match r, hr with
  | [], hr => simp at hr; omega
  | a :: r', _ => exact ⟨a, r', rfl⟩
 rw [List.set_append_right _ _ (by omega), hlen, Nat.sub_self, List.set_cons_zero, List.drop_one, List.tail_cons]
 rw [List.take_succ_eq_append_getElem h, List.map_append, List.append_assoc]
 simp only [List.map_cons, List.map_nil, List.singleton_append, List.getD_eq_getElem?_getD, List.getElem?_eq_getElem h, Option.getD_some]
end
section
open Go.Sx
def tabHm := tabs [(44, loc wantH gOf)]
noncomputable def callHm (d : Nat) := callN Try.prog tabHm (fun _ => false) 100000 d
noncomputable def LHm (i : Nat) := loopN Try.prog 31 i
noncomputable def FHm : Go.Func := match Try.prog.funcs[31]? with | some fn => fn | none => default
noncomputable def BHm : Go.Code := match FHm.body with | some c => c | none => .skip
noncomputable def EHm : List Item := .code (.loop (LHm 0).1) :: (LHm 0).2
noncomputable def KHm : List Item := .inLoop (LHm 0).1 :: (LHm 0).2
noncomputable def rHm (lim n : Nat) (ls : List Bool) (k : List Item) (T : St) := run Try.prog (callHm 8) (fun _ => false) FHm lim n ls k T
def mHm (k x i o : List Int) : List SB := [roH k, roH x, z32, owH i, owH o]
def THm (k x i o l : List Int) (p n c j : Nat) (h : List Bool) : St := ⟨[(1, slH 1 p n c), (4, pt 2), (6, pt 3), (7, pt 4), (20, .v (.aggi .u8 l)), (21, .v (.one (.sint .i64 (j : Int))))], mHm k x i o, h, []⟩
theorem hmE : (fun (k x : List Int) (o n c p m d : Nat) => stopV [1, 4, 6, 7, 20, 21] [0, 1, 2, 3, 4] (rHm 0 100000 [false] [.code BHm] ⟨argSlots 0 [slH 0 o n c, slH 1 p m d], [roH k, roH x], [false, false], []⟩)) = fun (k : List Int) (x : List Int) (o : Nat) (n : Nat) (_ : Nat) (p : Nat) (m : Nat) (d : Nat) => some (EHm, ([(1, V.v (V1.one (C.slice (1) (N.s (p)) (1) (N.s (m)) (N.s (d))))), (4, V.v (V1.one (C.ptr (2) (N.c (0)) (1) (0)))), (6, V.v (V1.one (C.ptr (3) (N.c (0)) (1) (0)))), (7, V.v (V1.one (C.ptr (4) (N.c (0)) (1) (0)))), (20, V.v (V1.aggi .u8 (List.take (if n ≤ 64 then n else 64) (List.take n (List.drop o k)) ++ List.drop (if n ≤ 64 then n else 64) [0, 0, 0, 0, 0, 0, 0, 0, 0, 0, 0, 0, 0, 0, 0, 0, 0, 0, 0, 0, 0, 0, 0, 0, 0, 0, 0, 0, 0, 0, 0, 0, 0, 0, 0, 0, 0, 0, 0, 0, 0, 0, 0, 0, 0, 0, 0, 0, 0, 0, 0, 0, 0, 0, 0, 0, 0, 0, 0, 0, 0, 0, 0, 0]))), (21, V.v (V1.one (C.int .i64 (0))))], ([SB.mk (false) (.ints .u8 (k)), SB.mk (false) (.ints .u8 (x)), SB.mk (true) (.exp [C.int .u8 (0), C.int .u8 (0), C.int .u8 (0), C.int .u8 (0), C.int .u8 (0), C.int .u8 (0), C.int .u8 (0), C.int .u8 (0), C.int .u8 (0), C.int .u8 (0), C.int .u8 (0), C.int .u8 (0), C.int .u8 (0), C.int .u8 (0), C.int .u8 (0), C.int .u8 (0), C.int .u8 (0), C.int .u8 (0), C.int .u8 (0), C.int .u8 (0), C.int .u8 (0), C.int .u8 (0), C.int .u8 (0), C.int .u8 (0), C.int .u8 (0), C.int .u8 (0), C.int .u8 (0), C.int .u8 (0), C.int .u8 (0), C.int .u8 (0), C.int .u8 (0), C.int .u8 (0)]), SB.mk (true) (.ints .u8 (List.take (if n ≤ 64 then n else 64) (List.take n (List.drop o k)) ++ List.drop (if n ≤ 64 then n else 64) [0, 0, 0, 0, 0, 0, 0, 0, 0, 0, 0, 0, 0, 0, 0, 0, 0, 0, 0, 0, 0, 0, 0, 0, 0, 0, 0, 0, 0, 0, 0, 0, 0, 0, 0, 0, 0, 0, 0, 0, 0, 0, 0, 0, 0, 0, 0, 0, 0, 0, 0, 0, 0, 0, 0, 0, 0, 0, 0, 0, 0, 0, 0, 0])), SB.mk (true) (.exp [C.int .u8 (0), C.int .u8 (0), C.int .u8 (0), C.int .u8 (0), C.int .u8 (0), C.int .u8 (0), C.int .u8 (0), C.int .u8 (0), C.int .u8 (0), C.int .u8 (0), C.int .u8 (0), C.int .u8 (0), C.int .u8 (0), C.int .u8 (0), C.int .u8 (0), C.int .u8 (0), C.int .u8 (0), C.int .u8 (0), C.int .u8 (0), C.int .u8 (0), C.int .u8 (0), C.int .u8 (0), C.int .u8 (0), C.int .u8 (0), C.int .u8 (0), C.int .u8 (0), C.int .u8 (0), C.int .u8 (0), C.int .u8 (0), C.int .u8 (0), C.int .u8 (0), C.int .u8 (0), C.int .u8 (0), C.int .u8 (0), C.int .u8 (0), C.int .u8 (0), C.int .u8 (0), C.int .u8 (0), C.int .u8 (0), C.int .u8 (0), C.int .u8 (0), C.int .u8 (0), C.int .u8 (0), C.int .u8 (0), C.int .u8 (0), C.int .u8 (0), C.int .u8 (0), C.int .u8 (0), C.int .u8 (0), C.int .u8 (0), C.int .u8 (0), C.int .u8 (0), C.int .u8 (0), C.int .u8 (0), C.int .u8 (0), C.int .u8 (0), C.int .u8 (0), C.int .u8 (0), C.int .u8 (0), C.int .u8 (0), C.int .u8 (0), C.int .u8 (0), C.int .u8 (0), C.int .u8 (0)])], [(List.take (if n ≤ 64 then n else 64) (List.take n (List.drop o k)) ++ List.drop (if n ≤ 64 then n else 64) [0, 0, 0, 0, 0, 0, 0, 0, 0, 0, 0, 0, 0, 0, 0, 0, 0, 0, 0, 0, 0, 0, 0, 0, 0, 0, 0, 0, 0, 0, 0, 0, 0, 0, 0, 0, 0, 0, 0, 0, 0, 0, 0, 0, 0, 0, 0, 0, 0, 0, 0, 0, 0, 0, 0, 0, 0, 0, 0, 0, 0, 0, 0, 0]).length = 64, o + n ≤ k.length, 64 ≤ 64, decide (64 < (n : Int)) = false]))) := by kernel_rfl
theorem hmF : (fun (k x : List Int) (o n c p m d : Nat) => stopV [1, 4, 6, 7, 20, 21] [0, 1, 2, 4, 5] (rHm 0 100000 [false] [.code BHm] ⟨argSlots 0 [slH 0 o n c, slH 1 p m d], [roH k, roH x], [true, true, true], []⟩)) = fun (k : List Int) (x : List Int) (o : Nat) (n : Nat) (_ : Nat) (p : Nat) (m : Nat) (d : Nat) => some (EHm, ([(1, V.v (V1.one (C.slice (1) (N.s (p)) (1) (N.s (m)) (N.s (d))))), (4, V.v (V1.one (C.ptr (2) (N.c (0)) (1) (0)))), (6, V.v (V1.one (C.ptr (4) (N.c (0)) (1) (0)))), (7, V.v (V1.one (C.ptr (5) (N.c (0)) (1) (0)))), (20, V.v (V1.aggi .u8 (List.take 32 (ci (shaN (partN k o n))) ++ List.drop 32 [0, 0, 0, 0, 0, 0, 0, 0, 0, 0, 0, 0, 0, 0, 0, 0, 0, 0, 0, 0, 0, 0, 0, 0, 0, 0, 0, 0, 0, 0, 0, 0, 0, 0, 0, 0, 0, 0, 0, 0, 0, 0, 0, 0, 0, 0, 0, 0, 0, 0, 0, 0, 0, 0, 0, 0, 0, 0, 0, 0, 0, 0, 0, 0]))), (21, V.v (V1.one (C.int .i64 (0))))], ([SB.mk (false) (.ints .u8 (k)), SB.mk (false) (.ints .u8 (x)), SB.mk (true) (.exp [C.int .u8 (0), C.int .u8 (0), C.int .u8 (0), C.int .u8 (0), C.int .u8 (0), C.int .u8 (0), C.int .u8 (0), C.int .u8 (0), C.int .u8 (0), C.int .u8 (0), C.int .u8 (0), C.int .u8 (0), C.int .u8 (0), C.int .u8 (0), C.int .u8 (0), C.int .u8 (0), C.int .u8 (0), C.int .u8 (0), C.int .u8 (0), C.int .u8 (0), C.int .u8 (0), C.int .u8 (0), C.int .u8 (0), C.int .u8 (0), C.int .u8 (0), C.int .u8 (0), C.int .u8 (0), C.int .u8 (0), C.int .u8 (0), C.int .u8 (0), C.int .u8 (0), C.int .u8 (0)]), SB.mk (true) (.ints .u8 (List.take 32 (ci (shaN (partN k o n))) ++ List.drop 32 [0, 0, 0, 0, 0, 0, 0, 0, 0, 0, 0, 0, 0, 0, 0, 0, 0, 0, 0, 0, 0, 0, 0, 0, 0, 0, 0, 0, 0, 0, 0, 0, 0, 0, 0, 0, 0, 0, 0, 0, 0, 0, 0, 0, 0, 0, 0, 0, 0, 0, 0, 0, 0, 0, 0, 0, 0, 0, 0, 0, 0, 0, 0, 0])), SB.mk (true) (.exp [C.int .u8 (0), C.int .u8 (0), C.int .u8 (0), C.int .u8 (0), C.int .u8 (0), C.int .u8 (0), C.int .u8 (0), C.int .u8 (0), C.int .u8 (0), C.int .u8 (0), C.int .u8 (0), C.int .u8 (0), C.int .u8 (0), C.int .u8 (0), C.int .u8 (0), C.int .u8 (0), C.int .u8 (0), C.int .u8 (0), C.int .u8 (0), C.int .u8 (0), C.int .u8 (0), C.int .u8 (0), C.int .u8 (0), C.int .u8 (0), C.int .u8 (0), C.int .u8 (0), C.int .u8 (0), C.int .u8 (0), C.int .u8 (0), C.int .u8 (0), C.int .u8 (0), C.int .u8 (0), C.int .u8 (0), C.int .u8 (0), C.int .u8 (0), C.int .u8 (0), C.int .u8 (0), C.int .u8 (0), C.int .u8 (0), C.int .u8 (0), C.int .u8 (0), C.int .u8 (0), C.int .u8 (0), C.int .u8 (0), C.int .u8 (0), C.int .u8 (0), C.int .u8 (0), C.int .u8 (0), C.int .u8 (0), C.int .u8 (0), C.int .u8 (0), C.int .u8 (0), C.int .u8 (0), C.int .u8 (0), C.int .u8 (0), C.int .u8 (0), C.int .u8 (0), C.int .u8 (0), C.int .u8 (0), C.int .u8 (0), C.int .u8 (0), C.int .u8 (0), C.int .u8 (0), C.int .u8 (0)])], [(List.take 32 (ci (shaN (partN k o n))) ++ List.drop 32 [0, 0, 0, 0, 0, 0, 0, 0, 0, 0, 0, 0, 0, 0, 0, 0, 0, 0, 0, 0, 0, 0, 0, 0, 0, 0, 0, 0, 0, 0, 0, 0, 0, 0, 0, 0, 0, 0, 0, 0, 0, 0, 0, 0, 0, 0, 0, 0, 0, 0, 0, 0, 0, 0, 0, 0, 0, 0, 0, 0, 0, 0, 0, 0]).length = 64, 0 = 0, 32 = (ci (shaN (partN k o n))).length, 64 ≤ 64, 32 ≤ (ci (shaN (partN k o n))).length, (ci (shaN (partN k o n))).length = 32, (ci (shaN (partN k o n))).length = 32, u8L k, o + n ≤ k.length, k.length ≤ 1000000000, decide (64 < (n : Int)) = true]))) := by kernel_rfl
theorem hmR : (fun (k x i o l : List Int) (p n c j : Nat) => stopV [1, 4, 6, 7, 20, 21] [0, 1, 2, 3, 4] (rHm ((LHm 0).2.length + 1) 100000 [] (.code (LHm 0).1 :: .inLoop (LHm 0).1 :: (LHm 0).2) (THm k x i o l p n c j [true]))) = fun (k : List Int) (x : List Int) (i : List Int) (o : List Int) (l : List Int) (p : Nat) (n : Nat) (c : Nat) (j : Nat) => some (KHm, ([(1, V.v (V1.one (C.slice (1) (N.s (p)) (1) (N.s (n)) (N.s (c))))), (4, V.v (V1.one (C.ptr (2) (N.c (0)) (1) (0)))), (6, V.v (V1.one (C.ptr (3) (N.c (0)) (1) (0)))), (7, V.v (V1.one (C.ptr (4) (N.c (0)) (1) (0)))), (20, V.v (V1.aggi .u8 (l))), (21, V.v (V1.one (C.sint .i64 ((j : Int) + 1))))], ([SB.mk (false) (.ints .u8 (k)), SB.mk (false) (.ints .u8 (x)), SB.mk (true) (.exp [C.int .u8 (0), C.int .u8 (0), C.int .u8 (0), C.int .u8 (0), C.int .u8 (0), C.int .u8 (0), C.int .u8 (0), C.int .u8 (0), C.int .u8 (0), C.int .u8 (0), C.int .u8 (0), C.int .u8 (0), C.int .u8 (0), C.int .u8 (0), C.int .u8 (0), C.int .u8 (0), C.int .u8 (0), C.int .u8 (0), C.int .u8 (0), C.int .u8 (0), C.int .u8 (0), C.int .u8 (0), C.int .u8 (0), C.int .u8 (0), C.int .u8 (0), C.int .u8 (0), C.int .u8 (0), C.int .u8 (0), C.int .u8 (0), C.int .u8 (0), C.int .u8 (0), C.int .u8 (0)]), SB.mk (true) (.ints .u8 (List.set i (j) (Go.bits Go.BinOp.xor .u8 (List.getD l (j) 0) 54))), SB.mk (true) (.ints .u8 (List.set o (j) (Go.bits Go.BinOp.xor .u8 (List.getD l (j) 0) 92)))], [(-9223372036854775808) ≤ (j : Int) + 1 ∧ (j : Int) + (1 : Int) ≤ 9223372036854775807, j < o.length, 0 ≤ (j : Int), (j : Int) < 64, j < i.length, 0 ≤ (j : Int), (j : Int) < 64, 0 ≤ (j : Int), (j : Int) < 64, j < l.length, decide ((j : Int) < 64) = true]))) := by kernel_rfl
theorem hmZ : (fun (k x i o l : List Int) (p n c j : Nat) => endV [0, 1] (rHm 0 100000 [] (.code (LHm 0).1 :: .inLoop (LHm 0).1 :: (LHm 0).2) (THm k x i o l p n c j [false, false, false, true, false, true, true, false, false, true, true, true]))) = fun (k : List Int) (x : List Int) (i : List Int) (o : List Int) (_ : List Int) (p : Nat) (n : Nat) (_ : Nat) (j : Nat) => some (V.v (V1.aggi .u8 (ci (shaN (partN (List.take 0 (List.drop 0 (List.map (fun (x : UInt8) => ((UInt8.toNat x) : Int)) (List.replicate 96 (0 : UInt8)))) ++ o ++ ci (shaN (partN (List.take 0 (List.drop 0 (List.map (fun (x : UInt8) => ((UInt8.toNat x) : Int)) (List.replicate (Int.toNat (64 + (n : Int) - 0)) (0 : UInt8)))) ++ i ++ List.take n (List.drop p x)) 0 (Nat.add 64 n)))) 0 96)))), ([SB.mk (false) (.ints .u8 (k)), SB.mk (false) (.ints .u8 (x))], [(ci (shaN (partN (List.take 0 (List.drop 0 (List.map (fun (x : UInt8) => ((UInt8.toNat x) : Int)) (List.replicate 96 (0 : UInt8)))) ++ o ++ ci (shaN (partN (List.take 0 (List.drop 0 (List.map (fun (x : UInt8) => ((UInt8.toNat x) : Int)) (List.replicate (Int.toNat (64 + (n : Int) - 0)) (0 : UInt8)))) ++ i ++ List.take n (List.drop p x)) 0 (Nat.add 64 n)))) 0 96))).length = 32, (ci (shaN (partN (List.take 0 (List.drop 0 (List.map (fun (x : UInt8) => ((UInt8.toNat x) : Int)) (List.replicate 96 (0 : UInt8)))) ++ o ++ ci (shaN (partN (List.take 0 (List.drop 0 (List.map (fun (x : UInt8) => ((UInt8.toNat x) : Int)) (List.replicate (Int.toNat (64 + (n : Int) - 0)) (0 : UInt8)))) ++ i ++ List.take n (List.drop p x)) 0 (Nat.add 64 n)))) 0 96))).length = 32, (ci (shaN (partN (List.take 0 (List.drop 0 (List.map (fun (x : UInt8) => ((UInt8.toNat x) : Int)) (List.replicate 96 (0 : UInt8)))) ++ o ++ ci (shaN (partN (List.take 0 (List.drop 0 (List.map (fun (x : UInt8) => ((UInt8.toNat x) : Int)) (List.replicate (Int.toNat (64 + (n : Int) - 0)) (0 : UInt8)))) ++ i ++ List.take n (List.drop p x)) 0 (Nat.add 64 n)))) 0 96))).length = 32, u8L (List.take 0 (List.drop 0 (List.map (fun (x : UInt8) => ((UInt8.toNat x) : Int)) (List.replicate 96 (0 : UInt8)))) ++ o ++ ci (shaN (partN (List.take 0 (List.drop 0 (List.map (fun (x : UInt8) => ((UInt8.toNat x) : Int)) (List.replicate (Int.toNat (64 + (n : Int) - 0)) (0 : UInt8)))) ++ i ++ List.take n (List.drop p x)) 0 (Nat.add 64 n)))), 96 ≤ (List.take 0 (List.drop 0 (List.map (fun (x : UInt8) => ((UInt8.toNat x) : Int)) (List.replicate 96 (0 : UInt8)))) ++ o ++ ci (shaN (partN (List.take 0 (List.drop 0 (List.map (fun (x : UInt8) => ((UInt8.toNat x) : Int)) (List.replicate (Int.toNat (64 + (n : Int) - 0)) (0 : UInt8)))) ++ i ++ List.take n (List.drop p x)) 0 (Nat.add 64 n)))).length, (List.take 0 (List.drop 0 (List.map (fun (x : UInt8) => ((UInt8.toNat x) : Int)) (List.replicate 96 (0 : UInt8)))) ++ o ++ ci (shaN (partN (List.take 0 (List.drop 0 (List.map (fun (x : UInt8) => ((UInt8.toNat x) : Int)) (List.replicate (Int.toNat (64 + (n : Int) - 0)) (0 : UInt8)))) ++ i ++ List.take n (List.drop p x)) 0 (Nat.add 64 n)))).length ≤ 1000000000, 0 = 0, 64 = (List.take 0 (List.drop 0 (List.map (fun (x : UInt8) => ((UInt8.toNat x) : Int)) (List.replicate 96 (0 : UInt8)))) ++ o).length, 0 = 0, 32 = (ci (shaN (partN (List.take 0 (List.drop 0 (List.map (fun (x : UInt8) => ((UInt8.toNat x) : Int)) (List.replicate (Int.toNat (64 + (n : Int) - 0)) (0 : UInt8)))) ++ i ++ List.take n (List.drop p x)) 0 (Nat.add 64 n)))).length, 0 ≤ 96, 0 = 0, 64 = o.length, (0 : Int) ≤ 96, 96 ≤ 140737488355328, 96 ≤ 140737488355328, 96 ≤ 9223372036854775807, 32 ≤ (ci (shaN (partN (List.take 0 (List.drop 0 (List.map (fun (x : UInt8) => ((UInt8.toNat x) : Int)) (List.replicate (Int.toNat (64 + (n : Int) - 0)) (0 : UInt8)))) ++ i ++ List.take n (List.drop p x)) 0 (Nat.add 64 n)))).length, 64 ≤ o.length, (ci (shaN (partN (List.take 0 (List.drop 0 (List.map (fun (x : UInt8) => ((UInt8.toNat x) : Int)) (List.replicate (Int.toNat (64 + (n : Int) - 0)) (0 : UInt8)))) ++ i ++ List.take n (List.drop p x)) 0 (Nat.add 64 n)))).length = 32, (ci (shaN (partN (List.take 0 (List.drop 0 (List.map (fun (x : UInt8) => ((UInt8.toNat x) : Int)) (List.replicate (Int.toNat (64 + (n : Int) - 0)) (0 : UInt8)))) ++ i ++ List.take n (List.drop p x)) 0 (Nat.add 64 n)))).length = 32, u8L (List.take 0 (List.drop 0 (List.map (fun (x : UInt8) => ((UInt8.toNat x) : Int)) (List.replicate (Int.toNat (64 + (n : Int) - 0)) (0 : UInt8)))) ++ i ++ List.take n (List.drop p x)), 0 + Nat.add 64 n ≤ (List.take 0 (List.drop 0 (List.map (fun (x : UInt8) => ((UInt8.toNat x) : Int)) (List.replicate (Int.toNat (64 + (n : Int) - 0)) (0 : UInt8)))) ++ i ++ List.take n (List.drop p x)).length, (List.take 0 (List.drop 0 (List.map (fun (x : UInt8) => ((UInt8.toNat x) : Int)) (List.replicate (Int.toNat (64 + (n : Int) - 0)) (0 : UInt8)))) ++ i ++ List.take n (List.drop p x)).length ≤ 1000000000, 0 = 0, 64 = (List.take 0 (List.drop 0 (List.map (fun (x : UInt8) => ((UInt8.toNat x) : Int)) (List.replicate (Int.toNat (64 + (n : Int) - 0)) (0 : UInt8)))) ++ i).length, p + n ≤ x.length, (64 + n) * 1 ≤ 140737488355328, 64 + n ≤ 9223372036854775807, 0 ≤ (List.map (fun (x : UInt8) => ((UInt8.toNat x) : Int)) (List.replicate (Int.toNat (64 + (n : Int) - 0)) (0 : UInt8))).length, 0 = 0, 64 = i.length, (0 : Int) ≤ 64 + (n : Int) - 0, 0 + Int.toNat (64 + (n : Int) - 0) ≤ 140737488355328, (List.replicate (Int.toNat (64 + (n : Int) - 0)) (0 : UInt8)).length * 1 ≤ 140737488355328, (List.replicate (Int.toNat (64 + (n : Int) - 0)) (0 : UInt8)).length ≤ 9223372036854775807, decide ((0 : Int) < 64 + (n : Int) - 0) = true, (-9223372036854775808 : Int) ≤ 64 + (n : Int) - 0 ∧ 64 + (n : Int) - (0 : Int) ≤ 9223372036854775807, decide (64 + (n : Int) < 0) = false, decide (64 + (n : Int) < 0) = false, (-9223372036854775808 : Int) ≤ 64 + (n : Int) ∧ 64 + (n : Int) ≤ 9223372036854775807, 64 ≤ i.length, decide ((j : Int) < 64) = false])) := by kernel_rfl
end
section
open Go.ChangeShapes Go.WideShapes Go.ChangeAt Go.RowKit Go.Sx
theorem tabHm_ok : ∀ f g, tabHm f = some g → TabOk Try.prog f g := tabs_ok fun x hx => by
 simp only [List.mem_cons, List.not_mem_nil, or_false] at hx
 rcases hx with rfl
 exact of_tab
theorem callHm_ok (d : Nat) : CallOk Try.prog (callHm d) := callN_sound tabHm_ok d
theorem funHm : Try.prog.funcs[31]? = some FHm := by kernel_rfl
theorem bodHm : FHm.body = some BHm := by kernel_rfl
theorem tmpHm : 2 ≤ FHm.ntmps := Nat.le_of_ble_eq_true (by kernel_rfl)
theorem shaN_part (b : List Int) (o n : Nat) : (ci (shaN (partN b o n))).length = 32 := by rw [ci_len, shaN_len]
theorem zeros_int (z : Nat) : ci (List.replicate z 0) = List.replicate z (0 : Int) := by simp [ci]
theorem blk_short {k : List Int} {o n : Nat} (hk : u8L k) (hn : n ≤ 64) (hl : o + n ≤ k.length) :
  List.take (if n ≤ 64 then n else 64) (List.take n (List.drop o k)) ++ List.drop (if n ≤ 64 then n else 64) (List.replicate 64 (0 : Int)) = ci (blN (partN k o n)) := by
 have hp := partN_len hl
 rw [if_pos hn, List.take_take, Nat.min_self, List.drop_replicate]
 unfold blN hkN
 rw [if_neg (by omega), hp, ci_app, zeros_int]
 congr 1
 unfold partN
 rw [ci_nats fun y hy => (u8L_part hk o n y hy).1]
theorem blk_long {k : List Int} {o n : Nat} (hn : 64 < n) (hl : o + n ≤ k.length) :
  List.take 32 (ci (shaN (partN k o n))) ++ List.drop 32 (List.replicate 64 (0 : Int)) = ci (blN (partN k o n)) := by
 have hp := partN_len hl
 unfold blN hkN
 rw [if_pos (by omega), List.take_of_length_le (by rw [shaN_part]; exact Nat.le_refl _), List.drop_replicate, ci_app, zeros_int, shaN_len]
def inN (B : List Nat) (j : Nat) : List Nat := (B.take j).map (fun b => b ^^^ 54) ++ B.drop j
def ouN (B : List Nat) (j : Nat) : List Nat := (B.take j).map (fun b => b ^^^ 92) ++ List.replicate (64 - j) 0
theorem inN_len {B : List Nat} (h : B.length = 64) {j : Nat} (hj : j ≤ 64) : (inN B j).length = 64 := by
 simp only [inN, List.length_append, List.length_map, List.length_take, List.length_drop]; omega
theorem ouN_len {B : List Nat} (h : B.length = 64) {j : Nat} (hj : j ≤ 64) : (ouN B j).length = 64 := by
 simp only [ouN, List.length_append, List.length_map, List.length_take, List.length_replicate]; omega
theorem inN_end {B : List Nat} (h : B.length = 64) : inN B 64 = xrN 54 B := by
 unfold inN xrN
 rw [List.take_of_length_le (by omega), List.drop_of_length_le (by omega), List.append_nil]
theorem ouN_end {B : List Nat} (h : B.length = 64) : ouN B 64 = xrN 92 B := by
 unfold ouN xrN
 rw [List.take_of_length_le (by omega)]
 simp
theorem inN_set {B : List Nat} (h : B.length = 64) {j : Nat} (hj : j < 64) : (inN B j).set j (B.getD j 0 ^^^ 54) = inN B (j + 1) := by
 unfold inN
 rw [set_mix (f := fun b => b ^^^ 54) (by omega) (by rw [List.length_drop]), List.drop_drop]
theorem ouN_set {B : List Nat} (h : B.length = 64) {j : Nat} (hj : j < 64) : (ouN B j).set j (B.getD j 0 ^^^ 92) = ouN B (j + 1) := by
 unfold ouN
 rw [set_mix (f := fun b => b ^^^ 92) (by omega) (by rw [List.length_replicate, h]), List.drop_replicate]
 rfl
theorem set_xor {B l : List Nat} {j v : Nat} (hB : wfB8 B) (h : B.length = 64) (hj : j < 64) (hv : v < 256) :
  (ci l).set j (bits .xor .u8 ((ci B).getD j 0) (v : Int)) = ci (l.set j (B.getD j 0 ^^^ v)) := by
 have hb : B.getD j 0 < 256 := by
  rw [List.getD_eq_getElem?_getD, List.getElem?_eq_getElem (by omega)]
  exact hB _ (List.getElem_mem _)
 rw [ci_get, bxor8 hb hv, ci_set]
theorem partN_whole {l : List Nat} {n : Nat} (h : l.length = n) : partN (ci l) 0 n = l := by
 unfold partN
 rw [List.drop_zero, List.take_of_length_le (by rw [ci_len]; omega), nats_ci]
set_option maxHeartbeats 2000000 in
set_option maxRecDepth 100000 in
theorem hm_works {k x : List Int} {o n c p m d : Nat} (hk : u8L k) (hx : u8L x) (hkl : o + n ≤ k.length) (hxl : p + m ≤ x.length) (hkb : k.length ≤ 500000000) (hxb : x.length ≤ 500000000) :
  Works Try.prog 31 [slH 0 o n c, slH 1 p m d] [roH k, roH x] (.v (.aggi .u8 (ci (hmacN (partN k o n) (partN x p m))))) [roH k, roH x] := by
 intro ρq Kq wq usq hmq huq
 have hmd : m ≤ d := by
  obtain ⟨_, _, _, _, _, _, _, ⟨⟨e, _, hu⟩, _⟩, _⟩ := huq
  rcases hu with ⟨h0, _⟩ | ⟨_, _, _, h1, _⟩
  ·simp only [N.v] at h0; omega
  ·exact h1
 revert ρq Kq wq usq
 show Works _ _ _ _ _ _
 obtain ⟨B, hB⟩ : ∃ B, blN (partN k o n) = B := ⟨_, rfl⟩
 have Bl : B.length = 64 := by rw [← hB]; exact blN_len _
 have Bw : wfB8 B := by rw [← hB]; exact blN_wf (partN_wf hk o n)
 obtain ⟨X, hX⟩ : ∃ X, partN x p m = X := ⟨_, rfl⟩
 have Xl : X.length = m := by rw [← hX]; exact partN_len hxl
 refine works_goes funHm bodHm (by exact tmpHm) fun ρ K W a w hρ hr => ?_
 have hρ2 : ρ.length = 2 := hρ
 have nd5 : (List.range ρ.length ++ [2, 3, 4]).Nodup := by rw [hρ2]; decide
 have sel5 : ([0, 1, 2, 3, 4] : List Nat) = List.range ρ.length ++ [2, 3, 4] := by rw [hρ2]; rfl
 have ndF : (List.range ρ.length ++ [2, 4, 5]).Nodup := by rw [hρ2]; decide
 have selF : ([0, 1, 2, 4, 5] : List Nat) = List.range ρ.length ++ [2, 4, 5] := by rw [hρ2]; rfl
 have ou0 : ci (ouN B 0) = List.replicate 64 (0 : Int) := by unfold ouN; simp [ci]
 have z64 : List.replicate 64 (0 : Int) = [0, 0, 0, 0, 0, 0, 0, 0, 0, 0, 0, 0, 0, 0, 0, 0, 0, 0, 0, 0, 0, 0, 0, 0, 0, 0, 0, 0, 0, 0, 0, 0, 0, 0, 0, 0, 0, 0, 0, 0, 0, 0, 0, 0, 0, 0, 0, 0, 0, 0, 0, 0, 0, 0, 0, 0, 0, 0, 0, 0, 0, 0, 0, 0] := rfl
 have rest : ∀ {ρ' : Env} {ac : Act} {w' : World}, Rel (ρ ++ ρ') K W FHm.ntmps (THm k x (ci (inN B 0)) (ci (ouN B 0)) (ci B) p m d 0 []) ac w' → Goes Try.prog 31 (RetW ρ K W (.v (.aggi .u8 (ci (hmacN (partN k o n) (partN x p m))))) [roH k, roH x]) EHm ac w' := by
  intro ρ' ac w' h2
  refine goes_loop (ρ0 := ρ) (fun j : Nat => THm k x (ci (inN B j)) (ci (ouN B j)) (ci B) p m d j []) (fun j => j ≤ 64) (fun j => 64 - j) ?_ (Nat.zero_le 64) h2
  intro j hj ρ3 a3 w3 hr3 ih
  by_cases hj2 : j < 64
  ·have qR := cf9 hmR k x (ci (inN B j)) (ci (ouN B j)) (ci B) p m d j
   have s1 : (ci (inN B j)).set j (bits .xor .u8 ((ci B).getD j 0) 54) = ci (inN B (j + 1)) := by
    rw [← inN_set Bl hj2]; exact set_xor Bw Bl hj2 (by decide)
   have s2 : (ci (ouN B j)).set j (bits .xor .u8 ((ci B).getD j 0) 92) = ci (ouN B (j + 1)) := by
    rw [← ouN_set Bl hj2]; exact set_xor Bw Bl hj2 (by decide)
   simp only [Int.toNat_natCast, s1, s2] at qR
   rw [sel5] at qR
   refine goes_stop (ρ0 := ρ) (T := THm k x (ci (inN B (j + 1))) (ci (ouN B (j + 1))) (ci B) p m d (j + 1) []) (S := THm k x (ci (inN B j)) (ci (ouN B j)) (ci B) p m d j [true]) (callHm_ok 8) funHm qR ?_ ⟨nd5, ?_, ?_⟩ (fun ρ4 a4 w4 h4 => ih (j + 1) hj2 (by omega) ρ4 a4 w4 h4) (hr3.hints rfl rfl)
   ·have l1 := inN_len Bl (j := j) (by omega); have l2 := ouN_len Bl (j := j) (by omega)
    simp only [allP, ci_len, l1, l2, Bl]
    repeat' (first | exact trivial | refine And.intro ?_ ?_)
    all_goals first | rfl | omega | exact decide_eq_true (by omega)
   ·rw [← sel5]; simp [THm, leSlots, leV, leV1, leC, pt, slH, N.v, hmd]
   ·rw [← sel5]
    refine ⟨⟨fun h => h, rfl, rfl⟩, ⟨fun h => h, rfl, rfl⟩, ⟨fun h => h, zeros8_same _ 32⟩, ⟨fun h => h, rfl, rfl⟩, ⟨fun h => h, rfl, rfl⟩, trivial⟩
  have hj64 : j = 64 := by omega
  subst hj64
  have qZ := cf9 hmZ k x (ci (inN B 64)) (ci (ouN B 64)) (ci B) p m d 64
  rw [inN_end Bl, ouN_end Bl] at qZ
  have hdx : List.take m (List.drop p x) = ci X := by
   rw [← hX]; unfold partN
   rw [ci_nats fun y hy => (u8L_part hx p m y hy).1]
  have hin : partN (ci (xrN 54 B) ++ ci X) 0 (64 + m) = xrN 54 B ++ X := by
   rw [← ci_app]; exact partN_whole (by rw [List.length_append, xrN_len, Bl, Xl])
  have hou : ∀ y : List Nat, partN (ci (xrN 92 B) ++ ci (shaN y)) 0 96 = xrN 92 B ++ shaN y := fun y => by
   rw [← ci_app]; exact partN_whole (by rw [List.length_append, xrN_len, Bl, shaN_len])
  have ea : ∀ u v : Nat, Nat.add u v = u + v := fun _ _ => rfl
  simp only [List.take_zero, List.nil_append, ea, hdx, hin, hou] at qZ
  have sel2 : ([0, 1] : List Nat) = List.range ρ.length ++ [] := by rw [hρ2]; rfl
  rw [sel2] at qZ
  have hfin : hmacN (partN k o n) X = shaN (xrN 92 B ++ shaN (xrN 54 B ++ X)) := by rw [← hB]; rfl
  rw [hX, hfin]
  have hr4 : Rel (ρ ++ ρ3) K W FHm.ntmps (THm k x (ci (xrN 54 B)) (ci (xrN 92 B)) (ci B) p m d 64 [false, false, false, true, false, true, true, false, false, true, true, true]) a3 w3 := by
   rw [← inN_end Bl, ← ouN_end Bl]; exact hr3.hints rfl rfl
  refine goes_retW (ρ := ρ) (r := []) (v := .v (.aggi .u8 (ci (shaN (xrN 92 B ++ shaN (xrN 54 B ++ X)))))) (callHm_ok 8) funHm qZ ?_ (by rw [hρ2]; decide) ⟨rfl, rfl⟩ ?_ hr4
  ·have Xw : wfB8 X := by rw [← hX]; exact partN_wf hx p m
   have u1 : u8L (ci (xrN 54 B) ++ ci X) := by
    rw [← ci_app]; refine ci_u8 fun y hy => ?_
    rcases List.mem_append.1 hy with hy | hy
    ·exact xrN_wf (by decide) Bw y hy
    ·exact Xw y hy
   have u2 : ∀ y : List Nat, u8L (ci (xrN 92 B) ++ ci (shaN y)) := fun y => by
    rw [← ci_app]; refine ci_u8 fun z hz => ?_
    rcases List.mem_append.1 hz with hz | hz
    ·exact xrN_wf (by decide) Bw z hz
    ·exact shaN_wf _ z hz
   simp only [allP, List.length_append, ci_len, xrN_len, Bl, Xl, shaN_len, List.length_map, List.length_replicate]
   repeat' (first | exact trivial | exact u1 | exact u2 _ | refine And.intro ?_ ?_)
   all_goals first | rfl | omega | exact decide_eq_true (by omega) | exact decide_eq_false (by omega)
  ·rw [← sel2]; exact ⟨⟨fun h => h, rfl, rfl⟩, ⟨fun h => h, rfl, rfl⟩, trivial⟩
 by_cases hn : n ≤ 64
 ·have qE := cf8 hmE k x o n c p m d
  rw [← z64] at qE
  have hb0 := blk_short hk hn hkl
  rw [hB] at hb0
  simp only [hb0] at qE
  rw [sel5] at qE
  refine goes_stop (ρ0 := ρ) (T := THm k x (ci (inN B 0)) (ci (ouN B 0)) (ci B) p m d 0 []) (callHm_ok 8) funHm qE ?_ ⟨nd5, ?_, ?_⟩ (fun ρ2 a2 w2 h2 => rest h2) (hr.hints rfl rfl)
  ·simp only [allP, ci_len, Bl]
   repeat' (first | exact trivial | refine And.intro ?_ ?_)
   all_goals first | rfl | omega | exact decide_eq_true (by omega) | exact decide_eq_false (by omega)
  ·rw [← sel5]; simp [THm, leSlots, leV, leV1, leC, pt, slH, N.v, hmd]
  ·rw [← sel5]
   refine ⟨⟨fun h => h, rfl, rfl⟩, ⟨fun h => h, rfl, rfl⟩, ⟨fun h => h, zeros8_same _ 32⟩, ⟨fun h => h, rfl, rfl⟩, ⟨fun h => h, leL_sint (by rw [ou0]; decide +kernel)⟩, trivial⟩
 ·have qE := cf8 hmF k x o n c p m d
  rw [← z64] at qE
  have hb0 := blk_long (k := k) (o := o) (n := n) (by omega) hkl
  rw [hB] at hb0
  simp only [hb0] at qE
  rw [selF] at qE
  refine goes_stop (ρ0 := ρ) (T := THm k x (ci (inN B 0)) (ci (ouN B 0)) (ci B) p m d 0 []) (callHm_ok 8) funHm qE ?_ ⟨ndF, ?_, ?_⟩ (fun ρ2 a2 w2 h2 => rest h2) (hr.hints rfl rfl)
  ·simp only [allP, ci_len, Bl, shaN_len]
   repeat' (first | exact trivial | exact hk | refine And.intro ?_ ?_)
   all_goals first | rfl | omega | exact decide_eq_true (by omega) | exact decide_eq_false (by omega)
  ·rw [← selF]; simp [THm, leSlots, leV, leV1, leC, pt, slH, N.v, hmd]
  ·rw [← selF]
   refine ⟨⟨fun h => h, rfl, rfl⟩, ⟨fun h => h, rfl, rfl⟩, ⟨fun h => h, zeros8_same _ 32⟩, ⟨fun h => h, rfl, rfl⟩, ⟨fun h => h, leL_sint (by rw [ou0]; decide +kernel)⟩, trivial⟩
theorem memRel_twice {e : E} {K : Nat → Prop} {w w' : World} {l : List Int} (h : MemRel [e] K w w' [roH l]) : MemRel ([e] ++ [e]) K w w' [roH l, roH l] := by
 have he : ∀ (i : Nat) (e' : E), ([e] ++ [e])[i]? = some e' → e' = e := fun i e' hi => by
  match i, hi with
  | 0, hi => simpa using hi.symm
  | 1, hi => simpa using hi.symm
  | _ + 2, hi => simp at hi
 have hh : ∀ (i : Nat) (s' : SB), ([roH l, roH l] : List SB)[i]? = some s' → s' = roH l := fun i s' hi => by
  match i, hi with
  | 0, hi => simpa using hi.symm
  | 1, hi => simpa using hi.symm
  | _ + 2, hi => simp at hi
 refine ⟨h.below, h.base, rfl, fun i e' s' h1 h2 => ?_, fun i e' s' h1 h2 h3 => ?_, fun i j e1 e2 s1 s2 _ _ _ h1 _ h3 => ?_, fun i e' s' kk l _ h2 h3 => ?_, fun i j e1 e2 s1 s2 k1 k2 l1 l2 _ _ _ h1 _ h3 => ?_⟩
 ·rw [he i e' h1, hh i s' h2]
  exact h.blk 0 e (roH l) rfl rfl
 ·rw [hh i s' h2] at h3; cases h3
 ·rw [hh i s1 h1] at h3; cases h3
 ·rw [hh i s' h2] at h3; cases h3
 ·rw [hh i s1 h1] at h3; cases h3
theorem memRel_once {e : E} {ρ' : Env} {K : Nat → Prop} {w w' : World} {l : List Int} (h : MemRel ([e] ++ [e] ++ ρ') K w w' [roH l, roH l]) : MemRel [e] K w w' [roH l] := by
 match ρ', h with
 | [], h =>
  have hh : ∀ (i : Nat) (s' : SB), ([roH l] : List SB)[i]? = some s' → s' = roH l := fun i s' hi => by
   match i, hi with
   | 0, hi => simpa using hi.symm
   | _ + 1, hi => simp at hi
  refine ⟨h.below, h.base, rfl, fun i e' s' h1 h2 => ?_, fun i e' s' h1 h2 h3 => ?_, fun i j e1 e2 s1 s2 _ _ _ h1 _ h3 => ?_, fun i e' s' kk l _ h2 h3 => ?_, fun i j e1 e2 s1 s2 k1 k2 l1 l2 _ _ _ h1 _ h3 => ?_⟩
  ·match i, h1, h2 with
   | 0, h1, h2 =>
    simp only [List.getElem?_cons_zero, Option.some.injEq] at h1 h2
    subst h1; subst h2
    exact h.blk 0 e (roH l) rfl rfl
   | _ + 1, h1, _ => simp at h1
  ·rw [hh i s' h2] at h3; cases h3
  ·rw [hh i s1 h1] at h3; cases h3
  ·rw [hh i s' h2] at h3; cases h3
  ·rw [hh i s1 h1] at h3; cases h3
 | _ :: _, h => have := h.len; simp at this
theorem hm_twice {k : List Int} {o n c p m d : Nat} (hk : u8L k) (hkl : o + n ≤ k.length) (hxl : p + m ≤ k.length) (hkb : k.length ≤ 500000000) :
  Works Try.prog 31 [slH 0 o n c, slH 0 p m d] [roH k] (.v (.aggi .u8 (ci (hmacN (partN k o n) (partN k p m))))) [roH k] := by
 intro ρ K w us hm hu
 match ρ, hm, hu with
 | [e], hm, hu =>
  obtain ⟨u1, s1, rfl, r1, u2, s2, rfl, r2, rfl⟩ := hu
  refine (hm_works (c := c) (d := d) hk hk hkl hxl hkb hkb ([e] ++ [e]) K w [u1, u2] (memRel_twice hm) ⟨u1, _, rfl, V.rel_app [e] r1, u2, _, rfl, ?_, rfl⟩).mono fun x w' ⟨u, ρ', hx, hv, hm'⟩ => ?_
  ·obtain ⟨⟨e', he, hu⟩, h1⟩ := r2
   exact ⟨⟨e', he, hu⟩, h1⟩
  ·exact ⟨u, [], hx, hv, memRel_once hm'⟩
 | [], hm, _ => have := hm.len; simp at this
 | _ :: _ :: _, hm, _ => have := hm.len; simp at this
def wantM : List V → List Want := fun _ => [(false, .ints .u8), (false, .ints .u8)]
def gHm : Sx.Loc := fun args bs => match args, bs with
 | [.v (.one (.slice 0 i 1 n _)), .v (.one (.slice 1 j 1 m _))], [⟨false, .ints .u8 b⟩, ⟨false, .ints .u8 c⟩] => some (.v (.aggi .u8 (ci (hmacN (partN b i.v n.v) (partN c j.v m.v)))), [roH b, roH c], [u8L b, u8L c, i.v + n.v ≤ b.length, j.v + m.v ≤ c.length, b.length ≤ 500000000, c.length ≤ 500000000])
 | [.v (.one (.slice 0 i 1 n _)), .v (.one (.slice 0 j 1 m _))], [⟨false, .ints .u8 b⟩] => some (.v (.aggi .u8 (ci (hmacN (partN b i.v n.v) (partN b j.v m.v)))), [roH b], [u8L b, i.v + n.v ≤ b.length, j.v + m.v ≤ b.length, b.length ≤ 500000000])
 | _, _ => none
theorem hm_tab : TabOk Try.prog 31 (loc wantM gHm) := loc_ok fun xs bs v bs' ob hg hob hokb => by
 unfold gHm at hg
 split at hg
 ·rename_i i n c j m d b x
  cases hg
  intro ρ K w us hm hu
  obtain ⟨u1, s1, rfl, k1, u2, s2, rfl, k2, k3⟩ := hu
  exact hm_works (hob (u8L b) (by simp)) (hob (u8L x) (by simp)) (hob (i.v + n.v ≤ b.length) (by simp)) (hob (j.v + m.v ≤ x.length) (by simp)) (hob (b.length ≤ 500000000) (by simp)) (hob (x.length ≤ 500000000) (by simp)) ρ K w _ hm ⟨u1, _, rfl, slH_rel k1, u2, _, rfl, slH_rel k2, k3⟩
 ·rename_i i n c j m d b
  cases hg
  intro ρ K w us hm hu
  obtain ⟨u1, s1, rfl, k1, u2, s2, rfl, k2, k3⟩ := hu
  exact hm_twice (hob (u8L b) (by simp)) (hob (i.v + n.v ≤ b.length) (by simp)) (hob (j.v + m.v ≤ b.length) (by simp)) (hob (b.length ≤ 500000000) (by simp)) ρ K w _ hm ⟨u1, _, rfl, slH_rel k1, u2, _, rfl, slH_rel k2, k3⟩
 ·cases hg
end
end Go.Proofs.Ytbamfolinbehiaa
