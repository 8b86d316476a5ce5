/- What Uint and Int come to: bytes behind bytes. Varints, as lists of numbers. bytes.GetUint: what each path comes to. bytes.GetUint: what it comes to, and the contract. bytes.GetUint: the contract. bytes.GetInt, bytes.GetBlob: their runs. bytes.GetInt, bytes.GetBlob: the contracts. What is put is got, and what is got was put: varints. bytes.Blob: its run. bytes.Blob: the contract. slices.Equal of bytes: its runs. slices.Equal of bytes: the contract. -/
import Derived.Test.YtbamfolinbehiaaRows
import Derived.Test.YtbamfolinbehiaaSxAF
import Derived.Test.YtbamfolinbehiaaSxAG
import Derived.Laws.DeepNot64
namespace Go.Proofs.Ytbamfolinbehiaa
section
namespace By
open Go.ChangeShapes Go.WideShapes Go.ChangeAt Go.RowKit Go.Sx
theorem own : ownKnob Try.prog.godebug = none := by kernel_rfl
theorem laidOut : laidOutB Try.prog = true := by kernel_rfl
noncomputable def call0 (d : Nat) := callN Try.prog (fun _ => none) (fun _ => false) 100000 d
def si (k : IntKind) (n : Int) : V := .v (.one (.sint k n))
def rep (b : Bool) (n : Nat) : List Bool := List.replicate n b
def bsl (b n c : Nat) : V := .v (.one (.slice b (.c 0) 1 (.s n) (.s c)))
def vintN (n : Nat) : List Int := if n < 128 then [(n : Int)] else ((128 + n % 128 : Nat) : Int) :: vintN (n / 128)
termination_by n
decreasing_by omega
def vint (n : Int) : List Int := vintN n.toNat
def vb : Nat → Int → List Int
 | 0, n => [IntKind.wrap .u8 n]
 | j + 1, n => IntKind.wrap .u8 (IntKind.wrap .u8 (n.tmod 128) + 128) :: vb j (n.tdiv 128)
def vo : Nat → Int → List Prop
 | 0, n => [decide (128 ≤ n) = false]
 | j + 1, n => vo j (n.tdiv 128) ++ [inK .u64 (n.tdiv 128), decide (128 ≤ n) = true]
def lenB (j b : Nat) : V := .v (.one (.slice b (.c 0) 1 (.c (j + 1)) (.c (j + 1))))
def lenS (j b a : Nat) : V := .v (.one (.slice b (.c 0) 1 (.s (a + (j + 1))) (.s (a + (j + 1)))))
def sints (l : List Int) : List C := l.map (C.sint .u8)
noncomputable def uN (j : Nat) (n : Int) := retV [1] (call0 3 25 [.v (.one .nils), si .u64 n] [] (rep true j ++ [false]))
noncomputable def uS (j : Nat) (n : Int) (l : List Int) (a c : Nat) := retV [0, 2] (call0 3 25 [bsl 0 a c, si .u64 n] [⟨true, .ints .u8 l⟩] (rep true j ++ [false, true]))
def uNr (j : Nat) (n : Int) : Option (V × List SB × List Prop) := some (lenB j 1, [⟨true, .exp (sints (vb j n))⟩], vo j n)
def uSr (j : Nat) (n : Int) (l : List Int) (a : Nat) : Option (V × List SB × List Prop) := some (lenS j 2 a, [⟨true, .dead⟩, ⟨true, .ints .u8 (l ++ vb j n)⟩], [(0 : Nat) = 0, a = l.length, (a + (j + 1)) * 1 ≤ 140737488355328, a + (j + 1) ≤ 9223372036854775807] ++ vo j n)
theorem uN0 : (fun n => uN 0 n) = fun n => uNr 0 n := by kernel_rfl
theorem uS0 : (fun n l a c => uS 0 n l a c) = fun n l a _ => uSr 0 n l a := by kernel_rfl
theorem uN1 : (fun n => uN 1 n) = fun n => uNr 1 n := by kernel_rfl
theorem uS1 : (fun n l a c => uS 1 n l a c) = fun n l a _ => uSr 1 n l a := by kernel_rfl
theorem uN2 : (fun n => uN 2 n) = fun n => uNr 2 n := by kernel_rfl
theorem uS2 : (fun n l a c => uS 2 n l a c) = fun n l a _ => uSr 2 n l a := by kernel_rfl
theorem uN3 : (fun n => uN 3 n) = fun n => uNr 3 n := by kernel_rfl
theorem uS3 : (fun n l a c => uS 3 n l a c) = fun n l a _ => uSr 3 n l a := by kernel_rfl
theorem uN4 : (fun n => uN 4 n) = fun n => uNr 4 n := by kernel_rfl
theorem uS4 : (fun n l a c => uS 4 n l a c) = fun n l a _ => uSr 4 n l a := by kernel_rfl
theorem uN5 : (fun n => uN 5 n) = fun n => uNr 5 n := by kernel_rfl
theorem uS5 : (fun n l a c => uS 5 n l a c) = fun n l a _ => uSr 5 n l a := by kernel_rfl
theorem uN6 : (fun n => uN 6 n) = fun n => uNr 6 n := by kernel_rfl
theorem uS6 : (fun n l a c => uS 6 n l a c) = fun n l a _ => uSr 6 n l a := by kernel_rfl
theorem uN7 : (fun n => uN 7 n) = fun n => uNr 7 n := by kernel_rfl
theorem uS7 : (fun n l a c => uS 7 n l a c) = fun n l a _ => uSr 7 n l a := by kernel_rfl
theorem uN8 : (fun n => uN 8 n) = fun n => uNr 8 n := by kernel_rfl
theorem uS8 : (fun n l a c => uS 8 n l a c) = fun n l a _ => uSr 8 n l a := by kernel_rfl
theorem uN9 : (fun n => uN 9 n) = fun n => uNr 9 n := by kernel_rfl
theorem uS9 : (fun n l a c => uS 9 n l a c) = fun n l a _ => uSr 9 n l a := by kernel_rfl
theorem uN_all (n : Int) : ∀ j, j < 10 → uN j n = uNr j n
 | 0, _ => congrFun uN0 n | 1, _ => congrFun uN1 n | 2, _ => congrFun uN2 n | 3, _ => congrFun uN3 n | 4, _ => congrFun uN4 n
 | 5, _ => congrFun uN5 n | 6, _ => congrFun uN6 n | 7, _ => congrFun uN7 n | 8, _ => congrFun uN8 n | 9, _ => congrFun uN9 n
 | _ + 10, h => absurd h (by omega)
theorem uS_all (n : Int) (l : List Int) (a c : Nat) : ∀ j, j < 10 → uS j n l a c = uSr j n l a
 | 0, _ => cf4 uS0 n l a c | 1, _ => cf4 uS1 n l a c
 | 2, _ => cf4 uS2 n l a c | 3, _ => cf4 uS3 n l a c
 | 4, _ => cf4 uS4 n l a c | 5, _ => cf4 uS5 n l a c
 | 6, _ => cf4 uS6 n l a c | 7, _ => cf4 uS7 n l a c
 | 8, _ => cf4 uS8 n l a c | 9, _ => cf4 uS9 n l a c
 | _ + 10, h => absurd h (by omega)
theorem allP_app : ∀ {l r : List Prop}, allP l → allP r → allP (l ++ r)
 | [], _, _, h => h
 | _ :: _, _, h, h' => ⟨h.1, allP_app h.2 h'⟩
theorem vb_length : ∀ (j : Nat) (n : Int), (vb j n).length = j + 1
 | 0, _ => rfl
 | j + 1, n => by simp [vb, vb_length j]
theorem w8 {n : Int} (h0 : 0 ≤ n) (h1 : n < 256) : IntKind.wrap .u8 n = n := by
 refine wrap_in ⟨?_, ?_⟩ <;> simp [IntKind.min, IntKind.max, IntKind.signed, IntKind.bits] <;> omega
theorem w64 {n : Int} (h0 : 0 ≤ n) (h1 : n ≤ 18446744073709551615) : IntKind.wrap .u64 n = n := by
 refine wrap_in ⟨?_, ?_⟩ <;> simp [IntKind.min, IntKind.max, IntKind.signed, IntKind.bits] <;> omega
theorem vb_way : ∀ (j : Nat) (n : Int), 0 ≤ n → n ≤ 18446744073709551615 → n < 128 ^ (j + 1) → ∃ i, i ≤ j ∧ vb i n = vint n ∧ allP (vo i n)
 | 0, n, h0, _, h => by
  refine ⟨0, Nat.le_refl _, ?_, ?_⟩
  ·have : n < 128 := by simpa using h
   unfold vb vint vintN
   rw [if_pos (by omega), w8 h0 (by omega)]
   congr 1; omega
  ·have : n < 128 := by simpa using h
   simp [vo, allP]; omega
 | j + 1, n, h0, h1, h => by
  by_cases hs : n < 128
  ·refine ⟨0, Nat.zero_le _, ?_, ?_⟩
   ·unfold vb vint vintN
    rw [if_pos (by omega), w8 h0 (by omega)]
    congr 1; omega
   ·simp [vo, allP]; omega
  ·have hd : n.tdiv 128 = n / 128 := Int.tdiv_eq_ediv_of_nonneg h0
   have hm : n.tmod 128 = n % 128 := Int.tmod_eq_emod_of_nonneg h0
   have hlt : n / 128 < 128 ^ (j + 1) := by
    rw [Int.pow_succ] at h
    exact Int.ediv_lt_of_lt_mul (by omega) h
   obtain ⟨i, hi, h2, h3⟩ := vb_way j (n / 128) (by omega) (by omega) hlt
   refine ⟨i + 1, by omega, ?_, ?_⟩
   ·unfold vb vint vintN
    rw [if_neg (by omega), hd, h2, hm, w8 (n := n % 128) (by omega) (by omega), w8 (by omega) (by omega)]
    congr 1
    ·omega
    ·unfold vint; congr 1; omega
   ·simp only [vo]
    rw [hd]
    refine allP_app h3 ⟨⟨?_, ?_⟩, ?_, trivial⟩
    ·simp [IntKind.min, IntKind.signed]; omega
    ·simp [IntKind.max, IntKind.signed, IntKind.bits]; omega
    ·simp; omega
theorem way_of {n : Int} (h0 : 0 ≤ n) (h1 : n ≤ 18446744073709551615) : ∃ i, i < 10 ∧ vb i n = vint n ∧ allP (vo i n) ∧ (vint n).length = i + 1 := by
 obtain ⟨i, h2, h3, h4⟩ := vb_way 9 n h0 h1 (by omega)
 exact ⟨i, by omega, h3, h4, by rw [← h3]; exact vb_length i n⟩
def u64 (n : Int) : Prop := 0 ≤ n ∧ n ≤ 18446744073709551615
def ownB1 : List V → List Want
 | .v (.one (.slice _ _ _ _ _)) :: _ => [(true, .ints .u8)]
 | _ => []
def putL (k : IntKind) (f : Int → List Int) (pre : Int → Prop) : Sx.Loc := fun args bs => match args, bs with
 | [.v (.one .nils), .v (.one (.sint k' n))], [] => match decide (k' = k) with
  | true => some (bsl 0 (f n).length (f n).length, [⟨true, .ints .u8 (f n)⟩], [pre n])
  | false => none
 | [.v (.one (.slice 0 (.c 0) 1 (.s a) (.s _))), .v (.one (.sint k' n))], [⟨true, .ints .u8 l⟩] => match decide (k' = k) with
  | true => some (bsl 1 (l ++ f n).length (l ++ f n).length, [⟨true, .dead⟩, ⟨true, .ints .u8 (l ++ f n)⟩], [pre n, a = l.length, l.length + 10 ≤ 140737488355328])
  | false => none
 | _, _ => none
theorem putL_ok {g : FuncId} {k : IntKind} {f : Int → List Int} {pre : Int → Prop}
  (h1 : ∀ n, pre n → Works Try.prog g [.v (.one .nils), si k n] [] (bsl 0 (f n).length (f n).length) [⟨true, .ints .u8 (f n)⟩])
  (h2 : ∀ n (l : List Int) (c : Nat), pre n → l.length + 10 ≤ 140737488355328 → Works Try.prog g [bsl 0 l.length c, si k n] [⟨true, .ints .u8 l⟩] (bsl 1 (l ++ f n).length (l ++ f n).length) [⟨true, .dead⟩, ⟨true, .ints .u8 (l ++ f n)⟩]) :
  TabOk Try.prog g (loc ownB1 (putL k f pre)) := loc_ok fun xs bs v bs' ob hg hob hok => by
 clear hok
 unfold putL at hg
 split at hg
 ·rename_i k' n
  split at hg
  ·rename_i hk
   have hk := of_decide_eq_true hk; subst hk
   cases hg
   exact h1 n (hob _ (by simp))
  ·cases hg
 ·rename_i a c k' n l
  split at hg
  ·rename_i hk
   have hk := of_decide_eq_true hk; subst hk
   cases hg
   have ha : a = l.length := hob _ (by simp)
   subst ha
   exact h2 n l c (hob _ (by simp)) (hob _ (by simp))
  ·cases hg
 ·cases hg
theorem sints_le (sel : List Nat) : ∀ l : List Int, leL sel (sints l) (l.map (C.sint .u8))
 | [] => trivial
 | _ :: r => ⟨⟨rfl, rfl⟩, sints_le sel r⟩
theorem uint_nil (n : Int) (h : u64 n) : Works Try.prog 25 [.v (.one .nils), si .u64 n] [] (bsl 0 (vint n).length (vint n).length) [⟨true, .ints .u8 (vint n)⟩] := by
 obtain ⟨i, hi, h1, h2, h3⟩ := way_of h.1 h.2
 refine works_of (v := bsl 0 (vint n).length (vint n).length) (bs' := [⟨true, .ints .u8 (vint n)⟩]) (r := [1]) no_tabs (uN_all n i hi) h2 (by decide) ⟨rfl, rfl, rfl, ?_, ?_, ?_⟩ ⟨⟨fun h => h, ?_⟩, trivial⟩
 ·simp [N.v, h3]
 ·simp [N.v, h3]
 ·simp [N.v, h3]
 ·show leL _ (sints (vb i n)) ((vint n).map (C.sint .u8))
  rw [h1]; exact sints_le _ _
theorem uint_own (n : Int) (l : List Int) (c : Nat) (h : u64 n) (hl : l.length + 10 ≤ 140737488355328) :
  Works Try.prog 25 [bsl 0 l.length c, si .u64 n] [⟨true, .ints .u8 l⟩] (bsl 1 (l ++ vint n).length (l ++ vint n).length) [⟨true, .dead⟩, ⟨true, .ints .u8 (l ++ vint n)⟩] := by
 obtain ⟨i, hi, h1, h2, h3⟩ := way_of h.1 h.2
 refine works_of (v := bsl 1 (l ++ vint n).length (l ++ vint n).length) (bs' := [⟨true, .dead⟩, ⟨true, .ints .u8 (l ++ vint n)⟩]) (r := [2]) no_tabs (uS_all n l l.length c i hi) ?_ (show (List.range 1 ++ [2]).Nodup by decide) ⟨rfl, rfl, rfl, ?_, ?_, ?_⟩ ⟨⟨fun h => h, trivial⟩, ⟨fun h => h, ?_⟩, trivial⟩
 ·exact allP_app ⟨rfl, rfl, by omega, by omega, trivial⟩ h2
 ·simp [N.v, h3]
 ·simp [N.v, h3]
 ·simp [N.v, h3]
 ·exact ⟨rfl, by rw [h1]⟩
theorem uint_tab : TabOk Try.prog 25 (loc ownB1 (putL .u64 vint u64)) := putL_ok uint_nil uint_own
def zz (n : Int) : Int := if n < 0 then -1 - 2 * n else 2 * n
def i64 (n : Int) : Prop := -9223372036854775808 ≤ n ∧ n ≤ 9223372036854775807
theorem wrap_u64 (n : Int) : IntKind.wrap .u64 n = n % 18446744073709551616 := by
 simp [IntKind.wrap, IntKind.signed, IntKind.bits]
end By
end
section
namespace By
theorem vintN_small {n : Nat} (h : n < 128) : vintN n = [(n : Int)] := by unfold vintN; rw [if_pos h]
theorem vintN_big {n : Nat} (h : ¬ n < 128) : vintN n = ((128 + n % 128 : Nat) : Int) :: vintN (n / 128) := by rw [vintN]; rw [if_neg h]
def valL : List Int → Nat
 | [] => 0
 | x :: r => x.toNat % 128 + 128 * valL r
theorem vintN_byte : ∀ n : Nat, ∀ x ∈ vintN n, 0 ≤ x ∧ x < 256 := fun n => by
 induction n using Nat.strongRecOn with
 | _ n ih =>
  intro x hx
  by_cases h : n < 128
  ·rw [vintN_small h] at hx; simp at hx; omega
  ·rw [vintN_big h] at hx
   rcases List.mem_cons.1 hx with rfl | hx
   ·omega
   ·exact ih (n / 128) (by omega) x hx
theorem vint_small {d : Int} (hd : 0 ≤ d ∧ d < 128) : vint d = [d] := by
 unfold vint
 rw [vintN_small (by omega)]
 congr 1; omega
theorem vint_le {n : Int} (h : u64 n) : (vint n).length ≤ 10 := by
 obtain ⟨i, hi, _, _, h3⟩ := way_of h.1 h.2
 omega
end By
end
section
namespace By
open Go.ChangeShapes Go.WideShapes Go.ChangeAt Go.RowKit Go.Sx
def roB (l : List Int) : SB := ⟨false, .ints .u8 l⟩
def mnG (n : Nat) (a : Int) : Int := if (n : Int) < a + 10 then (n : Int) else a + 10
def rlG (n : Nat) (a : Int) : Int := ((Int.toNat (if (n : Int) < a + 10 then (n : Int) else a + 10) - Int.toNat a : Nat) : Int)
def ixG (a : Int) : Nat → Nat
 | 0 => Int.toNat a
 | j + 1 => Nat.add (Int.toNat a) (j + 1)
def gxG (l : List Int) (a : Int) (j : Nat) : Int := List.getD l (ixG a j) 0
def tailG (n c : Nat) (a : Int) : List Prop := [0 ≤ mnG n a, mnG n a ≤ (c : Int), 0 ≤ a, a ≤ ((Int.toNat (mnG n a) : Nat) : Int), -9223372036854775808 ≤ a + 10 ∧ a + 10 ≤ 9223372036854775807, decide ((n : Int) < a) = false, decide (a < 0) = false]
def scanG (l : List Int) (n c : Nat) (a : Int) : Nat → List Prop
 | 0 => tailG n c a
 | j + 1 => [decide (gxG l a j < 128) = false, ixG a j < l.length, (j : Int) < rlG n a, decide ((j : Int) < rlG n a) = true] ++ scanG l n c a j
def shortG (l : List Int) (n c : Nat) (a : Int) (j : Nat) : List Prop := [decide (rlG n a < 10) = true, decide ((j : Int) < rlG n a) = false] ++ scanG l n c a j
def longG (l : List Int) (n c : Nat) (a : Int) : List Prop := [decide (rlG n a < 10) = false, decide (((10 : Nat) : Int) < rlG n a) = false] ++ scanG l n c a 10
def hitG (l : List Int) (n c : Nat) (a : Int) (j : Nat) : List Prop := [decide (gxG l a j < 128) = true, ixG a j < l.length, (j : Int) < rlG n a, decide ((j : Int) < rlG n a) = true] ++ scanG l n c a j
def noughtG (l : List Int) (n c : Nat) (a : Int) (j : Nat) : List Prop := [decide (gxG l a j = 0) = true, ixG a j < l.length, (j : Int) < rlG n a] ++ hitG l n c a j
def overG (l : List Int) (n c : Nat) (a : Int) : List Prop := [decide (1 < gxG l a 9) = true, ixG a 9 < l.length, ((9 : Nat) : Int) < rlG n a, decide (gxG l a 9 = 0) = false, ixG a 9 < l.length, ((9 : Nat) : Int) < rlG n a] ++ hitG l n c a 9
def extraG (l : List Int) (n c : Nat) (a : Int) : Nat → List Prop
 | 0 => hitG l n c a 0
 | 9 => [decide (1 < gxG l a 9) = false, ixG a 9 < l.length, ((9 : Nat) : Int) < rlG n a, decide (gxG l a 9 = 0) = false, ixG a 9 < l.length, ((9 : Nat) : Int) < rlG n a] ++ hitG l n c a 9
 | j + 1 => [decide (gxG l a (j + 1) = 0) = false, ixG a (j + 1) < l.length, ((j + 1 : Nat) : Int) < rlG n a] ++ hitG l n c a (j + 1)
def loopG (l : List Int) (n c : Nat) (a : Int) (j : Nat) : Nat → List Prop
 | 0 => extraG l n c a j
 | m + 1 => [0 ≤ Int.tmod (gxG l a (j - m)) 128 ∧ Int.tmod (gxG l a (j - m)) 128 ≤ 18446744073709551615, ixG a (j - m) < l.length, ((j - m : Nat) : Int) < rlG n a] ++ loopG l n c a j m
def okG (l : List Int) (n c : Nat) (a : Int) (j : Nat) : List Prop := [-9223372036854775808 ≤ a + (j : Int) + 1 ∧ a + (j : Int) + 1 ≤ 9223372036854775807, -9223372036854775808 ≤ a + (j : Int) ∧ a + (j : Int) ≤ 9223372036854775807] ++ loopG l n c a j (j + 1)
def vdG (l : List Int) (a : Int) (j : Nat) : Nat → Int
 | 0 => IntKind.wrap .u64 (0 + Int.tmod (gxG l a j) 128)
 | i + 1 => IntKind.wrap .u64 (IntKind.wrap .u64 (vdG l a j i * 128) + Int.tmod (gxG l a (j - (i + 1))) 128)
def tupG (v t e : Int) : V := .tup [.one (.sint .u64 v), .one (.sint .i64 t), .one (.sint .i64 e)]
def tupI (v t e : Int) : V := .tup [.one (.int .u64 v), .one (.int .i64 t), .one (.int .i64 e)]
def tupK (v t : Int) : V := .tup [.one (.sint .u64 v), .one (.sint .i64 t), .one (.int .i64 0)]
def scanH (j : Nat) : List Bool := (List.replicate j [true, false]).flatten
noncomputable def guG (l : List Int) (a : Int) (n c : Nat) (h : List Bool) := retV [0] (call0 6 28 [bsl 0 n c, si .i64 a] [roB l] h)
theorem gNeg : (fun l a n c => guG l a n c [true]) = fun l a _ _ => some (tupI 0 0 2, [roB l], [decide (a < 0) = true]) := by kernel_rfl
theorem gFar : (fun l a n c => guG l a n c [false, true]) = fun (l : List Int) (a : Int) (n : Nat) (_ : Nat) => some (tupI 0 0 2, [roB l], [decide ((n : Int) < a) = true, decide (a < 0) = false]) := by kernel_rfl
theorem gLong : (fun l a n c => guG l a n c ([false, false] ++ scanH 10 ++ [false, false])) = fun l a n c => some (tupI 0 0 10, [roB l], longG l n c a) := by kernel_rfl
theorem gOver : (fun l a n c => guG l a n c ([false, false] ++ scanH 9 ++ [true, true, false, true])) = fun l a n c => some (tupI 0 0 10, [roB l], overG l n c a) := by kernel_rfl
theorem gShort0 : (fun l a n c => guG l a n c ([false, false] ++ scanH 0 ++ [false, true])) = fun l a n c => some (tupI 0 0 11, [roB l], shortG l n c a 0) := by kernel_rfl
theorem gShort1 : (fun l a n c => guG l a n c ([false, false] ++ scanH 1 ++ [false, true])) = fun l a n c => some (tupI 0 0 11, [roB l], shortG l n c a 1) := by kernel_rfl
theorem gShort2 : (fun l a n c => guG l a n c ([false, false] ++ scanH 2 ++ [false, true])) = fun l a n c => some (tupI 0 0 11, [roB l], shortG l n c a 2) := by kernel_rfl
theorem gShort3 : (fun l a n c => guG l a n c ([false, false] ++ scanH 3 ++ [false, true])) = fun l a n c => some (tupI 0 0 11, [roB l], shortG l n c a 3) := by kernel_rfl
theorem gShort4 : (fun l a n c => guG l a n c ([false, false] ++ scanH 4 ++ [false, true])) = fun l a n c => some (tupI 0 0 11, [roB l], shortG l n c a 4) := by kernel_rfl
theorem gShort5 : (fun l a n c => guG l a n c ([false, false] ++ scanH 5 ++ [false, true])) = fun l a n c => some (tupI 0 0 11, [roB l], shortG l n c a 5) := by kernel_rfl
theorem gShort6 : (fun l a n c => guG l a n c ([false, false] ++ scanH 6 ++ [false, true])) = fun l a n c => some (tupI 0 0 11, [roB l], shortG l n c a 6) := by kernel_rfl
theorem gShort7 : (fun l a n c => guG l a n c ([false, false] ++ scanH 7 ++ [false, true])) = fun l a n c => some (tupI 0 0 11, [roB l], shortG l n c a 7) := by kernel_rfl
theorem gShort8 : (fun l a n c => guG l a n c ([false, false] ++ scanH 8 ++ [false, true])) = fun l a n c => some (tupI 0 0 11, [roB l], shortG l n c a 8) := by kernel_rfl
theorem gShort9 : (fun l a n c => guG l a n c ([false, false] ++ scanH 9 ++ [false, true])) = fun l a n c => some (tupI 0 0 11, [roB l], shortG l n c a 9) := by kernel_rfl
theorem gNought1 : (fun l a n c => guG l a n c ([false, false] ++ scanH 1 ++ [true, true, true])) = fun l a n c => some (tupI 0 0 10, [roB l], noughtG l n c a 1) := by kernel_rfl
theorem gNought2 : (fun l a n c => guG l a n c ([false, false] ++ scanH 2 ++ [true, true, true])) = fun l a n c => some (tupI 0 0 10, [roB l], noughtG l n c a 2) := by kernel_rfl
theorem gNought3 : (fun l a n c => guG l a n c ([false, false] ++ scanH 3 ++ [true, true, true])) = fun l a n c => some (tupI 0 0 10, [roB l], noughtG l n c a 3) := by kernel_rfl
theorem gNought4 : (fun l a n c => guG l a n c ([false, false] ++ scanH 4 ++ [true, true, true])) = fun l a n c => some (tupI 0 0 10, [roB l], noughtG l n c a 4) := by kernel_rfl
theorem gNought5 : (fun l a n c => guG l a n c ([false, false] ++ scanH 5 ++ [true, true, true])) = fun l a n c => some (tupI 0 0 10, [roB l], noughtG l n c a 5) := by kernel_rfl
theorem gNought6 : (fun l a n c => guG l a n c ([false, false] ++ scanH 6 ++ [true, true, true])) = fun l a n c => some (tupI 0 0 10, [roB l], noughtG l n c a 6) := by kernel_rfl
theorem gNought7 : (fun l a n c => guG l a n c ([false, false] ++ scanH 7 ++ [true, true, true])) = fun l a n c => some (tupI 0 0 10, [roB l], noughtG l n c a 7) := by kernel_rfl
theorem gNought8 : (fun l a n c => guG l a n c ([false, false] ++ scanH 8 ++ [true, true, true])) = fun l a n c => some (tupI 0 0 10, [roB l], noughtG l n c a 8) := by kernel_rfl
theorem gNought9 : (fun l a n c => guG l a n c ([false, false] ++ scanH 9 ++ [true, true, true])) = fun l a n c => some (tupI 0 0 10, [roB l], noughtG l n c a 9) := by kernel_rfl
theorem gOk0 : (fun l a n c => guG l a n c ([false, false] ++ scanH 0 ++ [true, true])) = fun l a n c => some (tupK (vdG l a 0 0) (a + (0 : Nat) + 1), [roB l], okG l n c a 0) := by kernel_rfl
theorem gOk1 : (fun l a n c => guG l a n c ([false, false] ++ scanH 1 ++ [true, true, false])) = fun l a n c => some (tupK (vdG l a 1 1) (a + (1 : Nat) + 1), [roB l], okG l n c a 1) := by kernel_rfl
theorem gOk2 : (fun l a n c => guG l a n c ([false, false] ++ scanH 2 ++ [true, true, false])) = fun l a n c => some (tupK (vdG l a 2 2) (a + (2 : Nat) + 1), [roB l], okG l n c a 2) := by kernel_rfl
theorem gOk3 : (fun l a n c => guG l a n c ([false, false] ++ scanH 3 ++ [true, true, false])) = fun l a n c => some (tupK (vdG l a 3 3) (a + (3 : Nat) + 1), [roB l], okG l n c a 3) := by kernel_rfl
theorem gOk4 : (fun l a n c => guG l a n c ([false, false] ++ scanH 4 ++ [true, true, false])) = fun l a n c => some (tupK (vdG l a 4 4) (a + (4 : Nat) + 1), [roB l], okG l n c a 4) := by kernel_rfl
theorem gOk5 : (fun l a n c => guG l a n c ([false, false] ++ scanH 5 ++ [true, true, false])) = fun l a n c => some (tupK (vdG l a 5 5) (a + (5 : Nat) + 1), [roB l], okG l n c a 5) := by kernel_rfl
theorem gOk6 : (fun l a n c => guG l a n c ([false, false] ++ scanH 6 ++ [true, true, false])) = fun l a n c => some (tupK (vdG l a 6 6) (a + (6 : Nat) + 1), [roB l], okG l n c a 6) := by kernel_rfl
theorem gOk7 : (fun l a n c => guG l a n c ([false, false] ++ scanH 7 ++ [true, true, false])) = fun l a n c => some (tupK (vdG l a 7 7) (a + (7 : Nat) + 1), [roB l], okG l n c a 7) := by kernel_rfl
theorem gOk8 : (fun l a n c => guG l a n c ([false, false] ++ scanH 8 ++ [true, true, false])) = fun l a n c => some (tupK (vdG l a 8 8) (a + (8 : Nat) + 1), [roB l], okG l n c a 8) := by kernel_rfl
theorem gOk9 : (fun l a n c => guG l a n c ([false, false] ++ scanH 9 ++ [true, true, false, false])) = fun l a n c => some (tupK (vdG l a 9 9) (a + 9 + 1), [roB l], okG l n c a 9) := by kernel_rfl
end By
end
section
namespace By
open Go.ChangeShapes Go.WideShapes Go.ChangeAt Go.RowKit Go.Sx
def wfB (l : List Int) : Prop := ∀ x ∈ l, 0 ≤ x ∧ x < 256
theorem wfB_get {l : List Int} (h : wfB l) (i : Nat) : 0 ≤ l.getD i 0 ∧ l.getD i 0 < 256 := by
 rw [List.getD_eq_getElem?_getD]
 cases hi : l[i]? with
 | none => simp
 | some x => exact h x (List.mem_of_getElem? hi)
def scanU (l : List Int) (n k : Nat) : Nat → Nat → Option Nat
 | 0, _ => none
 | m + 1, i => if k + i < n then (if l.getD (k + i) 0 < 128 then some i else scanU l n k m (i + 1)) else none
def valU (l : List Int) : Nat → Nat → Int
 | k, 0 => l.getD k 0 % 128
 | k, j + 1 => l.getD k 0 % 128 + 128 * valU l (k + 1) j
def getU (l : List Int) (n : Nat) (a : Int) : Int × Int × Int :=
 if a < 0 ∨ (n : Int) < a then (0, 0, 2) else match scanU l n a.toNat 10 0 with
  | none => if n < a.toNat + 10 then (0, 0, 11) else (0, 0, 10)
  | some j => if (0 < j ∧ l.getD (a.toNat + j) 0 = 0) ∨ (j = 9 ∧ 1 < l.getD (a.toNat + 9) 0) then (0, 0, 10) else (valU l a.toNat j, a + (j : Int) + 1, 0)
theorem scanU_none : ∀ {l : List Int} {n k m i : Nat}, scanU l n k m i = none → ∃ j, i ≤ j ∧ j ≤ i + m ∧ (∀ t, i ≤ t → t < j → k + t < n ∧ 128 ≤ l.getD (k + t) 0) ∧ (j = i + m ∨ n ≤ k + j)
 | l, n, k, 0, i, _ => ⟨i, by omega, by omega, fun t h1 h2 => by omega, .inl rfl⟩
 | l, n, k, m + 1, i, h => by
  unfold scanU at h
  by_cases h1 : k + i < n
  ·rw [if_pos h1] at h
   by_cases h2 : l.getD (k + i) 0 < 128
   ·rw [if_pos h2] at h; cases h
   ·rw [if_neg h2] at h
    obtain ⟨j, j1, j2, j3, j4⟩ := scanU_none h
    refine ⟨j, by omega, by omega, fun t t1 t2 => ?_, by omega⟩
    by_cases ht : t = i
    ·subst ht; exact ⟨h1, by omega⟩
    ·exact j3 t (by omega) t2
  ·exact ⟨i, by omega, by omega, fun t t1 t2 => by omega, .inr (by omega)⟩
theorem scanU_some : ∀ {l : List Int} {n k m i j : Nat}, scanU l n k m i = some j → i ≤ j ∧ j < i + m ∧ (∀ t, i ≤ t → t < j → k + t < n ∧ 128 ≤ l.getD (k + t) 0) ∧ k + j < n ∧ l.getD (k + j) 0 < 128
 | l, n, k, 0, i, j, h => by cases h
 | l, n, k, m + 1, i, j, h => by
  unfold scanU at h
  by_cases h1 : k + i < n
  ·rw [if_pos h1] at h
   by_cases h2 : l.getD (k + i) 0 < 128
   ·rw [if_pos h2] at h
    injection h with h; subst h
    exact ⟨Nat.le_refl _, by omega, fun t t1 t2 => by omega, h1, h2⟩
   ·rw [if_neg h2] at h
    obtain ⟨j1, j2, j3, j4, j5⟩ := scanU_some h
    refine ⟨by omega, by omega, fun t t1 t2 => ?_, j4, j5⟩
    by_cases ht : t = i
    ·subst ht; exact ⟨h1, by omega⟩
    ·exact j3 t (by omega) t2
  ·rw [if_neg h1] at h; cases h
section
variable {l : List Int} {n c : Nat} {a : Int}
theorem ixG_eq (ha : 0 ≤ a) (j : Nat) : ixG a j = a.toNat + j := by cases j <;> rfl
theorem gxG_eq (j : Nat) : gxG l a j = l.getD (a.toNat + j) 0 := by cases j <;> rfl
theorem rl_min (ha : 0 ≤ a) (hn : a ≤ n) (j : Nat) (hj : j ≤ 10) : (j : Int) < rlG n a ↔ (a.toNat + j < n ∧ j < 10) := by
 unfold rlG
 split <;> omega
theorem rl_10 (ha : 0 ≤ a) (hn : a ≤ n) : rlG n a < 10 ↔ n < a.toNat + 10 := by
 unfold rlG
 split <;> omega
theorem tailG_ok (ha : 0 ≤ a) (hn : a ≤ n) (hc : n ≤ c) (hm : n ≤ 1000000000) : allP (tailG n c a) := by
 unfold tailG mnG
 refine ⟨?_, ?_, ha, ?_, ?_, decide_eq_false (by omega), decide_eq_false (by omega), trivial⟩
 ·split <;> omega
 ·split <;> omega
 ·split <;> omega
 ·omega
theorem scanG_ok (ha : 0 ≤ a) (hn : a ≤ n) (hc : n ≤ c) (hm : n ≤ 1000000000) (hl : n ≤ l.length) : ∀ {j : Nat}, j ≤ 10 → (∀ t, 0 ≤ t → t < j → a.toNat + t < n ∧ 128 ≤ l.getD (a.toNat + t) 0) → allP (scanG l n c a j)
 | 0, _, _ => tailG_ok ha hn hc hm
 | j + 1, hj, h => by
  obtain ⟨h1, h2⟩ := h j (by omega) (by omega)
  have hr := (rl_min ha hn j (by omega)).2 ⟨h1, by omega⟩
  refine ⟨?_, ?_, hr, decide_eq_true hr, scanG_ok ha hn hc hm hl (by omega) fun t t1 t2 => h t t1 (by omega)⟩
  ·rw [gxG_eq]; exact decide_eq_false (by omega)
  ·rw [ixG_eq ha]; omega
theorem hitG_ok (ha : 0 ≤ a) (hn : a ≤ n) (hc : n ≤ c) (hm : n ≤ 1000000000) (hl : n ≤ l.length) {j : Nat} (hj : j < 10) (h : ∀ t, 0 ≤ t → t < j → a.toNat + t < n ∧ 128 ≤ l.getD (a.toNat + t) 0) (h1 : a.toNat + j < n) (h2 : l.getD (a.toNat + j) 0 < 128) : allP (hitG l n c a j) := by
 have hr := (rl_min ha hn j (by omega)).2 ⟨h1, hj⟩
 refine ⟨?_, ?_, hr, decide_eq_true hr, scanG_ok ha hn hc hm hl (by omega) h⟩
 ·rw [gxG_eq]; exact decide_eq_true h2
 ·rw [ixG_eq ha]; omega
theorem extraG_ok (ha : 0 ≤ a) (hn : a ≤ n) (hl : n ≤ l.length) {j : Nat} (hj : j < 10) (h1 : a.toNat + j < n) (hh : allP (hitG l n c a j)) (h0 : 0 < j → l.getD (a.toNat + j) 0 ≠ 0) (h9 : j = 9 → l.getD (a.toNat + 9) 0 ≤ 1) : allP (extraG l n c a j) := by
 have hr := (rl_min ha hn j (by omega)).2 ⟨h1, hj⟩
 have hix : ixG a j < l.length := by rw [ixG_eq ha]; omega
 unfold extraG
 split
 ·exact hh
 ·refine ⟨?_, hix, hr, ?_, hix, hr, hh⟩
  ·rw [gxG_eq]; exact decide_eq_false (by have := h9 rfl; omega)
  ·rw [gxG_eq]; exact decide_eq_false (h0 (by omega))
 ·refine ⟨?_, hix, hr, hh⟩
  rw [gxG_eq]; exact decide_eq_false (h0 (by omega))
theorem loopG_ok (ha : 0 ≤ a) (hn : a ≤ n) (hl : n ≤ l.length) (hw : wfB l) {j : Nat} (hj : j < 10) (h1 : a.toNat + j < n) (he : allP (extraG l n c a j)) : ∀ m, m ≤ j + 1 → allP (loopG l n c a j m)
 | 0, _ => he
 | m + 1, hm => by
  have hr := (rl_min ha hn (j - m) (by omega)).2 ⟨by omega, by omega⟩
  refine ⟨?_, ?_, hr, loopG_ok ha hn hl hw hj h1 he m (by omega)⟩
  ·rw [gxG_eq]
   have := wfB_get hw (a.toNat + (j - m))
   rw [Int.tmod_eq_emod_of_nonneg this.1]
   omega
  ·rw [ixG_eq ha]; omega
theorem valU_nn (hw : wfB l) : ∀ (i k : Nat), 0 ≤ valU l k i
 | 0, k => by have := wfB_get hw k; unfold valU; omega
 | i + 1, k => by have := wfB_get hw k; have := valU_nn hw i (k + 1); unfold valU; omega
theorem valU_lt (hw : wfB l) {M : Int} : ∀ (i k : Nat), l.getD (k + i) 0 % 128 < M → valU l k i < M * 128 ^ i
 | 0, k, h => by unfold valU; simpa using h
 | i + 1, k, h => by
  have ih := valU_lt hw i (k + 1) (by rw [show k + 1 + i = k + (i + 1) by omega]; exact h)
  have h1 : M * 128 ^ (i + 1) = M * 128 ^ i * 128 := by rw [Int.pow_succ, Int.mul_assoc]
  unfold valU
  rw [h1]
  generalize M * 128 ^ i = X at *
  omega
theorem vdG_eq (hw : wfB l) {j : Nat} (hj : j < 10) {M : Int} (hM : l.getD (a.toNat + j) 0 % 128 < M) (hb : ∀ i, i ≤ j → M * 128 ^ i ≤ 18446744073709551616) : ∀ i, i ≤ j → vdG l a j i = valU l (a.toNat + (j - i)) i
 | 0, _ => by
  unfold vdG valU
  rw [gxG_eq]
  have := wfB_get hw (a.toNat + j)
  rw [Int.tmod_eq_emod_of_nonneg this.1, Int.zero_add, Nat.sub_zero, w64 (by omega) (by omega)]
 | i + 1, hi => by
  have ih := vdG_eq hw hj hM hb i (by omega)
  have h0 := valU_nn hw i (a.toNat + (j - i))
  have h1 := valU_lt hw (M := M) (i + 1) (a.toNat + (j - (i + 1))) (by rw [show a.toNat + (j - (i + 1)) + (i + 1) = a.toNat + j by omega]; exact hM)
  have h2 := hb (i + 1) hi
  have hg := wfB_get hw (a.toNat + (j - (i + 1)))
  have e : valU l (a.toNat + (j - (i + 1))) (i + 1) = l.getD (a.toNat + (j - (i + 1))) 0 % 128 + 128 * valU l (a.toNat + (j - i)) i := by
   conv => lhs; unfold valU
   rw [show a.toNat + (j - (i + 1)) + 1 = a.toNat + (j - i) by omega]
  unfold vdG
  rw [ih, gxG_eq, Int.tmod_eq_emod_of_nonneg hg.1]
  rw [e] at h1 ⊢
  rw [w64 (n := valU l (a.toNat + (j - i)) i * 128) (by omega) (by omega), w64 (by omega) (by omega)]
  omega
end
end By
end
section
namespace By
open Go.ChangeShapes Go.WideShapes Go.ChangeAt Go.RowKit Go.Sx
theorem capG_works {f : FuncId} {b n c : Nat} {args : List V} {bs bs' : List SB} {v : V} (h : n ≤ c → Works Try.prog f (bsl b n c :: args) bs v bs') : Works Try.prog f (bsl b n c :: args) bs v bs' := by
 intro ρ K w us hm hu
 have hc : n ≤ c := by
  obtain ⟨u, s, _, ⟨⟨e, _, hu⟩, _⟩, _⟩ := hu
  rcases hu with ⟨h0, _⟩ | ⟨_, _, _, h1, _⟩
  ·simp only [N.v] at h0; omega
  ·exact h1
 exact h hc ρ K w us hm hu
theorem gShort_all (l : List Int) (a : Int) (n c : Nat) : ∀ j, j < 10 → guG l a n c ([false, false] ++ scanH j ++ [false, true]) = some (tupI 0 0 11, [roB l], shortG l n c a j)
 | 0, _ => cf4 gShort0 l a n c
 | 1, _ => cf4 gShort1 l a n c
 | 2, _ => cf4 gShort2 l a n c
 | 3, _ => cf4 gShort3 l a n c
 | 4, _ => cf4 gShort4 l a n c
 | 5, _ => cf4 gShort5 l a n c
 | 6, _ => cf4 gShort6 l a n c
 | 7, _ => cf4 gShort7 l a n c
 | 8, _ => cf4 gShort8 l a n c
 | 9, _ => cf4 gShort9 l a n c
 | _ + 10, h => absurd h (by omega)
theorem gNought_all (l : List Int) (a : Int) (n c : Nat) : ∀ j, 1 ≤ j → j < 10 → guG l a n c ([false, false] ++ scanH j ++ [true, true, true]) = some (tupI 0 0 10, [roB l], noughtG l n c a j)
 | 0, h, _ => absurd h (by omega)
 | 1, _, _ => cf4 gNought1 l a n c
 | 2, _, _ => cf4 gNought2 l a n c
 | 3, _, _ => cf4 gNought3 l a n c
 | 4, _, _ => cf4 gNought4 l a n c
 | 5, _, _ => cf4 gNought5 l a n c
 | 6, _, _ => cf4 gNought6 l a n c
 | 7, _, _ => cf4 gNought7 l a n c
 | 8, _, _ => cf4 gNought8 l a n c
 | 9, _, _ => cf4 gNought9 l a n c
 | _ + 10, _, h => absurd h (by omega)
def okH : Nat → List Bool
 | 0 => [true, true]
 | 9 => [true, true, false, false]
 | _ => [true, true, false]
theorem gOk_all (l : List Int) (a : Int) (n c : Nat) : ∀ j, j < 10 → guG l a n c ([false, false] ++ scanH j ++ okH j) = some (tupK (vdG l a j j) (a + (j : Int) + 1), [roB l], okG l n c a j)
 | 0, _ => cf4 gOk0 l a n c
 | 1, _ => cf4 gOk1 l a n c
 | 2, _ => cf4 gOk2 l a n c
 | 3, _ => cf4 gOk3 l a n c
 | 4, _ => cf4 gOk4 l a n c
 | 5, _ => cf4 gOk5 l a n c
 | 6, _ => cf4 gOk6 l a n c
 | 7, _ => cf4 gOk7 l a n c
 | 8, _ => cf4 gOk8 l a n c
 | 9, _ => cf4 gOk9 l a n c
 | _ + 10, h => absurd h (by omega)
theorem ndG : (List.range 1 ++ ([] : List Nat)).Nodup := by decide
theorem leG (l : List Int) : leBs (List.range 1 ++ []) [roB l] [roB l] := ⟨⟨fun h => h, rfl, rfl⟩, trivial⟩
theorem get_works (l : List Int) (n c : Nat) (a : Int) (hn : n ≤ l.length) (hm : n ≤ 1000000000) (hw : wfB l) : Works Try.prog 28 [bsl 0 n c, si .i64 a] [roB l] (tupG (getU l n a).1 (getU l n a).2.1 (getU l n a).2.2) [roB l] := capG_works fun hc => by
 have err : ∀ (e : Int) (h : List Bool) (ob : List Prop), getU l n a = (0, 0, e) → guG l a n c h = some (tupI 0 0 e, [roB l], ob) → allP ob → Works Try.prog 28 [bsl 0 n c, si .i64 a] [roB l] (tupG (getU l n a).1 (getU l n a).2.1 (getU l n a).2.2) [roB l] := by
  intro e h ob he hr hob
  rw [he]
  exact works_of (r := []) (bs := [roB l]) no_tabs hr hob ndG (by simp [tupI, tupG, leV, leL1, leV1, leC]) (leG l)
 by_cases h0 : a < 0
 ·exact err 2 [true] _ (by unfold getU; rw [if_pos (.inl h0)]) (cf4 gNeg l a n c) ⟨decide_eq_true h0, trivial⟩
 by_cases h1 : (n : Int) < a
 ·exact err 2 [false, true] _ (by unfold getU; rw [if_pos (.inr h1)]) (cf4 gFar l a n c) ⟨decide_eq_true h1, decide_eq_false h0, trivial⟩
 have ha : 0 ≤ a := by omega
 have han : a ≤ n := by omega
 cases hs : scanU l n a.toNat 10 0 with
 | none =>
  obtain ⟨j, j1, j2, j3, j4⟩ := scanU_none hs
  by_cases h10 : n < a.toNat + 10
  ·have hj : j < 10 ∧ n ≤ a.toNat + j := by
    rcases Nat.lt_or_ge j 10 with h | h
    ·exact ⟨h, by omega⟩
    ·have := (j3 9 (by omega) (by omega)).1; omega
   have hr : ¬ (j : Int) < rlG n a := fun h => by have := ((rl_min ha han j (by omega)).1 h).1; omega
   exact err 11 _ _ (by unfold getU; rw [if_neg (by omega), hs]; simp only; rw [if_pos h10]) (gShort_all l a n c j hj.1)
    ⟨decide_eq_true ((rl_10 ha han).2 h10), decide_eq_false hr, scanG_ok ha han hc hm hn (by omega) j3⟩
  ·have hj : j = 10 := by omega
   subst hj
   have hr : ¬ ((10 : Nat) : Int) < rlG n a := fun h => by have := ((rl_min ha han 10 (by omega)).1 h).2; omega
   exact err 10 _ _ (by unfold getU; rw [if_neg (by omega), hs]; simp only; rw [if_neg h10]) (cf4 gLong l a n c)
    ⟨decide_eq_false fun h => h10 ((rl_10 ha han).1 h), decide_eq_false hr, scanG_ok ha han hc hm hn (by omega) j3⟩
 | some j =>
  obtain ⟨j1, j2, j3, j4, j5⟩ := scanU_some hs
  have hj : j < 10 := by omega
  have hh := hitG_ok ha han hc hm hn hj j3 j4 j5
  have hr := (rl_min ha han j (by omega)).2 ⟨j4, hj⟩
  have hix : ixG a j < l.length := by rw [ixG_eq ha]; omega
  by_cases hb : (0 < j ∧ l.getD (a.toNat + j) 0 = 0)
  ·exact err 10 _ _ (by unfold getU; rw [if_neg (by omega), hs]; simp only; rw [if_pos (.inl hb)]) (gNought_all l a n c j hb.1 hj)
    ⟨by rw [gxG_eq]; exact decide_eq_true hb.2, hix, hr, hh⟩
  ·by_cases hb9 : j = 9 ∧ 1 < l.getD (a.toNat + 9) 0
   ·obtain ⟨rfl, h9⟩ := hb9
    exact err 10 _ _ (by unfold getU; rw [if_neg (by omega), hs]; simp only; rw [if_pos (.inr ⟨trivial, h9⟩)]) (cf4 gOver l a n c)
     ⟨by rw [gxG_eq]; exact decide_eq_true h9, hix, hr, by rw [gxG_eq]; exact decide_eq_false fun h => hb ⟨by omega, h⟩, hix, hr, hh⟩
   ·have e : getU l n a = (valU l a.toNat j, a + (j : Int) + 1, 0) := by
     unfold getU
     rw [if_neg (by omega), hs]; simp only
     rw [if_neg (fun h => by rcases h with h | h; exact hb h; exact hb9 h)]
    rw [e]
    have hx := extraG_ok ha han hn hj j4 hh (fun hp h => hb ⟨hp, h⟩) (fun h => by
     subst h
     refine Classical.byContradiction fun hne => hb9 ⟨rfl, by omega⟩)
    have hv : vdG l a j j = valU l a.toNat j := by
     have hp : ∀ i, i ≤ 9 → (128 : Int) ^ i * 2 ≤ 18446744073709551616 := by
      intro i hi
      have : ∀ i : Nat, i < 10 → (128 : Int) ^ i * 2 ≤ 18446744073709551616 := by decide
      exact this i (by omega)
     have hp8 : ∀ i, i ≤ 8 → (128 : Int) ^ i * 128 ≤ 18446744073709551616 := by
      intro i hi
      have : ∀ i : Nat, i < 9 → (128 : Int) ^ i * 128 ≤ 18446744073709551616 := by decide
      exact this i (by omega)
     have hg := wfB_get hw (a.toNat + j)
     by_cases h9 : j = 9
     ·have hle : l.getD (a.toNat + j) 0 ≤ 1 := by
       subst h9
       refine Classical.byContradiction fun hne => hb9 ⟨rfl, by omega⟩
      have := vdG_eq (a := a) hw hj (M := 2) (by omega) (fun i hi => by rw [Int.mul_comm]; exact hp i (by omega)) j (Nat.le_refl _)
      rw [this, Nat.sub_self, Nat.add_zero]
     ·have := vdG_eq (a := a) hw hj (M := 128) (by omega) (fun i hi => by rw [Int.mul_comm]; exact hp8 i (by omega)) j (Nat.le_refl _)
      rw [this, Nat.sub_self, Nat.add_zero]
    refine works_of (r := []) (bs := [roB l]) no_tabs (gOk_all l a n c j hj) ⟨by omega, by omega, loopG_ok ha han hn hw hj j4 hx (j + 1) (Nat.le_refl _)⟩ ndG ?_ (leG l)
    simp [tupK, tupG, leV, leL1, leV1, leC, hv]
def gGet : Sx.Loc := fun args bs => match args, bs with
 | [.v (.one (.slice 0 (.c 0) 1 (.s n) (.s _))), .v (.one (.sint .i64 a))], [⟨false, .ints k l⟩] => match decide (k = .u8) with
  | true => some (tupG (getU l n a).1 (getU l n a).2.1 (getU l n a).2.2, [roB l], [n ≤ l.length, n ≤ 1000000000, wfB l])
  | false => none
 | _, _ => none
def wantRo : List V → List Want
 | .v (.one (.slice _ _ _ _ _)) :: _ => [(false, .ints .u8)]
 | _ => []
theorem get_tab : TabOk Try.prog 28 (loc wantRo gGet) := loc_ok fun xs bs v bs' ob hg hob hokb => by
 unfold gGet at hg
 split at hg
 ·rename_i n c a k l
  split at hg
  ·rename_i hk
   cases hg
   have hk' : k = .u8 := of_decide_eq_true hk
   subst hk'
   exact get_works l n c a (hob _ (by simp)) (hob (n ≤ 1000000000) (by simp)) (hob (wfB l) (by simp))
  ·cases hg
 ·cases hg
end By
end
section
namespace By
open Go.Sx
def osl (b o n c : Nat) : V := .v (.one (.slice b (.s o) 1 (.s n) (.s c)))
def owB (l : List Int) : SB := ⟨true, .ints .u8 l⟩
def gCloneO : Sx.Loc := fun args bs => match args, bs with
 | [.v (.one (.slice 0 (.s o) 1 (.s n) (.s _)))], [⟨false, .ints k l⟩] => match decide (k = .u8) with
  | true => some (bsl 1 n n, [roB l, owB ((l.drop o).take n)], [o + n ≤ l.length, n ≤ 1000000000])
  | false => none
 | _, _ => none
def tabGB := tabs [(28, loc wantRo gGet), (30, loc wantRo gCloneO)]
noncomputable def callGB (d : Nat) := callN Try.prog tabGB (fun _ => false) 100000 d
theorem cO1 : (fun (l : List Int) (o n c : Nat) => retV [0, 2] (call0 4 30 [osl 0 o n c] [roB l] [false])) = fun (l : List Int) (o : Nat) (n : Nat) (_ : Nat) => some (V.v (V1.one (C.slice (2) (N.c (0)) (1) (N.s (n)) (N.s (n)))), ([SB.mk (false) (.ints .u8 (l)), SB.mk (true) (.ints .u8 ([] ++ List.take n (List.drop o l)))], [o + n ≤ l.length, n * 1 ≤ 140737488355328, n ≤ 9223372036854775807, 0 < n])) := by kernel_rfl
theorem cO2 : (fun (l : List Int) => retV [0] (call0 4 30 [.v (.one .nils)] [roB l] [])) = fun (l : List Int) => some (V.v (V1.one (C.nils)), ([SB.mk (false) (.ints .u8 (l))], [])) := by kernel_rfl
theorem cO3 : (fun (l : List Int) (a : Addr) (c : Nat) => retV [0, 2] (call0 4 30 [.v (.one (.raw (.slice (some a) 0 c)))] [roB l] [])) = fun (l : List Int) (_ : Go.Addr) (_ : Nat) => some (V.v (V1.one (C.slice (2) (N.c (0)) (1) (N.c (0)) (N.c (0)))), ([SB.mk (false) (.ints .u8 (l)), SB.mk (true) (.exp [])], [])) := by kernel_rfl
theorem gb0 : (fun (l : List Int) (a m : Int) (n c : Nat) => retV [0] (callGB 4 29 [bsl 0 n c, si .i64 a, si .i64 m] [roB l] [true])) = fun (l : List Int) (a : Int) (_ : Int) (n : Nat) (_ : Nat) => some (V.tup [V1.one (C.nils), V1.one (C.int .i64 (0)), V1.one (C.sint .i64 (By.getU l n a).2.2)], ([SB.mk (false) (.ints .u8 (l))], [(!decide ((By.getU l n a).2.2 = 0)) = true, n ≤ l.length, n ≤ 1000000000, By.wfB l])) := by kernel_rfl
theorem gb1 : (fun (l : List Int) (a m : Int) (n c : Nat) => retV [0] (callGB 4 29 [bsl 0 n c, si .i64 a, si .i64 m] [roB l] [false, true])) = fun (l : List Int) (a : Int) (m : Int) (n : Nat) (_ : Nat) => some (V.tup [V1.one (C.nils), V1.one (C.int .i64 (0)), V1.one (C.int .i64 (3))], ([SB.mk (false) (.ints .u8 (l))], [decide (m < 0) = true, (!decide ((By.getU l n a).2.2 = 0)) = false, n ≤ l.length, n ≤ 1000000000, By.wfB l])) := by kernel_rfl
theorem gb2 : (fun (l : List Int) (a m : Int) (n c : Nat) => retV [0] (callGB 4 29 [bsl 0 n c, si .i64 a, si .i64 m] [roB l] [false, false, true])) = fun (l : List Int) (a : Int) (m : Int) (n : Nat) (_ : Nat) => some (V.tup [V1.one (C.nils), V1.one (C.int .i64 (0)), V1.one (C.int .i64 (3))], ([SB.mk (false) (.ints .u8 (l))], [decide (IntKind.wrap .u64 m < (By.getU l n a).1) = true, decide (m < 0) = false, (!decide ((By.getU l n a).2.2 = 0)) = false, n ≤ l.length, n ≤ 1000000000, By.wfB l])) := by kernel_rfl
theorem gb3 : (fun (l : List Int) (a m : Int) (n c : Nat) => retV [0] (callGB 4 29 [bsl 0 n c, si .i64 a, si .i64 m] [roB l] [false, false, false, true])) = fun (l : List Int) (a : Int) (m : Int) (n : Nat) (_ : Nat) => some (V.tup [V1.one (C.nils), V1.one (C.int .i64 (0)), V1.one (C.int .i64 (11))], ([SB.mk (false) (.ints .u8 (l))], [decide (IntKind.wrap .u64 ((n : Int) - (By.getU l n a).2.1) < (By.getU l n a).1) = true, (-9223372036854775808) ≤ (n : Int) - (By.getU l n a).2.1 ∧ (n : Int) - (By.getU l n a).2.1 ≤ 9223372036854775807, decide (IntKind.wrap .u64 m < (By.getU l n a).1) = false, decide (m < 0) = false, (!decide ((By.getU l n a).2.2 = 0)) = false, n ≤ l.length, n ≤ 1000000000, By.wfB l])) := by kernel_rfl
theorem gb4 : (fun (l : List Int) (a m : Int) (n c : Nat) => retV [0, 1] (callGB 4 29 [bsl 0 n c, si .i64 a, si .i64 m] [roB l] [false, false, false, false])) = fun (l : List Int) (a : Int) (m : Int) (n : Nat) (c : Nat) => some (V.tup [V1.one (C.slice (1) (N.c (0)) (1) (N.s (Nat.sub (Int.toNat ((By.getU l n a).2.1 + IntKind.wrap .i64 (By.getU l n a).1)) (Int.toNat (By.getU l n a).2.1))) (N.s (Nat.sub (Int.toNat ((By.getU l n a).2.1 + IntKind.wrap .i64 (By.getU l n a).1)) (Int.toNat (By.getU l n a).2.1)))), V1.one (C.sint .i64 ((By.getU l n a).2.1 + IntKind.wrap .i64 (By.getU l n a).1)), V1.one (C.int .i64 (0))], ([SB.mk (false) (.ints .u8 (l)), SB.mk (true) (.ints .u8 (List.take (Nat.sub (Int.toNat ((By.getU l n a).2.1 + IntKind.wrap .i64 (By.getU l n a).1)) (Int.toNat (By.getU l n a).2.1)) (List.drop (Int.toNat (By.getU l n a).2.1) l)))], [Int.toNat (By.getU l n a).2.1 + Nat.sub (Int.toNat ((By.getU l n a).2.1 + IntKind.wrap .i64 (By.getU l n a).1)) (Int.toNat (By.getU l n a).2.1) ≤ l.length, Nat.sub (Int.toNat ((By.getU l n a).2.1 + IntKind.wrap .i64 (By.getU l n a).1)) (Int.toNat (By.getU l n a).2.1) ≤ 1000000000, 0 ≤ (By.getU l n a).2.1 + IntKind.wrap .i64 (By.getU l n a).1, (By.getU l n a).2.1 + IntKind.wrap .i64 (By.getU l n a).1 ≤ (c : Int), 0 ≤ (By.getU l n a).2.1, (By.getU l n a).2.1 ≤ ((Int.toNat ((By.getU l n a).2.1 + IntKind.wrap .i64 (By.getU l n a).1)) : Int), (-9223372036854775808) ≤ (By.getU l n a).2.1 + IntKind.wrap .i64 (By.getU l n a).1 ∧ (By.getU l n a).2.1 + IntKind.wrap .i64 (By.getU l n a).1 ≤ 9223372036854775807, decide (IntKind.wrap .u64 ((n : Int) - (By.getU l n a).2.1) < (By.getU l n a).1) = false, (-9223372036854775808) ≤ (n : Int) - (By.getU l n a).2.1 ∧ (n : Int) - (By.getU l n a).2.1 ≤ 9223372036854775807, decide (IntKind.wrap .u64 m < (By.getU l n a).1) = false, decide (m < 0) = false, (!decide ((By.getU l n a).2.2 = 0)) = false, n ≤ l.length, n ≤ 1000000000, By.wfB l])) := by kernel_rfl
end By
end
section
namespace By
open Go.ChangeShapes Go.WideShapes Go.ChangeAt Go.RowKit Go.Sx
structure GotU (l : List Int) (n : Nat) (a : Int) (j : Nat) : Prop where
 lt : j < 10
 a0 : 0 ≤ a
 e : getU l n a = (valU l a.toNat j, a + (j : Int) + 1, 0)
 more : ∀ t, t < j → 128 ≤ l.getD (a.toNat + t) 0
 last : l.getD (a.toNat + j) 0 < 128
 inn : a.toNat + j < n
 nn : 0 < j → l.getD (a.toNat + j) 0 ≠ 0
 top : j = 9 → l.getD (a.toNat + 9) 0 ≤ 1
theorem got_cases (l : List Int) (n : Nat) (a : Int) : (∃ j, GotU l n a j) ∨ ∃ e, getU l n a = (0, 0, e) ∧ (e = 2 ∨ e = 10 ∨ e = 11) := by
 by_cases h0 : a < 0 ∨ (n : Int) < a
 ·exact .inr ⟨2, by unfold getU; rw [if_pos h0], .inl rfl⟩
 cases hs : scanU l n a.toNat 10 0 with
 | none =>
  by_cases h : n < a.toNat + 10
  ·exact .inr ⟨11, by unfold getU; rw [if_neg h0, hs]; simp only; rw [if_pos h], .inr (.inr rfl)⟩
  ·exact .inr ⟨10, by unfold getU; rw [if_neg h0, hs]; simp only; rw [if_neg h], .inr (.inl rfl)⟩
 | some j =>
  obtain ⟨j1, j2, j3, j4, j5⟩ := scanU_some hs
  by_cases hb : (0 < j ∧ l.getD (a.toNat + j) 0 = 0) ∨ (j = 9 ∧ 1 < l.getD (a.toNat + 9) 0)
  ·exact .inr ⟨10, by unfold getU; rw [if_neg h0, hs]; simp only; rw [if_pos hb], .inr (.inl rfl)⟩
  ·refine .inl ⟨j, by omega, by omega, ?_, fun t ht => (j3 t (by omega) ht).2, j5, j4, fun hp h => hb (.inl ⟨hp, h⟩), fun h => ?_⟩
   ·unfold getU; rw [if_neg h0, hs]; simp only; rw [if_neg hb]
   ·refine Classical.byContradiction fun hne => hb (.inr ⟨h, by omega⟩)
theorem pow128 : ∀ i : Nat, i < 10 → (128 : Int) ^ i * (if i = 9 then 2 else 128) ≤ 18446744073709551616 := by decide
theorem GotU.range {l : List Int} {n : Nat} {a : Int} {j : Nat} (h : GotU l n a j) (hw : wfB l) : 0 ≤ valU l a.toNat j ∧ valU l a.toNat j ≤ 18446744073709551615 := by
 refine ⟨valU_nn hw j _, ?_⟩
 have hg := wfB_get hw (a.toNat + j)
 have hp := pow128 j h.lt
 by_cases h9 : j = 9
 ·rw [if_pos h9] at hp
  have hle : l.getD (a.toNat + j) 0 ≤ 1 := by rw [h9]; exact h.top h9
  have := valU_lt hw (M := 2) j a.toNat (by omega)
  rw [Int.mul_comm] at this
  omega
 ·rw [if_neg h9] at hp
  have := valU_lt hw (M := 128) j a.toNat (by omega)
  rw [Int.mul_comm] at this
  omega
theorem getU_range {l : List Int} (hw : wfB l) (n : Nat) (a : Int) : 0 ≤ (getU l n a).1 ∧ (getU l n a).1 ≤ 18446744073709551615 := by
 rcases got_cases l n a with ⟨j, h⟩ | ⟨e, h, _⟩
 ·rw [h.e]; exact h.range hw
 ·rw [h]; show (0 : Int) ≤ 0 ∧ (0 : Int) ≤ 18446744073709551615; decide
theorem getU_place {l : List Int} {n : Nat} {a : Int} (h0 : (getU l n a).2.2 = 0) : 0 ≤ a ∧ a < (getU l n a).2.1 ∧ (getU l n a).2.1 ≤ n := by
 rcases got_cases l n a with ⟨j, h⟩ | ⟨e, h, he⟩
 ·rw [h.e]
  have := h.inn; have := h.a0
  refine ⟨h.a0, ?_, ?_⟩
  ·show a < a + (j : Int) + 1; omega
  ·show a + (j : Int) + 1 ≤ n; omega
 ·rw [h] at h0
  simp only at h0
  omega
def unzz (v : Int) : Int := if v % 2 = 1 then -1 - v / 2 else v / 2
def getI (l : List Int) (n : Nat) (a : Int) : Int × Int × Int := (unzz (getU l n a).1, (getU l n a).2.1, (getU l n a).2.2)
def getB (l : List Int) (n : Nat) (a m : Int) : List Int × Int × Int :=
 if (getU l n a).2.2 ≠ 0 then ([], 0, (getU l n a).2.2) else if m < 0 ∨ m < (getU l n a).1 then ([], 0, 3) else if (n : Int) - (getU l n a).2.1 < (getU l n a).1 then ([], 0, 11)
 else ((l.drop (getU l n a).2.1.toNat).take (getU l n a).1.toNat, (getU l n a).2.1 + (getU l n a).1, 0)
theorem wi64 {n : Int} (h0 : -9223372036854775808 ≤ n) (h1 : n ≤ 9223372036854775807) : IntKind.wrap .i64 n = n := by
 refine wrap_in ⟨?_, ?_⟩ <;> simp [IntKind.min, IntKind.max, IntKind.signed, IntKind.bits] <;> omega
theorem ndG2 : (List.range 1 ++ [2]).Nodup := by decide
theorem ndG1 : (List.range 1 ++ [1]).Nodup := by decide
theorem cloneO_works (l : List Int) (o n c : Nat) (hn : o + n ≤ l.length) (hx : n ≤ 1000000000) : Works Try.prog 30 [osl 0 o n c] [roB l] (bsl 1 n n) [roB l, owB ((l.drop o).take n)] := by
 by_cases h0 : n = 0
 ·subst h0
  intro ρ K w us hm hu
  obtain ⟨u, s, rfl, ⟨⟨e, he, hu⟩, h1c⟩, hs⟩ := hu
  simp only [relVs] at hs; subst hs
  rcases hu with ⟨_, _, rfl⟩ | ⟨o', cap, rfl, _⟩
  ·refine (works_of (r := []) (bs := [roB l]) (args := [.v (.one .nils)]) (v := .v (.one .nils)) (bs' := [roB l]) no_tabs (congrFun cO2 l) trivial ndG trivial (leG l) ρ K w [.slice none 0 0] hm ⟨_, _, rfl, ⟨rfl, rfl⟩, rfl⟩).mono fun e w' ⟨u, ρ', he, hv, hm'⟩ => ?_
   have hg := hm'.beside (ghost_rel w' (.ints .u8 []) (fun ρ g i r h => by simp at h) rfl) rfl
   have hl := hm'.len
   refine ⟨u, ρ' ++ [⟨0, 0, 0⟩], he, ?_, ?_⟩
   ·obtain ⟨hv1, hv2⟩ := hv
    simp only [C.rel] at hv1
    refine ⟨⟨⟨0, 0, 0⟩, ?_, .inl ⟨rfl, rfl, hv1⟩⟩, hv2⟩
    rw [← List.append_assoc, List.getElem?_append_right (by rw [hl]; simp)]
    rw [hl]; rfl
   ·rw [← List.append_assoc]; exact hg
  ·refine (works_of (r := [2]) (bs := [roB l]) (v := bsl 1 0 0) (bs' := [roB l, owB []]) no_tabs (cf3 cO3 l ⟨e.blk, o', none⟩ cap) trivial ndG2 ⟨rfl, rfl, rfl, rfl, Nat.le_refl _, Nat.le_refl _⟩ ⟨⟨fun h => h, rfl, rfl⟩, ⟨fun h => h, trivial⟩, trivial⟩ ρ K w _ hm ⟨_, _, rfl, ⟨rfl, h1c⟩, rfl⟩)
 ·refine works_of (r := [2]) no_tabs (cf4 cO1 l o n c) ⟨hn, by omega, by omega, by omega, trivial⟩ ndG2 ⟨rfl, rfl, rfl, rfl, Nat.le_refl _, Nat.le_refl _⟩ ⟨⟨fun h => h, rfl, rfl⟩, ⟨fun h => h, rfl, rfl⟩, trivial⟩
theorem cloneO_tab : TabOk Try.prog 30 (loc wantRo gCloneO) := loc_ok fun xs bs v bs' ob hg hob hokb => by
 unfold gCloneO at hg
 split at hg
 ·rename_i o n c k l
  split at hg
  ·rename_i hk
   cases hg
   have hk' : k = .u8 := of_decide_eq_true hk
   subst hk'
   exact cloneO_works l o n c (hob _ (by simp)) (hob (n ≤ 1000000000) (by simp))
  ·cases hg
 ·cases hg
theorem tabGB_ok : ∀ f g, tabGB f = some g → TabOk Try.prog f g := tabs_ok fun x hx => by
 simp only [List.mem_cons, List.not_mem_nil, or_false] at hx
 rcases hx with rfl | rfl
 ·exact get_tab
 ·exact cloneO_tab
def tup3 (b n : Nat) (t e : Int) : V := .tup [.one (.slice b (.c 0) 1 (.s n) (.s n)), .one (.sint .i64 t), .one (.sint .i64 e)]
theorem ghost_tup3 {f : FuncId} {args : List V} {l : List Int} {t e : Int} (h : Works Try.prog f args [roB l] (.tup [.one .nils, .one (.sint .i64 t), .one (.sint .i64 e)]) [roB l]) : Works Try.prog f args [roB l] (tup3 1 0 t e) [roB l, owB []] := by
 intro ρ K w us hm hu
 refine (h ρ K w us hm hu).mono fun en w' ⟨u, ρ', he, hv, hm'⟩ => ?_
 have hg := hm'.beside (ghost_rel w' (.ints .u8 []) (fun ρ g i r h => by simp at h) rfl) rfl
 have hl := hm'.len
 refine ⟨u, ρ' ++ [⟨0, 0, 0⟩], he, ?_, ?_⟩
 ·obtain ⟨vs, hv1, hv2⟩ := hv
  refine ⟨vs, hv1, ?_⟩
  obtain ⟨v1, s1, rfl, ⟨h1, h1'⟩, h2⟩ := hv2
  simp only [C.rel] at h1
  refine ⟨v1, s1, rfl, ⟨⟨⟨0, 0, 0⟩, ?_, .inl ⟨rfl, rfl, h1⟩⟩, h1'⟩, ?_⟩
  ·rw [← List.append_assoc, List.getElem?_append_right (by rw [hl]; simp)]
   rw [hl]; rfl
  ·obtain ⟨v2, s2, rfl, ⟨h3, h3'⟩, v3, s3, rfl, ⟨h4, h4'⟩, h5⟩ := h2
   exact ⟨v2, _, rfl, ⟨h3, h3'⟩, v3, _, rfl, ⟨h4, h4'⟩, h5⟩
 ·rw [← List.append_assoc]; exact hg
theorem getb_works (l : List Int) (n c : Nat) (a m : Int) (hn : n ≤ l.length) (hm : n ≤ 1000000000) (hw : wfB l) (hi : i64 m) : Works Try.prog 29 [bsl 0 n c, si .i64 a, si .i64 m] [roB l] (tup3 1 (getB l n a m).1.length (getB l n a m).2.1 (getB l n a m).2.2) [roB l, owB (getB l n a m).1] := capG_works fun hc => by
 have hr := getU_range hw n a
 have hp := getU_place (l := l) (n := n) (a := a)
 have app : ∀ {A : Type} {f g : List Int → Int → Int → Nat → Nat → A}, f = g → f l a m n c = g l a m n c := fun hh => by rw [hh]
 have err : ∀ (t e : Int), getB l n a m = ([], t, e) → Works Try.prog 29 [bsl 0 n c, si .i64 a, si .i64 m] [roB l] (.tup [.one .nils, .one (.sint .i64 t), .one (.sint .i64 e)]) [roB l] → Works Try.prog 29 [bsl 0 n c, si .i64 a, si .i64 m] [roB l] (tup3 1 (getB l n a m).1.length (getB l n a m).2.1 (getB l n a m).2.2) [roB l, owB (getB l n a m).1] := by
  intro t e he h
  rw [he]
  exact ghost_tup3 h
 by_cases h0 : (getU l n a).2.2 = 0
 ·obtain ⟨p1, p2, p3⟩ := hp h0
  have q1 := app gb1
  have q2 := app gb2
  have q3 := app gb3
  have q4 := app gb4
  have hd : (!decide ((getU l n a).2.2 = 0)) = false := by rw [decide_eq_true h0]; rfl
  by_cases hm0 : m < 0
  ·refine err 0 3 (by unfold getB; rw [if_neg (fun h => h h0), if_pos (.inl hm0)]) (works_of (r := []) tabGB_ok q1 ⟨decide_eq_true hm0, hd, hn, hm, hw, trivial⟩ ndG ?_ (leG l))
   simp [leV, leL1, leV1, leC]
  ·have em : IntKind.wrap .u64 m = m := w64 (by omega) (by unfold i64 at hi; omega)
   by_cases hv : m < (getU l n a).1
   ·refine err 0 3 (by unfold getB; rw [if_neg (fun h => h h0), if_pos (.inr hv)]) (works_of (r := []) tabGB_ok q2 ⟨by rw [em]; exact decide_eq_true hv, decide_eq_false hm0, hd, hn, hm, hw, trivial⟩ ndG ?_ (leG l))
    simp [leV, leL1, leV1, leC]
   ·have en : IntKind.wrap .u64 ((n : Int) - (getU l n a).2.1) = (n : Int) - (getU l n a).2.1 := w64 (by omega) (by omega)
    by_cases hs : (n : Int) - (getU l n a).2.1 < (getU l n a).1
    ·refine err 0 11 (by unfold getB; rw [if_neg (fun h => h h0), if_neg (by omega), if_pos hs]) (works_of (r := []) tabGB_ok q3 ⟨by rw [en]; exact decide_eq_true hs, by omega, by rw [em]; exact decide_eq_false hv, decide_eq_false hm0, hd, hn, hm, hw, trivial⟩ ndG ?_ (leG l))
     simp [leV, leL1, leV1, leC]
    ·have e : getB l n a m = ((l.drop (getU l n a).2.1.toNat).take (getU l n a).1.toNat, (getU l n a).2.1 + (getU l n a).1, 0) := by
      unfold getB; rw [if_neg (fun h => h h0), if_neg (by omega), if_neg hs]
     have ew : IntKind.wrap .i64 (getU l n a).1 = (getU l n a).1 := wi64 (by omega) (by omega)
     have es : Nat.sub (Int.toNat ((getU l n a).2.1 + (getU l n a).1)) (Int.toNat (getU l n a).2.1) = (getU l n a).1.toNat := by
      show Int.toNat ((getU l n a).2.1 + (getU l n a).1) - Int.toNat (getU l n a).2.1 = _
      omega
     have el : ((l.drop (getU l n a).2.1.toNat).take (getU l n a).1.toNat).length = (getU l n a).1.toNat := by
      rw [List.length_take, List.length_drop]; omega
     rw [ew, es] at q4
     rw [e]
     refine works_of (r := [1]) tabGB_ok q4 ⟨by omega, by omega, by omega, by omega, by omega, by omega, by omega, by rw [en]; exact decide_eq_false hs, by omega, by rw [em]; exact decide_eq_false hv, decide_eq_false hm0, hd, hn, hm, hw, trivial⟩ ndG1 ?_ ⟨⟨fun h => h, rfl, rfl⟩, ⟨fun h => h, rfl, rfl⟩, trivial⟩
     simp [tup3, leV, leL1, leV1, leC, N.v, List.range, List.range.loop, el]
 ·have hd : (!decide ((getU l n a).2.2 = 0)) = true := by rw [decide_eq_false h0]; rfl
  refine err 0 (getU l n a).2.2 (by unfold getB; rw [if_pos h0]) (works_of (r := []) tabGB_ok (app gb0) ⟨hd, hn, hm, hw, trivial⟩ ndG ?_ (leG l))
  simp [leV, leL1, leV1, leC]
def gGetB : Sx.Loc := fun args bs => match args, bs with
 | [.v (.one (.slice 0 (.c 0) 1 (.s n) (.s _))), .v (.one (.sint .i64 a)), .v (.one (.sint .i64 m))], [⟨false, .ints k l⟩] => match decide (k = .u8) with
  | true => some (tup3 1 (getB l n a m).1.length (getB l n a m).2.1 (getB l n a m).2.2, [roB l, owB (getB l n a m).1], [n ≤ l.length, n ≤ 1000000000, wfB l, i64 m])
  | false => none
 | _, _ => none
theorem getb_tab : TabOk Try.prog 29 (loc wantRo gGetB) := loc_ok fun xs bs v bs' ob hg hob hokb => by
 unfold gGetB at hg
 split at hg
 ·rename_i n c a m k l
  split at hg
  ·rename_i hk
   cases hg
   have hk' : k = .u8 := of_decide_eq_true hk
   subst hk'
   exact getb_works l n c a m (hob _ (by simp)) (hob (n ≤ 1000000000) (by simp)) (hob (wfB l) (by simp)) (hob (i64 m) (by simp))
  ·cases hg
 ·cases hg
end By
end
section
namespace By
open Go.ChangeShapes Go.WideShapes Go.ChangeAt Go.RowKit Go.Sx
theorem scanU_eq {l : List Int} {n k j : Nat} (h1 : ∀ t, t < j → k + t < n ∧ 128 ≤ l.getD (k + t) 0) (h2 : k + j < n) (h3 : l.getD (k + j) 0 < 128) : ∀ (m i : Nat), i ≤ j → j < i + m → scanU l n k m i = some j
 | 0, i, h, h' => by omega
 | m + 1, i, h, h' => by
  unfold scanU
  by_cases hij : i = j
  ·subst hij
   rw [if_pos h2, if_pos h3]
  ·obtain ⟨a, b⟩ := h1 i (by omega)
   rw [if_pos a, if_neg (by omega)]
   exact scanU_eq h1 h2 h3 m (i + 1) (by omega) (by omega)
theorem drop_cons {l : List Int} {k : Nat} {x : Int} {r : List Int} (h : l.drop k = x :: r) : l.getD k 0 = x ∧ l.drop (k + 1) = r ∧ k < l.length := by
 have hk : k < l.length := by
  rcases Nat.lt_or_ge k l.length with h' | h'
  ·exact h'
  ·rw [List.drop_eq_nil_of_le h'] at h; cases h
 refine ⟨?_, ?_, hk⟩
 ·rw [List.getD_eq_getElem?_getD, ← Nat.add_zero k, ← List.getElem?_drop, h]; rfl
 ·rw [← List.drop_drop, h]; rfl
theorem drop_get {l : List Int} {k : Nat} (h : k < l.length) : l.drop k = l.getD k 0 :: l.drop (k + 1) := by
 rw [List.drop_eq_getElem_cons h, List.getD_eq_getElem?_getD, List.getElem?_eq_getElem h]; rfl
theorem vint_at : ∀ (m : Nat) {l : List Int} {k : Nat} {r : List Int}, l.drop k = vintN m ++ r → ∃ j, (vintN m).length = j + 1 ∧ (∀ t, t < j → 128 ≤ l.getD (k + t) 0) ∧ l.getD (k + j) 0 = ((m / 128 ^ j : Nat) : Int) ∧ m / 128 ^ j < 128 ∧ (0 < j → 128 ^ j ≤ m) ∧ valU l k j = m ∧ l.drop (k + j + 1) = r ∧ k + j < l.length := fun m => by
 induction m using Nat.strongRecOn with
 | _ m ih =>
  intro l k r h
  by_cases hm : m < 128
  ·rw [vintN_small hm] at h ⊢
   obtain ⟨h1, h2, h3⟩ := drop_cons h
   refine ⟨0, rfl, fun t ht => by omega, by rw [Nat.add_zero, h1]; simp, by simpa using hm, fun h => by omega, ?_, h2, h3⟩
   unfold valU; rw [h1]; omega
  ·rw [vintN_big hm] at h ⊢
   obtain ⟨h1, h2, h3⟩ := drop_cons h
   obtain ⟨j, j1, j2, j3, j4, j5, j6, j7, j8⟩ := ih (m / 128) (by omega) (l := l) (k := k + 1) (r := r) h2
   have hp : m / 128 ^ (j + 1) = m / 128 / 128 ^ j := by rw [Nat.pow_succ, Nat.mul_comm, Nat.div_div_eq_div_mul]
   refine ⟨j + 1, by rw [List.length_cons, j1], fun t ht => ?_, ?_, ?_, fun _ => ?_, ?_, ?_, ?_⟩
   ·cases t with
    | zero => rw [Nat.add_zero, h1]; omega
    | succ t => have := j2 t (by omega); rwa [show k + (t + 1) = k + 1 + t by omega]
   ·rw [show k + (j + 1) = k + 1 + j by omega, j3, hp]
   ·rw [hp]; exact j4
   ·cases j with
    | zero => simpa using (by omega : 128 ≤ m)
    | succ j =>
     have := j5 (by omega)
     rw [Nat.pow_succ]
     have h3 := Nat.mul_le_mul_right 128 this
     have h4 : m / 128 * 128 ≤ m := Nat.div_mul_le_self m 128
     omega
   ·show l.getD k 0 % 128 + 128 * valU l (k + 1) j = m
    rw [h1, j6]; omega
   ·rw [show k + (j + 1) + 1 = k + 1 + j + 1 by omega]; exact j7
   ·omega
theorem getU_put {l : List Int} {n k : Nat} {m : Int} {r : List Int} (h : l.drop k = vint m ++ r) (hm : u64 m) (hn : k + (vint m).length ≤ n) : getU l n (k : Int) = (m, ((k + (vint m).length : Nat) : Int), 0) := by
 have hle := vint_le hm
 unfold vint at h hn hle ⊢
 obtain ⟨j, j1, j2, j3, j4, j5, j6, j7, j8⟩ := vint_at m.toNat h
 have hs : scanU l n k 10 0 = some j := scanU_eq (fun t ht => ⟨by omega, j2 t ht⟩) (by omega) (by rw [j3]; omega) 10 0 (by omega) (by omega)
 have hbad : ¬ ((0 < j ∧ l.getD (k + j) 0 = 0) ∨ (j = 9 ∧ 1 < l.getD (k + 9) 0)) := by
  rintro (⟨h1, h2⟩ | ⟨h1, h2⟩)
  ·have := j5 h1
   rw [j3] at h2
   have hp : 0 < m.toNat / 128 ^ j := Nat.div_pos this (Nat.pow_pos (by decide))
   omega
  ·subst h1
   rw [j3] at h2
   have : m.toNat / 128 ^ 9 ≤ 1 := by
    have h3 : m.toNat ≤ 18446744073709551615 := by unfold u64 at hm; omega
    omega
   omega
 unfold getU
 rw [if_neg (by omega), show ((k : Nat) : Int).toNat = k by omega, hs]
 simp only
 rw [if_neg hbad, j6, j1]
 unfold u64 at hm
 refine Prod.ext ?_ (Prod.ext ?_ rfl)
 ·show ((m.toNat : Nat) : Int) = m; omega
 ·show (k : Int) + (j : Int) + 1 = ((k + (j + 1) : Nat) : Int); omega
theorem val_put {l : List Int} (hw : wfB l) : ∀ (j : Nat) {k : Nat}, k + j < l.length → (∀ t, t < j → 128 ≤ l.getD (k + t) 0) → l.getD (k + j) 0 < 128 → (0 < j → l.getD (k + j) 0 ≠ 0) → l.drop k = vintN (valU l k j).toNat ++ l.drop (k + j + 1) ∧ (0 < j → 128 ≤ valU l k j)
 | 0, k, hk, h1, h2, h3 => by
  have hb := wfB_get hw k
  rw [Nat.add_zero] at hk h2
  refine ⟨?_, fun h => by omega⟩
  unfold valU
  rw [vintN_small (by omega), drop_get hk, Nat.add_zero]
  show _ = _ :: ([] ++ _)
  rw [List.nil_append]
  congr 1; omega
 | j + 1, k, hk, h1, h2, h3 => by
  have hb := wfB_get hw k
  have hb2 := wfB_get hw (k + (j + 1))
  have h0 := h1 0 (by omega)
  rw [Nat.add_zero] at h0
  obtain ⟨i1, i2⟩ := val_put hw j (k := k + 1) (by omega) (fun t ht => by have := h1 (t + 1) (by omega); rwa [show k + 1 + t = k + (t + 1) by omega]) (by rwa [show k + 1 + j = k + (j + 1) by omega]) (fun _ => by rw [show k + 1 + j = k + (j + 1) by omega]; exact h3 (by omega))
  have hv : 1 ≤ valU l (k + 1) j := by
   cases j with
   | zero =>
    have := h3 (by omega)
    unfold valU
    rw [Nat.zero_add] at this h2 hb2
    omega
   | succ j => have := i2 (by omega); omega
  have e : valU l k (j + 1) = l.getD k 0 % 128 + 128 * valU l (k + 1) j := by conv => lhs; unfold valU
  refine ⟨?_, fun _ => by rw [e]; omega⟩
  rw [e, vintN_big (by omega), drop_get (by omega : k < l.length)]
  show _ = _ :: (_ ++ _)
  rw [show (l.getD k 0 % 128 + 128 * valU l (k + 1) j).toNat / 128 = (valU l (k + 1) j).toNat by omega, show k + (j + 1) + 1 = k + 1 + j + 1 by omega, ← i1]
  congr 1; omega
end By
end
section
namespace By
open Go.Sx
def tabBl := tabs [(25, loc ownB1 (putL .u64 vint u64))]
noncomputable def callBl (d : Nat) := callN Try.prog tabBl (fun f => Nat.beq f 25) 100000 d
theorem bl1 : (fun (l b : List Int) (c n d : Nat) => retV [0, 1, 3] (callBl 4 26 [bsl 0 l.length c, bsl 1 n d] [owB l, roB b] [true, false])) = fun (l : List Int) (b : List Int) (_ : Nat) (n : Nat) (_ : Nat) => some (V.v (V1.one (C.slice (3) (N.c (0)) (1) (N.s ((l ++ By.vint (IntKind.wrap .u64 (n : Int))).length + n)) (N.s ((l ++ By.vint (IntKind.wrap .u64 (n : Int))).length + n)))), ([SB.mk (true) (Cells.dead), SB.mk (false) (.ints .u8 (b)), SB.mk (true) (.ints .u8 (l ++ By.vint (IntKind.wrap .u64 (n : Int)) ++ List.take n (List.drop 0 b)))], [0 = 0, (l ++ By.vint (IntKind.wrap .u64 (n : Int))).length = (l ++ By.vint (IntKind.wrap .u64 (n : Int))).length, 0 + n ≤ b.length, ((l ++ By.vint (IntKind.wrap .u64 (n : Int))).length + n) * 1 ≤ 140737488355328, (l ++ By.vint (IntKind.wrap .u64 (n : Int))).length + n ≤ 9223372036854775807, By.u64 (IntKind.wrap .u64 (n : Int)), l.length = l.length, l.length + 10 ≤ 140737488355328])) := by kernel_rfl
def blobW : List V → List Want := fun _ => [(true, .ints .u8), (false, .ints .u8)]
def gBlob : Sx.Loc := fun args bs => match args, bs with
 | [.v (.one (.slice 0 (.c 0) 1 (.s a) (.s _))), .v (.one (.slice 1 (.c 0) 1 (.s m) (.s _)))], [⟨true, .ints k l⟩, ⟨false, .ints k' b⟩] => match decide (k = .u8) && decide (k' = .u8) with
  | true => some (bsl 2 (l ++ vint (m : Nat) ++ b.take m).length (l ++ vint (m : Nat) ++ b.take m).length, [⟨true, .dead⟩, roB b, owB (l ++ vint (m : Nat) ++ b.take m)], [a = l.length, m ≤ b.length, l.length + m + 20 ≤ 140737488355328])
  | false => none
 | _, _ => none
end By
end
section
namespace By
open Go.ChangeShapes Go.WideShapes Go.ChangeAt Go.RowKit Go.Sx
theorem tabBl_ok : ∀ f g, tabBl f = some g → TabOk Try.prog f g := tabs_ok fun x hx => by
 simp only [List.mem_cons, List.not_mem_nil, or_false] at hx
 rcases hx with rfl
 exact uint_tab
theorem ndBl : (List.range 2 ++ [3]).Nodup := by decide
theorem blob_works (l b : List Int) (c n d : Nat) (hb : n ≤ b.length) (hl : l.length + n + 20 ≤ 140737488355328) : Works Try.prog 26 [bsl 0 l.length c, bsl 1 n d] [owB l, roB b] (bsl 2 (l ++ vint (n : Nat) ++ b.take n).length (l ++ vint (n : Nat) ++ b.take n).length) [⟨true, .dead⟩, roB b, owB (l ++ vint (n : Nat) ++ b.take n)] := by
 have q := cf5 bl1 l b c n d
 have ew : IntKind.wrap .u64 (n : Int) = ((n : Nat) : Int) := w64 (by omega) (by omega)
 have hv := vint_le (n := ((n : Nat) : Int)) ⟨by omega, by omega⟩
 have ht : (b.take n).length = n := by rw [List.length_take]; omega
 rw [ew, List.drop_zero] at q
 refine works_of (r := [3]) tabBl_ok q ⟨rfl, rfl, by omega, ?_, ?_, ⟨by omega, by omega⟩, rfl, by omega, trivial⟩ ndBl ?_ ?_
 ·rw [List.length_append]; omega
 ·rw [List.length_append]; omega
 ·simp [bsl, leV, leV1, leC, N.v, List.range, List.range.loop, ht, Nat.add_assoc]
 ·exact ⟨⟨fun h => h, trivial⟩, ⟨fun h => h, rfl, rfl⟩, ⟨fun h => h, rfl, rfl⟩, trivial⟩
theorem blob_tab : TabOk Try.prog 26 (loc blobW gBlob) := loc_ok fun xs bs v bs' ob hg hob hokb => by
 unfold gBlob at hg
 split at hg
 ·rename_i a c m d k l k' b
  split at hg
  ·rename_i hk
   rw [Bool.and_eq_true] at hk
   cases hg
   have h1 : k = .u8 := of_decide_eq_true hk.1
   have h2 : k' = .u8 := of_decide_eq_true hk.2
   subst h1; subst h2
   have ha := hob (a = l.length) (by simp)
   subst ha
   exact blob_works l b c m d (hob (m ≤ b.length) (by simp)) (hob (l.length + m + 20 ≤ 140737488355328) (by simp))
  ·cases hg
 ·cases hg
end By
end
section
namespace By
open Go.Sx
noncomputable def bodyF (f : Go.FuncId) : Go.Code := match Try.prog.funcs[f]? with | some fn => (match fn.body with | some c => c | none => .skip) | none => .skip
noncomputable def fnF (f : Go.FuncId) : Go.Func := match Try.prog.funcs[f]? with | some fn => fn | none => default
noncomputable def LE := loopN Try.prog 32 0
noncomputable def EE : List Item := .code (.loop LE.1) :: LE.2
noncomputable def KE : List Item := .inLoop LE.1 :: LE.2
noncomputable def FE : Go.Func := match Try.prog.funcs[32]? with | some fn => fn | none => default
def TE (l k : List Int) (n c d : Nat) (i : Nat) (h : List Bool) : St := ⟨[(0, bsl 0 n c), (1, bsl 1 n d), (12, si .i64 n), (13, si .i64 i)], [roB l, roB k], h, []⟩
noncomputable def rndE (lim : Nat) (h : List Bool) (l k : List Int) (n c d : Nat) (i : Nat) := run Try.prog (call0 4) (fun _ => false) FE lim 100000 [] (.code LE.1 :: .inLoop LE.1 :: LE.2) (TE l k n c d i h)
theorem eqN : (fun (l k : List Int) (n c m d : Nat) => retV [0, 1] (call0 4 32 [bsl 0 n c, bsl 1 m d] [roB l, roB k] [true])) = fun (l : List Int) (k : List Int) (n : Nat) (_ : Nat) (m : Nat) (_ : Nat) => some (V.v (V1.one (C.bool (false))), ([SB.mk (false) (.ints .u8 (l)), SB.mk (false) (.ints .u8 (k))], [(!decide ((n : Int) = (m : Int))) = true])) := by kernel_rfl
theorem eqE : (fun (l k : List Int) (n c m d : Nat) => stopV [0, 1, 12, 13] [0, 1] (run Try.prog (call0 4) (fun _ => false) FE 0 100000 [false] [.code (bodyF 32)] ⟨argSlots 0 [bsl 0 n c, bsl 1 m d], [roB l, roB k], [false], []⟩)) = fun (l : List Int) (k : List Int) (n : Nat) (c : Nat) (m : Nat) (d : Nat) => some (EE, ([(0, V.v (V1.one (C.slice (0) (N.c (0)) (1) (N.s (n)) (N.s (c))))), (1, V.v (V1.one (C.slice (1) (N.c (0)) (1) (N.s (m)) (N.s (d))))), (12, V.v (V1.one (C.sint .i64 (n : Int)))), (13, V.v (V1.one (C.int .i64 (0))))], ([SB.mk (false) (.ints .u8 (l)), SB.mk (false) (.ints .u8 (k))], [(!decide ((n : Int) = (m : Int))) = false]))) := by kernel_rfl
theorem eqR : (fun (l k : List Int) (n c d : Nat) (i : Nat) => stopV [0, 1, 12, 13] [0, 1] (rndE (LE.2.length + 1) [true, false] l k n c d i)) = fun (l : List Int) (k : List Int) (n : Nat) (c : Nat) (d : Nat) (i : Nat) => some (KE, ([(0, V.v (V1.one (C.slice (0) (N.c (0)) (1) (N.s (n)) (N.s (c))))), (1, V.v (V1.one (C.slice (1) (N.c (0)) (1) (N.s (n)) (N.s (d))))), (12, V.v (V1.one (C.sint .i64 (n : Int)))), (13, V.v (V1.one (C.sint .i64 ((i : Int) + 1))))], ([SB.mk (false) (.ints .u8 (l)), SB.mk (false) (.ints .u8 (k))], [(-9223372036854775808) ≤ (i : Int) + 1 ∧ (i : Int) + (1 : Int) ≤ 9223372036854775807, (!decide (List.getD l (i) 0 = List.getD k (i) 0)) = false, i < k.length, 0 ≤ (i : Int), (i : Int) < (n : Int), i < l.length, 0 ≤ (i : Int), (i : Int) < (n : Int), decide ((i : Int) < (n : Int)) = true]))) := by kernel_rfl
theorem eqX0 : (fun (l k : List Int) (n c d : Nat) (i : Nat) => endV [0, 1] (rndE 0 [true, true] l k n c d i)) = fun (l : List Int) (k : List Int) (n : Nat) (_ : Nat) (_ : Nat) (i : Nat) => some (V.v (V1.one (C.bool (false))), ([SB.mk (false) (.ints .u8 (l)), SB.mk (false) (.ints .u8 (k))], [(!decide (List.getD l (i) 0 = List.getD k (i) 0)) = true, i < k.length, 0 ≤ (i : Int), (i : Int) < (n : Int), i < l.length, 0 ≤ (i : Int), (i : Int) < (n : Int), decide ((i : Int) < (n : Int)) = true])) := by kernel_rfl
theorem eqX1 : (fun (l k : List Int) (n c d : Nat) (i : Nat) => endV [0, 1] (rndE 0 [false] l k n c d i)) = fun (l : List Int) (k : List Int) (n : Nat) (_ : Nat) (_ : Nat) (i : Nat) => some (V.v (V1.one (C.bool (true))), ([SB.mk (false) (.ints .u8 (l)), SB.mk (false) (.ints .u8 (k))], [decide ((i : Int) < (n : Int)) = false])) := by kernel_rfl
end By
end
section
namespace By
open Go.ChangeShapes Go.WideShapes Go.ChangeAt Go.RowKit Go.Sx
theorem call0_ok (d : Nat) : CallOk Try.prog (call0 d) := callN_sound no_tabs d
theorem getD_take {l : List Int} {n j : Nat} (h : j < n) : (l.take n).getD j 0 = l.getD j 0 := by
 simp [List.getD_eq_getElem?_getD, List.getElem?_take, h]
theorem funE : Try.prog.funcs[32]? = some FE := by kernel_rfl
theorem bodE : FE.body = some (bodyF 32) := by kernel_rfl
theorem tmpE : 2 ≤ FE.ntmps := Nat.le_of_ble_eq_true (by kernel_rfl)
theorem nd2 : (List.range 2 ++ ([] : List Nat)).Nodup := by decide
theorem cap2_works {f : FuncId} {b n c b' n' c' : Nat} {args : List V} {bs bs' : List SB} {v : V} (h : n ≤ c → n' ≤ c' → Works Try.prog f (bsl b n c :: bsl b' n' c' :: args) bs v bs') : Works Try.prog f (bsl b n c :: bsl b' n' c' :: args) bs v bs' := capG_works fun hc => by
 intro ρ K w us hm hu
 have hd : n' ≤ c' := by
  obtain ⟨_, s, _, _, u, s', _, ⟨⟨e, _, hu⟩, _⟩, _⟩ := hu
  rcases hu with ⟨h0, _⟩ | ⟨_, _, _, h1, _⟩
  ·simp only [N.v] at h0; omega
  ·exact h1
 exact h hc hd ρ K w us hm hu
theorem take_eq_iff {l k : List Int} {n : Nat} (hl : n ≤ l.length) (hk : n ≤ k.length) : l.take n = k.take n ↔ ∀ i, i < n → l.getD i 0 = k.getD i 0 := by
 constructor
 ·intro h i hi
  rw [← getD_take (l := l) hi, ← getD_take (l := k) hi, h]
 ·intro h
  refine List.ext_getElem (by rw [List.length_take, List.length_take]; omega) fun i h1 h2 => ?_
  have hi : i < n := by rw [List.length_take] at h1; omega
  have := h i hi
  rw [List.getD_eq_getElem?_getD, List.getD_eq_getElem?_getD, List.getElem?_eq_getElem (by omega), List.getElem?_eq_getElem (by omega)] at this
  simpa using this
theorem equal_works (l k : List Int) (n c m d : Nat) (hn : n ≤ l.length) (hk : m ≤ k.length) (hx : n ≤ 1000000000) : Works Try.prog 32 [bsl 0 n c, bsl 1 m d] [roB l, roB k] (.v (.one (.sbool (decide (l.take n = k.take m))))) [roB l, roB k] := cap2_works fun hc hd => by
 by_cases hnm : n = m
 ·subst hnm
  have hiff := take_eq_iff hn hk
  refine works_loop (I := Nat) (Inv := fun i h => TE l k n c d i h) (good := fun i => i ≤ n ∧ ∀ j, j < i → l.getD j 0 = k.getD j 0) (μ := fun i => n - i) (i := 0) (r := []) (call0_ok 4) funE bodE (by exact tmpE) (fun _ _ => ⟨rfl, rfl⟩)
   (cf6 eqE l k n c n d) (by simp [allP]) ⟨nd2, ?_, ?_⟩ ⟨Nat.zero_le _, fun j h => by omega⟩ ?_
  ·simp [TE, bsl, leSlots, leV, leV1, leC, si, List.range, List.range.loop, N.v, hc, hd]
  ·simp [TE, leBs, leB, leCells, roB]
  ·intro i ⟨hi, hall⟩
   by_cases hlt : i < n
   ·have q0 := cf6 eqR l k n c d i
    have q1 := cf6 eqX0 l k n c d i
    by_cases he : l.getD i 0 = k.getD i 0
    ·refine .round [true, false] [] _ _ [0, 1, 12, 13] [] _ _ _ (i + 1) q0 ?_ ⟨nd2, ?_, ?_⟩ ⟨hlt, fun j hj => ?_⟩ (by omega)
     ·refine ⟨by omega, by simp only [he, decide_true, Bool.not_true], by omega, by omega, by omega, by omega, by omega, by omega, decide_eq_true (by omega), trivial⟩
     ·simp [TE, bsl, leSlots, leV, leV1, leC, si, List.range, List.range.loop, N.v, hc, hd]
     ·simp [TE, leBs, leB, leCells, roB]
     ·by_cases hji : j = i
      ·subst hji; exact he
      ·exact hall j (by omega)
    ·refine .stop [true, true] [] _ _ [] _ _ _ q1 ?_ nd2 ?_ ?_
     ·refine ⟨by simp only [decide_eq_false he]; rfl, by omega, by omega, by omega, by omega, by omega, by omega, decide_eq_true (by omega), trivial⟩
     ·have : ¬ l.take n = k.take n := fun h => he (hiff.1 h i hlt)
      simp [leV, leV1, leC, this]
     ·simp [leBs, leB, leCells, roB]
   ·have hin : i = n := by omega
    subst hin
    refine .stop [false] [] _ _ [] _ _ _ (cf6 eqX1 l k i c d i) ?_ nd2 ?_ ?_
    ·simp [allP]
    ·simp only [leV, leV1, leC, decide_eq_true (hiff.2 hall)]
    ·simp [leBs, leB, leCells, roB]
 ·refine works_of (r := []) no_tabs (cf6 eqN l k n c m d) ?_ nd2 ?_ ?_
  ·have : ¬ (n : Int) = m := by omega
   exact ⟨by simp only [decide_eq_false this]; rfl, trivial⟩
  ·have : ¬ l.take n = k.take m := fun h => by
    have := congrArg List.length h
    rw [List.length_take, List.length_take] at this
    omega
   simp [leV, leV1, leC, this]
  ·simp [leBs, leB, leCells, roB]
def gEq : Sx.Loc := fun args bs => match args, bs with
 | [.v (.one (.slice 0 (.c 0) 1 (.s n) (.s _))), .v (.one (.slice 1 (.c 0) 1 (.s m) (.s _)))], [⟨false, .ints k l⟩, ⟨false, .ints k' l'⟩] => match decide (k = .u8) && decide (k' = .u8) with
  | true => some (.v (.one (.sbool (decide (l.take n = l'.take m)))), [roB l, roB l'], [n ≤ l.length, m ≤ l'.length, n ≤ 1000000000])
  | false => none
 | _, _ => none
def frozen88 : List V → List Want := fun _ => [(false, .ints .u8), (false, .ints .u8)]
theorem equal_tab : TabOk Try.prog 32 (loc frozen88 gEq) := loc_ok fun xs bs v bs' ob hg hob hokb => by
 unfold gEq at hg
 split at hg
 ·rename_i n c m d k l k' l'
  split at hg
  ·rename_i hk
   rw [Bool.and_eq_true] at hk
   cases hg
   have h1 : k = .u8 := of_decide_eq_true hk.1
   have h2 : k' = .u8 := of_decide_eq_true hk.2
   subst h1; subst h2
   exact equal_works l l' n c m d (hob _ (by simp)) (hob (m ≤ l'.length) (by simp)) (hob (n ≤ 1000000000) (by simp))
  ·cases hg
 ·cases hg
end By
end
end Go.Proofs.Ytbamfolinbehiaa
