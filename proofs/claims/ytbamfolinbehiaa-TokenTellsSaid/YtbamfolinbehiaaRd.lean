/- The reference's Varint and GetUint: their runs; The reference's Varint and GetUint: the contracts; The reference's GetInt and GetBlob: their runs; The reference's GetInt and GetBlob: the contracts; The reference's Uint and Int: their runs; The reference's Uint and Int: the contracts; The reference's Blob: its run; The reference's Blob: the contract. -/
import Derived.Test.YtbamfolinbehiaaWe
section
namespace Go.Proofs.Ytbamfolinbehiaa.By
open Go.Sx
def vbR : Nat → Int → List Int
 | 0, n => [IntKind.wrap .u8 n]
 | j + 1, n => IntKind.wrap .u8 (IntKind.wrap .u64 (128 + Int.tmod n 128)) :: vbR j (Int.tdiv n 128)
def voR : Nat → Int → List Prop
 | 0, n => [decide (n < 128) = true]
 | j + 1, n => voR j (Int.tdiv n 128) ++ [0 ≤ Int.tdiv n 128 ∧ Int.tdiv n 128 ≤ 18446744073709551615, decide (n < 128) = false]
noncomputable def rv (j : Nat) (n : Int) := retV [2 * j] (call0 14 47 [si .u64 n] [] (List.replicate j false ++ [true]))
def rvr (j : Nat) (n : Int) : Option (V × List SB × List Prop) := some (lenB j (2 * j), [⟨true, .exp (sints (vbR j n))⟩], voR j n)
theorem rv0 : (fun n => rv 0 n) = fun n => rvr 0 n := by kernel_rfl
theorem rv1 : (fun n => rv 1 n) = fun n => rvr 1 n := by kernel_rfl
theorem rv2 : (fun n => rv 2 n) = fun n => rvr 2 n := by kernel_rfl
theorem rv3 : (fun n => rv 3 n) = fun n => rvr 3 n := by kernel_rfl
theorem rv4 : (fun n => rv 4 n) = fun n => rvr 4 n := by kernel_rfl
theorem rv5 : (fun n => rv 5 n) = fun n => rvr 5 n := by kernel_rfl
theorem rv6 : (fun n => rv 6 n) = fun n => rvr 6 n := by kernel_rfl
theorem rv7 : (fun n => rv 7 n) = fun n => rvr 7 n := by kernel_rfl
theorem rv8 : (fun n => rv 8 n) = fun n => rvr 8 n := by kernel_rfl
theorem rv9 : (fun n => rv 9 n) = fun n => rvr 9 n := by kernel_rfl
theorem rv_all (n : Int) : ∀ j, j < 10 → rv j n = rvr j n
 | 0, _ => congrFun rv0 n
 | 1, _ => congrFun rv1 n
 | 2, _ => congrFun rv2 n
 | 3, _ => congrFun rv3 n
 | 4, _ => congrFun rv4 n
 | 5, _ => congrFun rv5 n
 | 6, _ => congrFun rv6 n
 | 7, _ => congrFun rv7 n
 | 8, _ => congrFun rv8 n
 | 9, _ => congrFun rv9 n
 | _ + 10, h => absurd h (by omega)
def gVar : List V → List Bool → Option Made := fun args h => match ivs [.u64] args with
 | some [n] => some (bsl 0 (vint n).length (vint n).length, [⟨true, .ints .u8 (vint n)⟩], h, [u64 n])
 | _ => none
def tabV := tabs [(47, fresh gVar)]
noncomputable def callV (d : Nat) := callN Try.prog tabV (fun _ => false) 100000 d
def inI (x : Int) : Prop := -9223372036854775808 ≤ x ∧ x ≤ 9223372036854775807
def eR (a : Int) : Nat → Int
 | 0 => a
 | i + 1 => eR a i + 1
def fR (a : Int) (j : Nat) : Nat → Int
 | 0 => eR a j
 | i + 1 => fR a j i - 1
def atR (l : List Int) (x : Int) : Int := List.getD l (Int.toNat x) 0
def hR (l : List Int) (a : Int) (j : Nat) : Nat → Int
 | 0 => IntKind.wrap .u64 (0 + Int.tmod (atR l (fR a j 0)) 128)
 | m + 1 => IntKind.wrap .u64 (IntKind.wrap .u64 (hR l a j m * 128) + Int.tmod (atR l (fR a j (m + 1))) 128)
def scR (l : List Int) (n : Nat) (a : Int) : Nat → List Prop
 | 0 => [decide ((n : Int) < a) = false, decide (a < 0) = false]
 | j + 1 => [inI (eR a (j + 1)), decide (eR a j < a + 10) = true, inI (a + 10), decide (128 ≤ atR l (eR a j)) = true, Int.toNat (eR a j) < l.length, 0 ≤ eR a j, eR a j < (n : Int), decide (eR a j < (n : Int)) = true] ++ scR l n a j
def shR (l : List Int) (n : Nat) (a : Int) (j : Nat) : List Prop := [decide (eR a j = (n : Int)) = true, decide (eR a j = a + 10) = false, inI (a + 10), decide (eR a j < (n : Int)) = false] ++ scR l n a j
def lgR1 (l : List Int) (n : Nat) (a : Int) : List Prop := [decide (eR a 10 = a + 10) = true, inI (a + 10), decide (eR a 10 < (n : Int)) = false] ++ scR l n a 10
def lgR2 (l : List Int) (n : Nat) (a : Int) : List Prop := [decide (eR a 10 = a + 10) = true, inI (a + 10), decide (128 ≤ atR l (eR a 10)) = false, Int.toNat (eR a 10) < l.length, 0 ≤ eR a 10, eR a 10 < (n : Int), decide (eR a 10 < (n : Int)) = true] ++ scR l n a 10
def lgR3 (l : List Int) (n : Nat) (a : Int) : List Prop := [decide (eR a 10 = a + 10) = true, inI (a + 10), decide (eR a 10 < a + 10) = false, inI (a + 10), decide (128 ≤ atR l (eR a 10)) = true, Int.toNat (eR a 10) < l.length, 0 ≤ eR a 10, eR a 10 < (n : Int), decide (eR a 10 < (n : Int)) = true] ++ scR l n a 10
def rrR (l : List Int) (n : Nat) (a : Int) (j : Nat) : Nat → List Prop
 | 0 => [decide (eR a j = (n : Int)) = false, decide (eR a j = a + 10) = false, inI (a + 10), decide (128 ≤ atR l (eR a j)) = false, Int.toNat (eR a j) < l.length, 0 ≤ eR a j, eR a j < (n : Int), decide (eR a j < (n : Int)) = true] ++ scR l n a j
 | m + 1 => [inI (fR a j (m + 1)), 0 ≤ Int.tmod (atR l (fR a j m)) 128 ∧ Int.tmod (atR l (fR a j m)) 128 ≤ 18446744073709551615, Int.toNat (fR a j m) < l.length, 0 ≤ fR a j m, fR a j m < (n : Int), decide (a ≤ fR a j m) = true] ++ rrR l n a j m
def mapU (l : List Int) : List UInt8 := l.map fun n => UInt8.ofNat (Int.toNat n)
def nR (a : Int) (j : Nat) : Nat := Nat.sub (Int.toNat (eR a (j + 1))) (Int.toNat a)
def cmR (l : List Int) (n c : Nat) (a : Int) (j : Nat) : List Prop := [Int.toNat a + nR a j ≤ l.length, (0 : Nat) = 0, (vint (hR l a j j)).length = (vint (hR l a j j)).length, u64 (hR l a j j), 0 ≤ eR a (j + 1), eR a (j + 1) ≤ (c : Int), 0 ≤ a, a ≤ ((Int.toNat (eR a (j + 1)) : Nat) : Int), inI (eR a (j + 1)), decide (a ≤ fR a j (j + 1)) = false] ++ rrR l n a j (j + 1)
def yesG (l : List Int) (n c : Nat) (a : Int) (j : Nat) : List Prop := [inI (eR a (j + 1)), (!mapU (vint (hR l a j j)) == mapU (List.take (nR a j) (List.drop (Int.toNat a) l))) = false] ++ cmR l n c a j
def nayG (l : List Int) (n c : Nat) (a : Int) (j : Nat) : List Prop := [(!mapU (vint (hR l a j j)) == mapU (List.take (nR a j) (List.drop (Int.toNat a) l))) = true] ++ cmR l n c a j
noncomputable def gr (l : List Int) (a : Int) (n c : Nat) (h : List Bool) := retV [0] (callV 6 36 [bsl 0 n c, si .i64 a] [roB l] h)
def hitH (j : Nat) : List Bool := [false, false] ++ List.replicate (3 * j) true ++ [true, false, false, false] ++ List.replicate (j + 1) true ++ [false, true, false]
theorem grNeg : (fun l a n c => gr l a n c [true]) = fun l a _ _ => some (tupI 0 0 2, [roB l], [decide (a < 0) = true]) := by kernel_rfl
theorem grFar : (fun l a n c => gr l a n c [false, true]) = fun (l : List Int) (a : Int) (n : Nat) (_ : Nat) => some (tupI 0 0 2, [roB l], [decide ((n : Int) < a) = true, decide (a < 0) = false]) := by kernel_rfl
theorem grL1 : (fun l a n c => gr l a n c ([false, false] ++ List.replicate 30 true ++ [false, true])) = fun l a n _ => some (tupI 0 0 10, [roB l], lgR1 l n a) := by kernel_rfl
theorem grL2 : (fun l a n c => gr l a n c ([false, false] ++ List.replicate 30 true ++ [true, false, true])) = fun l a n _ => some (tupI 0 0 10, [roB l], lgR2 l n a) := by kernel_rfl
theorem grL3 : (fun l a n c => gr l a n c ([false, false] ++ List.replicate 30 true ++ [true, true, false, true])) = fun l a n _ => some (tupI 0 0 10, [roB l], lgR3 l n a) := by kernel_rfl
theorem grS0 : (fun l a n c => gr l a n c ([false, false] ++ List.replicate (3 * 0) true ++ [false, false, true])) = fun l a n _ => some (tupI 0 0 11, [roB l], shR l n a 0) := by kernel_rfl
theorem grS1 : (fun l a n c => gr l a n c ([false, false] ++ List.replicate (3 * 1) true ++ [false, false, true])) = fun l a n _ => some (tupI 0 0 11, [roB l], shR l n a 1) := by kernel_rfl
theorem grS2 : (fun l a n c => gr l a n c ([false, false] ++ List.replicate (3 * 2) true ++ [false, false, true])) = fun l a n _ => some (tupI 0 0 11, [roB l], shR l n a 2) := by kernel_rfl
theorem grS3 : (fun l a n c => gr l a n c ([false, false] ++ List.replicate (3 * 3) true ++ [false, false, true])) = fun l a n _ => some (tupI 0 0 11, [roB l], shR l n a 3) := by kernel_rfl
theorem grS4 : (fun l a n c => gr l a n c ([false, false] ++ List.replicate (3 * 4) true ++ [false, false, true])) = fun l a n _ => some (tupI 0 0 11, [roB l], shR l n a 4) := by kernel_rfl
theorem grS5 : (fun l a n c => gr l a n c ([false, false] ++ List.replicate (3 * 5) true ++ [false, false, true])) = fun l a n _ => some (tupI 0 0 11, [roB l], shR l n a 5) := by kernel_rfl
theorem grS6 : (fun l a n c => gr l a n c ([false, false] ++ List.replicate (3 * 6) true ++ [false, false, true])) = fun l a n _ => some (tupI 0 0 11, [roB l], shR l n a 6) := by kernel_rfl
theorem grS7 : (fun l a n c => gr l a n c ([false, false] ++ List.replicate (3 * 7) true ++ [false, false, true])) = fun l a n _ => some (tupI 0 0 11, [roB l], shR l n a 7) := by kernel_rfl
theorem grS8 : (fun l a n c => gr l a n c ([false, false] ++ List.replicate (3 * 8) true ++ [false, false, true])) = fun l a n _ => some (tupI 0 0 11, [roB l], shR l n a 8) := by kernel_rfl
theorem grS9 : (fun l a n c => gr l a n c ([false, false] ++ List.replicate (3 * 9) true ++ [false, false, true])) = fun l a n _ => some (tupI 0 0 11, [roB l], shR l n a 9) := by kernel_rfl
theorem grN0 : (fun l a n c => gr l a n c (hitH 0 ++ [true])) = fun l a n c => some (tupI 0 0 10, [roB l], nayG l n c a 0) := by kernel_rfl
theorem grN1 : (fun l a n c => gr l a n c (hitH 1 ++ [true])) = fun l a n c => some (tupI 0 0 10, [roB l], nayG l n c a 1) := by kernel_rfl
theorem grN2 : (fun l a n c => gr l a n c (hitH 2 ++ [true])) = fun l a n c => some (tupI 0 0 10, [roB l], nayG l n c a 2) := by kernel_rfl
theorem grN3 : (fun l a n c => gr l a n c (hitH 3 ++ [true])) = fun l a n c => some (tupI 0 0 10, [roB l], nayG l n c a 3) := by kernel_rfl
theorem grN4 : (fun l a n c => gr l a n c (hitH 4 ++ [true])) = fun l a n c => some (tupI 0 0 10, [roB l], nayG l n c a 4) := by kernel_rfl
theorem grN5 : (fun l a n c => gr l a n c (hitH 5 ++ [true])) = fun l a n c => some (tupI 0 0 10, [roB l], nayG l n c a 5) := by kernel_rfl
theorem grN6 : (fun l a n c => gr l a n c (hitH 6 ++ [true])) = fun l a n c => some (tupI 0 0 10, [roB l], nayG l n c a 6) := by kernel_rfl
theorem grN7 : (fun l a n c => gr l a n c (hitH 7 ++ [true])) = fun l a n c => some (tupI 0 0 10, [roB l], nayG l n c a 7) := by kernel_rfl
theorem grN8 : (fun l a n c => gr l a n c (hitH 8 ++ [true])) = fun l a n c => some (tupI 0 0 10, [roB l], nayG l n c a 8) := by kernel_rfl
theorem grN9 : (fun l a n c => gr l a n c (hitH 9 ++ [true])) = fun l a n c => some (tupI 0 0 10, [roB l], nayG l n c a 9) := by kernel_rfl
theorem grY0 : (fun l a n c => gr l a n c (hitH 0 ++ [false])) = fun l a n c => some (tupK (hR l a 0 0) (eR a (0 + 1)), [roB l], yesG l n c a 0) := by kernel_rfl
theorem grY1 : (fun l a n c => gr l a n c (hitH 1 ++ [false])) = fun l a n c => some (tupK (hR l a 1 1) (eR a (1 + 1)), [roB l], yesG l n c a 1) := by kernel_rfl
theorem grY2 : (fun l a n c => gr l a n c (hitH 2 ++ [false])) = fun l a n c => some (tupK (hR l a 2 2) (eR a (2 + 1)), [roB l], yesG l n c a 2) := by kernel_rfl
theorem grY3 : (fun l a n c => gr l a n c (hitH 3 ++ [false])) = fun l a n c => some (tupK (hR l a 3 3) (eR a (3 + 1)), [roB l], yesG l n c a 3) := by kernel_rfl
theorem grY4 : (fun l a n c => gr l a n c (hitH 4 ++ [false])) = fun l a n c => some (tupK (hR l a 4 4) (eR a (4 + 1)), [roB l], yesG l n c a 4) := by kernel_rfl
theorem grY5 : (fun l a n c => gr l a n c (hitH 5 ++ [false])) = fun l a n c => some (tupK (hR l a 5 5) (eR a (5 + 1)), [roB l], yesG l n c a 5) := by kernel_rfl
theorem grY6 : (fun l a n c => gr l a n c (hitH 6 ++ [false])) = fun l a n c => some (tupK (hR l a 6 6) (eR a (6 + 1)), [roB l], yesG l n c a 6) := by kernel_rfl
theorem grY7 : (fun l a n c => gr l a n c (hitH 7 ++ [false])) = fun l a n c => some (tupK (hR l a 7 7) (eR a (7 + 1)), [roB l], yesG l n c a 7) := by kernel_rfl
theorem grY8 : (fun l a n c => gr l a n c (hitH 8 ++ [false])) = fun l a n c => some (tupK (hR l a 8 8) (eR a (8 + 1)), [roB l], yesG l n c a 8) := by kernel_rfl
theorem grY9 : (fun l a n c => gr l a n c (hitH 9 ++ [false])) = fun l a n c => some (tupK (hR l a 9 9) (eR a (9 + 1)), [roB l], yesG l n c a 9) := by kernel_rfl
theorem grS_all (l : List Int) (a : Int) (n c : Nat) : ∀ j, j < 10 → gr l a n c ([false, false] ++ List.replicate (3 * j) true ++ [false, false, true]) = some (tupI 0 0 11, [roB l], shR l n a j)
 | 0, _ => cf4 grS0 l a n c
 | 1, _ => cf4 grS1 l a n c
 | 2, _ => cf4 grS2 l a n c
 | 3, _ => cf4 grS3 l a n c
 | 4, _ => cf4 grS4 l a n c
 | 5, _ => cf4 grS5 l a n c
 | 6, _ => cf4 grS6 l a n c
 | 7, _ => cf4 grS7 l a n c
 | 8, _ => cf4 grS8 l a n c
 | 9, _ => cf4 grS9 l a n c
 | _ + 10, h => absurd h (by omega)
theorem grN_all (l : List Int) (a : Int) (n c : Nat) : ∀ j, j < 10 → gr l a n c (hitH j ++ [true]) = some (tupI 0 0 10, [roB l], nayG l n c a j)
 | 0, _ => cf4 grN0 l a n c
 | 1, _ => cf4 grN1 l a n c
 | 2, _ => cf4 grN2 l a n c
 | 3, _ => cf4 grN3 l a n c
 | 4, _ => cf4 grN4 l a n c
 | 5, _ => cf4 grN5 l a n c
 | 6, _ => cf4 grN6 l a n c
 | 7, _ => cf4 grN7 l a n c
 | 8, _ => cf4 grN8 l a n c
 | 9, _ => cf4 grN9 l a n c
 | _ + 10, h => absurd h (by omega)
theorem grY_all (l : List Int) (a : Int) (n c : Nat) : ∀ j, j < 10 → gr l a n c (hitH j ++ [false]) = some (tupK (hR l a j j) (eR a (j + 1)), [roB l], yesG l n c a j)
 | 0, _ => cf4 grY0 l a n c
 | 1, _ => cf4 grY1 l a n c
 | 2, _ => cf4 grY2 l a n c
 | 3, _ => cf4 grY3 l a n c
 | 4, _ => cf4 grY4 l a n c
 | 5, _ => cf4 grY5 l a n c
 | 6, _ => cf4 grY6 l a n c
 | 7, _ => cf4 grY7 l a n c
 | 8, _ => cf4 grY8 l a n c
 | 9, _ => cf4 grY9 l a n c
 | _ + 10, h => absurd h (by omega)
end Go.Proofs.Ytbamfolinbehiaa.By
end
section
namespace Go.Proofs.Ytbamfolinbehiaa.By
open Go.ChangeShapes Go.WideShapes Go.ChangeAt Go.RowKit Go.Sx
theorem vbR_way : ∀ (j : Nat) (n : Int), 0 ≤ n → n ≤ 18446744073709551615 → n < 128 ^ (j + 1) → ∃ i, i ≤ j ∧ vbR i n = vint n ∧ allP (voR i n)
 | 0, n, h0, _, h => by
  have : n < 128 := by simpa using h
  refine ⟨0, Nat.le_refl _, ?_, decide_eq_true this, trivial⟩
  unfold vbR vint vintN
  rw [if_pos (by omega), w8 h0 (by omega)]
  congr 1; omega
 | j + 1, n, h0, h1, h => by
  by_cases hs : n < 128
  ·refine ⟨0, Nat.zero_le _, ?_, decide_eq_true hs, trivial⟩
   unfold vbR vint vintN
   rw [if_pos (by omega), w8 h0 (by omega)]
   congr 1; omega
  ·have hd : n.tdiv 128 = n / 128 := Int.tdiv_eq_ediv_of_nonneg h0
   have hm : n.tmod 128 = n % 128 := Int.tmod_eq_emod_of_nonneg h0
   have hlt : n / 128 < 128 ^ (j + 1) := by
    rw [Int.pow_succ] at h
    exact Int.ediv_lt_of_lt_mul (by omega) h
   obtain ⟨i, hi, h2, h3⟩ := vbR_way j (n / 128) (by omega) (by omega) hlt
   refine ⟨i + 1, by omega, ?_, ?_⟩
   ·unfold vbR vint vintN
    rw [if_neg (by omega), hd, h2, hm, w64 (n := 128 + n % 128) (by omega) (by omega), w8 (by omega) (by omega)]
    congr 1
    ·omega
    ·unfold vint; congr 1; omega
   ·simp only [voR]
    rw [hd]
    exact allP_app h3 ⟨⟨by omega, by omega⟩, decide_eq_false hs, trivial⟩
theorem varint_makes (n : Int) (h : u64 n) : Makes Try.prog 47 [.int .u64 n] (bsl 0 (vint n).length (vint n).length) [⟨true, .ints .u8 (vint n)⟩] := by
 obtain ⟨i, hi, h1, h2⟩ := vbR_way 9 n h.1 h.2 (by have := h.2; omega)
 have h3 : (vint n).length = i + 1 := by
  rw [← h1]
  have : ∀ (j : Nat) (n : Int), (vbR j n).length = j + 1 := by
   intro j
   induction j with
   | zero => intro n; rfl
   | succ j ih => intro n; simp [vbR, ih]
  exact this i n
 refine makes_of (v := bsl 0 (vint n).length (vint n).length) (bs := [⟨true, .ints .u8 (vint n)⟩]) no_tabs (rv_all n i (by omega)) h2 (by simp) ⟨?_, rfl, rfl, ?_, ?_, ?_⟩ ⟨⟨fun h => h, ?_⟩, trivial⟩ ⟨_, _, rfl, ⟨rfl, rfl⟩, rfl⟩
 ·simp
 ·simp [N.v, h3]
 ·simp [N.v, h3]
 ·simp [N.v, h3]
 ·show leL _ (sints (vbR i n)) ((vint n).map (C.sint .u8))
  rw [h1]; exact sints_le _ _
theorem varint_tab : TabOk Try.prog 47 (fresh gVar) := fresh_ok fun args h v bs h' ob hg hob => by
 unfold gVar at hg
 split at hg
 ·rename_i n hn
  cases hg
  refine ⟨rfl, fun ρ us hu => ?_⟩
  rw [(ivs_rel hn hu).1]
  exact varint_makes n (hob _ (by simp))
 ·cases hg
theorem tabV_ok : ∀ f g, tabV f = some g → TabOk Try.prog f g := tabs_ok fun x hx => by
 simp only [List.mem_cons, List.not_mem_nil, or_false] at hx
 subst hx
 exact varint_tab
theorem vintN_wf : ∀ n : Nat, wfB (vintN n) := fun n => by
 induction n using Nat.strongRecOn with
 | _ n ih =>
  intro x hx
  by_cases h : n < 128
  ·rw [vintN_small h] at hx
   rw [List.mem_singleton.1 hx]; omega
  ·rw [vintN_big h] at hx
   rcases List.mem_cons.1 hx with rfl | hx
   ·omega
   ·exact ih (n / 128) (by omega) x hx
theorem vint_wf (n : Int) : wfB (vint n) := vintN_wf _
theorem mapU_inj : ∀ {a b : List Int}, wfB a → wfB b → mapU a = mapU b → a = b
 | [], [], _, _, _ => rfl
 | [], _ :: _, _, _, h => by cases h
 | _ :: _, [], _, _, h => by cases h
 | x :: a, y :: b, ha, hb, h => by
  have hx := ha x (by simp)
  have hy := hb y (by simp)
  injection h with h1 h2
  have h3 := congrArg UInt8.toNat h1
  rw [UInt8.toNat_ofNat', UInt8.toNat_ofNat', Nat.mod_eq_of_lt (by omega), Nat.mod_eq_of_lt (by omega)] at h3
  rw [mapU_inj (fun z hz => ha z (by simp [hz])) (fun z hz => hb z (by simp [hz])) h2]
  congr 1; omega
theorem wfB_part {l : List Int} (h : wfB l) (o n : Nat) : wfB ((l.drop o).take n) := fun x hx => h x (List.mem_of_mem_drop (List.mem_of_mem_take hx))
theorem eR_eq (a : Int) : ∀ j, eR a j = a + j
 | 0 => by simp [eR]
 | j + 1 => by simp only [eR, eR_eq a j]; omega
theorem fR_eq (a : Int) (j : Nat) : ∀ m, fR a j m = a + j - m
 | 0 => by simp only [fR, eR_eq]; omega
 | m + 1 => by simp only [fR, fR_eq a j m]; omega
section
variable {l : List Int} {n c : Nat} {a : Int}
theorem atR_eq (ha : 0 ≤ a) (j : Nat) : atR l (a + j) = l.getD (a.toNat + j) 0 := by
 unfold atR
 rw [show (a + (j : Int)).toNat = a.toNat + j by omega]
theorem inI_of {x : Int} (h0 : -1000000000000 ≤ x) (h1 : x ≤ 1000000000000) : inI x := ⟨by omega, by omega⟩
theorem scR_ok (ha : 0 ≤ a) (hn : a ≤ n) (hm : n ≤ 1000000000) (hl : n ≤ l.length) : ∀ {j : Nat}, j ≤ 10 → (∀ t, 0 ≤ t → t < j → a.toNat + t < n ∧ 128 ≤ l.getD (a.toNat + t) 0) → allP (scR l n a j)
 | 0, _, _ => ⟨decide_eq_false (by omega), decide_eq_false (by omega), trivial⟩
 | j + 1, hj, h => by
  obtain ⟨h1, h2⟩ := h j (by omega) (by omega)
  have ih := scR_ok ha hn hm hl (j := j) (by omega) fun t t1 t2 => h t t1 (by omega)
  rw [← atR_eq ha] at h2
  simp only [scR, eR_eq]
  exact ⟨inI_of (by omega) (by omega), decide_eq_true (by omega), inI_of (by omega) (by omega), decide_eq_true h2, by omega, by omega, by omega, decide_eq_true (by omega), ih⟩
theorem rrR_ok (ha : 0 ≤ a) (hm : n ≤ 1000000000) (hl : n ≤ l.length) (hw : wfB l) {j : Nat} (hj : j < 10) (h1 : a.toNat + j < n) (h2 : l.getD (a.toNat + j) 0 < 128) (hs : allP (scR l n a j)) : ∀ m, m ≤ j + 1 → allP (rrR l n a j m)
 | 0, _ => by
  rw [← atR_eq ha] at h2
  simp only [rrR, eR_eq]
  exact ⟨decide_eq_false (by omega), decide_eq_false (by omega), inI_of (by omega) (by omega), decide_eq_false (by omega), by omega, by omega, by omega, decide_eq_true (by omega), hs⟩
 | m + 1, hm' => by
  have ih := rrR_ok ha hm hl hw hj h1 h2 hs m (by omega)
  have hg := wfB_get hw (a + (j : Int) - (m : Int)).toNat
  simp only [rrR, fR_eq]
  refine ⟨inI_of (by omega) (by omega), ?_, by omega, by omega, by omega, decide_eq_true (by omega), ih⟩
  unfold atR
  rw [Int.tmod_eq_emod_of_nonneg hg.1]
  omega
theorem hR_eq (ha : 0 ≤ a) (hw : wfB l) {j : Nat} : ∀ m, m ≤ j → hR l a j m = valU l (a.toNat + (j - m)) m % 18446744073709551616
 | 0, _ => by
  have hg := wfB_get hw (a.toNat + j)
  unfold hR valU
  rw [fR_eq, show a + (j : Int) - ((0 : Nat) : Int) = a + (j : Int) by omega, atR_eq ha, Nat.sub_zero, Int.tmod_eq_emod_of_nonneg hg.1, wrap_u64, Int.zero_add]
 | m + 1, h => by
  have ih := hR_eq ha hw (j := j) m (by omega)
  have hg := wfB_get hw (a.toNat + (j - (m + 1)))
  unfold hR
  rw [ih, fR_eq, show a + (j : Int) - ((m + 1 : Nat) : Int) = a + ((j - (m + 1) : Nat) : Int) by omega, atR_eq ha, Int.tmod_eq_emod_of_nonneg hg.1, wrap_u64, wrap_u64]
  conv => rhs; unfold valU
  rw [show a.toNat + (j - (m + 1)) + 1 = a.toNat + (j - m) by omega]
  omega
theorem nR_eq (ha : 0 ≤ a) (j : Nat) : nR a j = j + 1 := by
 unfold nR
 rw [eR_eq]
 show Int.toNat (a + ((j + 1 : Nat) : Int)) - Int.toNat a = j + 1
 omega
theorem cmR_ok (ha : 0 ≤ a) (hc : n ≤ c) (hm : n ≤ 1000000000) (hl : n ≤ l.length) (hw : wfB l) {j : Nat} (hj : j < 10) (h1 : a.toNat + j < n) (h2 : l.getD (a.toNat + j) 0 < 128) (hs : allP (scR l n a j)) : allP (cmR l n c a j) := by
 have hr := rrR_ok ha hm hl hw hj h1 h2 hs (j + 1) (Nat.le_refl _)
 have hv : u64 (hR l a j j) := by
  rw [hR_eq ha hw j (Nat.le_refl _)]
  unfold u64; omega
 unfold cmR
 rw [nR_eq ha, eR_eq, fR_eq]
 exact ⟨by omega, rfl, rfl, hv, by omega, by omega, ha, by omega, inI_of (by omega) (by omega), decide_eq_false (by omega), hr⟩
end
theorem getref_works (l : List Int) (n c : Nat) (a : Int) (hn : n ≤ l.length) (hm : n ≤ 1000000000) (hw : wfB l) : Works Try.prog 36 [bsl 0 n c, si .i64 a] [roB l] (tupG (getU l n a).1 (getU l n a).2.1 (getU l n a).2.2) [roB l] := capG_works fun hc => by
 have err : ∀ (e : Int) (h : List Bool) (ob : List Prop), getU l n a = (0, 0, e) → gr l a n c h = some (tupI 0 0 e, [roB l], ob) → allP ob → Works Try.prog 36 [bsl 0 n c, si .i64 a] [roB l] (tupG (getU l n a).1 (getU l n a).2.1 (getU l n a).2.2) [roB l] := by
  intro e h ob he hr hob
  rw [he]
  exact works_of (r := []) (bs := [roB l]) tabV_ok hr hob ndG (by simp [tupI, tupG, leV, leL1, leV1, leC]) (leG l)
 by_cases h0 : a < 0
 ·exact err 2 [true] _ (by unfold getU; rw [if_pos (.inl h0)]) (cf4 grNeg l a n c) ⟨decide_eq_true h0, trivial⟩
 by_cases h1 : (n : Int) < a
 ·exact err 2 [false, true] _ (by unfold getU; rw [if_pos (.inr h1)]) (cf4 grFar l a n c) ⟨decide_eq_true h1, decide_eq_false h0, trivial⟩
 have ha : 0 ≤ a := by omega
 have han : a ≤ n := by omega
 cases hs : scanU l n a.toNat 10 0 with
 | none =>
  obtain ⟨j, j1, j2, j3, j4⟩ := scanU_none hs
  by_cases h10 : n < a.toNat + 10
  ·have hj : j < 10 ∧ n ≤ a.toNat + j := by
    rcases Nat.lt_or_ge j 10 with h | h
    ·exact ⟨h, by omega⟩
    ·have := (j3 9 (by omega) (by omega)).1; omega
   have hjn : a.toNat + j = n := by
    rcases Nat.eq_zero_or_pos j with h | h
    ·omega
    ·have := (j3 (j - 1) (by omega) (by omega)).1; omega
   refine err 11 _ _ (by unfold getU; rw [if_neg (by omega), hs]; simp only; rw [if_pos h10]) (grS_all l a n c j hj.1) ?_
   simp only [shR, eR_eq]
   exact ⟨decide_eq_true (by omega), decide_eq_false (by omega), inI_of (by omega) (by omega), decide_eq_false (by omega), scR_ok ha han hm hn (by omega) j3⟩
  ·have hj : j = 10 := by omega
   subst hj
   have he : getU l n a = (0, 0, 10) := by unfold getU; rw [if_neg (by omega), hs]; simp only; rw [if_neg h10]
   have hsc := scR_ok ha han hm hn (by omega) j3
   by_cases k1 : a.toNat + 10 < n
   ·by_cases k2 : 128 ≤ l.getD (a.toNat + 10) 0
    ·refine err 10 _ _ he (cf4 grL3 l a n c) ?_
     rw [← atR_eq ha] at k2
     simp only [lgR3, eR_eq]
     exact ⟨decide_eq_true (by omega), inI_of (by omega) (by omega), decide_eq_false (by omega), inI_of (by omega) (by omega), decide_eq_true k2, by omega, by omega, by omega, decide_eq_true (by omega), hsc⟩
    ·refine err 10 _ _ he (cf4 grL2 l a n c) ?_
     rw [← atR_eq ha] at k2
     simp only [lgR2, eR_eq]
     exact ⟨decide_eq_true (by omega), inI_of (by omega) (by omega), decide_eq_false k2, by omega, by omega, by omega, decide_eq_true (by omega), hsc⟩
   ·refine err 10 _ _ he (cf4 grL1 l a n c) ?_
    simp only [lgR1, eR_eq]
    exact ⟨decide_eq_true (by omega), inI_of (by omega) (by omega), decide_eq_false (by omega), hsc⟩
 | some j =>
  obtain ⟨j1, j2, j3, j4, j5⟩ := scanU_some hs
  have hj : j < 10 := by omega
  have hsc := scR_ok ha han hm hn (by omega) j3
  have hcm := cmR_ok ha hc hm hn hw hj j4 j5 hsc
  have hseg : wfB ((l.drop a.toNat).take (j + 1)) := wfB_part hw _ _
  have hsl : ((l.drop a.toNat).take (j + 1)).length = j + 1 := by rw [List.length_take, List.length_drop]; omega
  have hv : u64 (hR l a j j) := by
   rw [hR_eq ha hw j (Nat.le_refl _)]
   unfold u64; omega
  have hgot : mapU (vint (hR l a j j)) = mapU ((l.drop a.toNat).take (j + 1)) → getU l n a = (hR l a j j, a + (j : Int) + 1, 0) := by
   intro h
   have h1 := mapU_inj (vint_wf _) hseg h
   have h2 : l.drop a.toNat = vint (hR l a j j) ++ (l.drop a.toNat).drop (j + 1) := by rw [h1, List.take_append_drop]
   have h3 : (vint (hR l a j j)).length = j + 1 := by rw [h1, hsl]
   have h4 := getU_put h2 hv (n := n) (by rw [h3]; omega)
   rw [show ((a.toNat : Nat) : Int) = a by omega, h3] at h4
   rw [h4]
   refine Prod.ext rfl (Prod.ext ?_ rfl)
   show ((a.toNat + (j + 1) : Nat) : Int) = a + (j : Int) + 1
   omega
  by_cases hb : (0 < j ∧ l.getD (a.toNat + j) 0 = 0) ∨ (j = 9 ∧ 1 < l.getD (a.toNat + 9) 0)
  ·have he : getU l n a = (0, 0, 10) := by unfold getU; rw [if_neg (by omega), hs]; simp only; rw [if_pos hb]
   refine err 10 _ _ he (grN_all l a n c j hj) ⟨?_, hcm⟩
   rw [nR_eq ha]
   have hne : ¬ mapU (vint (hR l a j j)) = mapU ((l.drop a.toNat).take (j + 1)) := fun h => by
    have h9 : (10 : Int) = 0 := congrArg (fun (p : Int × Int × Int) => p.2.2) (he.symm.trans (hgot h))
    omega
   rw [beq_eq_false_iff_ne.2 hne]; rfl
  ·have he : getU l n a = (valU l a.toNat j, a + (j : Int) + 1, 0) := by unfold getU; rw [if_neg (by omega), hs]; simp only; rw [if_neg hb]
   have g : GotU l n a j := ⟨hj, ha, he, fun t ht => (j3 t (by omega) ht).2, j5, j4, fun hp h => hb (.inl ⟨hp, h⟩), fun h => by
    refine Classical.byContradiction fun hne => hb (.inr ⟨h, by omega⟩)⟩
   have hr := g.range hw
   have hval : hR l a j j = valU l a.toNat j := by
    rw [hR_eq ha hw j (Nat.le_refl _), Nat.sub_self, Nat.add_zero]
    omega
   have hpt := (val_put hw j (k := a.toNat) (by omega) (fun t ht => (j3 t (by omega) ht).2) j5 (fun hp h => hb (.inl ⟨hp, h⟩))).1
   have hvs : (vint (hR l a j j)) = (l.drop a.toNat).take (j + 1) := by
    rw [hval]
    unfold vint
    have hlen : (vintN (valU l a.toNat j).toNat).length = j + 1 := by
     have h1 := congrArg List.length hpt
     rw [List.length_append, List.length_drop, List.length_drop] at h1
     omega
    rw [hpt, ← hlen, List.take_left]
   have q := grY_all l a n c j hj
   rw [he, ← hval]
   refine works_of (r := []) (bs := [roB l]) tabV_ok q ⟨?_, ?_, hcm⟩ ndG ?_ (leG l)
   ·rw [eR_eq]; exact inI_of (by omega) (by omega)
   ·rw [nR_eq ha, hvs]; simp
   ·rw [eR_eq]
    simp [tupK, tupG, leV, leL1, leV1, leC]
    omega
theorem getref_tab : TabOk Try.prog 36 (loc wantRo gGet) := loc_ok fun xs bs v bs' ob hg hob hokb => by
 unfold gGet at hg
 split at hg
 ·rename_i n c a k l
  split at hg
  ·rename_i hk
   cases hg
   have hk' : k = .u8 := of_decide_eq_true hk
   subst hk'
   exact getref_works l n c a (hob _ (by simp)) (hob (n ≤ 1000000000) (by simp)) (hob (wfB l) (by simp))
  ·cases hg
 ·cases hg
end Go.Proofs.Ytbamfolinbehiaa.By
end
section
namespace Go.Proofs.Ytbamfolinbehiaa.By
open Go.Sx
def tabW := tabs [(36, loc wantRo gGet)]
noncomputable def callW (d : Nat) := callN Try.prog tabW (fun _ => false) 100000 d
theorem rb0 : (fun (l : List Int) (a m : Int) (n c : Nat) => retV [0] (callW 4 40 [bsl 0 n c, si .i64 a, si .i64 m] [roB l] [true])) = fun l a _ n _ => some (.tup [.one .nils, .one (.int .i64 0), .one (.sint .i64 (By.getU l n a).2.2)], ([SB.mk false (.ints .u8 l)], [(!decide ((By.getU l n a).2.2 = 0)) = true, n ≤ l.length, n ≤ 1000000000, By.wfB l])) := by kernel_rfl
theorem rb1 : (fun (l : List Int) (a m : Int) (n c : Nat) => retV [0] (callW 4 40 [bsl 0 n c, si .i64 a, si .i64 m] [roB l] [false, true])) = fun l a m n _ => some (.tup [.one .nils, .one (.int .i64 0), .one (.int .i64 3)], ([SB.mk false (.ints .u8 l)], [decide (m < 0) = true, (!decide ((By.getU l n a).2.2 = 0)) = false, n ≤ l.length, n ≤ 1000000000, By.wfB l])) := by kernel_rfl
theorem rb2 : (fun (l : List Int) (a m : Int) (n c : Nat) => retV [0] (callW 4 40 [bsl 0 n c, si .i64 a, si .i64 m] [roB l] [false, false, true])) = fun l a m n _ => some (.tup [.one .nils, .one (.int .i64 0), .one (.int .i64 3)], ([SB.mk false (.ints .u8 l)], [decide (IntKind.wrap .u64 m < (By.getU l n a).1) = true, decide (m < 0) = false, (!decide ((By.getU l n a).2.2 = 0)) = false, n ≤ l.length, n ≤ 1000000000, By.wfB l])) := by kernel_rfl
theorem rb3 : (fun (l : List Int) (a m : Int) (n c : Nat) => retV [0] (callW 4 40 [bsl 0 n c, si .i64 a, si .i64 m] [roB l] [false, false, false, true])) = fun l a m (n : Nat) _ => some (.tup [.one .nils, .one (.int .i64 0), .one (.int .i64 11)], ([SB.mk false (.ints .u8 l)], [decide (IntKind.wrap .u64 (n : Int) < (By.getU l n a).1) = true, decide (IntKind.wrap .u64 m < (By.getU l n a).1) = false, decide (m < 0) = false, (!decide ((By.getU l n a).2.2 = 0)) = false, n ≤ l.length, n ≤ 1000000000, By.wfB l])) := by kernel_rfl
theorem rb4 : (fun (l : List Int) (a m : Int) (n c : Nat) => retV [0] (callW 4 40 [bsl 0 n c, si .i64 a, si .i64 m] [roB l] [false, false, false, false, true])) = fun l a m (n : Nat) _ => some (.tup [.one .nils, .one (.int .i64 0), .one (.int .i64 11)], ([SB.mk false (.ints .u8 l)], [decide ((n : Int) < (By.getU l n a).2.1 + IntKind.wrap .i64 (By.getU l n a).1) = true, (-9223372036854775808) ≤ (By.getU l n a).2.1 + IntKind.wrap .i64 (By.getU l n a).1 ∧ (By.getU l n a).2.1 + IntKind.wrap .i64 (By.getU l n a).1 ≤ 9223372036854775807, decide (IntKind.wrap .u64 (n : Int) < (By.getU l n a).1) = false, decide (IntKind.wrap .u64 m < (By.getU l n a).1) = false, decide (m < 0) = false, (!decide ((By.getU l n a).2.2 = 0)) = false, n ≤ l.length, n ≤ 1000000000, By.wfB l])) := by kernel_rfl
theorem rb5 : (fun (l : List Int) (a m : Int) (n c : Nat) => retV [0, 3] (callW 4 40 [bsl 0 n c, si .i64 a, si .i64 m] [roB l] [false, false, false, false, false, false])) = fun l a m (n : Nat) (c : Nat) => some (.tup [.one (.slice 3 (.c 0) 1 (.s (Int.toNat ((By.getU l n a).2.1 + IntKind.wrap .i64 (By.getU l n a).1) - Int.toNat (By.getU l n a).2.1)) (.s (Int.toNat ((By.getU l n a).2.1 + IntKind.wrap .i64 (By.getU l n a).1) - Int.toNat (By.getU l n a).2.1))), .one (.sint .i64 ((By.getU l n a).2.1 + IntKind.wrap .i64 (By.getU l n a).1)), .one (.int .i64 0)], ([SB.mk false (.ints .u8 l), SB.mk true (.ints .u8 ([] ++ List.take (Nat.sub (Int.toNat ((By.getU l n a).2.1 + IntKind.wrap .i64 (By.getU l n a).1)) (Int.toNat (By.getU l n a).2.1)) (List.drop (Int.toNat (By.getU l n a).2.1) l)))], [(-9223372036854775808) ≤ (By.getU l n a).2.1 + IntKind.wrap .i64 (By.getU l n a).1 ∧ (By.getU l n a).2.1 + IntKind.wrap .i64 (By.getU l n a).1 ≤ 9223372036854775807, Int.toNat (By.getU l n a).2.1 + Nat.sub (Int.toNat ((By.getU l n a).2.1 + IntKind.wrap .i64 (By.getU l n a).1)) (Int.toNat (By.getU l n a).2.1) ≤ l.length, (Int.toNat ((By.getU l n a).2.1 + IntKind.wrap .i64 (By.getU l n a).1) - Int.toNat (By.getU l n a).2.1) * 1 ≤ 140737488355328, Int.toNat ((By.getU l n a).2.1 + IntKind.wrap .i64 (By.getU l n a).1) - Int.toNat (By.getU l n a).2.1 ≤ 9223372036854775807, (0 : Int) ≤ 0 + (↑(Int.toNat ((By.getU l n a).2.1 + IntKind.wrap .i64 (By.getU l n a).1) - Int.toNat (By.getU l n a).2.1) : Int), Int.toNat (0 + (↑(Int.toNat ((By.getU l n a).2.1 + IntKind.wrap .i64 (By.getU l n a).1) - Int.toNat (By.getU l n a).2.1) : Int)) * 1 ≤ 140737488355328, Int.toNat (0 + (↑(Int.toNat ((By.getU l n a).2.1 + IntKind.wrap .i64 (By.getU l n a).1) - Int.toNat (By.getU l n a).2.1) : Int)) ≤ 9223372036854775807, (-9223372036854775808 : Int) ≤ 0 + (↑(Int.toNat ((By.getU l n a).2.1 + IntKind.wrap .i64 (By.getU l n a).1) - Int.toNat (By.getU l n a).2.1) : Int) ∧ 0 + (↑(Int.toNat ((By.getU l n a).2.1 + IntKind.wrap .i64 (By.getU l n a).1) - Int.toNat (By.getU l n a).2.1) : Int) ≤ 9223372036854775807, 0 ≤ (By.getU l n a).2.1 + IntKind.wrap .i64 (By.getU l n a).1, (By.getU l n a).2.1 + IntKind.wrap .i64 (By.getU l n a).1 ≤ (c : Int), 0 ≤ (By.getU l n a).2.1, (By.getU l n a).2.1 ≤ ((Int.toNat ((By.getU l n a).2.1 + IntKind.wrap .i64 (By.getU l n a).1)) : Int), (-9223372036854775808) ≤ (By.getU l n a).2.1 + IntKind.wrap .i64 (By.getU l n a).1 ∧ (By.getU l n a).2.1 + IntKind.wrap .i64 (By.getU l n a).1 ≤ 9223372036854775807, decide ((n : Int) < (By.getU l n a).2.1 + IntKind.wrap .i64 (By.getU l n a).1) = false, (-9223372036854775808) ≤ (By.getU l n a).2.1 + IntKind.wrap .i64 (By.getU l n a).1 ∧ (By.getU l n a).2.1 + IntKind.wrap .i64 (By.getU l n a).1 ≤ 9223372036854775807, decide (IntKind.wrap .u64 (n : Int) < (By.getU l n a).1) = false, decide (IntKind.wrap .u64 m < (By.getU l n a).1) = false, decide (m < 0) = false, (!decide ((By.getU l n a).2.2 = 0)) = false, n ≤ l.length, n ≤ 1000000000, By.wfB l])) := by kernel_rfl
end Go.Proofs.Ytbamfolinbehiaa.By
end
section
namespace Go.Proofs.Ytbamfolinbehiaa.By
open Go.ChangeShapes Go.WideShapes Go.ChangeAt Go.RowKit Go.Sx
theorem tabW_ok : ∀ f g, tabW f = some g → TabOk Try.prog f g := tabs_ok fun x hx => by
 simp only [List.mem_cons, List.not_mem_nil, or_false] at hx
 subst hx
 exact getref_tab
theorem ndG3 : (List.range 1 ++ [3]).Nodup := by decide
theorem getrefb_works (l : List Int) (n c : Nat) (a m : Int) (hn : n ≤ l.length) (hm : n ≤ 1000000000) (hw : wfB l) (hi : i64 m) : Works Try.prog 40 [bsl 0 n c, si .i64 a, si .i64 m] [roB l] (tup3 1 (getB l n a m).1.length (getB l n a m).2.1 (getB l n a m).2.2) [roB l, owB (getB l n a m).1] := capG_works fun hc => by
 have hr := getU_range hw n a
 have hp := getU_place (l := l) (n := n) (a := a)
 have app : ∀ {A : Type} {f g : List Int → Int → Int → Nat → Nat → A}, f = g → f l a m n c = g l a m n c := fun hh => by rw [hh]
 have err : ∀ (t e : Int), getB l n a m = ([], t, e) → Works Try.prog 40 [bsl 0 n c, si .i64 a, si .i64 m] [roB l] (.tup [.one .nils, .one (.sint .i64 t), .one (.sint .i64 e)]) [roB l] → Works Try.prog 40 [bsl 0 n c, si .i64 a, si .i64 m] [roB l] (tup3 1 (getB l n a m).1.length (getB l n a m).2.1 (getB l n a m).2.2) [roB l, owB (getB l n a m).1] := by
  intro t e he h
  rw [he]
  exact ghost_tup3 h
 by_cases h0 : (getU l n a).2.2 = 0
 ·obtain ⟨p1, p2, p3⟩ := hp h0
  have q1 := app rb1
  have q2 := app rb2
  have q3 := app rb3
  have q4 := app rb4
  have q5 := app rb5
  have hd : (!decide ((getU l n a).2.2 = 0)) = false := by rw [decide_eq_true h0]; rfl
  by_cases hm0 : m < 0
  ·refine err 0 3 (by unfold getB; rw [if_neg (fun h => h h0), if_pos (.inl hm0)]) (works_of (r := []) tabW_ok q1 ⟨decide_eq_true hm0, hd, hn, hm, hw, trivial⟩ ndG ?_ (leG l))
   simp [leV, leL1, leV1, leC]
  ·have em : IntKind.wrap .u64 m = m := w64 (by omega) (by unfold i64 at hi; omega)
   by_cases hv : m < (getU l n a).1
   ·refine err 0 3 (by unfold getB; rw [if_neg (fun h => h h0), if_pos (.inr hv)]) (works_of (r := []) tabW_ok q2 ⟨by rw [em]; exact decide_eq_true hv, decide_eq_false hm0, hd, hn, hm, hw, trivial⟩ ndG ?_ (leG l))
    simp [leV, leL1, leV1, leC]
   ·have en : IntKind.wrap .u64 (n : Int) = (n : Int) := w64 (by omega) (by omega)
    have ew : IntKind.wrap .i64 (getU l n a).1 = (getU l n a).1 := wi64 (by omega) (by unfold i64 at hi; omega)
    by_cases hs0 : (n : Int) < (getU l n a).1
    ·refine err 0 11 (by unfold getB; rw [if_neg (fun h => h h0), if_neg (by omega), if_pos (by omega)]) (works_of (r := []) tabW_ok q3 ⟨by rw [en]; exact decide_eq_true hs0, by rw [em]; exact decide_eq_false hv, decide_eq_false hm0, hd, hn, hm, hw, trivial⟩ ndG ?_ (leG l))
     simp [leV, leL1, leV1, leC]
    by_cases hs : (n : Int) - (getU l n a).2.1 < (getU l n a).1
    ·rw [ew] at q4
     refine err 0 11 (by unfold getB; rw [if_neg (fun h => h h0), if_neg (by omega), if_pos hs]) (works_of (r := []) tabW_ok q4 ⟨decide_eq_true (by omega), ⟨by omega, by omega⟩, by rw [en]; exact decide_eq_false hs0, by rw [em]; exact decide_eq_false hv, decide_eq_false hm0, hd, hn, hm, hw, trivial⟩ ndG ?_ (leG l))
     simp [leV, leL1, leV1, leC]
    ·have e : getB l n a m = ((l.drop (getU l n a).2.1.toNat).take (getU l n a).1.toNat, (getU l n a).2.1 + (getU l n a).1, 0) := by
      unfold getB; rw [if_neg (fun h => h h0), if_neg (by omega), if_neg hs]
     have es : Nat.sub (Int.toNat ((getU l n a).2.1 + (getU l n a).1)) (Int.toNat (getU l n a).2.1) = (getU l n a).1.toNat := by
      show Int.toNat ((getU l n a).2.1 + (getU l n a).1) - Int.toNat (getU l n a).2.1 = _
      omega
     have es2 : Int.toNat ((getU l n a).2.1 + (getU l n a).1) - Int.toNat (getU l n a).2.1 = (getU l n a).1.toNat := es
     have el : ((l.drop (getU l n a).2.1.toNat).take (getU l n a).1.toNat).length = (getU l n a).1.toNat := by
      rw [List.length_take, List.length_drop]; omega
     rw [ew, es, es2, List.nil_append] at q5
     rw [e]
     have d1 : decide (IntKind.wrap .u64 (n : Int) < (getU l n a).1) = false := by rw [en]; exact decide_eq_false hs0
     have d2 : decide (IntKind.wrap .u64 m < (getU l n a).1) = false := by rw [em]; exact decide_eq_false hv
     have d3 := decide_eq_false (p := (n : Int) < (getU l n a).2.1 + (getU l n a).1) (by omega)
     refine works_of (r := [3]) tabW_ok q5 ?_ ndG3 ?_ ⟨⟨fun h => h, rfl, rfl⟩, ⟨fun h => h, rfl, rfl⟩, trivial⟩
     ·simp only [allP]
      repeat' (first | exact trivial | exact hd | exact hw | exact d1 | exact d2 | exact d3 | exact decide_eq_false hm0 | refine And.intro ?_ ?_)
      all_goals omega
     ·simp [tup3, leV, leL1, leV1, leC, N.v, List.range, List.range.loop, el]
 ·have hd : (!decide ((getU l n a).2.2 = 0)) = true := by rw [decide_eq_false h0]; rfl
  refine err 0 (getU l n a).2.2 (by unfold getB; rw [if_pos h0]) (works_of (r := []) tabW_ok (app rb0) ⟨hd, hn, hm, hw, trivial⟩ ndG ?_ (leG l))
  simp [leV, leL1, leV1, leC]
theorem getrefb_tab : TabOk Try.prog 40 (loc wantRo gGetB) := loc_ok fun xs bs v bs' ob hg hob hokb => by
 unfold gGetB at hg
 split at hg
 ·rename_i n c a m k l
  split at hg
  ·rename_i hk
   cases hg
   have hk' : k = .u8 := of_decide_eq_true hk
   subst hk'
   exact getrefb_works l n c a m (hob _ (by simp)) (hob (n ≤ 1000000000) (by simp)) (hob (wfB l) (by simp)) (hob (i64 m) (by simp))
  ·cases hg
 ·cases hg
end Go.Proofs.Ytbamfolinbehiaa.By
end
section
namespace Go.Proofs.Ytbamfolinbehiaa.By
open Go.Sx
def putR (k : IntKind) (f : Int → List Int) (pre : Int → Prop) : Sx.Loc := fun args bs => match args, bs with
 | [.v (.one .nils), .v (.one (.sint k' x))], [] => match decide (k' = k) with
  | true => some (bsl 0 (f x).length (f x).length, [owB (f x)], [pre x])
  | false => none
 | [.v (.one (.slice 0 (.c 0) 1 (.s n) (.s _))), .v (.one (.sint k' x))], [⟨false, .ints k2 l⟩] => match decide (k' = k) && decide (k2 = .u8) with
  | true => some (bsl 1 (l ++ f x).length (l ++ f x).length, [roB l, owB (l ++ f x)], [pre x, n = l.length, l.length + 10 ≤ 140737488355328])
  | false => none
 | _, _ => none
theorem ruN : (fun (x : Int) => retV [3] (callV 4 34 [.v (.one .nils), si .u64 x] [] [true])) = fun x => some (.v (.one (.slice 3 (.c 0) 1 (.s (By.vint x).length) (.s (By.vint x).length))), ([SB.mk true (.ints .u8 ([] ++ By.vint x))], [0 = 0, (By.vint x).length = (By.vint x).length, (By.vint x).length * 1 ≤ 140737488355328, (By.vint x).length ≤ 9223372036854775807, (0 : Int) ≤ 0 + ((By.vint x).length : Int), Int.toNat (0 + ((By.vint x).length : Int)) * 1 ≤ 140737488355328, Int.toNat (0 + ((By.vint x).length : Int)) ≤ 9223372036854775807, (-9223372036854775808 : Int) ≤ 0 + ((By.vint x).length : Int) ∧ 0 + ((By.vint x).length : Int) ≤ 9223372036854775807, By.u64 x])) := by kernel_rfl
theorem ruS : (fun (l : List Int) (x : Int) (n c : Nat) => retV [0, 4] (callV 4 34 [bsl 0 n c, si .u64 x] [roB l] [true, true, true])) = fun l x (n : Nat) _ => some (.v (.one (.slice 4 (.c 0) 1 (.s (n + (By.vint x).length)) (.s (n + (By.vint x).length)))), ([SB.mk false (.ints .u8 l), SB.mk true (.ints .u8 ([] ++ l ++ By.vint x))], [0 = 0, n = ([] ++ l).length, 0 = 0, (By.vint x).length = (By.vint x).length, (n + (By.vint x).length) * 1 ≤ 140737488355328, n + (By.vint x).length ≤ 9223372036854775807, 0 = 0, n = l.length, n * 1 ≤ 140737488355328, n ≤ 9223372036854775807, 0 ≤ (n : Int) + ((By.vint x).length : Int), Int.toNat ((n : Int) + ((By.vint x).length : Int)) * 1 ≤ 140737488355328, Int.toNat ((n : Int) + ((By.vint x).length : Int)) ≤ 9223372036854775807, (-9223372036854775808) ≤ (n : Int) + ((By.vint x).length : Int) ∧ (n : Int) + ((By.vint x).length : Int) ≤ 9223372036854775807, By.u64 x])) := by kernel_rfl
def tabI2 := tabs [(34, loc wantRo (putR .u64 vint u64))]
end Go.Proofs.Ytbamfolinbehiaa.By
end
section
namespace Go.Proofs.Ytbamfolinbehiaa.By
open Go.ChangeShapes Go.WideShapes Go.ChangeAt Go.RowKit Go.Sx
theorem putR_ok {g : FuncId} {k : IntKind} {f : Int → List Int} {pre : Int → Prop}
  (h1 : ∀ n, pre n → Works Try.prog g [.v (.one .nils), si k n] [] (bsl 0 (f n).length (f n).length) [owB (f n)])
  (h2 : ∀ n (l : List Int) (c : Nat), pre n → l.length + 10 ≤ 140737488355328 → Works Try.prog g [bsl 0 l.length c, si k n] [roB l] (bsl 1 (l ++ f n).length (l ++ f n).length) [roB l, owB (l ++ f n)]) :
  TabOk Try.prog g (loc wantRo (putR k f pre)) := loc_ok fun xs bs v bs' ob hg hob hok => by
 clear hok
 unfold putR at hg
 split at hg
 ·rename_i k' n
  split at hg
  ·rename_i hk
   have hk := of_decide_eq_true hk; subst hk
   cases hg
   exact h1 n (hob _ (by simp))
  ·cases hg
 ·rename_i a c k' n k2 l
  split at hg
  ·rename_i hk
   rw [Bool.and_eq_true] at hk
   have hk1 := of_decide_eq_true hk.1; subst hk1
   have hk2 := of_decide_eq_true hk.2; subst hk2
   cases hg
   have ha : a = l.length := hob _ (by simp)
   subst ha
   exact h2 n l c (hob _ (by simp)) (hob _ (by simp))
  ·cases hg
 ·cases hg
theorem ndR4 : (List.range 1 ++ [4]).Nodup := by decide
theorem ru_nil (x : Int) (h : u64 x) : Works Try.prog 34 [.v (.one .nils), si .u64 x] [] (bsl 0 (vint x).length (vint x).length) [owB (vint x)] := by
 have hl := vint_le h
 have q := congrFun ruN x
 rw [List.nil_append] at q
 refine works_of (v := bsl 0 (vint x).length (vint x).length) (bs' := [owB (vint x)]) (bs := []) (r := [3]) tabV_ok q ?_ (by decide) ⟨rfl, rfl, rfl, rfl, Nat.le_refl _, Nat.le_refl _⟩ ⟨⟨fun h => h, rfl, rfl⟩, trivial⟩
 simp only [allP]
 repeat' (first | exact trivial | exact h | refine And.intro ?_ ?_)
 all_goals omega
theorem ru_ro (x : Int) (l : List Int) (c : Nat) (h : u64 x) (hl2 : l.length + 10 ≤ 140737488355328) : Works Try.prog 34 [bsl 0 l.length c, si .u64 x] [roB l] (bsl 1 (l ++ vint x).length (l ++ vint x).length) [roB l, owB (l ++ vint x)] := by
 have hl := vint_le h
 have q := cf4 ruS l x l.length c
 rw [List.nil_append] at q
 refine works_of (r := [4]) tabV_ok q ?_ ndR4 ?_ ⟨⟨fun h => h, rfl, rfl⟩, ⟨fun h => h, rfl, rfl⟩, trivial⟩
 ·simp only [allP]
  repeat' (first | exact trivial | exact h | refine And.intro ?_ ?_)
  all_goals omega
 ·simp [bsl, leV, leV1, leC, N.v, List.range, List.range.loop]
theorem ru_tab : TabOk Try.prog 34 (loc wantRo (putR .u64 vint u64)) := putR_ok ru_nil ru_ro
end Go.Proofs.Ytbamfolinbehiaa.By
end
section
namespace Go.Proofs.Ytbamfolinbehiaa.By
open Go.Sx
theorem rbS : (fun (o l : List Int) (n c m d : Nat) => retV [0, 1, 5] (callN Try.prog tabI2 (fun _ => false) 100000 5 39 [bsl 0 n c, bsl 1 m d] [roB o, roB l] [true, true, false])) = fun o l n _ (m : Nat) _ => some (.v (.one (.slice 5 (.c 0) 1 (.s ((o ++ By.vint (IntKind.wrap .u64 (m : Int))).length + m)) (.s ((o ++ By.vint (IntKind.wrap .u64 (m : Int))).length + m)))), ([SB.mk false (.ints .u8 o), SB.mk false (.ints .u8 l), SB.mk true (.ints .u8 ([] ++ (o ++ By.vint (IntKind.wrap .u64 (m : Int))) ++ List.take m (List.drop 0 l)))], [0 = 0, (o ++ By.vint (IntKind.wrap .u64 (m : Int))).length = ([] ++ (o ++ By.vint (IntKind.wrap .u64 (m : Int)))).length, 0 + m ≤ l.length, ((o ++ By.vint (IntKind.wrap .u64 (m : Int))).length + m) * 1 ≤ 140737488355328, (o ++ By.vint (IntKind.wrap .u64 (m : Int))).length + m ≤ 9223372036854775807, 0 = 0, (o ++ By.vint (IntKind.wrap .u64 (m : Int))).length = (o ++ By.vint (IntKind.wrap .u64 (m : Int))).length, (o ++ By.vint (IntKind.wrap .u64 (m : Int))).length * 1 ≤ 140737488355328, (o ++ By.vint (IntKind.wrap .u64 (m : Int))).length ≤ 9223372036854775807, 0 ≤ ((o ++ By.vint (IntKind.wrap .u64 (m : Int))).length : Int) + (m : Int), Int.toNat (((o ++ By.vint (IntKind.wrap .u64 (m : Int))).length : Int) + (m : Int)) * 1 ≤ 140737488355328, Int.toNat (((o ++ By.vint (IntKind.wrap .u64 (m : Int))).length : Int) + (m : Int)) ≤ 9223372036854775807, (-9223372036854775808) ≤ ((o ++ By.vint (IntKind.wrap .u64 (m : Int))).length : Int) + (m : Int) ∧ ((o ++ By.vint (IntKind.wrap .u64 (m : Int))).length : Int) + (m : Int) ≤ 9223372036854775807, By.u64 (IntKind.wrap .u64 (m : Int)), n = o.length, o.length + 10 ≤ 140737488355328])) := by kernel_rfl
end Go.Proofs.Ytbamfolinbehiaa.By
end
section
namespace Go.Proofs.Ytbamfolinbehiaa.By
open Go.ChangeShapes Go.WideShapes Go.ChangeAt Go.RowKit Go.Sx
theorem tabI2_okB : ∀ f g, tabI2 f = some g → TabOk Try.prog f g := tabs_ok fun x hx => by
 simp only [List.mem_cons, List.not_mem_nil, or_false] at hx
 rcases hx with rfl
 exact ru_tab
theorem rblob_works {o l : List Int} {c m d : Nat} (hm : m ≤ l.length) (ho : o.length ≤ 1000000000) (hl : m ≤ 1000000000) :
  Works Try.prog 39 [bsl 0 o.length c, bsl 1 m d] [roB o, roB l] (bsl 2 (o ++ vint m ++ l.take m).length (o ++ vint m ++ l.take m).length) [roB o, roB l, owB (o ++ vint m ++ l.take m)] := by
 have q := cf6 rbS o l o.length c m d
 have hu : u64 (m : Int) := by unfold u64; omega
 rw [w64 (n := (m : Int)) (by omega) (by omega)] at q
 have hv := vint_le hu
 have hX : (o ++ vint (m : Int)).length ≤ o.length + 10 := by rw [List.length_append]; omega
 have eL : (o ++ vint (m : Int) ++ l.take m).length = (o ++ vint (m : Int)).length + m := by rw [List.length_append, List.length_take]; omega
 generalize hXX : o ++ vint (m : Int) = X at *
 rw [List.drop_zero] at q
 refine works_of (r := [5]) tabI2_okB q ?_ (by decide : (List.range 2 ++ [5]).Nodup) ?_ ⟨⟨id, rfl, rfl⟩, ⟨id, rfl, rfl⟩, ⟨id, rfl, rfl⟩, trivial⟩
 ·exact ⟨rfl, rfl, by omega, by omega, by omega, rfl, rfl, by omega, by omega, by omega, by omega, by omega, ⟨by omega, by omega⟩, hu, rfl, by omega, trivial⟩
 ·rw [eL]
  exact ⟨rfl, rfl, rfl, rfl, Nat.le_refl _, Nat.le_refl _⟩
def wantB2 : List V → List Want := fun _ => [(false, .ints .u8), (false, .ints .u8)]
def gRBlob : Sx.Loc := fun args bs => match args, bs with
 | [.v (.one (.slice 0 (.c 0) 1 (.s n) (.s _))), .v (.one (.slice 1 (.c 0) 1 (.s m) (.s _)))], [⟨false, .ints k o⟩, ⟨false, .ints k2 l⟩] => match decide (k = .u8) && decide (k2 = .u8) with
  | true => some (bsl 2 (o ++ vint m ++ l.take m).length (o ++ vint m ++ l.take m).length, [roB o, roB l, owB (o ++ vint m ++ l.take m)], [n = o.length, m ≤ l.length, o.length ≤ 1000000000, m ≤ 1000000000])
  | false => none
 | _, _ => none
theorem rblob_tab : TabOk Try.prog 39 (loc wantB2 gRBlob) := loc_ok fun xs bs v bs' ob hg hob hokb => by
 unfold gRBlob at hg
 split at hg
 ·rename_i n c m d k o k2 l
  split at hg
  ·rename_i hk
   cases hg
   rw [Bool.and_eq_true] at hk
   have h1 := of_decide_eq_true hk.1; subst h1
   have h2 := of_decide_eq_true hk.2; subst h2
   have hn : n = o.length := hob _ (by simp)
   subst hn
   exact rblob_works (hob (m ≤ l.length) (by simp)) (hob (o.length ≤ 1000000000) (by simp)) (hob (m ≤ 1000000000) (by simp))
  ·cases hg
 ·cases hg
end Go.Proofs.Ytbamfolinbehiaa.By
end
