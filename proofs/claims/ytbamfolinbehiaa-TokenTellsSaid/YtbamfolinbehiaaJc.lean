/- The reference's Get: its runs; token.Get's bytes, six numbers in one way; The reference's Get: the contract. -/
import Derived.Test.YtbamfolinbehiaaJb
section
namespace Go.Proofs.Ytbamfolinbehiaa
open Go.ChangeShapes Go.WideShapes Go.ChangeAt Go.RowKit Go.Sx
def tabJg (G : GU) (B : GB) := tabs [(38, gHasR), (37, loc wantH gRight), (36, loc By.wantRo (gGetV G)), (40, loc By.wantRo (gGetBV B))]
noncomputable def callJg (G : GU) (B : GB) (d : Nat) := callN Try.prog (tabJg G B) (fun _ => false) 100000 d
noncomputable def ZL := loopN Try.prog 19 0
noncomputable def EZL : List Item := .code (.loop ZL.1) :: ZL.2
noncomputable def KZL : List Item := .inLoop ZL.1 :: ZL.2
noncomputable def rgE (G : GU) (B : GB) (l : List Int) (n c : Nat) (h : List Bool) := run Try.prog (callJg G B 4) (fun _ => false) (fnF 19) 0 100000 [false] [.code (bodyF 19)] ⟨argSlots 0 [bl0 0 n c], [roH l, oB []], h, []⟩
def sixV (v : List Int) : List C := six (v.getD 0 0) (v.getD 1 0) (v.getD 2 0) (v.getD 3 0) (v.getD 4 0) (v.getD 5 0)
def slG (n c : Nat) (a x : Nat) (q : C) (i : Nat) : Slots := [(0, bl0 0 n c), (2, .v (.one (.ptr 2 (.c 0) 1 0))), (4, sl7 a), (5, .v (.one q)), (6, sl6 x), (7, .v (.one (.int .i64 i)))]
def TGr (l : List Int) (n c : Nat) (v : List Int) (q : Int) (i : Nat) (h : List Bool) : St := ⟨slG n c 3 4 (.sint .i64 q) i, [roH l, oB [], ⟨true, .exp zerL⟩, ⟨true, .exp (hasL (l.getD 0 0))⟩, ⟨true, .exp (sixV v)⟩], h, []⟩
noncomputable def rgR (G : GU) (B : GB) (lim : Nat) (S : St) := run Try.prog (callJg G B 4) (fun _ => false) (fnF 19) lim 100000 [] (.code ZL.1 :: .inLoop ZL.1 :: ZL.2) S
def badG : V := .tup [.agg zerL, .one (.int .i64 132)]
theorem rgE0 : (fun (G : GU) (B : GB) (l : List Int) (n c : Nat) => stopV [0, 2, 4, 5, 6, 7] [0, 1, 2, 4, 5] (rgE G B l n c [false, true, true])) = fun _ _ l (n : Nat) (c : Nat) => some (EZL, slG n c 4 5 (.int .i64 1) 0,
 [roH l, oB [], ⟨true, .exp zerL⟩, ⟨true, .exp (hasL (l.getD 0 0))⟩, ⟨true, .exp [.int .i64 0, .int .i64 0, .int .i64 0, .int .i64 0, .int .i64 0, .int .i64 0]⟩], [letN (l.getD 0 0) ≠ [], 0 < l.length, (0 : Int) < (n : Int), letN (l.getD 0 0) ≠ [], 0 < l.length, (0 : Int) < (n : Int), decide ((n : Int) = 0) = false]) := by kernel_rfl
theorem rgF0 : (fun (G : GU) (B : GB) (l : List Int) (n c : Nat) => endV [0, 1] (rgE G B l n c [true])) = fun _ _ l (n : Nat) _ => some (badG, [roH l, oB []], [decide ((n : Int) = 0) = true]) := by kernel_rfl
theorem rgF1 : (fun (G : GU) (B : GB) (l : List Int) (n c : Nat) => endV [0, 1] (rgE G B l n c [false, false])) = fun _ _ l (n : Nat) _ => some (badG, [roH l, oB []], [letN (l.getD 0 0) = [], 0 < l.length, 0 < (n : Int), decide ((n : Int) = 0) = false]) := by kernel_rfl
def RgG (i : Nat) (h : List Bool) (nx : GU → List Int → Nat → List Int → Int → List Int × Int) (ob : GU → List Int → Nat → Int → List Prop) : Prop := (fun (G : GU) (B : GB) (l : List Int) (n c : Nat) (e p s nn b r q : Int) => stopV [0, 2, 4, 5, 6, 7] [0, 1, 2, 3, 4] (rgR G B (ZL.2.length + 1) (TGr l n c [e, p, s, nn, b, r] q i h))) =
 fun G _ l n c e p s nn b r q => some (KZL, (TGr l n c (nx G l n [e, p, s, nn, b, r] q).1 (nx G l n [e, p, s, nn, b, r] q).2 (i + 1) []).sl, (TGr l n c (nx G l n [e, p, s, nn, b, r] q).1 q i []).m, ob G l n q)
def RgF (i : Nat) (h : List Bool) (ob : GU → List Int → Nat → Int → List Prop) : Prop := (fun (G : GU) (B : GB) (l : List Int) (n c : Nat) (e p s nn b r q : Int) => endV [0, 1] (rgR G B 0 (TGr l n c [e, p, s, nn, b, r] q i h))) = fun G _ l n _ _ _ _ _ _ _ q => some (badG, [roH l, oB []], ob G l n q)
def mostB (G : GU) (l : List Int) (n : Nat) (q : Int) : Bool := decide (1099511627776 < (G l n q).1)
def errB (G : GU) (l : List Int) (n : Nat) (q : Int) : Bool := !decide ((G l n q).2.2 = 0)
theorem rgA : ∀ i, i < 6 → RgG i [false, false, false] (fun G l n v q => (v.set i (IntKind.wrap .i64 (G l n q).1), (G l n q).2.1)) fun G l n q => [mostB G l n q = false, errB G l n q = false, n ≤ l.length, n ≤ 1000000000, By.wfB l, nhB (l.getD 0 0) i = false]
 | 0, _ => by unfold RgG; kernel_rfl
 | 1, _ => by unfold RgG; kernel_rfl
 | 2, _ => by unfold RgG; kernel_rfl
 | 3, _ => by unfold RgG; kernel_rfl
 | 4, _ => by unfold RgG; kernel_rfl
 | 5, _ => by unfold RgG; kernel_rfl
 | _ + 6, h => by omega
theorem rgD : ∀ i, i < 6 → RgG i [true] (fun _ _ _ v q => (v, q)) fun _ l _ _ => [nhB (l.getD 0 0) i = true]
 | 0, _ => by unfold RgG; kernel_rfl
 | 1, _ => by unfold RgG; kernel_rfl
 | 2, _ => by unfold RgG; kernel_rfl
 | 3, _ => by unfold RgG; kernel_rfl
 | 4, _ => by unfold RgG; kernel_rfl
 | 5, _ => by unfold RgG; kernel_rfl
 | _ + 6, h => by omega
theorem rgB : ∀ i, i < 6 → RgF i [false, true] fun G l n q => [errB G l n q = true, n ≤ l.length, n ≤ 1000000000, By.wfB l, nhB (l.getD 0 0) i = false]
 | 0, _ => by unfold RgF; kernel_rfl
 | 1, _ => by unfold RgF; kernel_rfl
 | 2, _ => by unfold RgF; kernel_rfl
 | 3, _ => by unfold RgF; kernel_rfl
 | 4, _ => by unfold RgF; kernel_rfl
 | 5, _ => by unfold RgF; kernel_rfl
 | _ + 6, h => by omega
theorem rgC : ∀ i, i < 6 → RgF i [false, false, true] fun G l n q => [mostB G l n q = true, errB G l n q = false, n ≤ l.length, n ≤ 1000000000, By.wfB l, nhB (l.getD 0 0) i = false]
 | 0, _ => by unfold RgF; kernel_rfl
 | 1, _ => by unfold RgF; kernel_rfl
 | 2, _ => by unfold RgF; kernel_rfl
 | 3, _ => by unfold RgF; kernel_rfl
 | 4, _ => by unfold RgF; kernel_rfl
 | 5, _ => by unfold RgF; kernel_rfl
 | _ + 6, h => by omega
theorem rgX0 : (fun (G : GU) (B : GB) (l : List Int) (n c : Nat) (e p s nn b r q : Int) => endV [0, 1] (rgR G B 0 (TGr l n c [e, p, s, nn, b, r] q 6 [true]))) = fun _ _ l (n : Nat) _ _ _ _ _ _ r _ => some (badG, [roH l, oB []], [decide (255 < r) = true, 0 < l.length, 0 < (n : Int)]) := by kernel_rfl
theorem rgX1 : (fun (G : GU) (B : GB) (l : List Int) (n c : Nat) (e p s nn b r q : Int) => endV [0, 1] (rgR G B 0 (TGr l n c [e, p, s, nn, b, r] q 6 [false, true, true]))) = fun _ (B : GB) l (n : Nat) _ _ _ _ _ _ r q => some (badG, [roH l, oB []], [(!decide ((B l n q 1048576).2.2 = 0)) = true, n ≤ l.length, n ≤ 1000000000, By.wfB l, By.i64 1048576, hasC (letN (l.getD 0 0)) 120 = true, decide (255 < r) = false, 0 < l.length, 0 < (n : Int)]) := by kernel_rfl
theorem rgX2 : (fun (G : GU) (B : GB) (l : List Int) (n c : Nat) (e p s nn b r q : Int) => endV [0, 1] (rgR G B 0 (TGr l n c [e, p, s, nn, b, r] q 6 [false, true, false, true, true]))) = fun _ (B : GB) l (n : Nat) _ _ _ _ _ _ r q => some (badG, [roH l, oB []], [(!decide ((B l n q 1048576).2.1 = (n : Int))) = true, 0 = 0, (B l n q 1048576).1.length = (B l n q 1048576).1.length, (B l n q 1048576).1.length * 1 ≤ 140737488355328, (B l n q 1048576).1.length ≤ 9223372036854775807, (!decide ((B l n q 1048576).2.2 = 0)) = false, n ≤ l.length, n ≤ 1000000000, By.wfB l, By.i64 1048576, hasC (letN (l.getD 0 0)) 120 = true, decide (255 < r) = false, 0 < l.length, 0 < (n : Int)]) := by kernel_rfl
theorem rgX3 : (fun (G : GU) (B : GB) (l : List Int) (n c : Nat) (e p s nn b r q : Int) => endV [0, 1] (rgR G B 0 (TGr l n c [e, p, s, nn, b, r] q 6 [false, true, false, true, false, true]))) = fun _ (B : GB) l (n : Nat) _ e p s nn b r q => some (badG, [roH l, oB []], [(!decide (textR (l.getD 0 0) [e, p, s, nn, b] r (B l n q 1048576).1.length)) = true, (!decide ((B l n q 1048576).2.1 = (n : Int))) = false, 0 = 0, (B l n q 1048576).1.length = (B l n q 1048576).1.length, (B l n q 1048576).1.length * 1 ≤ 140737488355328, (B l n q 1048576).1.length ≤ 9223372036854775807, (!decide ((B l n q 1048576).2.2 = 0)) = false, n ≤ l.length, n ≤ 1000000000, By.wfB l, By.i64 1048576, hasC (letN (l.getD 0 0)) 120 = true, decide (255 < r) = false, 0 < l.length, 0 < (n : Int)]) := by kernel_rfl
theorem rgX4 : (fun (G : GU) (B : GB) (l : List Int) (n c : Nat) (e p s nn b r q : Int) => endV [0, 8] (rgR G B 0 (TGr l n c [e, p, s, nn, b, r] q 6 [false, true, false, true, false, false]))) = fun _ (B : GB) l (n : Nat) _ e p s nn b r q => some (.tup [.agg [.sint .u8 (l.getD 0 0), .sint .i64 e, .sint .i64 p, .sint .i64 s, .sint .i64 nn, .sint .i64 b, .sint .i64 r, .slice 8 (.c 0) 1 (.s (B l n q 1048576).1.length) (.s (B l n q 1048576).1.length)], .one (.int .i64 0)], [roH l, oB (B l n q 1048576).1], [(!decide (textR (l.getD 0 0) [e, p, s, nn, b] r (B l n q 1048576).1.length)) = false, (!decide ((B l n q 1048576).2.1 = (n : Int))) = false, 0 = 0, (B l n q 1048576).1.length = (B l n q 1048576).1.length, (B l n q 1048576).1.length * 1 ≤ 140737488355328, (B l n q 1048576).1.length ≤ 9223372036854775807, (!decide ((B l n q 1048576).2.2 = 0)) = false, n ≤ l.length, n ≤ 1000000000, By.wfB l, By.i64 1048576, hasC (letN (l.getD 0 0)) 120 = true, decide (255 < r) = false, 0 < l.length, 0 < (n : Int)]) := by kernel_rfl
theorem rgX5 : (fun (G : GU) (B : GB) (l : List Int) (n c : Nat) (e p s nn b r q : Int) => endV [0, 1] (rgR G B 0 (TGr l n c [e, p, s, nn, b, r] q 6 [false, false, true]))) = fun _ _ l (n : Nat) _ _ _ _ _ _ r q => some (badG, [roH l, oB []], [(!decide (q = (n : Int))) = true, hasC (letN (l.getD 0 0)) 120 = false, decide (255 < r) = false, 0 < l.length, 0 < (n : Int)]) := by kernel_rfl
theorem rgX6 : (fun (G : GU) (B : GB) (l : List Int) (n c : Nat) (e p s nn b r q : Int) => endV [0, 1] (rgR G B 0 (TGr l n c [e, p, s, nn, b, r] q 6 [false, false, false, true]))) = fun _ _ l (n : Nat) _ e p s nn b r q => some (badG, [roH l, oB []], [(!decide (textR (l.getD 0 0) [e, p, s, nn, b] r 0)) = true, (!decide (q = (n : Int))) = false, hasC (letN (l.getD 0 0)) 120 = false, decide (255 < r) = false, 0 < l.length, 0 < (n : Int)]) := by kernel_rfl
theorem rgX7 : (fun (G : GU) (B : GB) (l : List Int) (n c : Nat) (e p s nn b r q : Int) => endV [0, 1] (rgR G B 0 (TGr l n c [e, p, s, nn, b, r] q 6 [false, false, false, false]))) = fun _ _ l (n : Nat) _ e p s nn b r q => some (.tup [.agg [.sint .u8 (l.getD 0 0), .sint .i64 e, .sint .i64 p, .sint .i64 s, .sint .i64 nn, .sint .i64 b, .sint .i64 r, .nils], .one (.int .i64 0)], [roH l, oB []], [(!decide (textR (l.getD 0 0) [e, p, s, nn, b] r 0)) = false, (!decide (q = (n : Int))) = false, hasC (letN (l.getD 0 0)) 120 = false, decide (255 < r) = false, 0 < l.length, 0 < (n : Int)]) := by kernel_rfl
end Go.Proofs.Ytbamfolinbehiaa
end
section
namespace Go.Proofs.Ytbamfolinbehiaa
open Go.ChangeShapes Go.WideShapes Go.ChangeAt Go.RowKit Go.Sx
def st6 (l : List Int) (m : Nat) : Nat → List Int × Int × Bool
 | 0 => ([0, 0, 0, 0, 0, 0], 1, false)
 | i + 1 => if hasC (letN (l.getD 0 0)) (chF i) = true then ((st6 l m i).1.set i (rdI l m (top6 i) (st6 l m i).2.1 (st6 l m i).2.2).1, (rdI l m (top6 i) (st6 l m i).2.1 (st6 l m i).2.2).2) else st6 l m i
theorem st6_len (l : List Int) (m : Nat) : ∀ i, (st6 l m i).1.length = 6
 | 0 => rfl
 | i + 1 => by
  unfold st6
  split
  ·rw [List.length_set]; exact st6_len l m i
  ·exact st6_len l m i
theorem set6 {l : List Int} {i j : Nat} {n : Int} (h : l.length = 6) (hi : i < 6) : (l.set i n).getD j 0 = if j = i then n else l.getD j 0 := by
 by_cases hj : j = i
 ·subst hj
  rw [if_pos rfl, List.getD_eq_getElem?_getD, List.getElem?_set_self (by omega)]; rfl
 ·rw [if_neg hj, List.getD_eq_getElem?_getD, List.getElem?_set_ne (by omega), ← List.getD_eq_getElem?_getD]
theorem st6_stG (l : List Int) (m : Nat) : ∀ i, i ≤ 5 → (st6 l m i).1.take 5 = (stG l m i).1 ∧ (st6 l m i).2 = (stG l m i).2 ∧ (st6 l m i).1.getD 5 0 = 0
 | 0, _ => ⟨rfl, rfl, rfl⟩
 | i + 1, hi => by
  obtain ⟨h1, h2, h3⟩ := st6_stG l m i (by omega)
  have hc : chF i = fChr i ∧ top6 i = fMax i := by
   match i, hi with
   | 0, _ => exact ⟨rfl, rfl⟩
   | 1, _ => exact ⟨rfl, rfl⟩
   | 2, _ => exact ⟨rfl, rfl⟩
   | 3, _ => exact ⟨rfl, rfl⟩
   | 4, _ => exact ⟨rfl, rfl⟩
  unfold st6 stG
  rw [hc.1, hc.2, h2]
  split
  ·refine ⟨?_, rfl, ?_⟩
   ·show ((st6 l m i).1.set i _).take 5 = (stG l m i).1.set i _
    rw [List.take_set, h1]
   ·rw [set6 (st6_len l m i) (by omega), if_neg (by omega)]; exact h3
  ·exact ⟨h1, h2, h3⟩
def end6 (l : List Int) (m : Nat) (v : List Int) (q : Int) (w : Bool) : Got :=
 if hasC (letN (l.getD 0 0)) 120 = true then
  (if w = true ∨ (By.getB l m q 1048576).2.2 ≠ 0 ∨ (By.getB l m q 1048576).2.1 ≠ (m : Int) then gotX else ⟨l.getD 0 0, v.take 5, v.getD 5 0, (By.getB l m q 1048576).1, 0⟩)
 else if w = true ∨ q ≠ (m : Int) then gotX else ⟨l.getD 0 0, v.take 5, v.getD 5 0, [], 0⟩
theorem get_six (l : List Int) (m : Nat) : getS l m = if m = 0 ∨ letN (l.getD 0 0) = [] then gotX else end6 l m (st6 l m 6).1 (st6 l m 6).2.1 (st6 l m 6).2.2 := by
 unfold getS
 split
 ·rfl
 obtain ⟨h1, h2, h3⟩ := st6_stG l m 5 (Nat.le_refl _)
 have hL := st6_len l m 5
 have e : st6 l m 6 = if hasC (letN (l.getD 0 0)) 114 = true then ((st6 l m 5).1.set 5 (rdI l m 255 (st6 l m 5).2.1 (st6 l m 5).2.2).1, (rdI l m 255 (st6 l m 5).2.1 (st6 l m 5).2.2).2) else st6 l m 5 := rfl
 rw [e, ← h1, ← h2]
 unfold endS end6
 generalize st6 l m 5 = s at *
 cases hr : hasC (letN (l.getD 0 0)) 114 with
 | true =>
  have hx := let_apart _ hr
  simp only [if_true, hx, Bool.false_eq_true, if_false]
  rw [set6 hL (by decide), if_pos rfl, List.take_set_of_le (Nat.le_refl _)]
 | false =>
  simp only [Bool.false_eq_true, if_false]
  rw [h3]
structure Six (l : List Int) (m i : Nat) (v : List Int) (q : Int) : Prop where
 len : v.length = 6
 good : (st6 l m i).2.2 = false → (st6 l m i).2.1 = q ∧ (st6 l m i).1 = v
 bad : (st6 l m i).2.2 = true → ∃ j, j < i ∧ top6 j < v.getD j 0
theorem Six.zero (l : List Int) (m : Nat) : Six l m 0 [0, 0, 0, 0, 0, 0] 1 := ⟨rfl, fun _ => ⟨rfl, rfl⟩, fun h => by cases h⟩
theorem Six.no {l : List Int} {m i : Nat} {v : List Int} {q : Int} (s : Six l m i v q) (h : hasC (letN (l.getD 0 0)) (chF i) = false) : Six l m (i + 1) v q := by
 have e : st6 l m (i + 1) = st6 l m i := by rw [st6, if_neg (by rw [h]; decide)]
 refine ⟨s.len, by rw [e]; exact s.good, fun hb => ?_⟩
 rw [e] at hb
 obtain ⟨j, h1, h2⟩ := s.bad hb
 exact ⟨j, by omega, h2⟩
theorem Six.yes {l : List Int} {m i : Nat} {v : List Int} {q : Int} (s : Six l m i v q) (hi : i < 6) (h : hasC (letN (l.getD 0 0)) (chF i) = true) (he : (By.getU l m q).2.2 = 0) : Six l m (i + 1) (v.set i (By.getU l m q).1) (By.getU l m q).2.1 := by
 have e : st6 l m (i + 1) = ((st6 l m i).1.set i (rdI l m (top6 i) (st6 l m i).2.1 (st6 l m i).2.2).1, (rdI l m (top6 i) (st6 l m i).2.1 (st6 l m i).2.2).2) := by rw [st6, if_pos h]
 refine ⟨by rw [List.length_set]; exact s.len, fun hb => ?_, fun hb => ?_⟩
 ·rw [e] at hb ⊢
  dsimp only at hb ⊢
  cases hw : (st6 l m i).2.2 with
  | true => rw [hw] at hb; unfold rdI at hb; rw [if_pos (.inl rfl)] at hb; cases hb
  | false =>
   obtain ⟨g1, g2⟩ := s.good hw
   rw [hw, g1] at hb
   rw [g1, g2]
   unfold rdI at hb ⊢
   split at hb
   ·cases hb
   ·rename_i hn
    rw [if_neg hn]; exact ⟨rfl, rfl⟩
 ·rw [e] at hb
  dsimp only at hb
  cases hw : (st6 l m i).2.2 with
  | true =>
   obtain ⟨j, h1, h2⟩ := s.bad hw
   exact ⟨j, by omega, by rw [set6 s.len hi, if_neg (by omega)]; exact h2⟩
  | false =>
   obtain ⟨g1, g2⟩ := s.good hw
   rw [hw, g1] at hb
   unfold rdI at hb
   split at hb
   ·rename_i hn
    rcases hn with hn | hn | hn
    ·cases hn
    ·exact absurd he hn
    ·exact ⟨i, by omega, by rw [set6 s.len hi, if_pos rfl]; exact hn⟩
   ·cases hb
theorem st6_sticky {l : List Int} {m i : Nat} (h : (st6 l m i).2.2 = true) : ∀ d, (st6 l m (i + d)).2.2 = true
 | 0 => h
 | d + 1 => by
  have ih := st6_sticky h d
  show (st6 l m (i + d + 1)).2.2 = true
  unfold st6
  split
  ·dsimp only
   rw [ih]; unfold rdI; rw [if_pos (.inl rfl)]
  ·exact ih
theorem Six.stop {l : List Int} {m i : Nat} {v : List Int} {q : Int} (s : Six l m i v q) (hi : i < 6) (h : hasC (letN (l.getD 0 0)) (chF i) = true) (he : (By.getU l m q).2.2 ≠ 0 ∨ 1099511627776 < (By.getU l m q).1) : (st6 l m 6).2.2 = true := by
 have e : (st6 l m (i + 1)).2.2 = true := by
  rw [st6, if_pos h]
  dsimp only
  cases hw : (st6 l m i).2.2 with
  | true => unfold rdI; rw [if_pos (.inl rfl)]
  | false =>
   have ht := top6_le hi
   rw [(s.good hw).1]
   unfold rdI
   rw [if_pos]
   rcases he with he | he
   ·exact .inr (.inl he)
   ·exact .inr (.inr (by omega))
 have := st6_sticky e (6 - (i + 1))
 rw [show i + 1 + (6 - (i + 1)) = 6 by omega] at this
 exact this
theorem st6_ok {l : List Int} (hl : u8L l) {m : Nat} : ∀ i, i ≤ 6 → (st6 l m i).2.2 = false → ∀ j, j < 6 → (0 ≤ (st6 l m i).1.getD j 0 ∧ (st6 l m i).1.getD j 0 ≤ top6 j) ∧ ((st6 l m i).1.getD j 0 ≠ 0 → hasC (letN (l.getD 0 0)) (chF j) = true)
 | 0, _, _, j, hj => by
  match j, hj with
  | 0, _ => exact ⟨⟨Int.le_refl 0, (by decide : (0 : Int) ≤ top6 0)⟩, fun h => absurd rfl h⟩
  | 1, _ => exact ⟨⟨Int.le_refl 0, (by decide : (0 : Int) ≤ top6 1)⟩, fun h => absurd rfl h⟩
  | 2, _ => exact ⟨⟨Int.le_refl 0, (by decide : (0 : Int) ≤ top6 2)⟩, fun h => absurd rfl h⟩
  | 3, _ => exact ⟨⟨Int.le_refl 0, (by decide : (0 : Int) ≤ top6 3)⟩, fun h => absurd rfl h⟩
  | 4, _ => exact ⟨⟨Int.le_refl 0, (by decide : (0 : Int) ≤ top6 4)⟩, fun h => absurd rfl h⟩
  | 5, _ => exact ⟨⟨Int.le_refl 0, (by decide : (0 : Int) ≤ top6 5)⟩, fun h => absurd rfl h⟩
 | i + 1, hi, hb, j, hj => by
  cases h : hasC (letN (l.getD 0 0)) (chF i) with
  | false =>
   have e : st6 l m (i + 1) = st6 l m i := by rw [st6, if_neg (by rw [h]; decide)]
   rw [e] at hb ⊢
   exact st6_ok hl i (by omega) hb j hj
  | true =>
   have e : st6 l m (i + 1) = ((st6 l m i).1.set i (rdI l m (top6 i) (st6 l m i).2.1 (st6 l m i).2.2).1, (rdI l m (top6 i) (st6 l m i).2.1 (st6 l m i).2.2).2) := by rw [st6, if_pos h]
   rw [e] at hb ⊢
   dsimp only at hb ⊢
   have hw : (st6 l m i).2.2 = false := by
    cases hw : (st6 l m i).2.2 with
    | false => rfl
    | true => rw [hw] at hb; unfold rdI at hb; rw [if_pos (.inl rfl)] at hb; cases hb
   rw [set6 (st6_len l m i) (by omega)]
   by_cases hji : j = i
   ·subst hji
    rw [if_pos rfl, hw]
    rw [hw] at hb
    have hr := By.getU_range hl m (st6 l m j).2.1
    unfold rdI at hb ⊢
    split at hb
    ·cases hb
    ·rename_i hn
     rw [if_neg hn]
     exact ⟨⟨hr.1, Int.not_lt.1 fun hh => hn (.inr (.inr hh))⟩, fun _ => h⟩
   ·rw [if_neg hji]
    exact st6_ok hl i (by omega) hw j hj
theorem six_list {v : List Int} (h : v.length = 6) : v = [v.getD 0 0, v.getD 1 0, v.getD 2 0, v.getD 3 0, v.getD 4 0, v.getD 5 0] := by
 match v, h with
 | [_, _, _, _, _, _], _ => rfl
theorem six_text {l : List Int} (hl : u8L l) {m t : Nat} (hw : (st6 l m 6).2.2 = false) (h1 : letN (l.getD 0 0) ≠ []) (h2 : t ≤ 1048576) (h3 : 0 < t → hasC (letN (l.getD 0 0)) 120 = true) : textR (l.getD 0 0) ((st6 l m 6).1.take 5) ((st6 l m 6).1.getD 5 0) t := by
 have hL := st6_len l m 6
 have ho := st6_ok hl 6 (Nat.le_refl _) hw
 generalize (st6 l m 6).1 = v at *
 have e := six_list hL
 rw [e] at ho ⊢
 exact text_six.2 ⟨⟨h1, h2, h3⟩, ho⟩
end Go.Proofs.Ytbamfolinbehiaa
end
section
namespace Go.Proofs.Ytbamfolinbehiaa
open Go.ChangeShapes Go.WideShapes Go.ChangeAt Go.RowKit Go.Sx
theorem tabJg_ok : ∀ f g, tabJg By.getU By.getB f = some g → TabOk Try.prog f g := tabs_ok fun x hx => by
 simp only [List.mem_cons, List.not_mem_nil, or_false] at hx
 rcases hx with rfl | rfl | rfl | rfl
 ·exact hasR_tab
 ·exact right_tab
 ·exact By.getref_tab
 ·exact By.getrefb_tab
theorem callJg_ok (d : Nat) : CallOk Try.prog (callJg By.getU By.getB d) := callN_sound tabJg_ok d
theorem funJg : Try.prog.funcs[19]? = some (fnF 19) := by kernel_rfl
theorem bodJg : (fnF 19).body = some (bodyF 19) := by kernel_rfl
theorem tmpJg : 1 ≤ (fnF 19).ntmps := Nat.le_of_ble_eq_true (by kernel_rfl)
theorem relD_ghost {ds : List Deferred} {ρ : Env} {K : Nat → Prop} {W : World} {n : Nat} {sl : Slots} {m : List SB} {h h' : List Bool} {ob ob' : List Prop} {a : Act} {w : World} (hr : RelD ds (ρ ++ []) K W n ⟨sl, m, h, ob⟩ a w) : RelD ds (ρ ++ [⟨0, 0, 0⟩]) K W n ⟨sl, m ++ [oB []], h', ob'⟩ a w := by
 rw [List.append_nil] at hr
 exact ⟨⟨hr.sl.size, hr.sl.defers, fun t v hv => V.rel_app _ (hr.sl.slot t v hv)⟩, hr.m.beside (ghost_rel w (.ints .u8 []) (fun ρ g i r h => by simp at h) rfl) rfl⟩
theorem appGJ {A : Type} {f g : GU → GB → List Int → Nat → Nat → Int → Int → Int → Int → Int → Int → Int → A} (h : f = g) (l : List Int) (n c : Nat) (e p s nn b r q : Int) : f By.getU By.getB l n c e p s nn b r q = g By.getU By.getB l n c e p s nn b r q := by rw [h]
theorem set_six {sel : List Nat} {v : List Int} : leL sel (sixV v) (sixV v) := six_le ..
section
variable {l : List Int} {n c : Nat}
theorem bad_le (h : getS l n = gotX) : leV [0, 1] badG (gotV (getS l n)) := by
 rw [h]
 exact ⟨⟨⟨rfl, rfl⟩, ⟨rfl, rfl⟩, ⟨rfl, rfl⟩, ⟨rfl, rfl⟩, ⟨rfl, rfl⟩, ⟨rfl, rfl⟩, ⟨rfl, rfl⟩, ⟨(by decide : 1 < 2), rfl, rfl⟩, trivial⟩, ⟨rfl, rfl⟩, trivial⟩
theorem bad_bs (h : getS l n = gotX) : leBs [0, 1] [roH l, oB []] [roH l, oB (getS l n).blob] := by
 rw [h]
 exact ⟨⟨id, rfl, rfl⟩, ⟨id, rfl, rfl⟩, trivial⟩
theorem zer_leJ {sel : List Nat} : leL sel zerL zerL := ⟨⟨rfl, rfl⟩, ⟨rfl, rfl⟩, ⟨rfl, rfl⟩, ⟨rfl, rfl⟩, ⟨rfl, rfl⟩, ⟨rfl, rfl⟩, ⟨rfl, rfl⟩, trivial, trivial⟩
theorem TGm_le {v : List Int} {q q' : Int} {i j : Nat} : leBs [0, 1, 2, 3, 4] (TGr l n c v q i []).m (TGr l n c v q' j []).m :=
 ⟨⟨id, rfl, rfl⟩, ⟨id, rfl, rfl⟩, ⟨id, zer_leJ⟩, ⟨id, sbs_le _ _⟩, ⟨id, set_six⟩, trivial⟩
theorem TGs_le (hc : n ≤ c) {v v' : List Int} {q : Int} {i : Nat} : leSlots [0, 1, 2, 3, 4] (TGr l n c v q i []).sl (TGr l n c v' q i []).sl :=
 ⟨⟨rfl, rfl, rfl, rfl, rfl, Nat.le_refl _, hc⟩, ⟨rfl, rfl, rfl, rfl, rfl⟩, ⟨rfl, rfl, rfl, rfl, rfl, Nat.le_refl _, Nat.le_refl _⟩, ⟨rfl, rfl, rfl⟩, ⟨rfl, rfl, rfl, rfl, rfl, Nat.le_refl _, Nat.le_refl _⟩, ⟨rfl, rfl, rfl⟩, trivial⟩
theorem get_w (h0 : n ≠ 0) (h1 : letN (l.getD 0 0) ≠ []) : getS l n = end6 l n (st6 l n 6).1 (st6 l n 6).2.1 (st6 l n 6).2.2 := by
 rw [get_six, if_neg (fun h => h.elim h0 h1)]
theorem get_bad (h0 : n ≠ 0) (h1 : letN (l.getD 0 0) ≠ []) (hw : (st6 l n 6).2.2 = true) : getS l n = gotX := by
 rw [get_w h0 h1, end6]
 split
 ·rw [if_pos (.inl hw)]
 ·rw [if_pos (.inl hw)]
theorem nnot {b : Bool} (h : (!b) = false) : b = true := by cases b; cases h; rfl
theorem nnot' {b : Bool} (h : (!b) = true) : b = false := by cases b; rfl; cases h
theorem rget_step (hl : u8L l) (hn : n ≤ l.length) (hn2 : n ≤ 1000000000) (hc : n ≤ c) (h0 : n ≠ 0) (h1 : letN (l.getD 0 0) ≠ []) (x : Nat × List Int × Int) (hx : x.1 ≤ 6 ∧ Six l n x.1 x.2.1 x.2.2) :
  Step Try.prog (callJg By.getU By.getB 4) (fun _ => false) (fnF 19) ZL.1 ZL.2 1 (fun x : Nat × List Int × Int => TGr l n c x.2.1 x.2.2 x.1) (fun x => x.1 ≤ 6 ∧ Six l n x.1 x.2.1 x.2.2) (fun x => 6 - x.1) (gotV (getS l n)) [roH l, oB (getS l n).blob] x := by
 obtain ⟨i, v, q⟩ := x
 obtain ⟨h6, sx⟩ := hx
 dsimp only at h6 sx
 have nd2 : ([0, 1] : List Nat).Nodup := by decide
 have nd5 : ([0, 1, 2, 3, 4] : List Nat).Nodup := by decide
 have len := sx.len
 match v, len, sx with
 | [e, p, s, nn, b, r], _, sx =>
 by_cases hlt : i < 6
 ·have stop : ∀ {h : List Bool} {ob : List Prop}, endV [0, 1] (rgR By.getU By.getB 0 (TGr l n c [e, p, s, nn, b, r] q i h)) = some (badG, [roH l, oB []], ob) → allP ob → getS l n = gotX → Step Try.prog (callJg By.getU By.getB 4) (fun _ => false) (fnF 19) ZL.1 ZL.2 1 (fun x : Nat × List Int × Int => TGr l n c x.2.1 x.2.2 x.1) (fun x => x.1 ≤ 6 ∧ Six l n x.1 x.2.1 x.2.2) (fun x => 6 - x.1) (gotV (getS l n)) [roH l, oB (getS l n).blob] (i, [e, p, s, nn, b, r], q) :=
   fun hq hob hX => .stop _ _ _ _ [1] _ _ _ hq hob nd2 (bad_le hX) (bad_bs hX)
  cases hh : nhB (l.getD 0 0) i with
  | true =>
   have q1 := appGJ (rgD i hlt) l n c e p s nn b r q
   exact .round _ _ _ _ _ [1, 2, 3, 4] _ _ _ (i + 1, [e, p, s, nn, b, r], q) q1 ⟨hh, trivial⟩ ⟨nd5, TGs_le hc, TGm_le⟩ ⟨hlt, sx.no (nnot' hh)⟩ (by show 6 - (i + 1) < 6 - i; omega)
  | false =>
   have hhas : hasC (letN (l.getD 0 0)) (chF i) = true := nnot hh
   cases he : errB By.getU l n q with
   | true =>
    refine stop (appGJ (rgB i hlt) l n c e p s nn b r q) ⟨he, hn, hn2, hl, hh, trivial⟩ (get_bad h0 h1 (sx.stop hlt hhas (.inl fun h => ?_)))
    unfold errB at he; rw [decide_eq_true h] at he; cases he
   | false =>
    have he0 : (By.getU l n q).2.2 = 0 := of_decide_eq_true (nnot he)
    cases hm : mostB By.getU l n q with
    | true => exact stop (appGJ (rgC i hlt) l n c e p s nn b r q) ⟨hm, he, hn, hn2, hl, hh, trivial⟩ (get_bad h0 h1 (sx.stop hlt hhas (.inr (of_decide_eq_true hm))))
    | false =>
     have hm0 : ¬ (1099511627776 < (By.getU l n q).1) := of_decide_eq_false hm
     have hr := By.getU_range hl n q
     have hw : IntKind.wrap .i64 (By.getU l n q).1 = (By.getU l n q).1 := By.wi64 (by omega) (by omega)
     have q1 := appGJ (rgA i hlt) l n c e p s nn b r q
     have nx := sx.yes hlt hhas he0
     simp only [hw] at q1
     exact .round _ _ _ _ _ [1, 2, 3, 4] _ _ _ (i + 1, [e, p, s, nn, b, r].set i (By.getU l n q).1, (By.getU l n q).2.1) q1 ⟨hm, he, hn, hn2, hl, hh, trivial⟩ ⟨nd5, TGs_le hc, TGm_le⟩ ⟨hlt, nx⟩ (by show 6 - (i + 1) < 6 - i; omega)
 ·have e6 : i = 6 := by omega
  subst e6
  have hn0 : (0 : Int) < (n : Int) := by omega
  have hl0 : 0 < l.length := by omega
  have i64m : By.i64 1048576 := by unfold By.i64; decide
  have stop : ∀ {h : List Bool} {ob : List Prop}, endV [0, 1] (rgR By.getU By.getB 0 (TGr l n c [e, p, s, nn, b, r] q 6 h)) = some (badG, [roH l, oB []], ob) → allP ob → getS l n = gotX → Step Try.prog (callJg By.getU By.getB 4) (fun _ => false) (fnF 19) ZL.1 ZL.2 1 (fun x : Nat × List Int × Int => TGr l n c x.2.1 x.2.2 x.1) (fun x => x.1 ≤ 6 ∧ Six l n x.1 x.2.1 x.2.2) (fun x => 6 - x.1) (gotV (getS l n)) [roH l, oB (getS l n).blob] (6, [e, p, s, nn, b, r], q) :=
   fun hq hob hX => .stop _ _ _ _ [1] _ _ _ hq hob nd2 (bad_le hX) (bad_bs hX)
  have hgw := get_w h0 h1
  -- what is well read, is what the reference has
  have well : (st6 l n 6).2.2 = false → getS l n = end6 l n [e, p, s, nn, b, r] q false ∧ ∀ {t : Nat}, t ≤ 1048576 → (0 < t → hasC (letN (l.getD 0 0)) 120 = true) → textR (l.getD 0 0) [e, p, s, nn, b] r t := fun hw => by
   obtain ⟨g1, g2⟩ := sx.good hw
   refine ⟨by rw [hgw, hw, g1, g2], fun h2 h3 => ?_⟩
   have := six_text hl hw h1 h2 h3
   rw [g2] at this
   exact this
  have ill : (st6 l n 6).2.2 = true → ∀ t : Nat, ¬ textR (l.getD 0 0) [e, p, s, nn, b] r t := fun hw t ht => by
   obtain ⟨j, j1, j2⟩ := sx.bad hw
   have := ((text_six.1 ht).2 j j1).1.2
   exact absurd j2 (Int.not_lt.2 this)
  by_cases hr : 255 < r
  ·refine stop (appGJ rgX0 l n c e p s nn b r q) ⟨decide_eq_true hr, hl0, hn0, trivial⟩ ?_
   cases hw : (st6 l n 6).2.2 with
   | true => exact get_bad h0 h1 hw
   | false =>
    have := (text_six.1 ((well hw).2 (Nat.zero_le 1048576) (fun h => absurd h (Nat.lt_irrefl 0)))).2 5 (by decide)
    have h5 : r ≤ 255 := this.1.2
    omega
  have dr : decide ((255 : Int) < r) = false := decide_eq_false hr
  cases h2 : hasC (letN (l.getD 0 0)) 120 with
  | true =>
   have bl := getB_len l n q 1048576
   have bl2 : (By.getB l n q 1048576).1.length ≤ 1048576 := by omega
   by_cases he : (By.getB l n q 1048576).2.2 = 0
   ·have ne := notT (decide_eq_true he)
    have app : ∀ {P1 : Prop}, P1 → allP [0 = 0, (By.getB l n q 1048576).1.length = (By.getB l n q 1048576).1.length, (By.getB l n q 1048576).1.length * 1 ≤ 140737488355328, (By.getB l n q 1048576).1.length ≤ 9223372036854775807, (!decide ((By.getB l n q 1048576).2.2 = 0)) = false, n ≤ l.length, n ≤ 1000000000, By.wfB l, By.i64 1048576, hasC (letN (l.getD 0 0)) 120 = true, decide ((255 : Int) < r) = false, 0 < l.length, (0 : Int) < (n : Int)] :=
     fun _ => ⟨rfl, rfl, by omega, by omega, ne, hn, hn2, hl, i64m, h2, dr, hl0, hn0, trivial⟩
    have app := app trivial
    by_cases ha : (By.getB l n q 1048576).2.1 = (n : Int)
    ·have na := notT (decide_eq_true ha)
     by_cases ht : textR (l.getD 0 0) [e, p, s, nn, b] r (By.getB l n q 1048576).1.length
     ·have hw : (st6 l n 6).2.2 = false := by
       cases hw : (st6 l n 6).2.2 with
       | false => rfl
       | true => exact absurd ht (ill hw _)
      have eg : getS l n = ⟨l.getD 0 0, [e, p, s, nn, b], r, (By.getB l n q 1048576).1, 0⟩ := by
       rw [(well hw).1, end6, if_pos h2, if_neg (by rintro (h | h | h); cases h; exact h he; exact h ha)]; rfl
      refine .stop _ _ _ _ [8] _ _ _ (appGJ rgX4 l n c e p s nn b r q) ⟨notT (decide_eq_true ht), na, app⟩ (by decide : ([0, 8] : List Nat).Nodup) ?_ ?_
      ·rw [eg]
       exact ⟨⟨⟨rfl, rfl⟩, ⟨rfl, rfl⟩, ⟨rfl, rfl⟩, ⟨rfl, rfl⟩, ⟨rfl, rfl⟩, ⟨rfl, rfl⟩, ⟨rfl, rfl⟩, ⟨rfl, rfl, rfl, rfl, Nat.le_refl _, Nat.le_refl _⟩, trivial⟩, ⟨rfl, rfl⟩, trivial⟩
      ·rw [eg]
       exact ⟨⟨id, rfl, rfl⟩, ⟨id, rfl, rfl⟩, trivial⟩
     ·refine stop (appGJ rgX3 l n c e p s nn b r q) ⟨notF (decide_eq_false ht), na, app⟩ ?_
      cases hw : (st6 l n 6).2.2 with
      | true => exact get_bad h0 h1 hw
      | false => exact absurd ((well hw).2 bl2 (fun _ => h2)) ht
    ·refine stop (appGJ rgX2 l n c e p s nn b r q) ⟨notF (decide_eq_false ha), app⟩ ?_
     cases hw : (st6 l n 6).2.2 with
     | true => exact get_bad h0 h1 hw
     | false => rw [(well hw).1, end6, if_pos h2, if_pos (.inr (.inr ha))]
   ·refine stop (appGJ rgX1 l n c e p s nn b r q) ⟨notF (decide_eq_false he), hn, hn2, hl, i64m, h2, dr, hl0, hn0, trivial⟩ ?_
    cases hw : (st6 l n 6).2.2 with
    | true => exact get_bad h0 h1 hw
    | false => rw [(well hw).1, end6, if_pos h2, if_pos (.inr (.inl he))]
  | false =>
   have n2 : ¬ (hasC (letN (l.getD 0 0)) 120 = true) := by rw [h2]; decide
   by_cases ha : q = (n : Int)
   ·have na := notT (decide_eq_true ha)
    by_cases ht : textR (l.getD 0 0) [e, p, s, nn, b] r 0
    ·have hw : (st6 l n 6).2.2 = false := by
      cases hw : (st6 l n 6).2.2 with
      | false => rfl
      | true => exact absurd ht (ill hw _)
     have eg : getS l n = ⟨l.getD 0 0, [e, p, s, nn, b], r, [], 0⟩ := by
      rw [(well hw).1, end6, if_neg n2, if_neg (by rintro (h | h); cases h; exact h ha)]; rfl
     refine .stop _ _ _ _ [1] _ _ _ (appGJ rgX7 l n c e p s nn b r q) ⟨notT (decide_eq_true ht), na, h2, dr, hl0, hn0, trivial⟩ nd2 ?_ ?_
     ·rw [eg]
      exact ⟨⟨⟨rfl, rfl⟩, ⟨rfl, rfl⟩, ⟨rfl, rfl⟩, ⟨rfl, rfl⟩, ⟨rfl, rfl⟩, ⟨rfl, rfl⟩, ⟨rfl, rfl⟩, ⟨(by decide : 1 < 2), rfl, rfl⟩, trivial⟩, ⟨rfl, rfl⟩, trivial⟩
     ·rw [eg]
      exact ⟨⟨id, rfl, rfl⟩, ⟨id, rfl, rfl⟩, trivial⟩
    ·refine stop (appGJ rgX6 l n c e p s nn b r q) ⟨notF (decide_eq_false ht), na, h2, dr, hl0, hn0, trivial⟩ ?_
     cases hw : (st6 l n 6).2.2 with
     | true => exact get_bad h0 h1 hw
     | false => exact absurd ((well hw).2 (Nat.zero_le 1048576) (fun h => absurd h (Nat.lt_irrefl 0))) ht
   ·refine stop (appGJ rgX5 l n c e p s nn b r q) ⟨notF (decide_eq_false ha), h2, dr, hl0, hn0, trivial⟩ ?_
    cases hw : (st6 l n 6).2.2 with
    | true => exact get_bad h0 h1 hw
    | false => rw [(well hw).1, end6, if_neg n2, if_pos (.inr ha)]
theorem rget_works (hl : u8L l) (hn : n ≤ l.length) (hn2 : n ≤ 1000000000) (hc : n ≤ c) : Works Try.prog 19 [bl0 0 n c] [roH l] (gotV (getS l n)) [roH l, oB (getS l n).blob] := by
 refine works_goes funJg bodJg (by exact tmpJg) (fun ρ K W a w hρ hr0 => ?_)
 obtain ⟨e0, rfl⟩ := List.length_eq_one_iff.1 hρ
 have nd2 : ([0, 1] : List Nat).Nodup := by decide
 have app : ∀ {A : Type} {f g : GU → GB → List Int → Nat → Nat → A}, f = g → f By.getU By.getB l n c = g By.getU By.getB l n c := fun h => by rw [h]
 have hr := fun h => relD_ghost (h' := h) (ob' := []) hr0
 by_cases h0 : n = 0
 ·have hX : getS l n = gotX := by rw [get_six, if_pos (.inl h0)]
  exact goes_retW (ρ := [e0]) (r := [1]) (callJg_ok 4) funJg (app rgF0) ⟨decide_eq_true (by omega), trivial⟩ nd2 (bad_le hX) (bad_bs hX) (hr _)
 have hn0 : (0 : Int) < (n : Int) := by omega
 have hl0 : 0 < l.length := by omega
 have d0 : decide ((n : Int) = 0) = false := decide_eq_false (by omega)
 by_cases h1 : letN (l.getD 0 0) = []
 ·have hX : getS l n = gotX := by rw [get_six, if_pos (.inr h1)]
  exact goes_retW (ρ := [e0]) (r := [1]) (callJg_ok 4) funJg (app rgF1) ⟨h1, hl0, hn0, d0, trivial⟩ nd2 (bad_le hX) (bad_bs hX) (hr _)
 refine goes_stop (ρ0 := [e0]) (r := [1, 2, 4, 5]) (T := TGr l n c [0, 0, 0, 0, 0, 0] 1 0 []) (callJg_ok 4) funJg (app rgE0) ⟨h1, hl0, hn0, h1, hl0, hn0, d0, trivial⟩ ⟨(by decide : ([0, 1, 2, 4, 5] : List Nat).Nodup), ?_, ?_⟩
  (fun ρ' a w hh => loop_goes (I := Nat × List Int × Int) (Inv := fun x => TGr l n c x.2.1 x.2.2 x.1) (good := fun x => x.1 ≤ 6 ∧ Six l n x.1 x.2.1 x.2.2) (μ := fun x => 6 - x.1) (i := (0, [0, 0, 0, 0, 0, 0], 1)) (n := 1) (callJg_ok 4) funJg (fun _ _ => ⟨rfl, rfl⟩) (rget_step hl hn hn2 hc h0 h1) rfl ⟨Nat.zero_le _, Six.zero l n⟩ hh) (hr _)
 ·exact ⟨⟨rfl, rfl, rfl, rfl, rfl, Nat.le_refl _, hc⟩, ⟨rfl, rfl, rfl, rfl, rfl⟩, ⟨rfl, rfl, rfl, rfl, rfl, Nat.le_refl _, Nat.le_refl _⟩, ⟨rfl, rfl, rfl⟩, ⟨rfl, rfl, rfl, rfl, rfl, Nat.le_refl _, Nat.le_refl _⟩, ⟨rfl, rfl, rfl⟩, trivial⟩
 ·exact ⟨⟨id, rfl, rfl⟩, ⟨id, rfl, rfl⟩, ⟨id, zer_leJ⟩, ⟨id, sbs_le _ _⟩, ⟨id, ⟨rfl, rfl⟩, ⟨rfl, rfl⟩, ⟨rfl, rfl⟩, ⟨rfl, rfl⟩, ⟨rfl, rfl⟩, ⟨rfl, rfl⟩, trivial⟩, trivial⟩
end
theorem rget_tab : TabOk Try.prog 19 (loc wantH (gGt getS)) := loc_ok fun xs bs v bs' ob hg hob hokb => by
 unfold gGt at hg
 split at hg
 ·rename_i m d l
  cases hg
  intro ρ K w us hm hu
  obtain ⟨u1, s1, rfl, k1, k2⟩ := hu
  have hc : m.v ≤ d.v := by
   obtain ⟨⟨e, _, h⟩, _⟩ := k1
   rcases h with ⟨h, _, _⟩ | ⟨_, _, _, h, _⟩ <;> omega
  exact rget_works (hob (u8L l) (by simp)) (hob (m.v ≤ l.length) (by simp)) (hob (m.v ≤ 1000000000) (by simp)) hc ρ K w _ hm ⟨u1, _, rfl, bl0_rel k1, k2⟩
 ·cases hg
end Go.Proofs.Ytbamfolinbehiaa
end
