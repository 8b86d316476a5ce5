/- Several texts in one: GetA, GetB, GetC, GetD, GetE, GetP. -/
import Derived.Test.YtgkhbhddmafakaaUint
import Derived.Test.YtgkhbhddmafakaaVint
import Derived.Test.YtgkhbhddmafakaaSxAG
import Derived.Laws.DeepNot64
namespace Go.Proofs.Ytgkhbhddmafakaa
section
/- bytes.GetUint: what each path comes to. -/
open Go.ChangeShapes Go.WideShapes Go.ChangeAt Go.RowKit Go.Sx
def roB (l : List Int) : SB := ⟨false, .ints .u8 l⟩
def mnG (n : Nat) (a : Int) : Int := if (n : Int) < a + 10 then (n : Int) else a + 10
def rlG (n : Nat) (a : Int) : Int := ((Int.toNat (if (n : Int) < a + 10 then (n : Int) else a + 10) - Int.toNat a : Nat) : Int)
def ixG (a : Int) : Nat → Nat
  | 0 => Int.toNat a
  | j + 1 => Nat.add (Int.toNat a) (j + 1)
def gxG (l : List Int) (a : Int) (j : Nat) : Int := List.getD l (ixG a j) 0
def tailG (n c : Nat) (a : Int) : List Prop := [0 ≤ mnG n a, mnG n a ≤ (c : Int), 0 ≤ a, a ≤ ((Int.toNat (mnG n a) : Nat) : Int), -9223372036854775808 ≤ a + 10 ∧ a + 10 ≤ 9223372036854775807, decide ((n : Int) < a) = false, decide (a < 0) = false]
def scanG (l : List Int) (n c : Nat) (a : Int) : Nat → List Prop
  | 0 => tailG n c a
  | j + 1 => [decide (gxG l a j < 128) = false, ixG a j < l.length, (j : Int) < rlG n a, decide ((j : Int) < rlG n a) = true] ++ scanG l n c a j
def shortG (l : List Int) (n c : Nat) (a : Int) (j : Nat) : List Prop := [decide (rlG n a < 10) = true, decide ((j : Int) < rlG n a) = false] ++ scanG l n c a j
def longG (l : List Int) (n c : Nat) (a : Int) : List Prop := [decide (rlG n a < 10) = false, decide (((10 : Nat) : Int) < rlG n a) = false] ++ scanG l n c a 10
def hitG (l : List Int) (n c : Nat) (a : Int) (j : Nat) : List Prop := [decide (gxG l a j < 128) = true, ixG a j < l.length, (j : Int) < rlG n a, decide ((j : Int) < rlG n a) = true] ++ scanG l n c a j
def noughtG (l : List Int) (n c : Nat) (a : Int) (j : Nat) : List Prop := [decide (gxG l a j = 0) = true, ixG a j < l.length, (j : Int) < rlG n a] ++ hitG l n c a j
def overG (l : List Int) (n c : Nat) (a : Int) : List Prop := [decide (1 < gxG l a 9) = true, ixG a 9 < l.length, ((9 : Nat) : Int) < rlG n a, decide (gxG l a 9 = 0) = false, ixG a 9 < l.length, ((9 : Nat) : Int) < rlG n a] ++ hitG l n c a 9
def extraG (l : List Int) (n c : Nat) (a : Int) : Nat → List Prop
  | 0 => hitG l n c a 0
  | 9 => [decide (1 < gxG l a 9) = false, ixG a 9 < l.length, ((9 : Nat) : Int) < rlG n a, decide (gxG l a 9 = 0) = false, ixG a 9 < l.length, ((9 : Nat) : Int) < rlG n a] ++ hitG l n c a 9
  | j + 1 => [decide (gxG l a (j + 1) = 0) = false, ixG a (j + 1) < l.length, ((j + 1 : Nat) : Int) < rlG n a] ++ hitG l n c a (j + 1)
def loopG (l : List Int) (n c : Nat) (a : Int) (j : Nat) : Nat → List Prop
  | 0 => extraG l n c a j
  | m + 1 => [0 ≤ Int.tmod (gxG l a (j - m)) 128 ∧ Int.tmod (gxG l a (j - m)) 128 ≤ 18446744073709551615, ixG a (j - m) < l.length, ((j - m : Nat) : Int) < rlG n a] ++ loopG l n c a j m
def okG (l : List Int) (n c : Nat) (a : Int) (j : Nat) : List Prop := [-9223372036854775808 ≤ a + (j : Int) + 1 ∧ a + (j : Int) + 1 ≤ 9223372036854775807, -9223372036854775808 ≤ a + (j : Int) ∧ a + (j : Int) ≤ 9223372036854775807] ++ loopG l n c a j (j + 1)
def vdG (l : List Int) (a : Int) (j : Nat) : Nat → Int
  | 0 => IntKind.wrap .u64 (0 + Int.tmod (gxG l a j) 128)
  | i + 1 => IntKind.wrap .u64 (IntKind.wrap .u64 (vdG l a j i * 128) + Int.tmod (gxG l a (j - (i + 1))) 128)
def tupG (v t e : Int) : V := .tup [.one (.sint .u64 v), .one (.sint .i64 t), .one (.sint .i64 e)]
def tupI (v t e : Int) : V := .tup [.one (.int .u64 v), .one (.int .i64 t), .one (.int .i64 e)]
def tupK (v t : Int) : V := .tup [.one (.sint .u64 v), .one (.sint .i64 t), .one (.int .i64 0)]
def scanH (j : Nat) : List Bool := (List.replicate j [true, false]).flatten
noncomputable def guG (l : List Int) (a : Int) (n c : Nat) (h : List Bool) := retV [0] (call0 6 37 [bsl 0 n c, si .i64 a] [roB l] h)
theorem gNeg : (fun l a n c => guG l a n c [true]) = fun l a _ _ => some (tupI 0 0 2, [roB l], [decide (a < 0) = true]) := by kernel_rfl
theorem gFar : (fun l a n c => guG l a n c [false, true]) = fun (l : List Int) (a : Int) (n : Nat) (_ : Nat) => some (tupI 0 0 2, [roB l], [decide ((n : Int) < a) = true, decide (a < 0) = false]) := by kernel_rfl
theorem gLong : (fun l a n c => guG l a n c ([false, false] ++ scanH 10 ++ [false, false])) = fun l a n c => some (tupI 0 0 10, [roB l], longG l n c a) := by kernel_rfl
theorem gOver : (fun l a n c => guG l a n c ([false, false] ++ scanH 9 ++ [true, true, false, true])) = fun l a n c => some (tupI 0 0 10, [roB l], overG l n c a) := by kernel_rfl
theorem gShort0 : (fun l a n c => guG l a n c ([false, false] ++ scanH 0 ++ [false, true])) = fun l a n c => some (tupI 0 0 11, [roB l], shortG l n c a 0) := by kernel_rfl
theorem gShort1 : (fun l a n c => guG l a n c ([false, false] ++ scanH 1 ++ [false, true])) = fun l a n c => some (tupI 0 0 11, [roB l], shortG l n c a 1) := by kernel_rfl
theorem gShort2 : (fun l a n c => guG l a n c ([false, false] ++ scanH 2 ++ [false, true])) = fun l a n c => some (tupI 0 0 11, [roB l], shortG l n c a 2) := by kernel_rfl
theorem gShort3 : (fun l a n c => guG l a n c ([false, false] ++ scanH 3 ++ [false, true])) = fun l a n c => some (tupI 0 0 11, [roB l], shortG l n c a 3) := by kernel_rfl
theorem gShort4 : (fun l a n c => guG l a n c ([false, false] ++ scanH 4 ++ [false, true])) = fun l a n c => some (tupI 0 0 11, [roB l], shortG l n c a 4) := by kernel_rfl
theorem gShort5 : (fun l a n c => guG l a n c ([false, false] ++ scanH 5 ++ [false, true])) = fun l a n c => some (tupI 0 0 11, [roB l], shortG l n c a 5) := by kernel_rfl
theorem gShort6 : (fun l a n c => guG l a n c ([false, false] ++ scanH 6 ++ [false, true])) = fun l a n c => some (tupI 0 0 11, [roB l], shortG l n c a 6) := by kernel_rfl
theorem gShort7 : (fun l a n c => guG l a n c ([false, false] ++ scanH 7 ++ [false, true])) = fun l a n c => some (tupI 0 0 11, [roB l], shortG l n c a 7) := by kernel_rfl
theorem gShort8 : (fun l a n c => guG l a n c ([false, false] ++ scanH 8 ++ [false, true])) = fun l a n c => some (tupI 0 0 11, [roB l], shortG l n c a 8) := by kernel_rfl
theorem gShort9 : (fun l a n c => guG l a n c ([false, false] ++ scanH 9 ++ [false, true])) = fun l a n c => some (tupI 0 0 11, [roB l], shortG l n c a 9) := by kernel_rfl
theorem gNought1 : (fun l a n c => guG l a n c ([false, false] ++ scanH 1 ++ [true, true, true])) = fun l a n c => some (tupI 0 0 10, [roB l], noughtG l n c a 1) := by kernel_rfl
theorem gNought2 : (fun l a n c => guG l a n c ([false, false] ++ scanH 2 ++ [true, true, true])) = fun l a n c => some (tupI 0 0 10, [roB l], noughtG l n c a 2) := by kernel_rfl
theorem gNought3 : (fun l a n c => guG l a n c ([false, false] ++ scanH 3 ++ [true, true, true])) = fun l a n c => some (tupI 0 0 10, [roB l], noughtG l n c a 3) := by kernel_rfl
theorem gNought4 : (fun l a n c => guG l a n c ([false, false] ++ scanH 4 ++ [true, true, true])) = fun l a n c => some (tupI 0 0 10, [roB l], noughtG l n c a 4) := by kernel_rfl
theorem gNought5 : (fun l a n c => guG l a n c ([false, false] ++ scanH 5 ++ [true, true, true])) = fun l a n c => some (tupI 0 0 10, [roB l], noughtG l n c a 5) := by kernel_rfl
theorem gNought6 : (fun l a n c => guG l a n c ([false, false] ++ scanH 6 ++ [true, true, true])) = fun l a n c => some (tupI 0 0 10, [roB l], noughtG l n c a 6) := by kernel_rfl
theorem gNought7 : (fun l a n c => guG l a n c ([false, false] ++ scanH 7 ++ [true, true, true])) = fun l a n c => some (tupI 0 0 10, [roB l], noughtG l n c a 7) := by kernel_rfl
theorem gNought8 : (fun l a n c => guG l a n c ([false, false] ++ scanH 8 ++ [true, true, true])) = fun l a n c => some (tupI 0 0 10, [roB l], noughtG l n c a 8) := by kernel_rfl
theorem gNought9 : (fun l a n c => guG l a n c ([false, false] ++ scanH 9 ++ [true, true, true])) = fun l a n c => some (tupI 0 0 10, [roB l], noughtG l n c a 9) := by kernel_rfl
theorem gOk0 : (fun l a n c => guG l a n c ([false, false] ++ scanH 0 ++ [true, true])) = fun l a n c => some (tupK (vdG l a 0 0) (a + (0 : Nat) + 1), [roB l], okG l n c a 0) := by kernel_rfl
theorem gOk1 : (fun l a n c => guG l a n c ([false, false] ++ scanH 1 ++ [true, true, false])) = fun l a n c => some (tupK (vdG l a 1 1) (a + (1 : Nat) + 1), [roB l], okG l n c a 1) := by kernel_rfl
theorem gOk2 : (fun l a n c => guG l a n c ([false, false] ++ scanH 2 ++ [true, true, false])) = fun l a n c => some (tupK (vdG l a 2 2) (a + (2 : Nat) + 1), [roB l], okG l n c a 2) := by kernel_rfl
theorem gOk3 : (fun l a n c => guG l a n c ([false, false] ++ scanH 3 ++ [true, true, false])) = fun l a n c => some (tupK (vdG l a 3 3) (a + (3 : Nat) + 1), [roB l], okG l n c a 3) := by kernel_rfl
theorem gOk4 : (fun l a n c => guG l a n c ([false, false] ++ scanH 4 ++ [true, true, false])) = fun l a n c => some (tupK (vdG l a 4 4) (a + (4 : Nat) + 1), [roB l], okG l n c a 4) := by kernel_rfl
theorem gOk5 : (fun l a n c => guG l a n c ([false, false] ++ scanH 5 ++ [true, true, false])) = fun l a n c => some (tupK (vdG l a 5 5) (a + (5 : Nat) + 1), [roB l], okG l n c a 5) := by kernel_rfl
theorem gOk6 : (fun l a n c => guG l a n c ([false, false] ++ scanH 6 ++ [true, true, false])) = fun l a n c => some (tupK (vdG l a 6 6) (a + (6 : Nat) + 1), [roB l], okG l n c a 6) := by kernel_rfl
theorem gOk7 : (fun l a n c => guG l a n c ([false, false] ++ scanH 7 ++ [true, true, false])) = fun l a n c => some (tupK (vdG l a 7 7) (a + (7 : Nat) + 1), [roB l], okG l n c a 7) := by kernel_rfl
theorem gOk8 : (fun l a n c => guG l a n c ([false, false] ++ scanH 8 ++ [true, true, false])) = fun l a n c => some (tupK (vdG l a 8 8) (a + (8 : Nat) + 1), [roB l], okG l n c a 8) := by kernel_rfl
theorem gOk9 : (fun l a n c => guG l a n c ([false, false] ++ scanH 9 ++ [true, true, false, false])) = fun l a n c => some (tupK (vdG l a 9 9) (a + (9 : Nat) + 1), [roB l], okG l n c a 9) := by kernel_rfl
end
section
/- bytes.GetUint: what it comes to, and the contract. -/
open Go.ChangeShapes Go.WideShapes Go.ChangeAt Go.RowKit Go.Sx
def wfB (l : List Int) : Prop := ∀ x ∈ l, 0 ≤ x ∧ x < 256
theorem wfB_get {l : List Int} (h : wfB l) (i : Nat) : 0 ≤ l.getD i 0 ∧ l.getD i 0 < 256 := by
  rw [List.getD_eq_getElem?_getD]
  cases hi : l[i]? with
  | none => simp
  | some x => exact h x (List.mem_of_getElem? hi)
/-- where the first byte below 128 is, from a place on, among so many -/
def scanU (l : List Int) (n k : Nat) : Nat → Nat → Option Nat
  | 0, _ => none
  | m + 1, i => if k + i < n then (if l.getD (k + i) 0 < 128 then some i else scanU l n k m (i + 1)) else none
/-- what the bytes from a place on say, so many behind the first -/
def valU (l : List Int) : Nat → Nat → Int
  | k, 0 => l.getD k 0 % 128
  | k, j + 1 => l.getD k 0 % 128 + 128 * valU l (k + 1) j
/-- a number, the place behind it, an error: of the first n bytes -/
def getU (l : List Int) (n : Nat) (a : Int) : Int × Int × Int :=
  if a < 0 ∨ (n : Int) < a then (0, 0, 2) else match scanU l n a.toNat 10 0 with
    | none => if n < a.toNat + 10 then (0, 0, 11) else (0, 0, 10)
    | some j => if (0 < j ∧ l.getD (a.toNat + j) 0 = 0) ∨ (j = 9 ∧ 1 < l.getD (a.toNat + 9) 0) then (0, 0, 10) else (valU l a.toNat j, a + (j : Int) + 1, 0)
theorem scanU_none : ∀ {l : List Int} {n k m i : Nat}, scanU l n k m i = none → ∃ j, i ≤ j ∧ j ≤ i + m ∧ (∀ t, i ≤ t → t < j → k + t < n ∧ 128 ≤ l.getD (k + t) 0) ∧ (j = i + m ∨ n ≤ k + j)
  | l, n, k, 0, i, _ => ⟨i, by omega, by omega, fun t h1 h2 => by omega, .inl rfl⟩
  | l, n, k, m + 1, i, h => by
    unfold scanU at h
    by_cases h1 : k + i < n
    · rw [if_pos h1] at h
      by_cases h2 : l.getD (k + i) 0 < 128
      · rw [if_pos h2] at h; cases h
      · rw [if_neg h2] at h
        obtain ⟨j, j1, j2, j3, j4⟩ := scanU_none h
        refine ⟨j, by omega, by omega, fun t t1 t2 => ?_, by omega⟩
        by_cases ht : t = i
        · subst ht; exact ⟨h1, by omega⟩
        · exact j3 t (by omega) t2
    · exact ⟨i, by omega, by omega, fun t t1 t2 => by omega, .inr (by omega)⟩
theorem scanU_some : ∀ {l : List Int} {n k m i j : Nat}, scanU l n k m i = some j → i ≤ j ∧ j < i + m ∧ (∀ t, i ≤ t → t < j → k + t < n ∧ 128 ≤ l.getD (k + t) 0) ∧ k + j < n ∧ l.getD (k + j) 0 < 128
  | l, n, k, 0, i, j, h => by cases h
  | l, n, k, m + 1, i, j, h => by
    unfold scanU at h
    by_cases h1 : k + i < n
    · rw [if_pos h1] at h
      by_cases h2 : l.getD (k + i) 0 < 128
      · rw [if_pos h2] at h
        injection h with h; subst h
        exact ⟨Nat.le_refl _, by omega, fun t t1 t2 => by omega, h1, h2⟩
      · rw [if_neg h2] at h
        obtain ⟨j1, j2, j3, j4, j5⟩ := scanU_some h
        refine ⟨by omega, by omega, fun t t1 t2 => ?_, j4, j5⟩
        by_cases ht : t = i
        · subst ht; exact ⟨h1, by omega⟩
        · exact j3 t (by omega) t2
    · rw [if_neg h1] at h; cases h
section
variable {l : List Int} {n c : Nat} {a : Int}
theorem ixG_eq (ha : 0 ≤ a) (j : Nat) : ixG a j = a.toNat + j := by cases j <;> rfl
theorem gxG_eq (j : Nat) : gxG l a j = l.getD (a.toNat + j) 0 := by cases j <;> rfl
theorem rl_min (ha : 0 ≤ a) (hn : a ≤ n) (j : Nat) (hj : j ≤ 10) : (j : Int) < rlG n a ↔ (a.toNat + j < n ∧ j < 10) := by
  unfold rlG
  split <;> omega
theorem rl_10 (ha : 0 ≤ a) (hn : a ≤ n) : rlG n a < 10 ↔ n < a.toNat + 10 := by
  unfold rlG
  split <;> omega
theorem tailG_ok (ha : 0 ≤ a) (hn : a ≤ n) (hc : n ≤ c) (hm : n ≤ 1000000000) : allP (tailG n c a) := by
  unfold tailG mnG
  refine ⟨?_, ?_, ha, ?_, ?_, decide_eq_false (by omega), decide_eq_false (by omega), trivial⟩
  · split <;> omega
  · split <;> omega
  · split <;> omega
  · omega
theorem scanG_ok (ha : 0 ≤ a) (hn : a ≤ n) (hc : n ≤ c) (hm : n ≤ 1000000000) (hl : n ≤ l.length) : ∀ {j : Nat}, j ≤ 10 → (∀ t, 0 ≤ t → t < j → a.toNat + t < n ∧ 128 ≤ l.getD (a.toNat + t) 0) → allP (scanG l n c a j)
  | 0, _, _ => tailG_ok ha hn hc hm
  | j + 1, hj, h => by
    obtain ⟨h1, h2⟩ := h j (by omega) (by omega)
    have hr := (rl_min ha hn j (by omega)).2 ⟨h1, by omega⟩
    refine ⟨?_, ?_, hr, decide_eq_true hr, scanG_ok ha hn hc hm hl (by omega) fun t t1 t2 => h t t1 (by omega)⟩
    · rw [gxG_eq]; exact decide_eq_false (by omega)
    · rw [ixG_eq ha]; omega
theorem hitG_ok (ha : 0 ≤ a) (hn : a ≤ n) (hc : n ≤ c) (hm : n ≤ 1000000000) (hl : n ≤ l.length) {j : Nat} (hj : j < 10) (h : ∀ t, 0 ≤ t → t < j → a.toNat + t < n ∧ 128 ≤ l.getD (a.toNat + t) 0) (h1 : a.toNat + j < n) (h2 : l.getD (a.toNat + j) 0 < 128) : allP (hitG l n c a j) := by
  have hr := (rl_min ha hn j (by omega)).2 ⟨h1, hj⟩
  refine ⟨?_, ?_, hr, decide_eq_true hr, scanG_ok ha hn hc hm hl (by omega) h⟩
  · rw [gxG_eq]; exact decide_eq_true h2
  · rw [ixG_eq ha]; omega
theorem extraG_ok (ha : 0 ≤ a) (hn : a ≤ n) (hl : n ≤ l.length) {j : Nat} (hj : j < 10) (h1 : a.toNat + j < n) (hh : allP (hitG l n c a j)) (h0 : 0 < j → l.getD (a.toNat + j) 0 ≠ 0) (h9 : j = 9 → l.getD (a.toNat + 9) 0 ≤ 1) : allP (extraG l n c a j) := by
  have hr := (rl_min ha hn j (by omega)).2 ⟨h1, hj⟩
  have hix : ixG a j < l.length := by rw [ixG_eq ha]; omega
  unfold extraG
  split
  · exact hh
  · refine ⟨?_, hix, hr, ?_, hix, hr, hh⟩
    · rw [gxG_eq]; exact decide_eq_false (by have := h9 rfl; omega)
    · rw [gxG_eq]; exact decide_eq_false (h0 (by omega))
  · refine ⟨?_, hix, hr, hh⟩
    rw [gxG_eq]; exact decide_eq_false (h0 (by omega))
theorem loopG_ok (ha : 0 ≤ a) (hn : a ≤ n) (hl : n ≤ l.length) (hw : wfB l) {j : Nat} (hj : j < 10) (h1 : a.toNat + j < n) (he : allP (extraG l n c a j)) : ∀ m, m ≤ j + 1 → allP (loopG l n c a j m)
  | 0, _ => he
  | m + 1, hm => by
    have hr := (rl_min ha hn (j - m) (by omega)).2 ⟨by omega, by omega⟩
    refine ⟨?_, ?_, hr, loopG_ok ha hn hl hw hj h1 he m (by omega)⟩
    · rw [gxG_eq]
      have := wfB_get hw (a.toNat + (j - m))
      rw [Int.tmod_eq_emod_of_nonneg this.1]
      omega
    · rw [ixG_eq ha]; omega
theorem valU_nn (hw : wfB l) : ∀ (i k : Nat), 0 ≤ valU l k i
  | 0, k => by have := wfB_get hw k; unfold valU; omega
  | i + 1, k => by have := wfB_get hw k; have := valU_nn hw i (k + 1); unfold valU; omega
theorem valU_lt (hw : wfB l) {M : Int} : ∀ (i k : Nat), l.getD (k + i) 0 % 128 < M → valU l k i < M * 128 ^ i
  | 0, k, h => by unfold valU; simpa using h
  | i + 1, k, h => by
    have ih := valU_lt hw i (k + 1) (by rw [show k + 1 + i = k + (i + 1) by omega]; exact h)
    have h1 : M * 128 ^ (i + 1) = M * 128 ^ i * 128 := by rw [Int.pow_succ, Int.mul_assoc]
    unfold valU
    rw [h1]
    generalize M * 128 ^ i = X at *
    omega
theorem vdG_eq (hw : wfB l) {j : Nat} (hj : j < 10) {M : Int} (hM : l.getD (a.toNat + j) 0 % 128 < M) (hb : ∀ i, i ≤ j → M * 128 ^ i ≤ 18446744073709551616) : ∀ i, i ≤ j → vdG l a j i = valU l (a.toNat + (j - i)) i
  | 0, _ => by
    unfold vdG valU
    rw [gxG_eq]
    have := wfB_get hw (a.toNat + j)
    rw [Int.tmod_eq_emod_of_nonneg this.1, Int.zero_add, Nat.sub_zero, w64 (by omega) (by omega)]
  | i + 1, hi => by
    have ih := vdG_eq hw hj hM hb i (by omega)
    have h0 := valU_nn hw i (a.toNat + (j - i))
    have h1 := valU_lt hw (M := M) (i + 1) (a.toNat + (j - (i + 1))) (by rw [show a.toNat + (j - (i + 1)) + (i + 1) = a.toNat + j by omega]; exact hM)
    have h2 := hb (i + 1) hi
    have hg := wfB_get hw (a.toNat + (j - (i + 1)))
    have e : valU l (a.toNat + (j - (i + 1))) (i + 1) = l.getD (a.toNat + (j - (i + 1))) 0 % 128 + 128 * valU l (a.toNat + (j - i)) i := by
      conv => lhs; unfold valU
      rw [show a.toNat + (j - (i + 1)) + 1 = a.toNat + (j - i) by omega]
    unfold vdG
    rw [ih, gxG_eq, Int.tmod_eq_emod_of_nonneg hg.1]
    rw [e] at h1 ⊢
    rw [w64 (n := valU l (a.toNat + (j - i)) i * 128) (by omega) (by omega), w64 (by omega) (by omega)]
    omega
end
end
section
/- bytes.GetUint: the contract. -/
open Go.ChangeShapes Go.WideShapes Go.ChangeAt Go.RowKit Go.Sx
theorem capG_works {f : FuncId} {b n c : Nat} {args : List V} {bs bs' : List SB} {v : V} (h : n ≤ c → Works Try.prog f (bsl b n c :: args) bs v bs') : Works Try.prog f (bsl b n c :: args) bs v bs' := by
  intro ρ K w us hm hu
  have hc : n ≤ c := by
    obtain ⟨u, s, _, ⟨⟨e, _, hu⟩, _⟩, _⟩ := hu
    rcases hu with ⟨h0, _⟩ | ⟨_, _, _, h1, _⟩
    · simp only [N.v] at h0; omega
    · exact h1
  exact h hc ρ K w us hm hu
theorem gShort_all (l : List Int) (a : Int) (n c : Nat) : ∀ j, j < 10 → guG l a n c ([false, false] ++ scanH j ++ [false, true]) = some (tupI 0 0 11, [roB l], shortG l n c a j)
  | 0, _ => congrFun (congrFun (congrFun (congrFun gShort0 l) a) n) c
  | 1, _ => congrFun (congrFun (congrFun (congrFun gShort1 l) a) n) c
  | 2, _ => congrFun (congrFun (congrFun (congrFun gShort2 l) a) n) c
  | 3, _ => congrFun (congrFun (congrFun (congrFun gShort3 l) a) n) c
  | 4, _ => congrFun (congrFun (congrFun (congrFun gShort4 l) a) n) c
  | 5, _ => congrFun (congrFun (congrFun (congrFun gShort5 l) a) n) c
  | 6, _ => congrFun (congrFun (congrFun (congrFun gShort6 l) a) n) c
  | 7, _ => congrFun (congrFun (congrFun (congrFun gShort7 l) a) n) c
  | 8, _ => congrFun (congrFun (congrFun (congrFun gShort8 l) a) n) c
  | 9, _ => congrFun (congrFun (congrFun (congrFun gShort9 l) a) n) c
  | _ + 10, h => absurd h (by omega)
theorem gNought_all (l : List Int) (a : Int) (n c : Nat) : ∀ j, 1 ≤ j → j < 10 → guG l a n c ([false, false] ++ scanH j ++ [true, true, true]) = some (tupI 0 0 10, [roB l], noughtG l n c a j)
  | 0, h, _ => absurd h (by omega)
  | 1, _, _ => congrFun (congrFun (congrFun (congrFun gNought1 l) a) n) c
  | 2, _, _ => congrFun (congrFun (congrFun (congrFun gNought2 l) a) n) c
  | 3, _, _ => congrFun (congrFun (congrFun (congrFun gNought3 l) a) n) c
  | 4, _, _ => congrFun (congrFun (congrFun (congrFun gNought4 l) a) n) c
  | 5, _, _ => congrFun (congrFun (congrFun (congrFun gNought5 l) a) n) c
  | 6, _, _ => congrFun (congrFun (congrFun (congrFun gNought6 l) a) n) c
  | 7, _, _ => congrFun (congrFun (congrFun (congrFun gNought7 l) a) n) c
  | 8, _, _ => congrFun (congrFun (congrFun (congrFun gNought8 l) a) n) c
  | 9, _, _ => congrFun (congrFun (congrFun (congrFun gNought9 l) a) n) c
  | _ + 10, _, h => absurd h (by omega)
def okH : Nat → List Bool
  | 0 => [true, true]
  | 9 => [true, true, false, false]
  | _ => [true, true, false]
theorem gOk_all (l : List Int) (a : Int) (n c : Nat) : ∀ j, j < 10 → guG l a n c ([false, false] ++ scanH j ++ okH j) = some (tupK (vdG l a j j) (a + (j : Int) + 1), [roB l], okG l n c a j)
  | 0, _ => congrFun (congrFun (congrFun (congrFun gOk0 l) a) n) c
  | 1, _ => congrFun (congrFun (congrFun (congrFun gOk1 l) a) n) c
  | 2, _ => congrFun (congrFun (congrFun (congrFun gOk2 l) a) n) c
  | 3, _ => congrFun (congrFun (congrFun (congrFun gOk3 l) a) n) c
  | 4, _ => congrFun (congrFun (congrFun (congrFun gOk4 l) a) n) c
  | 5, _ => congrFun (congrFun (congrFun (congrFun gOk5 l) a) n) c
  | 6, _ => congrFun (congrFun (congrFun (congrFun gOk6 l) a) n) c
  | 7, _ => congrFun (congrFun (congrFun (congrFun gOk7 l) a) n) c
  | 8, _ => congrFun (congrFun (congrFun (congrFun gOk8 l) a) n) c
  | 9, _ => congrFun (congrFun (congrFun (congrFun gOk9 l) a) n) c
  | _ + 10, h => absurd h (by omega)
theorem ndG : (List.range 1 ++ ([] : List Nat)).Nodup := by decide
theorem leG (l : List Int) : leBs (List.range 1 ++ []) [roB l] [roB l] := ⟨⟨fun h => h, rfl, rfl⟩, trivial⟩
theorem get_works (l : List Int) (n c : Nat) (a : Int) (hn : n ≤ l.length) (hm : n ≤ 1000000000) (hw : wfB l) : Works Try.prog 37 [bsl 0 n c, si .i64 a] [roB l] (tupG (getU l n a).1 (getU l n a).2.1 (getU l n a).2.2) [roB l] := capG_works fun hc => by
  have err : ∀ (e : Int) (h : List Bool) (ob : List Prop), getU l n a = (0, 0, e) → guG l a n c h = some (tupI 0 0 e, [roB l], ob) → allP ob → Works Try.prog 37 [bsl 0 n c, si .i64 a] [roB l] (tupG (getU l n a).1 (getU l n a).2.1 (getU l n a).2.2) [roB l] := by
    intro e h ob he hr hob
    rw [he]
    exact works_of (r := []) (bs := [roB l]) no_tabs hr hob ndG (by simp [tupI, tupG, leV, leL1, leV1, leC]) (leG l)
  by_cases h0 : a < 0
  · exact err 2 [true] _ (by unfold getU; rw [if_pos (.inl h0)]) (congrFun (congrFun (congrFun (congrFun gNeg l) a) n) c) ⟨decide_eq_true h0, trivial⟩
  by_cases h1 : (n : Int) < a
  · exact err 2 [false, true] _ (by unfold getU; rw [if_pos (.inr h1)]) (congrFun (congrFun (congrFun (congrFun gFar l) a) n) c) ⟨decide_eq_true h1, decide_eq_false h0, trivial⟩
  have ha : 0 ≤ a := by omega
  have han : a ≤ n := by omega
  cases hs : scanU l n a.toNat 10 0 with
  | none =>
    obtain ⟨j, j1, j2, j3, j4⟩ := scanU_none hs
    by_cases h10 : n < a.toNat + 10
    · have hj : j < 10 ∧ n ≤ a.toNat + j := by
        rcases Nat.lt_or_ge j 10 with h | h
        · exact ⟨h, by omega⟩
        · have := (j3 9 (by omega) (by omega)).1; omega
      have hr : ¬ (j : Int) < rlG n a := fun h => by have := ((rl_min ha han j (by omega)).1 h).1; omega
      exact err 11 _ _ (by unfold getU; rw [if_neg (by omega), hs]; simp only; rw [if_pos h10]) (gShort_all l a n c j hj.1)
        ⟨decide_eq_true ((rl_10 ha han).2 h10), decide_eq_false hr, scanG_ok ha han hc hm hn (by omega) j3⟩
    · have hj : j = 10 := by omega
      subst hj
      have hr : ¬ ((10 : Nat) : Int) < rlG n a := fun h => by have := ((rl_min ha han 10 (by omega)).1 h).2; omega
      exact err 10 _ _ (by unfold getU; rw [if_neg (by omega), hs]; simp only; rw [if_neg h10]) (congrFun (congrFun (congrFun (congrFun gLong l) a) n) c)
        ⟨decide_eq_false fun h => h10 ((rl_10 ha han).1 h), decide_eq_false hr, scanG_ok ha han hc hm hn (by omega) j3⟩
  | some j =>
    obtain ⟨j1, j2, j3, j4, j5⟩ := scanU_some hs
    have hj : j < 10 := by omega
    have hh := hitG_ok ha han hc hm hn hj j3 j4 j5
    have hr := (rl_min ha han j (by omega)).2 ⟨j4, hj⟩
    have hix : ixG a j < l.length := by rw [ixG_eq ha]; omega
    by_cases hb : (0 < j ∧ l.getD (a.toNat + j) 0 = 0)
    · exact err 10 _ _ (by unfold getU; rw [if_neg (by omega), hs]; simp only; rw [if_pos (.inl hb)]) (gNought_all l a n c j hb.1 hj)
        ⟨by rw [gxG_eq]; exact decide_eq_true hb.2, hix, hr, hh⟩
    · by_cases hb9 : j = 9 ∧ 1 < l.getD (a.toNat + 9) 0
      · obtain ⟨rfl, h9⟩ := hb9
        exact err 10 _ _ (by unfold getU; rw [if_neg (by omega), hs]; simp only; rw [if_pos (.inr ⟨trivial, h9⟩)]) (congrFun (congrFun (congrFun (congrFun gOver l) a) n) c)
          ⟨by rw [gxG_eq]; exact decide_eq_true h9, hix, hr, by rw [gxG_eq]; exact decide_eq_false fun h => hb ⟨by omega, h⟩, hix, hr, hh⟩
      · have e : getU l n a = (valU l a.toNat j, a + (j : Int) + 1, 0) := by
          unfold getU
          rw [if_neg (by omega), hs]; simp only
          rw [if_neg (fun h => by rcases h with h | h; exact hb h; exact hb9 h)]
        rw [e]
        have hx := extraG_ok ha han hn hj j4 hh (fun hp h => hb ⟨hp, h⟩) (fun h => by
          subst h
          refine Classical.byContradiction fun hne => hb9 ⟨rfl, by omega⟩)
        have hv : vdG l a j j = valU l a.toNat j := by
          have hp : ∀ i, i ≤ 9 → (128 : Int) ^ i * 2 ≤ 18446744073709551616 := by
            intro i hi
            have : ∀ i : Nat, i < 10 → (128 : Int) ^ i * 2 ≤ 18446744073709551616 := by decide
            exact this i (by omega)
          have hp8 : ∀ i, i ≤ 8 → (128 : Int) ^ i * 128 ≤ 18446744073709551616 := by
            intro i hi
            have : ∀ i : Nat, i < 9 → (128 : Int) ^ i * 128 ≤ 18446744073709551616 := by decide
            exact this i (by omega)
          have hg := wfB_get hw (a.toNat + j)
          by_cases h9 : j = 9
          · have hle : l.getD (a.toNat + j) 0 ≤ 1 := by
              subst h9
              refine Classical.byContradiction fun hne => hb9 ⟨rfl, by omega⟩
            have := vdG_eq (a := a) hw hj (M := 2) (by omega) (fun i hi => by rw [Int.mul_comm]; exact hp i (by omega)) j (Nat.le_refl _)
            rw [this, Nat.sub_self, Nat.add_zero]
          · have := vdG_eq (a := a) hw hj (M := 128) (by omega) (fun i hi => by rw [Int.mul_comm]; exact hp8 i (by omega)) j (Nat.le_refl _)
            rw [this, Nat.sub_self, Nat.add_zero]
        refine works_of (r := []) (bs := [roB l]) no_tabs (gOk_all l a n c j hj) ⟨by omega, by omega, loopG_ok ha han hn hw hj j4 hx (j + 1) (Nat.le_refl _)⟩ ndG ?_ (leG l)
        simp [tupK, tupG, leV, leL1, leV1, leC, hv]
def gGet : Sx.Loc := fun args bs => match args, bs with
  | [.v (.one (.slice 0 (.c 0) 1 (.s n) (.s _))), .v (.one (.sint .i64 a))], [⟨false, .ints k l⟩] => match decide (k = .u8) with
    | true => some (tupG (getU l n a).1 (getU l n a).2.1 (getU l n a).2.2, [roB l], [n ≤ l.length, n ≤ 1000000000, wfB l])
    | false => none
  | _, _ => none
def wantRo : List V → List Want
  | .v (.one (.slice _ _ _ _ _)) :: _ => [(false, .ints .u8)]
  | _ => []
theorem get_tab : TabOk Try.prog 37 (loc wantRo gGet) := loc_ok fun xs bs v bs' ob hg hob hokb => by
  unfold gGet at hg
  split at hg
  · rename_i n c a k l
    split at hg
    · rename_i hk
      injection hg with hg; injection hg with e1 e2; injection e2 with e2 e3
      subst e1; subst e2; subst e3
      have hk' : k = .u8 := of_decide_eq_true hk
      subst hk'
      exact get_works l n c a (hob _ (by simp)) (hob (n ≤ 1000000000) (by simp)) (hob (wfB l) (by simp))
    · cases hg
  · cases hg
end
section
/- bytes.GetInt, bytes.GetBlob: their runs. -/
open Go.Sx
def tabGI := tabs [(37, loc wantRo gGet)]
noncomputable def callGI (d : Nat) := callN Try.prog tabGI (fun _ => false) 100000 d
def osl (b o n c : Nat) : V := .v (.one (.slice b (.s o) 1 (.s n) (.s c)))
def owB (l : List Int) : SB := ⟨true, .ints .u8 l⟩
def gCloneO : Sx.Loc := fun args bs => match args, bs with
  | [.v (.one (.slice 0 (.s o) 1 (.s n) (.s _)))], [⟨false, .ints k l⟩] => match decide (k = .u8) with
    | true => some (bsl 1 n n, [roB l, owB ((l.drop o).take n)], [o + n ≤ l.length, n ≤ 1000000000])
    | false => none
  | _, _ => none
def tabGB := tabs [(37, loc wantRo gGet), (45, loc wantRo gCloneO)]
noncomputable def callGB (d : Nat) := callN Try.prog tabGB (fun _ => false) 100000 d
theorem gi1 : (fun (l : List Int) (a : Int) (n c : Nat) => retV [0] (callGI 4 25 [bsl 0 n c, si .i64 a] [roB l] [true])) = fun (l : List Int) (a : Int) (n : Nat) (c : Nat) => some (((V.tup [(V1.one (C.sint (IntKind.i64) (Go.bits Go.BinOp.xor IntKind.i64 (-1 : Int) (IntKind.wrap IntKind.i64 (Int.tdiv (Prod.fst (getU l n a)) (2 : Int)))))), (V1.one (C.sint (IntKind.i64) (Prod.fst (Prod.snd (getU l n a))))), (V1.one (C.sint (IntKind.i64) (Prod.snd (Prod.snd (getU l n a)))))]), ([(SB.mk (false) (Cells.ints (IntKind.u8) (l)))], [(0 : Int) ≤ Int.tdiv (Prod.fst (getU l n a)) (2 : Int) ∧ Int.tdiv (Prod.fst (getU l n a)) (2 : Int) ≤ (18446744073709551615 : Int), decide (Int.tmod (Prod.fst (getU l n a)) (2 : Int) = (1 : Int)) = true, n ≤ List.length l, n ≤ (1000000000 : Nat), wfB l]))) := by kernel_rfl
theorem gi0 : (fun (l : List Int) (a : Int) (n c : Nat) => retV [0] (callGI 4 25 [bsl 0 n c, si .i64 a] [roB l] [false])) = fun (l : List Int) (a : Int) (n : Nat) (c : Nat) => some (((V.tup [(V1.one (C.sint (IntKind.i64) (IntKind.wrap IntKind.i64 (Int.tdiv (Prod.fst (getU l n a)) (2 : Int))))), (V1.one (C.sint (IntKind.i64) (Prod.fst (Prod.snd (getU l n a))))), (V1.one (C.sint (IntKind.i64) (Prod.snd (Prod.snd (getU l n a)))))]), ([(SB.mk (false) (Cells.ints (IntKind.u8) (l)))], [(0 : Int) ≤ Int.tdiv (Prod.fst (getU l n a)) (2 : Int) ∧ Int.tdiv (Prod.fst (getU l n a)) (2 : Int) ≤ (18446744073709551615 : Int), decide (Int.tmod (Prod.fst (getU l n a)) (2 : Int) = (1 : Int)) = false, n ≤ List.length l, n ≤ (1000000000 : Nat), wfB l]))) := by kernel_rfl
theorem cO1 : (fun (l : List Int) (o n c : Nat) => retV [0, 2] (call0 4 45 [osl 0 o n c] [roB l] [false])) = fun (l : List Int) (o : Nat) (n : Nat) (c : Nat) => some (((V.v (V1.one (C.slice ((2 : Nat)) (N.c ((0 : Nat))) ((1 : Nat)) (N.s (n)) (N.s (n))))), ([(SB.mk (false) (Cells.ints (IntKind.u8) (l))), (SB.mk (true) (Cells.ints (IntKind.u8) ([] ++ List.take n (List.drop o l))))], [o + n ≤ List.length l, n * (1 : Nat) ≤ (140737488355328 : Nat), n ≤ (9223372036854775807 : Nat), (0 : Nat) < n]))) := by kernel_rfl
theorem cO2 : (fun (l : List Int) => retV [0] (call0 4 45 [.v (.one .nils)] [roB l] [])) = fun (l : List Int) => some (((V.v (V1.one (C.nils))), ([(SB.mk (false) (Cells.ints (IntKind.u8) (l)))], []))) := by kernel_rfl
theorem cO3 : (fun (l : List Int) (a : Addr) (c : Nat) => retV [0, 2] (call0 4 45 [.v (.one (.raw (.slice (some a) 0 c)))] [roB l] [])) = fun (l : List Int) (a : Go.Addr) (c : Nat) => some (((V.v (V1.one (C.slice ((2 : Nat)) (N.c ((0 : Nat))) ((1 : Nat)) (N.c ((0 : Nat))) (N.c ((0 : Nat)))))), ([(SB.mk (false) (Cells.ints (IntKind.u8) (l))), (SB.mk (true) (Cells.exp []))], []))) := by kernel_rfl
theorem gb0 : (fun (l : List Int) (a m : Int) (n c : Nat) => retV [0] (callGB 4 41 [bsl 0 n c, si .i64 a, si .i64 m] [roB l] [true])) = fun (l : List Int) (a : Int) (m : Int) (n : Nat) (c : Nat) => some (((V.tup [(V1.one (C.nils)), (V1.one (C.int (IntKind.i64) ((0 : Int)))), (V1.one (C.sint (IntKind.i64) (Prod.snd (Prod.snd (getU l n a)))))]), ([(SB.mk (false) (Cells.ints (IntKind.u8) (l)))], [(!decide (Prod.snd (Prod.snd (getU l n a)) = (0 : Int))) = true, n ≤ List.length l, n ≤ (1000000000 : Nat), wfB l]))) := by kernel_rfl
theorem gb1 : (fun (l : List Int) (a m : Int) (n c : Nat) => retV [0] (callGB 4 41 [bsl 0 n c, si .i64 a, si .i64 m] [roB l] [false, true])) = fun (l : List Int) (a : Int) (m : Int) (n : Nat) (c : Nat) => some (((V.tup [(V1.one (C.nils)), (V1.one (C.int (IntKind.i64) ((0 : Int)))), (V1.one (C.int (IntKind.i64) ((3 : Int))))]), ([(SB.mk (false) (Cells.ints (IntKind.u8) (l)))], [decide (m < (0 : Int)) = true, (!decide (Prod.snd (Prod.snd (getU l n a)) = (0 : Int))) = false, n ≤ List.length l, n ≤ (1000000000 : Nat), wfB l]))) := by kernel_rfl
theorem gb2 : (fun (l : List Int) (a m : Int) (n c : Nat) => retV [0] (callGB 4 41 [bsl 0 n c, si .i64 a, si .i64 m] [roB l] [false, false, true])) = fun (l : List Int) (a : Int) (m : Int) (n : Nat) (c : Nat) => some (((V.tup [(V1.one (C.nils)), (V1.one (C.int (IntKind.i64) ((0 : Int)))), (V1.one (C.int (IntKind.i64) ((3 : Int))))]), ([(SB.mk (false) (Cells.ints (IntKind.u8) (l)))], [decide (IntKind.wrap IntKind.u64 m < Prod.fst (getU l n a)) = true, decide (m < (0 : Int)) = false, (!decide (Prod.snd (Prod.snd (getU l n a)) = (0 : Int))) = false, n ≤ List.length l, n ≤ (1000000000 : Nat), wfB l]))) := by kernel_rfl
theorem gb3 : (fun (l : List Int) (a m : Int) (n c : Nat) => retV [0] (callGB 4 41 [bsl 0 n c, si .i64 a, si .i64 m] [roB l] [false, false, false, true])) = fun (l : List Int) (a : Int) (m : Int) (n : Nat) (c : Nat) => some (((V.tup [(V1.one (C.nils)), (V1.one (C.int (IntKind.i64) ((0 : Int)))), (V1.one (C.int (IntKind.i64) ((11 : Int))))]), ([(SB.mk (false) (Cells.ints (IntKind.u8) (l)))], [decide (IntKind.wrap IntKind.u64 ((↑n : Int) - Prod.fst (Prod.snd (getU l n a))) < Prod.fst (getU l n a)) = true, (-9223372036854775808 : Int) ≤ (↑n : Int) - Prod.fst (Prod.snd (getU l n a)) ∧ (↑n : Int) - Prod.fst (Prod.snd (getU l n a)) ≤ (9223372036854775807 : Int), decide (IntKind.wrap IntKind.u64 m < Prod.fst (getU l n a)) = false, decide (m < (0 : Int)) = false, (!decide (Prod.snd (Prod.snd (getU l n a)) = (0 : Int))) = false, n ≤ List.length l, n ≤ (1000000000 : Nat), wfB l]))) := by kernel_rfl
theorem gb4 : (fun (l : List Int) (a m : Int) (n c : Nat) => retV [0, 1] (callGB 4 41 [bsl 0 n c, si .i64 a, si .i64 m] [roB l] [false, false, false, false])) = fun (l : List Int) (a : Int) (m : Int) (n : Nat) (c : Nat) => some (((V.tup [(V1.one (C.slice ((1 : Nat)) (N.c ((0 : Nat))) ((1 : Nat)) (N.s (Nat.sub (Int.toNat (Prod.fst (Prod.snd (getU l n a)) + IntKind.wrap IntKind.i64 (Prod.fst (getU l n a)))) (Int.toNat (Prod.fst (Prod.snd (getU l n a)))))) (N.s (Nat.sub (Int.toNat (Prod.fst (Prod.snd (getU l n a)) + IntKind.wrap IntKind.i64 (Prod.fst (getU l n a)))) (Int.toNat (Prod.fst (Prod.snd (getU l n a)))))))), (V1.one (C.sint (IntKind.i64) (Prod.fst (Prod.snd (getU l n a)) + IntKind.wrap IntKind.i64 (Prod.fst (getU l n a))))), (V1.one (C.int (IntKind.i64) ((0 : Int))))]), ([(SB.mk (false) (Cells.ints (IntKind.u8) (l))), (SB.mk (true) (Cells.ints (IntKind.u8) (List.take (Nat.sub (Int.toNat (Prod.fst (Prod.snd (getU l n a)) + IntKind.wrap IntKind.i64 (Prod.fst (getU l n a)))) (Int.toNat (Prod.fst (Prod.snd (getU l n a))))) (List.drop (Int.toNat (Prod.fst (Prod.snd (getU l n a)))) l))))], [Int.toNat (Prod.fst (Prod.snd (getU l n a))) + Nat.sub (Int.toNat (Prod.fst (Prod.snd (getU l n a)) + IntKind.wrap IntKind.i64 (Prod.fst (getU l n a)))) (Int.toNat (Prod.fst (Prod.snd (getU l n a)))) ≤ List.length l, Nat.sub (Int.toNat (Prod.fst (Prod.snd (getU l n a)) + IntKind.wrap IntKind.i64 (Prod.fst (getU l n a)))) (Int.toNat (Prod.fst (Prod.snd (getU l n a)))) ≤ (1000000000 : Nat), (0 : Int) ≤ Prod.fst (Prod.snd (getU l n a)) + IntKind.wrap IntKind.i64 (Prod.fst (getU l n a)), Prod.fst (Prod.snd (getU l n a)) + IntKind.wrap IntKind.i64 (Prod.fst (getU l n a)) ≤ (↑c : Int), (0 : Int) ≤ Prod.fst (Prod.snd (getU l n a)), Prod.fst (Prod.snd (getU l n a)) ≤ (↑(Int.toNat (Prod.fst (Prod.snd (getU l n a)) + IntKind.wrap IntKind.i64 (Prod.fst (getU l n a)))) : Int), (-9223372036854775808 : Int) ≤ Prod.fst (Prod.snd (getU l n a)) + IntKind.wrap IntKind.i64 (Prod.fst (getU l n a)) ∧ Prod.fst (Prod.snd (getU l n a)) + IntKind.wrap IntKind.i64 (Prod.fst (getU l n a)) ≤ (9223372036854775807 : Int), decide (IntKind.wrap IntKind.u64 ((↑n : Int) - Prod.fst (Prod.snd (getU l n a))) < Prod.fst (getU l n a)) = false, (-9223372036854775808 : Int) ≤ (↑n : Int) - Prod.fst (Prod.snd (getU l n a)) ∧ (↑n : Int) - Prod.fst (Prod.snd (getU l n a)) ≤ (9223372036854775807 : Int), decide (IntKind.wrap IntKind.u64 m < Prod.fst (getU l n a)) = false, decide (m < (0 : Int)) = false, (!decide (Prod.snd (Prod.snd (getU l n a)) = (0 : Int))) = false, n ≤ List.length l, n ≤ (1000000000 : Nat), wfB l]))) := by kernel_rfl
end
section
/- bytes.GetInt, bytes.GetBlob: the contracts. -/
open Go.ChangeShapes Go.WideShapes Go.ChangeAt Go.RowKit Go.Sx
/-- what is known of what was got -/
structure GotU (l : List Int) (n : Nat) (a : Int) (j : Nat) : Prop where
  lt : j < 10
  a0 : 0 ≤ a
  e : getU l n a = (valU l a.toNat j, a + (j : Int) + 1, 0)
  more : ∀ t, t < j → 128 ≤ l.getD (a.toNat + t) 0
  last : l.getD (a.toNat + j) 0 < 128
  inn : a.toNat + j < n
  nn : 0 < j → l.getD (a.toNat + j) 0 ≠ 0
  top : j = 9 → l.getD (a.toNat + 9) 0 ≤ 1
theorem got_cases (l : List Int) (n : Nat) (a : Int) : (∃ j, GotU l n a j) ∨ ∃ e, getU l n a = (0, 0, e) ∧ (e = 2 ∨ e = 10 ∨ e = 11) := by
  by_cases h0 : a < 0 ∨ (n : Int) < a
  · exact .inr ⟨2, by unfold getU; rw [if_pos h0], .inl rfl⟩
  cases hs : scanU l n a.toNat 10 0 with
  | none =>
    by_cases h : n < a.toNat + 10
    · exact .inr ⟨11, by unfold getU; rw [if_neg h0, hs]; simp only; rw [if_pos h], .inr (.inr rfl)⟩
    · exact .inr ⟨10, by unfold getU; rw [if_neg h0, hs]; simp only; rw [if_neg h], .inr (.inl rfl)⟩
  | some j =>
    obtain ⟨j1, j2, j3, j4, j5⟩ := scanU_some hs
    by_cases hb : (0 < j ∧ l.getD (a.toNat + j) 0 = 0) ∨ (j = 9 ∧ 1 < l.getD (a.toNat + 9) 0)
    · exact .inr ⟨10, by unfold getU; rw [if_neg h0, hs]; simp only; rw [if_pos hb], .inr (.inl rfl)⟩
    · refine .inl ⟨j, by omega, by omega, ?_, fun t ht => (j3 t (by omega) ht).2, j5, j4, fun hp h => hb (.inl ⟨hp, h⟩), fun h => ?_⟩
      · unfold getU; rw [if_neg h0, hs]; simp only; rw [if_neg hb]
      · refine Classical.byContradiction fun hne => hb (.inr ⟨h, by omega⟩)
theorem pow128 : ∀ i : Nat, i < 10 → (128 : Int) ^ i * (if i = 9 then 2 else 128) ≤ 18446744073709551616 := by decide
theorem GotU.range {l : List Int} {n : Nat} {a : Int} {j : Nat} (h : GotU l n a j) (hw : wfB l) : 0 ≤ valU l a.toNat j ∧ valU l a.toNat j ≤ 18446744073709551615 := by
  refine ⟨valU_nn hw j _, ?_⟩
  have hg := wfB_get hw (a.toNat + j)
  have hp := pow128 j h.lt
  by_cases h9 : j = 9
  · rw [if_pos h9] at hp
    have hle : l.getD (a.toNat + j) 0 ≤ 1 := by rw [h9]; exact h.top h9
    have := valU_lt hw (M := 2) j a.toNat (by omega)
    rw [Int.mul_comm] at this
    omega
  · rw [if_neg h9] at hp
    have := valU_lt hw (M := 128) j a.toNat (by omega)
    rw [Int.mul_comm] at this
    omega
theorem getU_range {l : List Int} (hw : wfB l) (n : Nat) (a : Int) : 0 ≤ (getU l n a).1 ∧ (getU l n a).1 ≤ 18446744073709551615 := by
  rcases got_cases l n a with ⟨j, h⟩ | ⟨e, h, _⟩
  · rw [h.e]; exact h.range hw
  · rw [h]; show (0 : Int) ≤ 0 ∧ (0 : Int) ≤ 18446744073709551615; decide
theorem getU_place {l : List Int} {n : Nat} {a : Int} (h0 : (getU l n a).2.2 = 0) : 0 ≤ a ∧ a < (getU l n a).2.1 ∧ (getU l n a).2.1 ≤ n := by
  rcases got_cases l n a with ⟨j, h⟩ | ⟨e, h, he⟩
  · rw [h.e]
    have := h.inn; have := h.a0
    refine ⟨h.a0, ?_, ?_⟩
    · show a < a + (j : Int) + 1; omega
    · show a + (j : Int) + 1 ≤ n; omega
  · rw [h] at h0
    simp only at h0
    omega
/-- a number that may be below 0 -/
def unzz (v : Int) : Int := if v % 2 = 1 then -1 - v / 2 else v / 2
def getI (l : List Int) (n : Nat) (a : Int) : Int × Int × Int := (unzz (getU l n a).1, (getU l n a).2.1, (getU l n a).2.2)
/-- a blob of bytes -/
def getB (l : List Int) (n : Nat) (a m : Int) : List Int × Int × Int :=
  if (getU l n a).2.2 ≠ 0 then ([], 0, (getU l n a).2.2) else if m < 0 ∨ m < (getU l n a).1 then ([], 0, 3) else if (n : Int) - (getU l n a).2.1 < (getU l n a).1 then ([], 0, 11)
  else ((l.drop (getU l n a).2.1.toNat).take (getU l n a).1.toNat, (getU l n a).2.1 + (getU l n a).1, 0)
theorem tabGI_ok : ∀ f g, tabGI f = some g → TabOk Try.prog f g := tabs_ok fun x hx => by
  simp only [List.mem_cons, List.not_mem_nil, or_false] at hx
  rcases hx with rfl
  exact get_tab
def tupS (v t e : Int) : V := .tup [.one (.sint .i64 v), .one (.sint .i64 t), .one (.sint .i64 e)]
theorem wi64 {n : Int} (h0 : -9223372036854775808 ≤ n) (h1 : n ≤ 9223372036854775807) : IntKind.wrap .i64 n = n := by
  refine wrap_in ⟨?_, ?_⟩ <;> simp [IntKind.min, IntKind.max, IntKind.signed, IntKind.bits] <;> omega
theorem geti_works (l : List Int) (n c : Nat) (a : Int) (hn : n ≤ l.length) (hm : n ≤ 1000000000) (hw : wfB l) : Works Try.prog 25 [bsl 0 n c, si .i64 a] [roB l] (tupS (getI l n a).1 (getI l n a).2.1 (getI l n a).2.2) [roB l] := by
  have hr := getU_range hw n a
  have ed : Int.tdiv (getU l n a).1 2 = (getU l n a).1 / 2 := Int.tdiv_eq_ediv_of_nonneg hr.1
  have em : Int.tmod (getU l n a).1 2 = (getU l n a).1 % 2 := Int.tmod_eq_emod_of_nonneg hr.1
  have ew : IntKind.wrap .i64 ((getU l n a).1 / 2) = (getU l n a).1 / 2 := wi64 (by omega) (by omega)
  by_cases h : (getU l n a).1 % 2 = 1
  · have q := congrFun (congrFun (congrFun (congrFun gi1 l) a) n) c
    rw [ed, em, ew] at q
    refine works_of (r := []) tabGI_ok q ⟨by omega, decide_eq_true h, hn, hm, hw, trivial⟩ ndG ?_ (leG l)
    have en : bits .xor .i64 (-1) ((getU l n a).1 / 2) = -1 - (getU l n a).1 / 2 := by
      have := i64_not ((getU l n a).1 / 2).toNat (by omega)
      rwa [show ((((getU l n a).1 / 2).toNat : Nat) : Int) = (getU l n a).1 / 2 by omega] at this
    rw [en]
    simp [tupS, getI, unzz, h, leV, leL1, leV1, leC]
  · have q := congrFun (congrFun (congrFun (congrFun gi0 l) a) n) c
    rw [ed, em, ew] at q
    refine works_of (r := []) tabGI_ok q ⟨by omega, decide_eq_false h, hn, hm, hw, trivial⟩ ndG ?_ (leG l)
    simp [tupS, getI, unzz, h, leV, leL1, leV1, leC]
def gGetI : Sx.Loc := fun args bs => match args, bs with
  | [.v (.one (.slice 0 (.c 0) 1 (.s n) (.s _))), .v (.one (.sint .i64 a))], [⟨false, .ints k l⟩] => match decide (k = .u8) with
    | true => some (tupS (getI l n a).1 (getI l n a).2.1 (getI l n a).2.2, [roB l], [n ≤ l.length, n ≤ 1000000000, wfB l])
    | false => none
  | _, _ => none
theorem geti_tab : TabOk Try.prog 25 (loc wantRo gGetI) := loc_ok fun xs bs v bs' ob hg hob hokb => by
  unfold gGetI at hg
  split at hg
  · rename_i n c a k l
    split at hg
    · rename_i hk
      injection hg with hg; injection hg with e1 e2; injection e2 with e2 e3
      subst e1; subst e2; subst e3
      have hk' : k = .u8 := of_decide_eq_true hk
      subst hk'
      exact geti_works l n c a (hob _ (by simp)) (hob (n ≤ 1000000000) (by simp)) (hob (wfB l) (by simp))
    · cases hg
  · cases hg
/-! ### a copy of a part -/
theorem ndG2 : (List.range 1 ++ [2]).Nodup := by decide
theorem ndG1 : (List.range 1 ++ [1]).Nodup := by decide
theorem cloneO_works (l : List Int) (o n c : Nat) (hn : o + n ≤ l.length) (hx : n ≤ 1000000000) : Works Try.prog 45 [osl 0 o n c] [roB l] (bsl 1 n n) [roB l, owB ((l.drop o).take n)] := by
  by_cases h0 : n = 0
  · subst h0
    intro ρ K w us hm hu
    obtain ⟨u, s, rfl, ⟨⟨e, he, hu⟩, h1c⟩, hs⟩ := hu
    simp only [relVs] at hs; subst hs
    rcases hu with ⟨_, _, rfl⟩ | ⟨o', cap, rfl, _⟩
    · refine (works_of (r := []) (bs := [roB l]) (args := [.v (.one .nils)]) (v := .v (.one .nils)) (bs' := [roB l]) no_tabs (congrFun cO2 l) trivial ndG trivial (leG l) ρ K w [.slice none 0 0] hm ⟨_, _, rfl, ⟨rfl, rfl⟩, rfl⟩).mono fun e w' ⟨u, ρ', he, hv, hm'⟩ => ?_
      have hg := hm'.beside (ghost_rel w' (.ints .u8 []) (fun ρ g i r h => by simp at h) rfl) rfl
      have hl := hm'.len
      refine ⟨u, ρ' ++ [⟨0, 0, 0⟩], he, ?_, ?_⟩
      · obtain ⟨hv1, hv2⟩ := hv
        simp only [C.rel] at hv1
        refine ⟨⟨⟨0, 0, 0⟩, ?_, .inl ⟨rfl, rfl, hv1⟩⟩, hv2⟩
        rw [← List.append_assoc, List.getElem?_append_right (by rw [hl]; simp)]
        rw [hl]; rfl
      · rw [← List.append_assoc]; exact hg
    · refine (works_of (r := [2]) (bs := [roB l]) (v := bsl 1 0 0) (bs' := [roB l, owB []]) no_tabs (congrFun (congrFun (congrFun cO3 l) ⟨e.blk, o', none⟩) cap) trivial ndG2 ⟨rfl, rfl, rfl, rfl, Nat.le_refl _, Nat.le_refl _⟩ ⟨⟨fun h => h, rfl, rfl⟩, ⟨fun h => h, trivial⟩, trivial⟩ ρ K w _ hm ⟨_, _, rfl, ⟨rfl, h1c⟩, rfl⟩)
  · refine works_of (r := [2]) no_tabs (congrFun (congrFun (congrFun (congrFun cO1 l) o) n) c) ⟨hn, by omega, by omega, by omega, trivial⟩ ndG2 ⟨rfl, rfl, rfl, rfl, Nat.le_refl _, Nat.le_refl _⟩ ⟨⟨fun h => h, rfl, rfl⟩, ⟨fun h => h, rfl, rfl⟩, trivial⟩
theorem cloneO_tab : TabOk Try.prog 45 (loc wantRo gCloneO) := loc_ok fun xs bs v bs' ob hg hob hokb => by
  unfold gCloneO at hg
  split at hg
  · rename_i o n c k l
    split at hg
    · rename_i hk
      injection hg with hg; injection hg with e1 e2; injection e2 with e2 e3
      subst e1; subst e2; subst e3
      have hk' : k = .u8 := of_decide_eq_true hk
      subst hk'
      exact cloneO_works l o n c (hob _ (by simp)) (hob (n ≤ 1000000000) (by simp))
    · cases hg
  · cases hg
theorem tabGB_ok : ∀ f g, tabGB f = some g → TabOk Try.prog f g := tabs_ok fun x hx => by
  simp only [List.mem_cons, List.not_mem_nil, or_false] at hx
  rcases hx with rfl | rfl
  · exact get_tab
  · exact cloneO_tab
/-! ### a blob -/
def tup3 (b n : Nat) (t e : Int) : V := .tup [.one (.slice b (.c 0) 1 (.s n) (.s n)), .one (.sint .i64 t), .one (.sint .i64 e)]
theorem ghost_tup3 {f : FuncId} {args : List V} {l : List Int} {t e : Int} (h : Works Try.prog f args [roB l] (.tup [.one .nils, .one (.sint .i64 t), .one (.sint .i64 e)]) [roB l]) : Works Try.prog f args [roB l] (tup3 1 0 t e) [roB l, owB []] := by
  intro ρ K w us hm hu
  refine (h ρ K w us hm hu).mono fun en w' ⟨u, ρ', he, hv, hm'⟩ => ?_
  have hg := hm'.beside (ghost_rel w' (.ints .u8 []) (fun ρ g i r h => by simp at h) rfl) rfl
  have hl := hm'.len
  refine ⟨u, ρ' ++ [⟨0, 0, 0⟩], he, ?_, ?_⟩
  · obtain ⟨vs, hv1, hv2⟩ := hv
    refine ⟨vs, hv1, ?_⟩
    obtain ⟨v1, s1, rfl, ⟨h1, h1'⟩, h2⟩ := hv2
    simp only [C.rel] at h1
    refine ⟨v1, s1, rfl, ⟨⟨⟨0, 0, 0⟩, ?_, .inl ⟨rfl, rfl, h1⟩⟩, h1'⟩, ?_⟩
    · rw [← List.append_assoc, List.getElem?_append_right (by rw [hl]; simp)]
      rw [hl]; rfl
    · obtain ⟨v2, s2, rfl, ⟨h3, h3'⟩, v3, s3, rfl, ⟨h4, h4'⟩, h5⟩ := h2
      exact ⟨v2, _, rfl, ⟨h3, h3'⟩, v3, _, rfl, ⟨h4, h4'⟩, h5⟩
  · rw [← List.append_assoc]; exact hg
theorem getb_works (l : List Int) (n c : Nat) (a m : Int) (hn : n ≤ l.length) (hm : n ≤ 1000000000) (hw : wfB l) (hi : i64 m) : Works Try.prog 41 [bsl 0 n c, si .i64 a, si .i64 m] [roB l] (tup3 1 (getB l n a m).1.length (getB l n a m).2.1 (getB l n a m).2.2) [roB l, owB (getB l n a m).1] := capG_works fun hc => by
  have hr := getU_range hw n a
  have hp := getU_place (l := l) (n := n) (a := a)
  have app : ∀ {A : Type} {f g : List Int → Int → Int → Nat → Nat → A}, f = g → f l a m n c = g l a m n c := fun hh => by rw [hh]
  have err : ∀ (t e : Int), getB l n a m = ([], t, e) → Works Try.prog 41 [bsl 0 n c, si .i64 a, si .i64 m] [roB l] (.tup [.one .nils, .one (.sint .i64 t), .one (.sint .i64 e)]) [roB l] → Works Try.prog 41 [bsl 0 n c, si .i64 a, si .i64 m] [roB l] (tup3 1 (getB l n a m).1.length (getB l n a m).2.1 (getB l n a m).2.2) [roB l, owB (getB l n a m).1] := by
    intro t e he h
    rw [he]
    exact ghost_tup3 h
  by_cases h0 : (getU l n a).2.2 = 0
  · obtain ⟨p1, p2, p3⟩ := hp h0
    have q1 := app gb1
    have q2 := app gb2
    have q3 := app gb3
    have q4 := app gb4
    have hd : (!decide ((getU l n a).2.2 = 0)) = false := by rw [decide_eq_true h0]; rfl
    by_cases hm0 : m < 0
    · refine err 0 3 (by unfold getB; rw [if_neg (fun h => h h0), if_pos (.inl hm0)]) (works_of (r := []) tabGB_ok q1 ⟨decide_eq_true hm0, hd, hn, hm, hw, trivial⟩ ndG ?_ (leG l))
      simp [leV, leL1, leV1, leC]
    · have em : IntKind.wrap .u64 m = m := w64 (by omega) (by unfold i64 at hi; omega)
      by_cases hv : m < (getU l n a).1
      · refine err 0 3 (by unfold getB; rw [if_neg (fun h => h h0), if_pos (.inr hv)]) (works_of (r := []) tabGB_ok q2 ⟨by rw [em]; exact decide_eq_true hv, decide_eq_false hm0, hd, hn, hm, hw, trivial⟩ ndG ?_ (leG l))
        simp [leV, leL1, leV1, leC]
      · have en : IntKind.wrap .u64 ((n : Int) - (getU l n a).2.1) = (n : Int) - (getU l n a).2.1 := w64 (by omega) (by omega)
        by_cases hs : (n : Int) - (getU l n a).2.1 < (getU l n a).1
        · refine err 0 11 (by unfold getB; rw [if_neg (fun h => h h0), if_neg (by omega), if_pos hs]) (works_of (r := []) tabGB_ok q3 ⟨by rw [en]; exact decide_eq_true hs, by omega, by rw [em]; exact decide_eq_false hv, decide_eq_false hm0, hd, hn, hm, hw, trivial⟩ ndG ?_ (leG l))
          simp [leV, leL1, leV1, leC]
        · have e : getB l n a m = ((l.drop (getU l n a).2.1.toNat).take (getU l n a).1.toNat, (getU l n a).2.1 + (getU l n a).1, 0) := by
            unfold getB; rw [if_neg (fun h => h h0), if_neg (by omega), if_neg hs]
          have ew : IntKind.wrap .i64 (getU l n a).1 = (getU l n a).1 := wi64 (by omega) (by omega)
          have es : Nat.sub (Int.toNat ((getU l n a).2.1 + (getU l n a).1)) (Int.toNat (getU l n a).2.1) = (getU l n a).1.toNat := by
            show Int.toNat ((getU l n a).2.1 + (getU l n a).1) - Int.toNat (getU l n a).2.1 = _
            omega
          have el : ((l.drop (getU l n a).2.1.toNat).take (getU l n a).1.toNat).length = (getU l n a).1.toNat := by
            rw [List.length_take, List.length_drop]; omega
          rw [ew, es] at q4
          rw [e]
          refine works_of (r := [1]) tabGB_ok q4 ⟨by omega, by omega, by omega, by omega, by omega, by omega, by omega, by rw [en]; exact decide_eq_false hs, by omega, by rw [em]; exact decide_eq_false hv, decide_eq_false hm0, hd, hn, hm, hw, trivial⟩ ndG1 ?_ ⟨⟨fun h => h, rfl, rfl⟩, ⟨fun h => h, rfl, rfl⟩, trivial⟩
          simp [tup3, leV, leL1, leV1, leC, N.v, List.range, List.range.loop, el]
  · have hd : (!decide ((getU l n a).2.2 = 0)) = true := by rw [decide_eq_false h0]; rfl
    refine err 0 (getU l n a).2.2 (by unfold getB; rw [if_pos h0]) (works_of (r := []) tabGB_ok (app gb0) ⟨hd, hn, hm, hw, trivial⟩ ndG ?_ (leG l))
    simp [leV, leL1, leV1, leC]
def gGetB : Sx.Loc := fun args bs => match args, bs with
  | [.v (.one (.slice 0 (.c 0) 1 (.s n) (.s _))), .v (.one (.sint .i64 a)), .v (.one (.sint .i64 m))], [⟨false, .ints k l⟩] => match decide (k = .u8) with
    | true => some (tup3 1 (getB l n a m).1.length (getB l n a m).2.1 (getB l n a m).2.2, [roB l, owB (getB l n a m).1], [n ≤ l.length, n ≤ 1000000000, wfB l, i64 m])
    | false => none
  | _, _ => none
theorem getb_tab : TabOk Try.prog 41 (loc wantRo gGetB) := loc_ok fun xs bs v bs' ob hg hob hokb => by
  unfold gGetB at hg
  split at hg
  · rename_i n c a m k l
    split at hg
    · rename_i hk
      injection hg with hg; injection hg with e1 e2; injection e2 with e2 e3
      subst e1; subst e2; subst e3
      have hk' : k = .u8 := of_decide_eq_true hk
      subst hk'
      exact getb_works l n c a m (hob _ (by simp)) (hob (n ≤ 1000000000) (by simp)) (hob (wfB l) (by simp)) (hob (i64 m) (by simp))
    · cases hg
  · cases hg
end
section
/- What is put is got, and what is got was put: varints. -/
open Go.ChangeShapes Go.WideShapes Go.ChangeAt Go.RowKit Go.Sx
theorem scanU_eq {l : List Int} {n k j : Nat} (h1 : ∀ t, t < j → k + t < n ∧ 128 ≤ l.getD (k + t) 0) (h2 : k + j < n) (h3 : l.getD (k + j) 0 < 128) : ∀ (m i : Nat), i ≤ j → j < i + m → scanU l n k m i = some j
  | 0, i, h, h' => by omega
  | m + 1, i, h, h' => by
    unfold scanU
    by_cases hij : i = j
    · subst hij
      rw [if_pos h2, if_pos h3]
    · obtain ⟨a, b⟩ := h1 i (by omega)
      rw [if_pos a, if_neg (by omega)]
      exact scanU_eq h1 h2 h3 m (i + 1) (by omega) (by omega)
theorem drop_cons {l : List Int} {k : Nat} {x : Int} {r : List Int} (h : l.drop k = x :: r) : l.getD k 0 = x ∧ l.drop (k + 1) = r ∧ k < l.length := by
  have hk : k < l.length := by
    rcases Nat.lt_or_ge k l.length with h' | h'
    · exact h'
    · rw [List.drop_eq_nil_of_le h'] at h; cases h
  refine ⟨?_, ?_, hk⟩
  · rw [List.getD_eq_getElem?_getD, ← Nat.add_zero k, ← List.getElem?_drop, h]; rfl
  · rw [← List.drop_drop, h]; rfl
theorem drop_get {l : List Int} {k : Nat} (h : k < l.length) : l.drop k = l.getD k 0 :: l.drop (k + 1) := by
  rw [List.drop_eq_getElem_cons h, List.getD_eq_getElem?_getD, List.getElem?_eq_getElem h]; rfl
/-- a varint's bytes, where they lie -/
theorem vint_at : ∀ (m : Nat) {l : List Int} {k : Nat} {r : List Int}, l.drop k = vintN m ++ r → ∃ j, (vintN m).length = j + 1 ∧ (∀ t, t < j → 128 ≤ l.getD (k + t) 0) ∧ l.getD (k + j) 0 = ((m / 128 ^ j : Nat) : Int) ∧ m / 128 ^ j < 128 ∧ (0 < j → 128 ^ j ≤ m) ∧ valU l k j = m ∧ l.drop (k + j + 1) = r ∧ k + j < l.length := fun m => by
  induction m using Nat.strongRecOn with
  | _ m ih =>
    intro l k r h
    by_cases hm : m < 128
    · rw [vintN_small hm] at h ⊢
      obtain ⟨h1, h2, h3⟩ := drop_cons h
      refine ⟨0, rfl, fun t ht => by omega, by rw [Nat.add_zero, h1]; simp, by simpa using hm, fun h => by omega, ?_, h2, h3⟩
      unfold valU; rw [h1]; omega
    · rw [vintN_big hm] at h ⊢
      obtain ⟨h1, h2, h3⟩ := drop_cons h
      obtain ⟨j, j1, j2, j3, j4, j5, j6, j7, j8⟩ := ih (m / 128) (by omega) (l := l) (k := k + 1) (r := r) h2
      have hp : m / 128 ^ (j + 1) = m / 128 / 128 ^ j := by rw [Nat.pow_succ, Nat.mul_comm, Nat.div_div_eq_div_mul]
      refine ⟨j + 1, by rw [List.length_cons, j1], fun t ht => ?_, ?_, ?_, fun _ => ?_, ?_, ?_, ?_⟩
      · cases t with
        | zero => rw [Nat.add_zero, h1]; omega
        | succ t => have := j2 t (by omega); rwa [show k + (t + 1) = k + 1 + t by omega]
      · rw [show k + (j + 1) = k + 1 + j by omega, j3, hp]
      · rw [hp]; exact j4
      · cases j with
        | zero => simpa using (by omega : 128 ≤ m)
        | succ j =>
          have := j5 (by omega)
          rw [Nat.pow_succ]
          have h3 := Nat.mul_le_mul_right 128 this
          have h4 : m / 128 * 128 ≤ m := Nat.div_mul_le_self m 128
          omega
      · show l.getD k 0 % 128 + 128 * valU l (k + 1) j = m
        rw [h1, j6]; omega
      · rw [show k + (j + 1) + 1 = k + 1 + j + 1 by omega]; exact j7
      · omega
theorem pow_u64 : ∀ j : Nat, j < 20 → 10 ≤ j → 18446744073709551615 < 128 ^ j := by decide
/-- what was put is got -/
theorem getU_put {l : List Int} {n k : Nat} {m : Int} {r : List Int} (h : l.drop k = vint m ++ r) (hm : u64 m) (hn : k + (vint m).length ≤ n) : getU l n (k : Int) = (m, ((k + (vint m).length : Nat) : Int), 0) := by
  have hle := vint_le hm
  unfold vint at h hn hle ⊢
  obtain ⟨j, j1, j2, j3, j4, j5, j6, j7, j8⟩ := vint_at m.toNat h
  have hs : scanU l n k 10 0 = some j := scanU_eq (fun t ht => ⟨by omega, j2 t ht⟩) (by omega) (by rw [j3]; omega) 10 0 (by omega) (by omega)
  have hbad : ¬ ((0 < j ∧ l.getD (k + j) 0 = 0) ∨ (j = 9 ∧ 1 < l.getD (k + 9) 0)) := by
    rintro (⟨h1, h2⟩ | ⟨h1, h2⟩)
    · have := j5 h1
      rw [j3] at h2
      have hp : 0 < m.toNat / 128 ^ j := Nat.div_pos this (Nat.pow_pos (by decide))
      omega
    · subst h1
      rw [j3] at h2
      have : m.toNat / 128 ^ 9 ≤ 1 := by
        have h3 : m.toNat ≤ 18446744073709551615 := by unfold u64 at hm; omega
        omega
      omega
  unfold getU
  rw [if_neg (by omega), show ((k : Nat) : Int).toNat = k by omega, hs]
  simp only
  rw [if_neg hbad, j6, j1]
  unfold u64 at hm
  refine Prod.ext ?_ (Prod.ext ?_ rfl)
  · show ((m.toNat : Nat) : Int) = m; omega
  · show (k : Int) + (j : Int) + 1 = ((k + (j + 1) : Nat) : Int); omega
/-- what is got was put -/
theorem val_put {l : List Int} (hw : wfB l) : ∀ (j : Nat) {k : Nat}, k + j < l.length → (∀ t, t < j → 128 ≤ l.getD (k + t) 0) → l.getD (k + j) 0 < 128 → (0 < j → l.getD (k + j) 0 ≠ 0) → l.drop k = vintN (valU l k j).toNat ++ l.drop (k + j + 1) ∧ (0 < j → 128 ≤ valU l k j)
  | 0, k, hk, h1, h2, h3 => by
    have hb := wfB_get hw k
    rw [Nat.add_zero] at hk h2
    refine ⟨?_, fun h => by omega⟩
    unfold valU
    rw [vintN_small (by omega), drop_get hk, Nat.add_zero]
    show _ = _ :: ([] ++ _)
    rw [List.nil_append]
    congr 1; omega
  | j + 1, k, hk, h1, h2, h3 => by
    have hb := wfB_get hw k
    have hb2 := wfB_get hw (k + (j + 1))
    have h0 := h1 0 (by omega)
    rw [Nat.add_zero] at h0
    obtain ⟨i1, i2⟩ := val_put hw j (k := k + 1) (by omega) (fun t ht => by have := h1 (t + 1) (by omega); rwa [show k + 1 + t = k + (t + 1) by omega]) (by rwa [show k + 1 + j = k + (j + 1) by omega]) (fun _ => by rw [show k + 1 + j = k + (j + 1) by omega]; exact h3 (by omega))
    have hv : 1 ≤ valU l (k + 1) j := by
      cases j with
      | zero =>
        have := h3 (by omega)
        unfold valU
        rw [Nat.zero_add] at this h2 hb2
        omega
      | succ j => have := i2 (by omega); omega
    have e : valU l k (j + 1) = l.getD k 0 % 128 + 128 * valU l (k + 1) j := by conv => lhs; unfold valU
    refine ⟨?_, fun _ => by rw [e]; omega⟩
    rw [e, vintN_big (by omega), drop_get (by omega : k < l.length)]
    show _ = _ :: (_ ++ _)
    rw [show (l.getD k 0 % 128 + 128 * valU l (k + 1) j).toNat / 128 = (valU l (k + 1) j).toNat by omega, show k + (j + 1) + 1 = k + 1 + j + 1 by omega, ← i1]
    congr 1; omega
theorem getU_inv {l : List Int} (hw : wfB l) {n : Nat} (hn : n ≤ l.length) {k : Nat} (h : (getU l n (k : Int)).2.2 = 0) : ∃ m : Int, u64 m ∧ getU l n (k : Int) = (m, ((k + (vint m).length : Nat) : Int), 0) ∧ l.drop k = vint m ++ l.drop (k + (vint m).length) ∧ k + (vint m).length ≤ n := by
  rcases got_cases l n (k : Int) with ⟨j, g⟩ | ⟨e, he, hne⟩
  · have hr := g.range hw
    have gi := g.inn; have gm := g.more; have gl := g.last; have gn := g.nn
    rw [show ((k : Nat) : Int).toNat = k by omega] at hr gi gm gl gn
    obtain ⟨v1, _⟩ := val_put hw j (by omega) gm gl gn
    have hlen : (vint (valU l k j)).length = j + 1 := by
      obtain ⟨j', j1, _, _, _, _, _, j7, j8⟩ := vint_at (valU l k j).toNat v1
      have h1 := congrArg List.length j7
      rw [List.length_drop, List.length_drop] at h1
      unfold vint
      rw [j1]; omega
    refine ⟨valU l k j, hr, ?_, ?_, by rw [hlen]; omega⟩
    · rw [g.e, show ((k : Nat) : Int).toNat = k by omega, hlen]
      refine Prod.ext rfl (Prod.ext ?_ rfl)
      show (k : Int) + (j : Int) + 1 = ((k + (j + 1) : Nat) : Int); omega
    · rw [hlen, show k + (j + 1) = k + j + 1 by omega]; exact v1
  · rw [he] at h
    simp only at h
    omega
/-! ### numbers that may be below 0 -/
theorem unzz_zz (m : Int) : unzz (zz m) = m := by
  unfold unzz zz
  split <;> split <;> omega
theorem zz_unzz {w : Int} (h : 0 ≤ w) : zz (unzz w) = w := by
  unfold unzz zz
  split <;> split <;> omega
theorem unzz_i64 {w : Int} (h : u64 w) : i64 (unzz w) := by
  unfold unzz i64; unfold u64 at h
  split <;> omega
theorem getI_put {l : List Int} {n k : Nat} {m : Int} {r : List Int} (h : l.drop k = svint m ++ r) (hm : i64 m) (hn : k + (svint m).length ≤ n) : getI l n (k : Int) = (m, ((k + (svint m).length : Nat) : Int), 0) := by
  have := getU_put (m := zz m) h (zz_u64 hm) hn
  unfold getI
  rw [this, unzz_zz]
  rfl
theorem getI_inv {l : List Int} (hw : wfB l) {n : Nat} (hn : n ≤ l.length) {k : Nat} (h : (getI l n (k : Int)).2.2 = 0) : ∃ m : Int, i64 m ∧ getI l n (k : Int) = (m, ((k + (svint m).length : Nat) : Int), 0) ∧ l.drop k = svint m ++ l.drop (k + (svint m).length) ∧ k + (svint m).length ≤ n := by
  obtain ⟨w, w1, w2, w3, w4⟩ := getU_inv hw hn h
  have e : svint (unzz w) = vint w := by unfold svint; rw [zz_unzz w1.1]
  refine ⟨unzz w, unzz_i64 w1, ?_, ?_, ?_⟩
  · unfold getI; rw [w2, e]
  · rw [e]; exact w3
  · rw [e]; exact w4
/-! ### blobs -/
theorem getB_put {l : List Int} {n k : Nat} {b r : List Int} {m : Int} (h : l.drop k = vint ((b.length : Nat) : Int) ++ (b ++ r)) (hb : (b.length : Int) ≤ m) (hb2 : b.length ≤ 1000000000) (hn : k + (vint ((b.length : Nat) : Int)).length + b.length ≤ n) : getB l n (k : Int) m = (b, ((k + (vint ((b.length : Nat) : Int)).length + b.length : Nat) : Int), 0) := by
  have hu : u64 ((b.length : Nat) : Int) := ⟨by omega, by omega⟩
  have g := getU_put h hu (by omega : k + (vint ((b.length : Nat) : Int)).length ≤ n)
  have hd : l.drop (k + (vint ((b.length : Nat) : Int)).length) = b ++ r := by rw [← List.drop_drop, h, List.drop_left]
  unfold getB
  rw [g]
  simp only
  rw [if_neg (fun h => h rfl), if_neg (by omega), if_neg (by omega)]
  refine Prod.ext ?_ (Prod.ext ?_ rfl)
  · show List.take (((b.length : Nat) : Int)).toNat (List.drop (((k + (vint ((b.length : Nat) : Int)).length : Nat) : Int)).toNat l) = b
    rw [show (((k + (vint ((b.length : Nat) : Int)).length : Nat) : Int)).toNat = k + (vint ((b.length : Nat) : Int)).length by omega, hd, show (((b.length : Nat) : Int)).toNat = b.length by omega, List.take_left]
  · show ((k + (vint ((b.length : Nat) : Int)).length : Nat) : Int) + ((b.length : Nat) : Int) = ((k + (vint ((b.length : Nat) : Int)).length + b.length : Nat) : Int)
    omega
theorem getB_inv {l : List Int} (hw : wfB l) {n : Nat} (hn : n ≤ l.length) {k : Nat} {m : Int} (h : (getB l n (k : Int) m).2.2 = 0) : ∃ b : List Int, (b.length : Int) ≤ m ∧ getB l n (k : Int) m = (b, ((k + (vint ((b.length : Nat) : Int)).length + b.length : Nat) : Int), 0) ∧ l.drop k = vint ((b.length : Nat) : Int) ++ (b ++ l.drop (k + (vint ((b.length : Nat) : Int)).length + b.length)) ∧ k + (vint ((b.length : Nat) : Int)).length + b.length ≤ n := by
  unfold getB at h ⊢
  by_cases h0 : (getU l n (k : Int)).2.2 = 0
  · obtain ⟨w, w1, w2, w3, w4⟩ := getU_inv hw hn h0
    rw [w2] at h ⊢
    simp only at h ⊢
    rw [if_neg (fun h => h rfl)] at h ⊢
    unfold u64 at w1
    by_cases h1 : m < 0 ∨ m < w
    · rw [if_pos h1] at h; cases h
    · rw [if_neg h1] at h ⊢
      by_cases h2 : (n : Int) - ((k + (vint w).length : Nat) : Int) < w
      · rw [if_pos h2] at h; cases h
      · rw [if_neg h2] at h ⊢
        have hk : (((k + (vint w).length : Nat) : Int)).toNat = k + (vint w).length := by omega
        have hl : ((l.drop (k + (vint w).length)).take w.toNat).length = w.toNat := by rw [List.length_take, List.length_drop]; omega
        have hw2 : (((w.toNat : Nat)) : Int) = w := by omega
        rw [hk]
        refine ⟨(l.drop (k + (vint w).length)).take w.toNat, by rw [hl]; omega, ?_, ?_, ?_⟩
        · rw [hl, hw2]
          refine Prod.ext rfl (Prod.ext ?_ rfl)
          show ((k + (vint w).length : Nat) : Int) + w = ((k + (vint w).length + w.toNat : Nat) : Int)
          omega
        · rw [hl, hw2, w3]
          congr 1
          have ht := (List.take_append_drop w.toNat (l.drop (k + (vint w).length))).symm
          rwa [List.drop_drop] at ht
        · rw [hl, hw2]; omega
  · rw [if_pos h0] at h; exact absurd h h0
end
end Go.Proofs.Ytgkhbhddmafakaa
