/- command.Read: what it comes to, and the contract. bytes.Blob, command.Orders: their runs. bytes.Blob, command.Orders: the contracts. The reader's methods: their runs. The reader's methods: the contracts. command.Listed: its runs. command.Listed: the contract. What is written of commands and orders is read again; what is read is written again. SameOrders: its runs. SameOrders: the contract. CommandBack's runs. -/
import Derived.Test.YtgkhbhddmafakaaUa
namespace Go.Proofs.Ytgkhbhddmafakaa
section
open Go.ChangeShapes Go.WideShapes Go.ChangeAt Go.RowKit Go.Sx
abbrev GI := List Int → Nat → Int → Int × Int × Int
def gGetIF (F : GI) : Sx.Loc := fun args bs => match args, bs with
  | [.v (.one (.slice 0 (.c 0) 1 (.s n) (.s _))), .v (.one (.sint .i64 a))], [⟨false, .ints k l⟩] => match decide (k = .u8) with
    | true => some (tupS (F l n a).1 (F l n a).2.1 (F l n a).2.2, [roB l], [n ≤ l.length, n ≤ 1000000000, wfB l])
    | false => none
  | _, _ => none
theorem getiF_tab : TabOk Try.prog 25 (loc wantRo (gGetIF getI)) := loc_ok fun xs bs v bs' ob hg hob hokb => by
  unfold gGetIF at hg
  split at hg
  · rename_i n c a k l
    split at hg
    · rename_i hk
      injection hg with hg; injection hg with e1 e2; injection e2 with e2 e3
      subst e1; subst e2; subst e3
      have hk' : k = .u8 := of_decide_eq_true hk
      subst hk'
      exact geti_works l n c a (hob _ (by simp)) (hob (n ≤ 1000000000) (by simp)) (hob (wfB l) (by simp))
    · cases hg
  · cases hg
def tabRd (F : GI) := tabs [(25, loc wantRo (gGetIF F)), (11, loc (fun _ => []) gRight)]
noncomputable def callRd (F : GI) (d : Nat) := callN Try.prog (tabRd F) (fun _ => false) 100000 d
theorem tabRd_ok : ∀ f g, tabRd getI f = some g → TabOk Try.prog f g := tabs_ok fun x hx => by
  simp only [List.mem_cons, List.not_mem_nil, or_false] at hx
  rcases hx with rfl | rfl
  · exact getiF_tab
  · exact right_tab
noncomputable def rd (F : GI) (l : List Int) (n c : Nat) (h : List Bool) := retV [0] (callRd F 4 13 [bsl 0 n c] [roB l] h)
/-- the place of each number, and what is there -/
def tR (F : GI) (l : List Int) (n : Nat) : Nat → Int
  | 0 => 1
  | i + 1 => (F l n (tR F l n i)).2.1
def gR (F : GI) (l : List Int) (n i : Nat) : Int × Int × Int := F l n (tR F l n i)
def baseR (l : List Int) (n : Nat) : List Prop := [n ≤ l.length, n ≤ 1000000000, wfB l]
def okR (F : GI) (l : List Int) (n : Nat) : Nat → List Prop
  | 0 => [0 < l.length, 0 < (n : Int), decide ((n : Int) = 0) = false]
  | i + 1 => [decide (1073741824 < (gR F l n i).1) = false, decide ((gR F l n i).1 < -1) = false, (!decide ((gR F l n i).2.2 = 0)) = false] ++ baseR l n ++ okR F l n i
def f1R (F : GI) (l : List Int) (n i : Nat) : List Prop := [(!decide ((gR F l n i).2.2 = 0)) = true] ++ baseR l n ++ okR F l n i
def f2R (F : GI) (l : List Int) (n i : Nat) : List Prop := (decide ((gR F l n i).1 < -1) = true) :: ((!decide ((gR F l n i).2.2 = 0)) = false) :: (baseR l n ++ okR F l n i)
def f3R (F : GI) (l : List Int) (n i : Nat) : List Prop := [decide (1073741824 < (gR F l n i).1) = true, decide ((gR F l n i).1 < -1) = false, (!decide ((gR F l n i).2.2 = 0)) = false] ++ baseR l n ++ okR F l n i
def rF (F : GI) (l : List Int) (n : Nat) : Bool := rightF (l.getD 0 0) (gR F l n 0).1 (gR F l n 1).1 (gR F l n 2).1 (gR F l n 3).1
def noR : V := .tup [.agg [.int .u8 0, .int .i64 0, .int .i64 0, .int .i64 0, .int .i64 0], .one (.int .i64 109)]
def yesR (F : GI) (l : List Int) (n : Nat) : V := .tup [.agg [.sint .u8 (l.getD 0 0), .sint .i64 (gR F l n 0).1, .sint .i64 (gR F l n 1).1, .sint .i64 (gR F l n 2).1, .sint .i64 (gR F l n 3).1], .one (.int .i64 0)]
theorem rd0 : (fun F l n c => rd F l n c [true]) = fun (F : GI) (l : List Int) (n : Nat) (_ : Nat) => some (noR, [roB l], [decide ((n : Int) = 0) = true]) := by kernel_rfl
theorem rdX : (fun F l n c => rd F l n c (List.replicate 13 false ++ [true])) = fun (F : GI) (l : List Int) (n : Nat) (_ : Nat) => some (noR, [roB l], [(!decide ((F l n (tR F l n 3)).2.1 = (n : Int))) = true] ++ okR F l n 4) := by kernel_rfl
theorem rdY : (fun F l n c => rd F l n c (List.replicate 13 false ++ [false, true])) = fun (F : GI) (l : List Int) (n : Nat) (_ : Nat) => some (noR, [roB l], [(!rF F l n) = true, 0 ≤ l.getD 0 0 ∧ l.getD 0 0 < 256, (!decide ((F l n (tR F l n 3)).2.1 = (n : Int))) = false] ++ okR F l n 4) := by kernel_rfl
theorem rdZ : (fun F l n c => rd F l n c (List.replicate 13 false ++ [false, false])) = fun (F : GI) (l : List Int) (n : Nat) (_ : Nat) => some (yesR F l n, [roB l], [(!rF F l n) = false, 0 ≤ l.getD 0 0 ∧ l.getD 0 0 < 256, (!decide ((F l n (tR F l n 3)).2.1 = (n : Int))) = false] ++ okR F l n 4) := by kernel_rfl
theorem rdF10 : (fun F l n c => rd F l n c (List.replicate 1 false ++ [true])) = fun (F : GI) (l : List Int) (n : Nat) (_ : Nat) => some (noR, [roB l], f1R F l n 0) := by kernel_rfl
theorem rdF11 : (fun F l n c => rd F l n c (List.replicate 4 false ++ [true])) = fun (F : GI) (l : List Int) (n : Nat) (_ : Nat) => some (noR, [roB l], f1R F l n 1) := by kernel_rfl
theorem rdF12 : (fun F l n c => rd F l n c (List.replicate 7 false ++ [true])) = fun (F : GI) (l : List Int) (n : Nat) (_ : Nat) => some (noR, [roB l], f1R F l n 2) := by kernel_rfl
theorem rdF13 : (fun F l n c => rd F l n c (List.replicate 10 false ++ [true])) = fun (F : GI) (l : List Int) (n : Nat) (_ : Nat) => some (noR, [roB l], f1R F l n 3) := by kernel_rfl
theorem rdF1_all (F : GI) (l : List Int) (n c : Nat) : ∀ i, i < 4 → rd F l n c (List.replicate (1 + 3 * i) false ++ [true]) = some (noR, [roB l], f1R F l n i)
  | 0, _ => congrFun (congrFun (congrFun (congrFun rdF10 F) l) n) c
  | 1, _ => congrFun (congrFun (congrFun (congrFun rdF11 F) l) n) c
  | 2, _ => congrFun (congrFun (congrFun (congrFun rdF12 F) l) n) c
  | 3, _ => congrFun (congrFun (congrFun (congrFun rdF13 F) l) n) c
  | _ + 4, h => absurd h (by omega)
theorem rdF20 : (fun F l n c => rd F l n c (List.replicate 1 false ++ [false, true])) = fun (F : GI) (l : List Int) (n : Nat) (_ : Nat) => some (noR, [roB l], f2R F l n 0) := by kernel_rfl
theorem rdF21 : (fun F l n c => rd F l n c (List.replicate 4 false ++ [false, true])) = fun (F : GI) (l : List Int) (n : Nat) (_ : Nat) => some (noR, [roB l], f2R F l n 1) := by kernel_rfl
theorem rdF22 : (fun F l n c => rd F l n c (List.replicate 7 false ++ [false, true])) = fun (F : GI) (l : List Int) (n : Nat) (_ : Nat) => some (noR, [roB l], f2R F l n 2) := by kernel_rfl
theorem rdF23 : (fun F l n c => rd F l n c (List.replicate 10 false ++ [false, true])) = fun (F : GI) (l : List Int) (n : Nat) (_ : Nat) => some (noR, [roB l], f2R F l n 3) := by kernel_rfl
theorem rdF2_all (F : GI) (l : List Int) (n c : Nat) : ∀ i, i < 4 → rd F l n c (List.replicate (1 + 3 * i) false ++ [false, true]) = some (noR, [roB l], f2R F l n i)
  | 0, _ => congrFun (congrFun (congrFun (congrFun rdF20 F) l) n) c
  | 1, _ => congrFun (congrFun (congrFun (congrFun rdF21 F) l) n) c
  | 2, _ => congrFun (congrFun (congrFun (congrFun rdF22 F) l) n) c
  | 3, _ => congrFun (congrFun (congrFun (congrFun rdF23 F) l) n) c
  | _ + 4, h => absurd h (by omega)
theorem rdF30 : (fun F l n c => rd F l n c (List.replicate 1 false ++ [false, false, true])) = fun (F : GI) (l : List Int) (n : Nat) (_ : Nat) => some (noR, [roB l], f3R F l n 0) := by kernel_rfl
theorem rdF31 : (fun F l n c => rd F l n c (List.replicate 4 false ++ [false, false, true])) = fun (F : GI) (l : List Int) (n : Nat) (_ : Nat) => some (noR, [roB l], f3R F l n 1) := by kernel_rfl
theorem rdF32 : (fun F l n c => rd F l n c (List.replicate 7 false ++ [false, false, true])) = fun (F : GI) (l : List Int) (n : Nat) (_ : Nat) => some (noR, [roB l], f3R F l n 2) := by kernel_rfl
theorem rdF33 : (fun F l n c => rd F l n c (List.replicate 10 false ++ [false, false, true])) = fun (F : GI) (l : List Int) (n : Nat) (_ : Nat) => some (noR, [roB l], f3R F l n 3) := by kernel_rfl
theorem rdF3_all (F : GI) (l : List Int) (n c : Nat) : ∀ i, i < 4 → rd F l n c (List.replicate (1 + 3 * i) false ++ [false, false, true]) = some (noR, [roB l], f3R F l n i)
  | 0, _ => congrFun (congrFun (congrFun (congrFun rdF30 F) l) n) c
  | 1, _ => congrFun (congrFun (congrFun (congrFun rdF31 F) l) n) c
  | 2, _ => congrFun (congrFun (congrFun (congrFun rdF32 F) l) n) c
  | 3, _ => congrFun (congrFun (congrFun (congrFun rdF33 F) l) n) c
  | _ + 4, h => absurd h (by omega)
/-- each of the numbers is one -/
def good (l : List Int) (n i : Nat) : Prop := (gR getI l n i).2.2 = 0 ∧ -1 ≤ (gR getI l n i).1 ∧ (gR getI l n i).1 ≤ 1073741824
instance (l : List Int) (n i : Nat) : Decidable (good l n i) := by unfold good; infer_instance
def readOk (l : List Int) (n : Nat) : Prop := 0 < n ∧ good l n 0 ∧ good l n 1 ∧ good l n 2 ∧ good l n 3 ∧ (getI l n (tR getI l n 3)).2.1 = (n : Int) ∧ rF getI l n = true
instance (l : List Int) (n : Nat) : Decidable (readOk l n) := by unfold readOk; infer_instance
structure Cmd5 where
  d : Int
  A : Int
  B : Int
  C : Int
  N : Int
def readC (l : List Int) (n : Nat) : Cmd5 := if readOk l n then ⟨l.getD 0 0, (gR getI l n 0).1, (gR getI l n 1).1, (gR getI l n 2).1, (gR getI l n 3).1⟩ else ⟨0, 0, 0, 0, 0⟩
def readE (l : List Int) (n : Nat) : Int := if readOk l n then 0 else 109
def tupC (c : Cmd5) (e : Int) : V := .tup [.agg [.sint .u8 c.d, .sint .i64 c.A, .sint .i64 c.B, .sint .i64 c.C, .sint .i64 c.N], .one (.sint .i64 e)]
theorem baseR_ok {l : List Int} {n : Nat} (hn : n ≤ l.length) (hm : n ≤ 1000000000) (hw : wfB l) {r : List Prop} (hr : allP r) : allP (baseR l n ++ r) := ⟨hn, hm, hw, hr⟩
theorem okR_ok {l : List Int} {n : Nat} (hp : 0 < n) (hn : n ≤ l.length) (hm : n ≤ 1000000000) (hw : wfB l) : ∀ {i : Nat}, (∀ j, j < i → good l n j) → allP (okR getI l n i)
  | 0, _ => ⟨by omega, by omega, decide_eq_false (by omega), trivial⟩
  | i + 1, h => by
    obtain ⟨h1, h2, h3⟩ := h i (by omega)
    exact ⟨decide_eq_false (by omega), decide_eq_false (by omega), by rw [decide_eq_true h1]; rfl, baseR_ok hn hm hw (okR_ok hp hn hm hw fun j hj => h j (by omega))⟩
theorem read_works (l : List Int) (n c : Nat) (hn : n ≤ l.length) (hm : n ≤ 1000000000) (hw : wfB l) : Works Try.prog 13 [bsl 0 n c] [roB l] (tupC (readC l n) (readE l n)) [roB l] := by
  have no : ∀ (h : List Bool) (ob : List Prop), ¬ readOk l n → rd getI l n c h = some (noR, [roB l], ob) → allP ob → Works Try.prog 13 [bsl 0 n c] [roB l] (tupC (readC l n) (readE l n)) [roB l] := by
    intro h ob hno hr hob
    unfold readC readE
    rw [if_neg hno, if_neg hno]
    exact works_of (r := []) tabRd_ok hr hob ndG (by simp [noR, tupC, leV, leL1, leV1, leL, leC]) (leG l)
  by_cases h0 : n = 0
  · exact no [true] _ (fun h => by have := h.1; omega) (congrFun (congrFun (congrFun (congrFun rd0 getI) l) n) c) ⟨decide_eq_true (by omega), trivial⟩
  have hp : 0 < n := by omega
  have bad : ∀ i, i < 4 → (∀ j, j < i → good l n j) → ¬ good l n i → ¬ readOk l n → Works Try.prog 13 [bsl 0 n c] [roB l] (tupC (readC l n) (readE l n)) [roB l] := by
    intro i hi hb hg hno
    have hk := okR_ok hp hn hm hw hb
    by_cases e1 : (gR getI l n i).2.2 = 0
    · have d1 : (!decide ((gR getI l n i).2.2 = 0)) = false := by rw [decide_eq_true e1]; rfl
      by_cases e2 : (gR getI l n i).1 < -1
      · exact no _ _ hno (rdF2_all getI l n c i hi) ⟨decide_eq_true e2, d1, baseR_ok hn hm hw hk⟩
      · by_cases e3 : 1073741824 < (gR getI l n i).1
        · exact no _ _ hno (rdF3_all getI l n c i hi) ⟨decide_eq_true e3, decide_eq_false e2, d1, baseR_ok hn hm hw hk⟩
        · exact absurd ⟨e1, by omega, by omega⟩ hg
    · exact no _ _ hno (rdF1_all getI l n c i hi) ⟨by rw [decide_eq_false e1]; rfl, baseR_ok hn hm hw hk⟩
  by_cases g0 : good l n 0
  · by_cases g1 : good l n 1
    · by_cases g2 : good l n 2
      · by_cases g3 : good l n 3
        · have hk : allP (okR getI l n 4) := okR_ok hp hn hm hw fun j hj => by
            have : j = 0 ∨ j = 1 ∨ j = 2 ∨ j = 3 := by omega
            rcases this with rfl | rfl | rfl | rfl
            · exact g0
            · exact g1
            · exact g2
            · exact g3
          have hb := wfB_get hw 0
          by_cases ht : (getI l n (tR getI l n 3)).2.1 = (n : Int)
          · have d1 : (!decide ((getI l n (tR getI l n 3)).2.1 = (n : Int))) = false := by rw [decide_eq_true ht]; rfl
            cases hr : rF getI l n with
            | true =>
              have hok : readOk l n := ⟨hp, g0, g1, g2, g3, ht, hr⟩
              unfold readC readE
              rw [if_pos hok, if_pos hok]
              refine works_of (r := []) tabRd_ok (congrFun (congrFun (congrFun (congrFun rdZ getI) l) n) c) ⟨by rw [hr]; rfl, hb, d1, hk⟩ ndG ?_ (leG l)
              simp [yesR, tupC, leV, leL1, leV1, leL, leC]
            | false => exact no _ _ (fun h => by have := h.2.2.2.2.2.2; rw [hr] at this; cases this) (congrFun (congrFun (congrFun (congrFun rdY getI) l) n) c) ⟨by rw [hr]; rfl, hb, d1, hk⟩
          · exact no _ _ (fun h => ht h.2.2.2.2.2.1) (congrFun (congrFun (congrFun (congrFun rdX getI) l) n) c) ⟨by rw [decide_eq_false ht]; rfl, hk⟩
        · exact bad 3 (by omega) (fun j hj => by
            have : j = 0 ∨ j = 1 ∨ j = 2 := by omega
            rcases this with rfl | rfl | rfl
            · exact g0
            · exact g1
            · exact g2) g3 (fun h => g3 h.2.2.2.2.1)
      · exact bad 2 (by omega) (fun j hj => by
          have : j = 0 ∨ j = 1 := by omega
          rcases this with rfl | rfl
          · exact g0
          · exact g1) g2 (fun h => g2 h.2.2.2.1)
    · exact bad 1 (by omega) (fun j hj => by
        have : j = 0 := by omega
        rw [this]; exact g0) g1 (fun h => g1 h.2.2.1)
  · exact bad 0 (by omega) (fun j hj => by omega) g0 (fun h => g0 h.2.1)
def gRead : Sx.Loc := fun args bs => match args, bs with
  | [.v (.one (.slice 0 (.c 0) 1 (.s n) (.s _)))], [⟨false, .ints k l⟩] => match decide (k = .u8) with
    | true => some (tupC (readC l n) (readE l n), [roB l], [n ≤ l.length, n ≤ 1000000000, wfB l])
    | false => none
  | _, _ => none
theorem read_tab : TabOk Try.prog 13 (loc wantRo gRead) := loc_ok fun xs bs v bs' ob hg hob hokb => by
  unfold gRead at hg
  split at hg
  · rename_i n c k l
    split at hg
    · rename_i hk
      injection hg with hg; injection hg with e1 e2; injection e2 with e2 e3
      subst e1; subst e2; subst e3
      have hk' : k = .u8 := of_decide_eq_true hk
      subst hk'
      exact read_works l n c (hob _ (by simp)) (hob (n ≤ 1000000000) (by simp)) (hob (wfB l) (by simp))
    · cases hg
  · cases hg
end
section
open Go.Sx
def tabBl := tabs [(27, loc ownB1 (putL .u64 vint u64))]
noncomputable def callBl (d : Nat) := callN Try.prog tabBl (fun f => Nat.beq f 27) 100000 d
theorem bl1 : (fun (l b : List Int) (c n d : Nat) => retV [0, 1, 3] (callBl 4 28 [bsl 0 l.length c, bsl 1 n d] [owB l, roB b] [true, false])) = fun (l : List Int) (b : List Int) (c : Nat) (n : Nat) (d : Nat) => some (((V.v (V1.one (C.slice ((3 : Nat)) (N.c ((0 : Nat))) ((1 : Nat)) (N.s (List.length (l ++ vint (IntKind.wrap IntKind.u64 (↑n : Int))) + n)) (N.s (List.length (l ++ vint (IntKind.wrap IntKind.u64 (↑n : Int))) + n))))), ([(SB.mk (true) (Cells.dead)), (SB.mk (false) (Cells.ints (IntKind.u8) (b))), (SB.mk (true) (Cells.ints (IntKind.u8) (l ++ vint (IntKind.wrap IntKind.u64 (↑n : Int)) ++ List.take n (List.drop (0 : Nat) b))))], [(0 : Nat) = (0 : Nat), List.length (l ++ vint (IntKind.wrap IntKind.u64 (↑n : Int))) = List.length (l ++ vint (IntKind.wrap IntKind.u64 (↑n : Int))), (0 : Nat) + n ≤ List.length b, (List.length (l ++ vint (IntKind.wrap IntKind.u64 (↑n : Int))) + n) * (1 : Nat) ≤ (140737488355328 : Nat), List.length (l ++ vint (IntKind.wrap IntKind.u64 (↑n : Int))) + n ≤ (9223372036854775807 : Nat), u64 (IntKind.wrap IntKind.u64 (↑n : Int)), List.length l = List.length l, List.length l + (10 : Nat) ≤ (140737488355328 : Nat)]))) := by kernel_rfl
def blobW : List V → List Want := fun _ => [(true, .ints .u8), (false, .ints .u8)]
def gBlob : Sx.Loc := fun args bs => match args, bs with
  | [.v (.one (.slice 0 (.c 0) 1 (.s a) (.s _))), .v (.one (.slice 1 (.c 0) 1 (.s m) (.s _)))], [⟨true, .ints k l⟩, ⟨false, .ints k' b⟩] => match decide (k = .u8) && decide (k' = .u8) with
    | true => some (bsl 2 (l ++ vint (m : Nat) ++ b.take m).length (l ++ vint (m : Nat) ++ b.take m).length, [⟨true, .dead⟩, roB b, owB (l ++ vint (m : Nat) ++ b.take m)], [a = l.length, m ≤ b.length, l.length + m + 20 ≤ 140737488355328])
    | false => none
  | _, _ => none
def effO : FuncId → Bool := fun f => Nat.beq f 27 || Nat.beq f 28 || Nat.beq f 21
def tabO := tabs [(27, loc ownB1 (putL .u64 vint u64)), (28, loc blobW gBlob), (8, fresh gBytes)]
noncomputable def callO (d : Nat) := callN Try.prog tabO effO 100000 d
def ksO : List IntKind := [.i64, .i64, .u8, .i64, .i64, .i64, .i64]
def roO (l : List (List Int)) : SB := ⟨false, .recs ksO l⟩
def slO (b n c : Nat) : V := .v (.one (.slice b (.c 0) 7 (.s n) (.s c)))
noncomputable def bodyF (f : Go.FuncId) : Go.Code := match Try.prog.funcs[f]? with | some fn => (match fn.body with | some c => c | none => .skip) | none => .skip
noncomputable def LO := loopN Try.prog 15 0
noncomputable def EO : List Item := .code (.loop LO.1) :: LO.2
noncomputable def KO : List Item := .inLoop LO.1 :: LO.2
noncomputable def FO : Go.Func := match Try.prog.funcs[15]? with | some fn => fn | none => default
def TO (l : List (List Int)) (n c : Nat) (out : List Int) (i : Nat) (h : List Bool) : St := ⟨[(4, bsl 1 out.length out.length), (16, slO 0 n c), (17, si .i64 n), (18, si .i64 i)], [roO l, owB out], h, []⟩
noncomputable def rndO (lim : Nat) (h : List Bool) (l : List (List Int)) (n c : Nat) (out : List Int) (i : Nat) := run Try.prog (callO 4) effO FO lim 100000 [] (.code LO.1 :: .inLoop LO.1 :: LO.2) (TO l n c out i h)
theorem orBig : (fun (l : List (List Int)) (n c : Nat) => retV [0] (callO 4 15 [slO 0 n c] [roO l] [true])) = fun (l : List (List Int)) (n : Nat) (c : Nat) => some (((V.tup [(V1.one (C.nils)), (V1.one (C.int (IntKind.i64) ((109 : Int))))]), ([(SB.mk (false) (Cells.recs (ksO) (l)))], [decide ((1000 : Int) < (↑n : Int)) = true]))) := by kernel_rfl
theorem orE : (fun (l : List (List Int)) (n c : Nat) => stopV [4, 16, 17, 18] [0, 1] (run Try.prog (callO 4) effO FO 0 100000 [false] [.code (bodyF 15)] ⟨argSlots 0 [slO 0 n c], [roO l], [false], []⟩)) = fun (l : List (List Int)) (n : Nat) (c : Nat) => some ((EO, ([(((4 : Nat)), (V.v (V1.one (C.slice ((1 : Nat)) (N.c ((0 : Nat))) ((1 : Nat)) (N.s (List.length (vint (IntKind.wrap IntKind.u64 (↑n : Int))))) (N.s (List.length (vint (IntKind.wrap IntKind.u64 (↑n : Int))))))))), (((16 : Nat)), (V.v (V1.one (C.slice ((0 : Nat)) (N.c ((0 : Nat))) ((7 : Nat)) (N.s (n)) (N.s (c)))))), (((17 : Nat)), (V.v (V1.one (C.sint (IntKind.i64) ((↑n : Int)))))), (((18 : Nat)), (V.v (V1.one (C.int (IntKind.i64) ((0 : Int))))))], ([(SB.mk (false) (Cells.recs (ksO) (l))), (SB.mk (true) (Cells.ints (IntKind.u8) (vint (IntKind.wrap IntKind.u64 (↑n : Int)))))], [u64 (IntKind.wrap IntKind.u64 (↑n : Int)), decide ((1000 : Int) < (↑n : Int)) = false])))) := by kernel_rfl
theorem orR : (fun (l : List (List Int)) (n c : Nat) (out : List Int) (i : Nat) => stopV [4, 16, 17, 18] [0, 6] (rndO (LO.2.length + 1) [true, true, false, false, false] l n c out i)) = fun (l : List (List Int)) (n : Nat) (c : Nat) (out : List Int) (i : Nat) => some ((KO, ([(((4 : Nat)), (V.v (V1.one (C.slice ((6 : Nat)) (N.c ((0 : Nat))) ((1 : Nat)) (N.s (List.length (out ++ vint (IntKind.wrap IntKind.u64 (List.getD (List.getD l (i) []) (0 : Nat) (0 : Int))) ++ vint (IntKind.wrap IntKind.u64 (List.getD (List.getD l (i) []) (1 : Nat) (0 : Int))) ++ vint (↑(List.length (cmdB (List.getD (List.getD l (i) []) (2 : Nat) (0 : Int)) (List.getD (List.getD l (i) []) (3 : Nat) (0 : Int)) (List.getD (List.getD l (i) []) (4 : Nat) (0 : Int)) (List.getD (List.getD l (i) []) (5 : Nat) (0 : Int)) (List.getD (List.getD l (i) []) (6 : Nat) (0 : Int)))) : Int) ++ List.take (List.length (cmdB (List.getD (List.getD l (i) []) (2 : Nat) (0 : Int)) (List.getD (List.getD l (i) []) (3 : Nat) (0 : Int)) (List.getD (List.getD l (i) []) (4 : Nat) (0 : Int)) (List.getD (List.getD l (i) []) (5 : Nat) (0 : Int)) (List.getD (List.getD l (i) []) (6 : Nat) (0 : Int)))) (cmdB (List.getD (List.getD l (i) []) (2 : Nat) (0 : Int)) (List.getD (List.getD l (i) []) (3 : Nat) (0 : Int)) (List.getD (List.getD l (i) []) (4 : Nat) (0 : Int)) (List.getD (List.getD l (i) []) (5 : Nat) (0 : Int)) (List.getD (List.getD l (i) []) (6 : Nat) (0 : Int)))))) (N.s (List.length (out ++ vint (IntKind.wrap IntKind.u64 (List.getD (List.getD l (i) []) (0 : Nat) (0 : Int))) ++ vint (IntKind.wrap IntKind.u64 (List.getD (List.getD l (i) []) (1 : Nat) (0 : Int))) ++ vint (↑(List.length (cmdB (List.getD (List.getD l (i) []) (2 : Nat) (0 : Int)) (List.getD (List.getD l (i) []) (3 : Nat) (0 : Int)) (List.getD (List.getD l (i) []) (4 : Nat) (0 : Int)) (List.getD (List.getD l (i) []) (5 : Nat) (0 : Int)) (List.getD (List.getD l (i) []) (6 : Nat) (0 : Int)))) : Int) ++ List.take (List.length (cmdB (List.getD (List.getD l (i) []) (2 : Nat) (0 : Int)) (List.getD (List.getD l (i) []) (3 : Nat) (0 : Int)) (List.getD (List.getD l (i) []) (4 : Nat) (0 : Int)) (List.getD (List.getD l (i) []) (5 : Nat) (0 : Int)) (List.getD (List.getD l (i) []) (6 : Nat) (0 : Int)))) (cmdB (List.getD (List.getD l (i) []) (2 : Nat) (0 : Int)) (List.getD (List.getD l (i) []) (3 : Nat) (0 : Int)) (List.getD (List.getD l (i) []) (4 : Nat) (0 : Int)) (List.getD (List.getD l (i) []) (5 : Nat) (0 : Int)) (List.getD (List.getD l (i) []) (6 : Nat) (0 : Int)))))))))), (((16 : Nat)), (V.v (V1.one (C.slice ((0 : Nat)) (N.c ((0 : Nat))) ((7 : Nat)) (N.s (n)) (N.s (c)))))), (((17 : Nat)), (V.v (V1.one (C.sint (IntKind.i64) ((↑n : Int)))))), (((18 : Nat)), (V.v (V1.one (C.sint (IntKind.i64) ((↑i : Int) + (1 : Int))))))], ([(SB.mk (false) (Cells.recs (ksO) (l))), (SB.mk (true) (Cells.ints (IntKind.u8) (out ++ vint (IntKind.wrap IntKind.u64 (List.getD (List.getD l (i) []) (0 : Nat) (0 : Int))) ++ vint (IntKind.wrap IntKind.u64 (List.getD (List.getD l (i) []) (1 : Nat) (0 : Int))) ++ vint (↑(List.length (cmdB (List.getD (List.getD l (i) []) (2 : Nat) (0 : Int)) (List.getD (List.getD l (i) []) (3 : Nat) (0 : Int)) (List.getD (List.getD l (i) []) (4 : Nat) (0 : Int)) (List.getD (List.getD l (i) []) (5 : Nat) (0 : Int)) (List.getD (List.getD l (i) []) (6 : Nat) (0 : Int)))) : Int) ++ List.take (List.length (cmdB (List.getD (List.getD l (i) []) (2 : Nat) (0 : Int)) (List.getD (List.getD l (i) []) (3 : Nat) (0 : Int)) (List.getD (List.getD l (i) []) (4 : Nat) (0 : Int)) (List.getD (List.getD l (i) []) (5 : Nat) (0 : Int)) (List.getD (List.getD l (i) []) (6 : Nat) (0 : Int)))) (cmdB (List.getD (List.getD l (i) []) (2 : Nat) (0 : Int)) (List.getD (List.getD l (i) []) (3 : Nat) (0 : Int)) (List.getD (List.getD l (i) []) (4 : Nat) (0 : Int)) (List.getD (List.getD l (i) []) (5 : Nat) (0 : Int)) (List.getD (List.getD l (i) []) (6 : Nat) (0 : Int))))))], [(-9223372036854775808 : Int) ≤ (↑i : Int) + (1 : Int) ∧ (↑i : Int) + (1 : Int) ≤ (9223372036854775807 : Int), l = l, List.getD (List.getD l (i) []) (0 : Nat) (0 : Int) = List.getD (List.getD l (i) []) (0 : Nat) (0 : Int), List.getD (List.getD l (i) []) (1 : Nat) (0 : Int) = List.getD (List.getD l (i) []) (1 : Nat) (0 : Int), List.getD (List.getD l (i) []) (2 : Nat) (0 : Int) = List.getD (List.getD l (i) []) (2 : Nat) (0 : Int), List.getD (List.getD l (i) []) (3 : Nat) (0 : Int) = List.getD (List.getD l (i) []) (3 : Nat) (0 : Int), List.getD (List.getD l (i) []) (4 : Nat) (0 : Int) = List.getD (List.getD l (i) []) (4 : Nat) (0 : Int), List.getD (List.getD l (i) []) (5 : Nat) (0 : Int) = List.getD (List.getD l (i) []) (5 : Nat) (0 : Int), List.getD (List.getD l (i) []) (6 : Nat) (0 : Int) = List.getD (List.getD l (i) []) (6 : Nat) (0 : Int), cmdB (List.getD (List.getD l (i) []) (2 : Nat) (0 : Int)) (List.getD (List.getD l (i) []) (3 : Nat) (0 : Int)) (List.getD (List.getD l (i) []) (4 : Nat) (0 : Int)) (List.getD (List.getD l (i) []) (5 : Nat) (0 : Int)) (List.getD (List.getD l (i) []) (6 : Nat) (0 : Int)) = cmdB (List.getD (List.getD l (i) []) (2 : Nat) (0 : Int)) (List.getD (List.getD l (i) []) (3 : Nat) (0 : Int)) (List.getD (List.getD l (i) []) (4 : Nat) (0 : Int)) (List.getD (List.getD l (i) []) (5 : Nat) (0 : Int)) (List.getD (List.getD l (i) []) (6 : Nat) (0 : Int)), out ++ vint (IntKind.wrap IntKind.u64 (List.getD (List.getD l (i) []) (0 : Nat) (0 : Int))) ++ vint (IntKind.wrap IntKind.u64 (List.getD (List.getD l (i) []) (1 : Nat) (0 : Int))) ++ vint (↑(List.length (cmdB (List.getD (List.getD l (i) []) (2 : Nat) (0 : Int)) (List.getD (List.getD l (i) []) (3 : Nat) (0 : Int)) (List.getD (List.getD l (i) []) (4 : Nat) (0 : Int)) (List.getD (List.getD l (i) []) (5 : Nat) (0 : Int)) (List.getD (List.getD l (i) []) (6 : Nat) (0 : Int)))) : Int) ++ List.take (List.length (cmdB (List.getD (List.getD l (i) []) (2 : Nat) (0 : Int)) (List.getD (List.getD l (i) []) (3 : Nat) (0 : Int)) (List.getD (List.getD l (i) []) (4 : Nat) (0 : Int)) (List.getD (List.getD l (i) []) (5 : Nat) (0 : Int)) (List.getD (List.getD l (i) []) (6 : Nat) (0 : Int)))) (cmdB (List.getD (List.getD l (i) []) (2 : Nat) (0 : Int)) (List.getD (List.getD l (i) []) (3 : Nat) (0 : Int)) (List.getD (List.getD l (i) []) (4 : Nat) (0 : Int)) (List.getD (List.getD l (i) []) (5 : Nat) (0 : Int)) (List.getD (List.getD l (i) []) (6 : Nat) (0 : Int))) = out ++ vint (IntKind.wrap IntKind.u64 (List.getD (List.getD l (i) []) (0 : Nat) (0 : Int))) ++ vint (IntKind.wrap IntKind.u64 (List.getD (List.getD l (i) []) (1 : Nat) (0 : Int))) ++ vint (↑(List.length (cmdB (List.getD (List.getD l (i) []) (2 : Nat) (0 : Int)) (List.getD (List.getD l (i) []) (3 : Nat) (0 : Int)) (List.getD (List.getD l (i) []) (4 : Nat) (0 : Int)) (List.getD (List.getD l (i) []) (5 : Nat) (0 : Int)) (List.getD (List.getD l (i) []) (6 : Nat) (0 : Int)))) : Int) ++ List.take (List.length (cmdB (List.getD (List.getD l (i) []) (2 : Nat) (0 : Int)) (List.getD (List.getD l (i) []) (3 : Nat) (0 : Int)) (List.getD (List.getD l (i) []) (4 : Nat) (0 : Int)) (List.getD (List.getD l (i) []) (5 : Nat) (0 : Int)) (List.getD (List.getD l (i) []) (6 : Nat) (0 : Int)))) (cmdB (List.getD (List.getD l (i) []) (2 : Nat) (0 : Int)) (List.getD (List.getD l (i) []) (3 : Nat) (0 : Int)) (List.getD (List.getD l (i) []) (4 : Nat) (0 : Int)) (List.getD (List.getD l (i) []) (5 : Nat) (0 : Int)) (List.getD (List.getD l (i) []) (6 : Nat) (0 : Int))), List.length (out ++ vint (IntKind.wrap IntKind.u64 (List.getD (List.getD l (i) []) (0 : Nat) (0 : Int))) ++ vint (IntKind.wrap IntKind.u64 (List.getD (List.getD l (i) []) (1 : Nat) (0 : Int))) ++ vint (↑(List.length (cmdB (List.getD (List.getD l (i) []) (2 : Nat) (0 : Int)) (List.getD (List.getD l (i) []) (3 : Nat) (0 : Int)) (List.getD (List.getD l (i) []) (4 : Nat) (0 : Int)) (List.getD (List.getD l (i) []) (5 : Nat) (0 : Int)) (List.getD (List.getD l (i) []) (6 : Nat) (0 : Int)))) : Int) ++ List.take (List.length (cmdB (List.getD (List.getD l (i) []) (2 : Nat) (0 : Int)) (List.getD (List.getD l (i) []) (3 : Nat) (0 : Int)) (List.getD (List.getD l (i) []) (4 : Nat) (0 : Int)) (List.getD (List.getD l (i) []) (5 : Nat) (0 : Int)) (List.getD (List.getD l (i) []) (6 : Nat) (0 : Int)))) (cmdB (List.getD (List.getD l (i) []) (2 : Nat) (0 : Int)) (List.getD (List.getD l (i) []) (3 : Nat) (0 : Int)) (List.getD (List.getD l (i) []) (4 : Nat) (0 : Int)) (List.getD (List.getD l (i) []) (5 : Nat) (0 : Int)) (List.getD (List.getD l (i) []) (6 : Nat) (0 : Int)))) = List.length (out ++ vint (IntKind.wrap IntKind.u64 (List.getD (List.getD l (i) []) (0 : Nat) (0 : Int))) ++ vint (IntKind.wrap IntKind.u64 (List.getD (List.getD l (i) []) (1 : Nat) (0 : Int))) ++ vint (↑(List.length (cmdB (List.getD (List.getD l (i) []) (2 : Nat) (0 : Int)) (List.getD (List.getD l (i) []) (3 : Nat) (0 : Int)) (List.getD (List.getD l (i) []) (4 : Nat) (0 : Int)) (List.getD (List.getD l (i) []) (5 : Nat) (0 : Int)) (List.getD (List.getD l (i) []) (6 : Nat) (0 : Int)))) : Int) ++ List.take (List.length (cmdB (List.getD (List.getD l (i) []) (2 : Nat) (0 : Int)) (List.getD (List.getD l (i) []) (3 : Nat) (0 : Int)) (List.getD (List.getD l (i) []) (4 : Nat) (0 : Int)) (List.getD (List.getD l (i) []) (5 : Nat) (0 : Int)) (List.getD (List.getD l (i) []) (6 : Nat) (0 : Int)))) (cmdB (List.getD (List.getD l (i) []) (2 : Nat) (0 : Int)) (List.getD (List.getD l (i) []) (3 : Nat) (0 : Int)) (List.getD (List.getD l (i) []) (4 : Nat) (0 : Int)) (List.getD (List.getD l (i) []) (5 : Nat) (0 : Int)) (List.getD (List.getD l (i) []) (6 : Nat) (0 : Int)))), List.length (out ++ vint (IntKind.wrap IntKind.u64 (List.getD (List.getD l (i) []) (0 : Nat) (0 : Int))) ++ vint (IntKind.wrap IntKind.u64 (List.getD (List.getD l (i) []) (1 : Nat) (0 : Int))) ++ vint (↑(List.length (cmdB (List.getD (List.getD l (i) []) (2 : Nat) (0 : Int)) (List.getD (List.getD l (i) []) (3 : Nat) (0 : Int)) (List.getD (List.getD l (i) []) (4 : Nat) (0 : Int)) (List.getD (List.getD l (i) []) (5 : Nat) (0 : Int)) (List.getD (List.getD l (i) []) (6 : Nat) (0 : Int)))) : Int) ++ List.take (List.length (cmdB (List.getD (List.getD l (i) []) (2 : Nat) (0 : Int)) (List.getD (List.getD l (i) []) (3 : Nat) (0 : Int)) (List.getD (List.getD l (i) []) (4 : Nat) (0 : Int)) (List.getD (List.getD l (i) []) (5 : Nat) (0 : Int)) (List.getD (List.getD l (i) []) (6 : Nat) (0 : Int)))) (cmdB (List.getD (List.getD l (i) []) (2 : Nat) (0 : Int)) (List.getD (List.getD l (i) []) (3 : Nat) (0 : Int)) (List.getD (List.getD l (i) []) (4 : Nat) (0 : Int)) (List.getD (List.getD l (i) []) (5 : Nat) (0 : Int)) (List.getD (List.getD l (i) []) (6 : Nat) (0 : Int)))) = List.length (out ++ vint (IntKind.wrap IntKind.u64 (List.getD (List.getD l (i) []) (0 : Nat) (0 : Int))) ++ vint (IntKind.wrap IntKind.u64 (List.getD (List.getD l (i) []) (1 : Nat) (0 : Int))) ++ vint (↑(List.length (cmdB (List.getD (List.getD l (i) []) (2 : Nat) (0 : Int)) (List.getD (List.getD l (i) []) (3 : Nat) (0 : Int)) (List.getD (List.getD l (i) []) (4 : Nat) (0 : Int)) (List.getD (List.getD l (i) []) (5 : Nat) (0 : Int)) (List.getD (List.getD l (i) []) (6 : Nat) (0 : Int)))) : Int) ++ List.take (List.length (cmdB (List.getD (List.getD l (i) []) (2 : Nat) (0 : Int)) (List.getD (List.getD l (i) []) (3 : Nat) (0 : Int)) (List.getD (List.getD l (i) []) (4 : Nat) (0 : Int)) (List.getD (List.getD l (i) []) (5 : Nat) (0 : Int)) (List.getD (List.getD l (i) []) (6 : Nat) (0 : Int)))) (cmdB (List.getD (List.getD l (i) []) (2 : Nat) (0 : Int)) (List.getD (List.getD l (i) []) (3 : Nat) (0 : Int)) (List.getD (List.getD l (i) []) (4 : Nat) (0 : Int)) (List.getD (List.getD l (i) []) (5 : Nat) (0 : Int)) (List.getD (List.getD l (i) []) (6 : Nat) (0 : Int)))), List.length (out ++ vint (IntKind.wrap IntKind.u64 (List.getD (List.getD l (i) []) (0 : Nat) (0 : Int))) ++ vint (IntKind.wrap IntKind.u64 (List.getD (List.getD l (i) []) (1 : Nat) (0 : Int))) ++ vint (↑(List.length (cmdB (List.getD (List.getD l (i) []) (2 : Nat) (0 : Int)) (List.getD (List.getD l (i) []) (3 : Nat) (0 : Int)) (List.getD (List.getD l (i) []) (4 : Nat) (0 : Int)) (List.getD (List.getD l (i) []) (5 : Nat) (0 : Int)) (List.getD (List.getD l (i) []) (6 : Nat) (0 : Int)))) : Int) ++ List.take (List.length (cmdB (List.getD (List.getD l (i) []) (2 : Nat) (0 : Int)) (List.getD (List.getD l (i) []) (3 : Nat) (0 : Int)) (List.getD (List.getD l (i) []) (4 : Nat) (0 : Int)) (List.getD (List.getD l (i) []) (5 : Nat) (0 : Int)) (List.getD (List.getD l (i) []) (6 : Nat) (0 : Int)))) (cmdB (List.getD (List.getD l (i) []) (2 : Nat) (0 : Int)) (List.getD (List.getD l (i) []) (3 : Nat) (0 : Int)) (List.getD (List.getD l (i) []) (4 : Nat) (0 : Int)) (List.getD (List.getD l (i) []) (5 : Nat) (0 : Int)) (List.getD (List.getD l (i) []) (6 : Nat) (0 : Int)))) = List.length (out ++ vint (IntKind.wrap IntKind.u64 (List.getD (List.getD l (i) []) (0 : Nat) (0 : Int))) ++ vint (IntKind.wrap IntKind.u64 (List.getD (List.getD l (i) []) (1 : Nat) (0 : Int))) ++ vint (↑(List.length (cmdB (List.getD (List.getD l (i) []) (2 : Nat) (0 : Int)) (List.getD (List.getD l (i) []) (3 : Nat) (0 : Int)) (List.getD (List.getD l (i) []) (4 : Nat) (0 : Int)) (List.getD (List.getD l (i) []) (5 : Nat) (0 : Int)) (List.getD (List.getD l (i) []) (6 : Nat) (0 : Int)))) : Int) ++ List.take (List.length (cmdB (List.getD (List.getD l (i) []) (2 : Nat) (0 : Int)) (List.getD (List.getD l (i) []) (3 : Nat) (0 : Int)) (List.getD (List.getD l (i) []) (4 : Nat) (0 : Int)) (List.getD (List.getD l (i) []) (5 : Nat) (0 : Int)) (List.getD (List.getD l (i) []) (6 : Nat) (0 : Int)))) (cmdB (List.getD (List.getD l (i) []) (2 : Nat) (0 : Int)) (List.getD (List.getD l (i) []) (3 : Nat) (0 : Int)) (List.getD (List.getD l (i) []) (4 : Nat) (0 : Int)) (List.getD (List.getD l (i) []) (5 : Nat) (0 : Int)) (List.getD (List.getD l (i) []) (6 : Nat) (0 : Int)))), List.length (out ++ vint (IntKind.wrap IntKind.u64 (List.getD (List.getD l (i) []) (0 : Nat) (0 : Int))) ++ vint (IntKind.wrap IntKind.u64 (List.getD (List.getD l (i) []) (1 : Nat) (0 : Int))) ++ vint (↑(List.length (cmdB (List.getD (List.getD l (i) []) (2 : Nat) (0 : Int)) (List.getD (List.getD l (i) []) (3 : Nat) (0 : Int)) (List.getD (List.getD l (i) []) (4 : Nat) (0 : Int)) (List.getD (List.getD l (i) []) (5 : Nat) (0 : Int)) (List.getD (List.getD l (i) []) (6 : Nat) (0 : Int)))) : Int) ++ List.take (List.length (cmdB (List.getD (List.getD l (i) []) (2 : Nat) (0 : Int)) (List.getD (List.getD l (i) []) (3 : Nat) (0 : Int)) (List.getD (List.getD l (i) []) (4 : Nat) (0 : Int)) (List.getD (List.getD l (i) []) (5 : Nat) (0 : Int)) (List.getD (List.getD l (i) []) (6 : Nat) (0 : Int)))) (cmdB (List.getD (List.getD l (i) []) (2 : Nat) (0 : Int)) (List.getD (List.getD l (i) []) (3 : Nat) (0 : Int)) (List.getD (List.getD l (i) []) (4 : Nat) (0 : Int)) (List.getD (List.getD l (i) []) (5 : Nat) (0 : Int)) (List.getD (List.getD l (i) []) (6 : Nat) (0 : Int)))) = List.length (out ++ vint (IntKind.wrap IntKind.u64 (List.getD (List.getD l (i) []) (0 : Nat) (0 : Int))) ++ vint (IntKind.wrap IntKind.u64 (List.getD (List.getD l (i) []) (1 : Nat) (0 : Int))) ++ vint (↑(List.length (cmdB (List.getD (List.getD l (i) []) (2 : Nat) (0 : Int)) (List.getD (List.getD l (i) []) (3 : Nat) (0 : Int)) (List.getD (List.getD l (i) []) (4 : Nat) (0 : Int)) (List.getD (List.getD l (i) []) (5 : Nat) (0 : Int)) (List.getD (List.getD l (i) []) (6 : Nat) (0 : Int)))) : Int) ++ List.take (List.length (cmdB (List.getD (List.getD l (i) []) (2 : Nat) (0 : Int)) (List.getD (List.getD l (i) []) (3 : Nat) (0 : Int)) (List.getD (List.getD l (i) []) (4 : Nat) (0 : Int)) (List.getD (List.getD l (i) []) (5 : Nat) (0 : Int)) (List.getD (List.getD l (i) []) (6 : Nat) (0 : Int)))) (cmdB (List.getD (List.getD l (i) []) (2 : Nat) (0 : Int)) (List.getD (List.getD l (i) []) (3 : Nat) (0 : Int)) (List.getD (List.getD l (i) []) (4 : Nat) (0 : Int)) (List.getD (List.getD l (i) []) (5 : Nat) (0 : Int)) (List.getD (List.getD l (i) []) (6 : Nat) (0 : Int)))), List.length (out ++ vint (IntKind.wrap IntKind.u64 (List.getD (List.getD l (i) []) (0 : Nat) (0 : Int))) ++ vint (IntKind.wrap IntKind.u64 (List.getD (List.getD l (i) []) (1 : Nat) (0 : Int)))) = List.length (out ++ vint (IntKind.wrap IntKind.u64 (List.getD (List.getD l (i) []) (0 : Nat) (0 : Int))) ++ vint (IntKind.wrap IntKind.u64 (List.getD (List.getD l (i) []) (1 : Nat) (0 : Int)))), List.length (out ++ vint (IntKind.wrap IntKind.u64 (List.getD (List.getD l (i) []) (0 : Nat) (0 : Int))) ++ vint (IntKind.wrap IntKind.u64 (List.getD (List.getD l (i) []) (1 : Nat) (0 : Int)))) = List.length (out ++ vint (IntKind.wrap IntKind.u64 (List.getD (List.getD l (i) []) (0 : Nat) (0 : Int))) ++ vint (IntKind.wrap IntKind.u64 (List.getD (List.getD l (i) []) (1 : Nat) (0 : Int)))), IntKind.wrap IntKind.u64 (List.getD (List.getD l (i) []) (1 : Nat) (0 : Int)) = IntKind.wrap IntKind.u64 (List.getD (List.getD l (i) []) (1 : Nat) (0 : Int)), List.getD (List.getD l (i) []) (1 : Nat) (0 : Int) = List.getD (List.getD l (i) []) (1 : Nat) (0 : Int), List.length (out ++ vint (IntKind.wrap IntKind.u64 (List.getD (List.getD l (i) []) (0 : Nat) (0 : Int)))) = List.length (out ++ vint (IntKind.wrap IntKind.u64 (List.getD (List.getD l (i) []) (0 : Nat) (0 : Int)))), List.length (out ++ vint (IntKind.wrap IntKind.u64 (List.getD (List.getD l (i) []) (0 : Nat) (0 : Int)))) = List.length (out ++ vint (IntKind.wrap IntKind.u64 (List.getD (List.getD l (i) []) (0 : Nat) (0 : Int)))), List.length (cmdB (List.getD (List.getD l (i) []) (2 : Nat) (0 : Int)) (List.getD (List.getD l (i) []) (3 : Nat) (0 : Int)) (List.getD (List.getD l (i) []) (4 : Nat) (0 : Int)) (List.getD (List.getD l (i) []) (5 : Nat) (0 : Int)) (List.getD (List.getD l (i) []) (6 : Nat) (0 : Int))) = List.length (cmdB (List.getD (List.getD l (i) []) (2 : Nat) (0 : Int)) (List.getD (List.getD l (i) []) (3 : Nat) (0 : Int)) (List.getD (List.getD l (i) []) (4 : Nat) (0 : Int)) (List.getD (List.getD l (i) []) (5 : Nat) (0 : Int)) (List.getD (List.getD l (i) []) (6 : Nat) (0 : Int))), List.length (cmdB (List.getD (List.getD l (i) []) (2 : Nat) (0 : Int)) (List.getD (List.getD l (i) []) (3 : Nat) (0 : Int)) (List.getD (List.getD l (i) []) (4 : Nat) (0 : Int)) (List.getD (List.getD l (i) []) (5 : Nat) (0 : Int)) (List.getD (List.getD l (i) []) (6 : Nat) (0 : Int))) = List.length (cmdB (List.getD (List.getD l (i) []) (2 : Nat) (0 : Int)) (List.getD (List.getD l (i) []) (3 : Nat) (0 : Int)) (List.getD (List.getD l (i) []) (4 : Nat) (0 : Int)) (List.getD (List.getD l (i) []) (5 : Nat) (0 : Int)) (List.getD (List.getD l (i) []) (6 : Nat) (0 : Int))), IntKind.wrap IntKind.u64 (List.getD (List.getD l (i) []) (0 : Nat) (0 : Int)) = IntKind.wrap IntKind.u64 (List.getD (List.getD l (i) []) (0 : Nat) (0 : Int)), List.getD (List.getD l (i) []) (0 : Nat) (0 : Int) = List.getD (List.getD l (i) []) (0 : Nat) (0 : Int), List.length out = List.length out, List.length out = List.length out, decide ((1099511627776 : Int) < List.getD (List.getD l (i) []) (1 : Nat) (0 : Int)) = decide ((1099511627776 : Int) < List.getD (List.getD l (i) []) (1 : Nat) (0 : Int)), List.getD (List.getD l (i) []) (1 : Nat) (0 : Int) = List.getD (List.getD l (i) []) (1 : Nat) (0 : Int), decide ((1073741824 : Int) < List.getD (List.getD l (i) []) (0 : Nat) (0 : Int)) = decide ((1073741824 : Int) < List.getD (List.getD l (i) []) (0 : Nat) (0 : Int)), decide ((1073741824 : Int) < List.getD (List.getD l (i) []) (0 : Nat) (0 : Int)) = decide ((1073741824 : Int) < List.getD (List.getD l (i) []) (0 : Nat) (0 : Int)), List.getD (List.getD l (i) []) (0 : Nat) (0 : Int) = List.getD (List.getD l (i) []) (0 : Nat) (0 : Int), decide ((if List.getD (List.getD l (i) []) (1 : Nat) (0 : Int) < List.getD (List.getD l (i) []) (0 : Nat) (0 : Int) then List.getD (List.getD l (i) []) (1 : Nat) (0 : Int) else List.getD (List.getD l (i) []) (0 : Nat) (0 : Int)) < (0 : Int)) = decide ((if List.getD (List.getD l (i) []) (1 : Nat) (0 : Int) < List.getD (List.getD l (i) []) (0 : Nat) (0 : Int) then List.getD (List.getD l (i) []) (1 : Nat) (0 : Int) else List.getD (List.getD l (i) []) (0 : Nat) (0 : Int)) < (0 : Int)), decide ((if List.getD (List.getD l (i) []) (1 : Nat) (0 : Int) < List.getD (List.getD l (i) []) (0 : Nat) (0 : Int) then List.getD (List.getD l (i) []) (1 : Nat) (0 : Int) else List.getD (List.getD l (i) []) (0 : Nat) (0 : Int)) < (0 : Int)) = decide ((if List.getD (List.getD l (i) []) (1 : Nat) (0 : Int) < List.getD (List.getD l (i) []) (0 : Nat) (0 : Int) then List.getD (List.getD l (i) []) (1 : Nat) (0 : Int) else List.getD (List.getD l (i) []) (0 : Nat) (0 : Int)) < (0 : Int)), (if List.getD (List.getD l (i) []) (1 : Nat) (0 : Int) < List.getD (List.getD l (i) []) (0 : Nat) (0 : Int) then List.getD (List.getD l (i) []) (1 : Nat) (0 : Int) else List.getD (List.getD l (i) []) (0 : Nat) (0 : Int)) = if List.getD (List.getD l (i) []) (1 : Nat) (0 : Int) < List.getD (List.getD l (i) []) (0 : Nat) (0 : Int) then List.getD (List.getD l (i) []) (1 : Nat) (0 : Int) else List.getD (List.getD l (i) []) (0 : Nat) (0 : Int), List.getD (List.getD l (i) []) (1 : Nat) (0 : Int) = List.getD (List.getD l (i) []) (1 : Nat) (0 : Int), List.getD (List.getD l (i) []) (0 : Nat) (0 : Int) = List.getD (List.getD l (i) []) (0 : Nat) (0 : Int), List.length (cmdB (List.getD (List.getD l (i) []) (2 : Nat) (0 : Int)) (List.getD (List.getD l (i) []) (3 : Nat) (0 : Int)) (List.getD (List.getD l (i) []) (4 : Nat) (0 : Int)) (List.getD (List.getD l (i) []) (5 : Nat) (0 : Int)) (List.getD (List.getD l (i) []) (6 : Nat) (0 : Int))) = List.length (cmdB (List.getD (List.getD l (i) []) (2 : Nat) (0 : Int)) (List.getD (List.getD l (i) []) (3 : Nat) (0 : Int)) (List.getD (List.getD l (i) []) (4 : Nat) (0 : Int)) (List.getD (List.getD l (i) []) (5 : Nat) (0 : Int)) (List.getD (List.getD l (i) []) (6 : Nat) (0 : Int))), List.length (cmdB (List.getD (List.getD l (i) []) (2 : Nat) (0 : Int)) (List.getD (List.getD l (i) []) (3 : Nat) (0 : Int)) (List.getD (List.getD l (i) []) (4 : Nat) (0 : Int)) (List.getD (List.getD l (i) []) (5 : Nat) (0 : Int)) (List.getD (List.getD l (i) []) (6 : Nat) (0 : Int))) = List.length (cmdB (List.getD (List.getD l (i) []) (2 : Nat) (0 : Int)) (List.getD (List.getD l (i) []) (3 : Nat) (0 : Int)) (List.getD (List.getD l (i) []) (4 : Nat) (0 : Int)) (List.getD (List.getD l (i) []) (5 : Nat) (0 : Int)) (List.getD (List.getD l (i) []) (6 : Nat) (0 : Int))), List.length (cmdB (List.getD (List.getD l (i) []) (2 : Nat) (0 : Int)) (List.getD (List.getD l (i) []) (3 : Nat) (0 : Int)) (List.getD (List.getD l (i) []) (4 : Nat) (0 : Int)) (List.getD (List.getD l (i) []) (5 : Nat) (0 : Int)) (List.getD (List.getD l (i) []) (6 : Nat) (0 : Int))) = List.length (cmdB (List.getD (List.getD l (i) []) (2 : Nat) (0 : Int)) (List.getD (List.getD l (i) []) (3 : Nat) (0 : Int)) (List.getD (List.getD l (i) []) (4 : Nat) (0 : Int)) (List.getD (List.getD l (i) []) (5 : Nat) (0 : Int)) (List.getD (List.getD l (i) []) (6 : Nat) (0 : Int))), List.length (cmdB (List.getD (List.getD l (i) []) (2 : Nat) (0 : Int)) (List.getD (List.getD l (i) []) (3 : Nat) (0 : Int)) (List.getD (List.getD l (i) []) (4 : Nat) (0 : Int)) (List.getD (List.getD l (i) []) (5 : Nat) (0 : Int)) (List.getD (List.getD l (i) []) (6 : Nat) (0 : Int))) = List.length (cmdB (List.getD (List.getD l (i) []) (2 : Nat) (0 : Int)) (List.getD (List.getD l (i) []) (3 : Nat) (0 : Int)) (List.getD (List.getD l (i) []) (4 : Nat) (0 : Int)) (List.getD (List.getD l (i) []) (5 : Nat) (0 : Int)) (List.getD (List.getD l (i) []) (6 : Nat) (0 : Int))), List.length (cmdB (List.getD (List.getD l (i) []) (2 : Nat) (0 : Int)) (List.getD (List.getD l (i) []) (3 : Nat) (0 : Int)) (List.getD (List.getD l (i) []) (4 : Nat) (0 : Int)) (List.getD (List.getD l (i) []) (5 : Nat) (0 : Int)) (List.getD (List.getD l (i) []) (6 : Nat) (0 : Int))) = List.length (cmdB (List.getD (List.getD l (i) []) (2 : Nat) (0 : Int)) (List.getD (List.getD l (i) []) (3 : Nat) (0 : Int)) (List.getD (List.getD l (i) []) (4 : Nat) (0 : Int)) (List.getD (List.getD l (i) []) (5 : Nat) (0 : Int)) (List.getD (List.getD l (i) []) (6 : Nat) (0 : Int))), List.length (cmdB (List.getD (List.getD l (i) []) (2 : Nat) (0 : Int)) (List.getD (List.getD l (i) []) (3 : Nat) (0 : Int)) (List.getD (List.getD l (i) []) (4 : Nat) (0 : Int)) (List.getD (List.getD l (i) []) (5 : Nat) (0 : Int)) (List.getD (List.getD l (i) []) (6 : Nat) (0 : Int))) = List.length (cmdB (List.getD (List.getD l (i) []) (2 : Nat) (0 : Int)) (List.getD (List.getD l (i) []) (3 : Nat) (0 : Int)) (List.getD (List.getD l (i) []) (4 : Nat) (0 : Int)) (List.getD (List.getD l (i) []) (5 : Nat) (0 : Int)) (List.getD (List.getD l (i) []) (6 : Nat) (0 : Int))), List.length (cmdB (List.getD (List.getD l (i) []) (2 : Nat) (0 : Int)) (List.getD (List.getD l (i) []) (3 : Nat) (0 : Int)) (List.getD (List.getD l (i) []) (4 : Nat) (0 : Int)) (List.getD (List.getD l (i) []) (5 : Nat) (0 : Int)) (List.getD (List.getD l (i) []) (6 : Nat) (0 : Int))) = List.length (cmdB (List.getD (List.getD l (i) []) (2 : Nat) (0 : Int)) (List.getD (List.getD l (i) []) (3 : Nat) (0 : Int)) (List.getD (List.getD l (i) []) (4 : Nat) (0 : Int)) (List.getD (List.getD l (i) []) (5 : Nat) (0 : Int)) (List.getD (List.getD l (i) []) (6 : Nat) (0 : Int))), List.length (cmdB (List.getD (List.getD l (i) []) (2 : Nat) (0 : Int)) (List.getD (List.getD l (i) []) (3 : Nat) (0 : Int)) (List.getD (List.getD l (i) []) (4 : Nat) (0 : Int)) (List.getD (List.getD l (i) []) (5 : Nat) (0 : Int)) (List.getD (List.getD l (i) []) (6 : Nat) (0 : Int))) = List.length (cmdB (List.getD (List.getD l (i) []) (2 : Nat) (0 : Int)) (List.getD (List.getD l (i) []) (3 : Nat) (0 : Int)) (List.getD (List.getD l (i) []) (4 : Nat) (0 : Int)) (List.getD (List.getD l (i) []) (5 : Nat) (0 : Int)) (List.getD (List.getD l (i) []) (6 : Nat) (0 : Int))), List.getD (List.getD l (i) []) (2 : Nat) (0 : Int) = List.getD (List.getD l (i) []) (2 : Nat) (0 : Int), List.getD (List.getD l (i) []) (3 : Nat) (0 : Int) = List.getD (List.getD l (i) []) (3 : Nat) (0 : Int), List.getD (List.getD l (i) []) (4 : Nat) (0 : Int) = List.getD (List.getD l (i) []) (4 : Nat) (0 : Int), List.getD (List.getD l (i) []) (5 : Nat) (0 : Int) = List.getD (List.getD l (i) []) (5 : Nat) (0 : Int), List.getD (List.getD l (i) []) (6 : Nat) (0 : Int) = List.getD (List.getD l (i) []) (6 : Nat) (0 : Int), List.getD (List.getD l (i) []) (0 : Nat) (0 : Int) = List.getD (List.getD l (i) []) (0 : Nat) (0 : Int), List.getD (List.getD l (i) []) (1 : Nat) (0 : Int) = List.getD (List.getD l (i) []) (1 : Nat) (0 : Int), List.getD (List.getD l (i) []) (2 : Nat) (0 : Int) = List.getD (List.getD l (i) []) (2 : Nat) (0 : Int), List.getD (List.getD l (i) []) (3 : Nat) (0 : Int) = List.getD (List.getD l (i) []) (3 : Nat) (0 : Int), List.getD (List.getD l (i) []) (4 : Nat) (0 : Int) = List.getD (List.getD l (i) []) (4 : Nat) (0 : Int), List.getD (List.getD l (i) []) (5 : Nat) (0 : Int) = List.getD (List.getD l (i) []) (5 : Nat) (0 : Int), List.getD (List.getD l (i) []) (6 : Nat) (0 : Int) = List.getD (List.getD l (i) []) (6 : Nat) (0 : Int), i = i, List.length (out ++ vint (IntKind.wrap IntKind.u64 (List.getD (List.getD l (i) []) (0 : Nat) (0 : Int))) ++ vint (IntKind.wrap IntKind.u64 (List.getD (List.getD l (i) []) (1 : Nat) (0 : Int))) ++ vint (↑(List.length (cmdB (List.getD (List.getD l (i) []) (2 : Nat) (0 : Int)) (List.getD (List.getD l (i) []) (3 : Nat) (0 : Int)) (List.getD (List.getD l (i) []) (4 : Nat) (0 : Int)) (List.getD (List.getD l (i) []) (5 : Nat) (0 : Int)) (List.getD (List.getD l (i) []) (6 : Nat) (0 : Int)))) : Int) ++ List.take (List.length (cmdB (List.getD (List.getD l (i) []) (2 : Nat) (0 : Int)) (List.getD (List.getD l (i) []) (3 : Nat) (0 : Int)) (List.getD (List.getD l (i) []) (4 : Nat) (0 : Int)) (List.getD (List.getD l (i) []) (5 : Nat) (0 : Int)) (List.getD (List.getD l (i) []) (6 : Nat) (0 : Int)))) (cmdB (List.getD (List.getD l (i) []) (2 : Nat) (0 : Int)) (List.getD (List.getD l (i) []) (3 : Nat) (0 : Int)) (List.getD (List.getD l (i) []) (4 : Nat) (0 : Int)) (List.getD (List.getD l (i) []) (5 : Nat) (0 : Int)) (List.getD (List.getD l (i) []) (6 : Nat) (0 : Int)))) = List.length (out ++ vint (IntKind.wrap IntKind.u64 (List.getD (List.getD l (i) []) (0 : Nat) (0 : Int))) ++ vint (IntKind.wrap IntKind.u64 (List.getD (List.getD l (i) []) (1 : Nat) (0 : Int))) ++ vint (↑(List.length (cmdB (List.getD (List.getD l (i) []) (2 : Nat) (0 : Int)) (List.getD (List.getD l (i) []) (3 : Nat) (0 : Int)) (List.getD (List.getD l (i) []) (4 : Nat) (0 : Int)) (List.getD (List.getD l (i) []) (5 : Nat) (0 : Int)) (List.getD (List.getD l (i) []) (6 : Nat) (0 : Int)))) : Int) ++ List.take (List.length (cmdB (List.getD (List.getD l (i) []) (2 : Nat) (0 : Int)) (List.getD (List.getD l (i) []) (3 : Nat) (0 : Int)) (List.getD (List.getD l (i) []) (4 : Nat) (0 : Int)) (List.getD (List.getD l (i) []) (5 : Nat) (0 : Int)) (List.getD (List.getD l (i) []) (6 : Nat) (0 : Int)))) (cmdB (List.getD (List.getD l (i) []) (2 : Nat) (0 : Int)) (List.getD (List.getD l (i) []) (3 : Nat) (0 : Int)) (List.getD (List.getD l (i) []) (4 : Nat) (0 : Int)) (List.getD (List.getD l (i) []) (5 : Nat) (0 : Int)) (List.getD (List.getD l (i) []) (6 : Nat) (0 : Int)))), List.length (out ++ vint (IntKind.wrap IntKind.u64 (List.getD (List.getD l (i) []) (0 : Nat) (0 : Int))) ++ vint (IntKind.wrap IntKind.u64 (List.getD (List.getD l (i) []) (1 : Nat) (0 : Int))) ++ vint (↑(List.length (cmdB (List.getD (List.getD l (i) []) (2 : Nat) (0 : Int)) (List.getD (List.getD l (i) []) (3 : Nat) (0 : Int)) (List.getD (List.getD l (i) []) (4 : Nat) (0 : Int)) (List.getD (List.getD l (i) []) (5 : Nat) (0 : Int)) (List.getD (List.getD l (i) []) (6 : Nat) (0 : Int)))) : Int) ++ List.take (List.length (cmdB (List.getD (List.getD l (i) []) (2 : Nat) (0 : Int)) (List.getD (List.getD l (i) []) (3 : Nat) (0 : Int)) (List.getD (List.getD l (i) []) (4 : Nat) (0 : Int)) (List.getD (List.getD l (i) []) (5 : Nat) (0 : Int)) (List.getD (List.getD l (i) []) (6 : Nat) (0 : Int)))) (cmdB (List.getD (List.getD l (i) []) (2 : Nat) (0 : Int)) (List.getD (List.getD l (i) []) (3 : Nat) (0 : Int)) (List.getD (List.getD l (i) []) (4 : Nat) (0 : Int)) (List.getD (List.getD l (i) []) (5 : Nat) (0 : Int)) (List.getD (List.getD l (i) []) (6 : Nat) (0 : Int)))) = List.length (out ++ vint (IntKind.wrap IntKind.u64 (List.getD (List.getD l (i) []) (0 : Nat) (0 : Int))) ++ vint (IntKind.wrap IntKind.u64 (List.getD (List.getD l (i) []) (1 : Nat) (0 : Int))) ++ vint (↑(List.length (cmdB (List.getD (List.getD l (i) []) (2 : Nat) (0 : Int)) (List.getD (List.getD l (i) []) (3 : Nat) (0 : Int)) (List.getD (List.getD l (i) []) (4 : Nat) (0 : Int)) (List.getD (List.getD l (i) []) (5 : Nat) (0 : Int)) (List.getD (List.getD l (i) []) (6 : Nat) (0 : Int)))) : Int) ++ List.take (List.length (cmdB (List.getD (List.getD l (i) []) (2 : Nat) (0 : Int)) (List.getD (List.getD l (i) []) (3 : Nat) (0 : Int)) (List.getD (List.getD l (i) []) (4 : Nat) (0 : Int)) (List.getD (List.getD l (i) []) (5 : Nat) (0 : Int)) (List.getD (List.getD l (i) []) (6 : Nat) (0 : Int)))) (cmdB (List.getD (List.getD l (i) []) (2 : Nat) (0 : Int)) (List.getD (List.getD l (i) []) (3 : Nat) (0 : Int)) (List.getD (List.getD l (i) []) (4 : Nat) (0 : Int)) (List.getD (List.getD l (i) []) (5 : Nat) (0 : Int)) (List.getD (List.getD l (i) []) (6 : Nat) (0 : Int)))), n = n, c = c, (↑n : Int) = (↑n : Int), (↑i : Int) = (↑i : Int), List.length (out ++ vint (IntKind.wrap IntKind.u64 (List.getD (List.getD l (i) []) (0 : Nat) (0 : Int))) ++ vint (IntKind.wrap IntKind.u64 (List.getD (List.getD l (i) []) (1 : Nat) (0 : Int)))) = List.length (out ++ vint (IntKind.wrap IntKind.u64 (List.getD (List.getD l (i) []) (0 : Nat) (0 : Int))) ++ vint (IntKind.wrap IntKind.u64 (List.getD (List.getD l (i) []) (1 : Nat) (0 : Int)))), List.length (cmdB (List.getD (List.getD l (i) []) (2 : Nat) (0 : Int)) (List.getD (List.getD l (i) []) (3 : Nat) (0 : Int)) (List.getD (List.getD l (i) []) (4 : Nat) (0 : Int)) (List.getD (List.getD l (i) []) (5 : Nat) (0 : Int)) (List.getD (List.getD l (i) []) (6 : Nat) (0 : Int))) ≤ List.length (cmdB (List.getD (List.getD l (i) []) (2 : Nat) (0 : Int)) (List.getD (List.getD l (i) []) (3 : Nat) (0 : Int)) (List.getD (List.getD l (i) []) (4 : Nat) (0 : Int)) (List.getD (List.getD l (i) []) (5 : Nat) (0 : Int)) (List.getD (List.getD l (i) []) (6 : Nat) (0 : Int))), List.length (out ++ vint (IntKind.wrap IntKind.u64 (List.getD (List.getD l (i) []) (0 : Nat) (0 : Int))) ++ vint (IntKind.wrap IntKind.u64 (List.getD (List.getD l (i) []) (1 : Nat) (0 : Int)))) + List.length (cmdB (List.getD (List.getD l (i) []) (2 : Nat) (0 : Int)) (List.getD (List.getD l (i) []) (3 : Nat) (0 : Int)) (List.getD (List.getD l (i) []) (4 : Nat) (0 : Int)) (List.getD (List.getD l (i) []) (5 : Nat) (0 : Int)) (List.getD (List.getD l (i) []) (6 : Nat) (0 : Int))) + (20 : Nat) ≤ (140737488355328 : Nat), u64 (IntKind.wrap IntKind.u64 (List.getD (List.getD l (i) []) (1 : Nat) (0 : Int))), List.length (out ++ vint (IntKind.wrap IntKind.u64 (List.getD (List.getD l (i) []) (0 : Nat) (0 : Int)))) = List.length (out ++ vint (IntKind.wrap IntKind.u64 (List.getD (List.getD l (i) []) (0 : Nat) (0 : Int)))), List.length (out ++ vint (IntKind.wrap IntKind.u64 (List.getD (List.getD l (i) []) (0 : Nat) (0 : Int)))) + (10 : Nat) ≤ (140737488355328 : Nat), u64 (IntKind.wrap IntKind.u64 (List.getD (List.getD l (i) []) (0 : Nat) (0 : Int))), List.length out = List.length out, List.length out + (10 : Nat) ≤ (140737488355328 : Nat), decide ((1099511627776 : Int) < List.getD (List.getD l (i) []) (1 : Nat) (0 : Int)) = false, decide ((1073741824 : Int) < List.getD (List.getD l (i) []) (0 : Nat) (0 : Int)) = false, decide ((if List.getD (List.getD l (i) []) (1 : Nat) (0 : Int) < List.getD (List.getD l (i) []) (0 : Nat) (0 : Int) then List.getD (List.getD l (i) []) (1 : Nat) (0 : Int) else List.getD (List.getD l (i) []) (0 : Nat) (0 : Int)) < (0 : Int)) = false, rightF (List.getD (List.getD l (i) []) (2 : Nat) (0 : Int)) (List.getD (List.getD l (i) []) (3 : Nat) (0 : Int)) (List.getD (List.getD l (i) []) (4 : Nat) (0 : Int)) (List.getD (List.getD l (i) []) (5 : Nat) (0 : Int)) (List.getD (List.getD l (i) []) (6 : Nat) (0 : Int)) = true, (0 : Int) ≤ List.getD (List.getD l (i) []) (2 : Nat) (0 : Int) ∧ List.getD (List.getD l (i) []) (2 : Nat) (0 : Int) < (256 : Int), i < List.length l, (0 : Int) ≤ (↑i : Int), (↑i : Int) < (↑n : Int), decide ((↑i : Int) < (↑n : Int)) = true, List.length (out ++ vint (IntKind.wrap IntKind.u64 (List.getD (List.getD l (i) []) (0 : Nat) (0 : Int))) ++ vint (IntKind.wrap IntKind.u64 (List.getD (List.getD l (i) []) (1 : Nat) (0 : Int)))) = List.length (out ++ vint (IntKind.wrap IntKind.u64 (List.getD (List.getD l (i) []) (0 : Nat) (0 : Int))) ++ vint (IntKind.wrap IntKind.u64 (List.getD (List.getD l (i) []) (1 : Nat) (0 : Int)))), List.length (cmdB (List.getD (List.getD l (i) []) (2 : Nat) (0 : Int)) (List.getD (List.getD l (i) []) (3 : Nat) (0 : Int)) (List.getD (List.getD l (i) []) (4 : Nat) (0 : Int)) (List.getD (List.getD l (i) []) (5 : Nat) (0 : Int)) (List.getD (List.getD l (i) []) (6 : Nat) (0 : Int))) ≤ List.length (cmdB (List.getD (List.getD l (i) []) (2 : Nat) (0 : Int)) (List.getD (List.getD l (i) []) (3 : Nat) (0 : Int)) (List.getD (List.getD l (i) []) (4 : Nat) (0 : Int)) (List.getD (List.getD l (i) []) (5 : Nat) (0 : Int)) (List.getD (List.getD l (i) []) (6 : Nat) (0 : Int))), List.length (out ++ vint (IntKind.wrap IntKind.u64 (List.getD (List.getD l (i) []) (0 : Nat) (0 : Int))) ++ vint (IntKind.wrap IntKind.u64 (List.getD (List.getD l (i) []) (1 : Nat) (0 : Int)))) + List.length (cmdB (List.getD (List.getD l (i) []) (2 : Nat) (0 : Int)) (List.getD (List.getD l (i) []) (3 : Nat) (0 : Int)) (List.getD (List.getD l (i) []) (4 : Nat) (0 : Int)) (List.getD (List.getD l (i) []) (5 : Nat) (0 : Int)) (List.getD (List.getD l (i) []) (6 : Nat) (0 : Int))) + (20 : Nat) ≤ (140737488355328 : Nat), u64 (IntKind.wrap IntKind.u64 (List.getD (List.getD l (i) []) (1 : Nat) (0 : Int))), List.length (out ++ vint (IntKind.wrap IntKind.u64 (List.getD (List.getD l (i) []) (0 : Nat) (0 : Int)))) = List.length (out ++ vint (IntKind.wrap IntKind.u64 (List.getD (List.getD l (i) []) (0 : Nat) (0 : Int)))), List.length (out ++ vint (IntKind.wrap IntKind.u64 (List.getD (List.getD l (i) []) (0 : Nat) (0 : Int)))) + (10 : Nat) ≤ (140737488355328 : Nat), u64 (IntKind.wrap IntKind.u64 (List.getD (List.getD l (i) []) (0 : Nat) (0 : Int))), List.length out = List.length out, List.length out + (10 : Nat) ≤ (140737488355328 : Nat), decide ((1099511627776 : Int) < List.getD (List.getD l (i) []) (1 : Nat) (0 : Int)) = false, decide ((1073741824 : Int) < List.getD (List.getD l (i) []) (0 : Nat) (0 : Int)) = false, decide ((if List.getD (List.getD l (i) []) (1 : Nat) (0 : Int) < List.getD (List.getD l (i) []) (0 : Nat) (0 : Int) then List.getD (List.getD l (i) []) (1 : Nat) (0 : Int) else List.getD (List.getD l (i) []) (0 : Nat) (0 : Int)) < (0 : Int)) = false, rightF (List.getD (List.getD l (i) []) (2 : Nat) (0 : Int)) (List.getD (List.getD l (i) []) (3 : Nat) (0 : Int)) (List.getD (List.getD l (i) []) (4 : Nat) (0 : Int)) (List.getD (List.getD l (i) []) (5 : Nat) (0 : Int)) (List.getD (List.getD l (i) []) (6 : Nat) (0 : Int)) = true, (0 : Int) ≤ List.getD (List.getD l (i) []) (2 : Nat) (0 : Int) ∧ List.getD (List.getD l (i) []) (2 : Nat) (0 : Int) < (256 : Int), i < List.length l, (0 : Int) ≤ (↑i : Int), (↑i : Int) < (↑n : Int), decide ((↑i : Int) < (↑n : Int)) = true])))) := by kernel_rfl
theorem orF0 : (fun (l : List (List Int)) (n c : Nat) (out : List Int) (i : Nat) => endV [0] (rndO 0 [true, false] l n c out i)) = fun (l : List (List Int)) (n : Nat) (c : Nat) (out : List Int) (i : Nat) => some (((V.tup [(V1.one (C.nils)), (V1.one (C.int (IntKind.i64) ((109 : Int))))]), ([(SB.mk (false) (Cells.recs (ksO) (l)))], [rightF (List.getD (List.getD l (i) []) (2 : Nat) (0 : Int)) (List.getD (List.getD l (i) []) (3 : Nat) (0 : Int)) (List.getD (List.getD l (i) []) (4 : Nat) (0 : Int)) (List.getD (List.getD l (i) []) (5 : Nat) (0 : Int)) (List.getD (List.getD l (i) []) (6 : Nat) (0 : Int)) = false, (0 : Int) ≤ List.getD (List.getD l (i) []) (2 : Nat) (0 : Int) ∧ List.getD (List.getD l (i) []) (2 : Nat) (0 : Int) < (256 : Int), i < List.length l, (0 : Int) ≤ (↑i : Int), (↑i : Int) < (↑n : Int), decide ((↑i : Int) < (↑n : Int)) = true]))) := by kernel_rfl
theorem orF1 : (fun (l : List (List Int)) (n c : Nat) (out : List Int) (i : Nat) => endV [0] (rndO 0 [true, true, true] l n c out i)) = fun (l : List (List Int)) (n : Nat) (c : Nat) (out : List Int) (i : Nat) => some (((V.tup [(V1.one (C.nils)), (V1.one (C.int (IntKind.i64) ((109 : Int))))]), ([(SB.mk (false) (Cells.recs (ksO) (l)))], [decide ((if List.getD (List.getD l (i) []) (1 : Nat) (0 : Int) < List.getD (List.getD l (i) []) (0 : Nat) (0 : Int) then List.getD (List.getD l (i) []) (1 : Nat) (0 : Int) else List.getD (List.getD l (i) []) (0 : Nat) (0 : Int)) < (0 : Int)) = true, rightF (List.getD (List.getD l (i) []) (2 : Nat) (0 : Int)) (List.getD (List.getD l (i) []) (3 : Nat) (0 : Int)) (List.getD (List.getD l (i) []) (4 : Nat) (0 : Int)) (List.getD (List.getD l (i) []) (5 : Nat) (0 : Int)) (List.getD (List.getD l (i) []) (6 : Nat) (0 : Int)) = true, (0 : Int) ≤ List.getD (List.getD l (i) []) (2 : Nat) (0 : Int) ∧ List.getD (List.getD l (i) []) (2 : Nat) (0 : Int) < (256 : Int), i < List.length l, (0 : Int) ≤ (↑i : Int), (↑i : Int) < (↑n : Int), decide ((↑i : Int) < (↑n : Int)) = true]))) := by kernel_rfl
theorem orF2 : (fun (l : List (List Int)) (n c : Nat) (out : List Int) (i : Nat) => endV [0] (rndO 0 [true, true, false, true] l n c out i)) = fun (l : List (List Int)) (n : Nat) (c : Nat) (out : List Int) (i : Nat) => some (((V.tup [(V1.one (C.nils)), (V1.one (C.int (IntKind.i64) ((109 : Int))))]), ([(SB.mk (false) (Cells.recs (ksO) (l)))], [decide ((1073741824 : Int) < List.getD (List.getD l (i) []) (0 : Nat) (0 : Int)) = true, decide ((if List.getD (List.getD l (i) []) (1 : Nat) (0 : Int) < List.getD (List.getD l (i) []) (0 : Nat) (0 : Int) then List.getD (List.getD l (i) []) (1 : Nat) (0 : Int) else List.getD (List.getD l (i) []) (0 : Nat) (0 : Int)) < (0 : Int)) = false, rightF (List.getD (List.getD l (i) []) (2 : Nat) (0 : Int)) (List.getD (List.getD l (i) []) (3 : Nat) (0 : Int)) (List.getD (List.getD l (i) []) (4 : Nat) (0 : Int)) (List.getD (List.getD l (i) []) (5 : Nat) (0 : Int)) (List.getD (List.getD l (i) []) (6 : Nat) (0 : Int)) = true, (0 : Int) ≤ List.getD (List.getD l (i) []) (2 : Nat) (0 : Int) ∧ List.getD (List.getD l (i) []) (2 : Nat) (0 : Int) < (256 : Int), i < List.length l, (0 : Int) ≤ (↑i : Int), (↑i : Int) < (↑n : Int), decide ((↑i : Int) < (↑n : Int)) = true]))) := by kernel_rfl
theorem orF3 : (fun (l : List (List Int)) (n c : Nat) (out : List Int) (i : Nat) => endV [0] (rndO 0 [true, true, false, false, true] l n c out i)) = fun (l : List (List Int)) (n : Nat) (c : Nat) (out : List Int) (i : Nat) => some (((V.tup [(V1.one (C.nils)), (V1.one (C.int (IntKind.i64) ((109 : Int))))]), ([(SB.mk (false) (Cells.recs (ksO) (l)))], [decide ((1099511627776 : Int) < List.getD (List.getD l (i) []) (1 : Nat) (0 : Int)) = true, decide ((1073741824 : Int) < List.getD (List.getD l (i) []) (0 : Nat) (0 : Int)) = false, decide ((if List.getD (List.getD l (i) []) (1 : Nat) (0 : Int) < List.getD (List.getD l (i) []) (0 : Nat) (0 : Int) then List.getD (List.getD l (i) []) (1 : Nat) (0 : Int) else List.getD (List.getD l (i) []) (0 : Nat) (0 : Int)) < (0 : Int)) = false, rightF (List.getD (List.getD l (i) []) (2 : Nat) (0 : Int)) (List.getD (List.getD l (i) []) (3 : Nat) (0 : Int)) (List.getD (List.getD l (i) []) (4 : Nat) (0 : Int)) (List.getD (List.getD l (i) []) (5 : Nat) (0 : Int)) (List.getD (List.getD l (i) []) (6 : Nat) (0 : Int)) = true, (0 : Int) ≤ List.getD (List.getD l (i) []) (2 : Nat) (0 : Int) ∧ List.getD (List.getD l (i) []) (2 : Nat) (0 : Int) < (256 : Int), i < List.length l, (0 : Int) ≤ (↑i : Int), (↑i : Int) < (↑n : Int), decide ((↑i : Int) < (↑n : Int)) = true]))) := by kernel_rfl
theorem orX : (fun (l : List (List Int)) (n c : Nat) (out : List Int) (i : Nat) => endV [0, 1] (rndO 0 [false] l n c out i)) = fun (l : List (List Int)) (n : Nat) (c : Nat) (out : List Int) (i : Nat) => some (((V.tup [(V1.one (C.slice ((1 : Nat)) (N.c ((0 : Nat))) ((1 : Nat)) (N.s (List.length out)) (N.s (List.length out)))), (V1.one (C.int (IntKind.i64) ((0 : Int))))]), ([(SB.mk (false) (Cells.recs (ksO) (l))), (SB.mk (true) (Cells.ints (IntKind.u8) (out)))], [decide ((↑i : Int) < (↑n : Int)) = false]))) := by kernel_rfl
end
section
open Go.ChangeShapes Go.WideShapes Go.ChangeAt Go.RowKit Go.Sx
theorem tabBl_ok : ∀ f g, tabBl f = some g → TabOk Try.prog f g := tabs_ok fun x hx => by
  simp only [List.mem_cons, List.not_mem_nil, or_false] at hx
  rcases hx with rfl
  exact uint_tab
theorem ndBl : (List.range 2 ++ [3]).Nodup := by decide
theorem blob_works (l b : List Int) (c n d : Nat) (hb : n ≤ b.length) (hl : l.length + n + 20 ≤ 140737488355328) : Works Try.prog 28 [bsl 0 l.length c, bsl 1 n d] [owB l, roB b] (bsl 2 (l ++ vint (n : Nat) ++ b.take n).length (l ++ vint (n : Nat) ++ b.take n).length) [⟨true, .dead⟩, roB b, owB (l ++ vint (n : Nat) ++ b.take n)] := by
  have q := congrFun (congrFun (congrFun (congrFun (congrFun bl1 l) b) c) n) d
  have ew : IntKind.wrap .u64 (n : Int) = ((n : Nat) : Int) := w64 (by omega) (by omega)
  have hv := vint_le (n := ((n : Nat) : Int)) ⟨by omega, by omega⟩
  have ht : (b.take n).length = n := by rw [List.length_take]; omega
  rw [ew, List.drop_zero] at q
  refine works_of (r := [3]) tabBl_ok q ⟨rfl, rfl, by omega, ?_, ?_, ⟨by omega, by omega⟩, rfl, by omega, trivial⟩ ndBl ?_ ?_
  · rw [List.length_append]; omega
  · rw [List.length_append]; omega
  · simp [bsl, leV, leV1, leC, N.v, List.range, List.range.loop, ht, Nat.add_assoc]
  · exact ⟨⟨fun h => h, trivial⟩, ⟨fun h => h, rfl, rfl⟩, ⟨fun h => h, rfl, rfl⟩, trivial⟩
theorem blob_tab : TabOk Try.prog 28 (loc blobW gBlob) := loc_ok fun xs bs v bs' ob hg hob hokb => by
  unfold gBlob at hg
  split at hg
  · rename_i a c m d k l k' b
    split at hg
    · rename_i hk
      rw [Bool.and_eq_true] at hk
      injection hg with hg; injection hg with e1 e2; injection e2 with e2 e3
      subst e1; subst e2; subst e3
      have h1 : k = .u8 := of_decide_eq_true hk.1
      have h2 : k' = .u8 := of_decide_eq_true hk.2
      subst h1; subst h2
      have ha := hob (a = l.length) (by simp)
      subst ha
      exact blob_works l b c m d (hob (m ≤ b.length) (by simp)) (hob (l.length + m + 20 ≤ 140737488355328) (by simp))
    · cases hg
  · cases hg
/-! ### orders -/
theorem tabO_ok : ∀ f g, tabO f = some g → TabOk Try.prog f g := tabs_ok fun x hx => by
  simp only [List.mem_cons, List.not_mem_nil, or_false] at hx
  rcases hx with rfl | rfl | rfl
  · exact uint_tab
  · exact blob_tab
  · exact bytes_tab
theorem callO_ok (d : Nat) : CallOk Try.prog (callO d) := callN_sound tabO_ok d
def cmdR (r : List Int) : List Int := cmdB (r.getD 2 0) (r.getD 3 0) (r.getD 4 0) (r.getD 5 0) (r.getD 6 0)
def rightR2 (r : List Int) : Bool := rightF (r.getD 2 0) (r.getD 3 0) (r.getD 4 0) (r.getD 5 0) (r.getD 6 0)
def rowOk (r : List Int) : Bool := rightR2 r && decide (0 ≤ r.getD 0 0 ∧ 0 ≤ r.getD 1 0 ∧ r.getD 0 0 ≤ 1073741824 ∧ r.getD 1 0 ≤ 1099511627776)
def rowB (r : List Int) : List Int := vint (r.getD 0 0) ++ vint (r.getD 1 0) ++ vint (((cmdR r).length : Nat) : Int) ++ cmdR r
def bytesO : List (List Int) → List Int
  | [] => []
  | r :: t => rowB r ++ bytesO t
/-- the bytes of orders, and the error -/
def ordS (l : List (List Int)) : List Int × Int := if 1000 < l.length ∨ l.all rowOk = false then ([], 109) else (vint ((l.length : Nat) : Int) ++ bytesO l, 0)
def wfO (l : List (List Int)) : Prop := ∀ r ∈ l, 0 ≤ r.getD 2 0 ∧ r.getD 2 0 < 256
theorem bytesO_app : ∀ (a b : List (List Int)), bytesO (a ++ b) = bytesO a ++ bytesO b
  | [], _ => rfl
  | r :: t, b => by
    show rowB r ++ bytesO (t ++ b) = rowB r ++ bytesO t ++ bytesO b
    rw [bytesO_app t b, List.append_assoc]
theorem rowB_len {r : List Int} (h : rowOk r = true) : (rowB r).length ≤ 71 := by
  unfold rowOk at h
  rw [Bool.and_eq_true] at h
  obtain ⟨h1, h2⟩ := h
  have h2 := of_decide_eq_true h2
  have hc : (cmdR r).length ≤ 41 := cmdB_len h1
  have a := vint_le (n := r.getD 0 0) ⟨by omega, by omega⟩
  have b := vint_le (n := r.getD 1 0) ⟨by omega, by omega⟩
  have c := vint_le (n := (((cmdR r).length : Nat) : Int)) ⟨by omega, by omega⟩
  unfold rowB
  rw [List.length_append, List.length_append, List.length_append]
  omega
theorem bytesO_len : ∀ {l : List (List Int)}, l.all rowOk = true → (bytesO l).length ≤ 71 * l.length
  | [], _ => by simp [bytesO]
  | r :: t, h => by
    rw [List.all_cons, Bool.and_eq_true] at h
    have a := rowB_len h.1
    have b := bytesO_len h.2
    show (rowB r ++ bytesO t).length ≤ _
    rw [List.length_append, List.length_cons]
    omega
theorem take_row {l : List (List Int)} {i : Nat} (h : i < l.length) : l.take (i + 1) = l.take i ++ [l.getD i []] := by
  rw [List.take_add_one, List.getD_eq_getElem?_getD, List.getElem?_eq_getElem h]; rfl
theorem row_in {l : List (List Int)} {i : Nat} (h : i < l.length) : l.getD i [] ∈ l := by
  rw [List.getD_eq_getElem?_getD, List.getElem?_eq_getElem h]; exact List.getElem_mem _
theorem funO : Try.prog.funcs[15]? = some FO := by kernel_rfl
theorem bodO : FO.body = some (bodyF 15) := by kernel_rfl
theorem tmpO : 1 ≤ FO.ntmps := Nat.le_of_ble_eq_true (by kernel_rfl)
def tupO (b n : Nat) (e : Int) : V := .tup [.one (.slice b (.c 0) 1 (.s n) (.s n)), .one (.sint .i64 e)]
def nilO : V := .tup [.one .nils, .one (.sint .i64 109)]
theorem nilO_le : leV (List.range 1 ++ []) (.tup [.one .nils, .one (.int .i64 109)]) nilO := ⟨trivial, ⟨rfl, rfl⟩, trivial⟩
theorem ghost_slice {f : FuncId} {args : List V} {s : SB} {e : Int} (h : Works Try.prog f args [s] (.tup [.one .nils, .one (.sint .i64 e)]) [s]) : Works Try.prog f args [s] (tupO 1 0 e) [s, owB []] := by
  intro ρ K w us hm hu
  refine (h ρ K w us hm hu).mono fun en w' ⟨u, ρ', he, hv, hm'⟩ => ?_
  have hg := hm'.beside (ghost_rel w' (.ints .u8 []) (fun ρ g i r h => by simp at h) rfl) rfl
  have hl := hm'.len
  refine ⟨u, ρ' ++ [⟨0, 0, 0⟩], he, ?_, ?_⟩
  · obtain ⟨vs, hv1, hv2⟩ := hv
    refine ⟨vs, hv1, ?_⟩
    obtain ⟨v1, s1, rfl, ⟨h1, h1'⟩, h2⟩ := hv2
    simp only [C.rel] at h1
    refine ⟨v1, s1, rfl, ⟨⟨⟨0, 0, 0⟩, ?_, .inl ⟨rfl, rfl, h1⟩⟩, h1'⟩, ?_⟩
    · rw [← List.append_assoc, List.getElem?_append_right (by rw [hl]; simp)]
      rw [hl]; rfl
    · obtain ⟨v2, _, rfl, ⟨h3, h3'⟩, h4⟩ := h2
      exact ⟨v2, _, rfl, ⟨h3, h3'⟩, h4⟩
  · rw [← List.append_assoc]; exact hg
theorem allO_nil : allP [] := trivial
theorem allO_cons {p : Prop} {r : List Prop} (h : p) (h' : allP r) : allP (p :: r) := ⟨h, h'⟩
theorem ndO : (List.range 1 ++ [6]).Nodup := by decide
theorem ndO1 : (List.range 1 ++ [1]).Nodup := by decide
theorem mn_neg (a b : Int) : (if b < a then b else a) < 0 ↔ ¬ (0 ≤ a ∧ 0 ≤ b) := by split <;> omega
theorem capO_works {f : FuncId} {b n c : Nat} {args : List V} {bs bs' : List SB} {v : V} (h : n ≤ c → Works Try.prog f (slO b n c :: args) bs v bs') : Works Try.prog f (slO b n c :: args) bs v bs' := by
  intro ρ K w us hm hu
  have hc : n ≤ c := by
    obtain ⟨u, s, _, ⟨⟨e, _, hu⟩, _⟩, _⟩ := hu
    rcases hu with ⟨h0, _⟩ | ⟨_, _, _, h1, _⟩
    · simp only [N.v] at h0; omega
    · exact h1
  exact h hc ρ K w us hm hu
set_option maxRecDepth 100000 in
/-- all are orders -/
theorem ord_yes (l : List (List Int)) (n c : Nat) (hn : n ≤ l.length) (hw : wfO l) (hm : n ≤ 1000) (hall : (l.take n).all rowOk = true) : Works Try.prog 15 [slO 0 n c] [roO l] (tupO 1 (vint ((n : Nat) : Int) ++ bytesO (l.take n)).length 0) [roO l, owB (vint ((n : Nat) : Int) ++ bytesO (l.take n))] := capO_works fun hc => by
  have ew : IntKind.wrap .u64 (n : Int) = ((n : Nat) : Int) := w64 (by omega) (by omega)
  have qE := congrFun (congrFun (congrFun orE l) n) c
  rw [ew] at qE
  refine works_loop (I := Nat) (Inv := fun i h => TO l n c (vint ((n : Nat) : Int) ++ bytesO (l.take i)) i h) (good := fun i => i ≤ n) (μ := fun i => n - i) (i := 0) (r := [1]) (callO_ok 4) funO bodO (by exact tmpO) (fun _ _ => ⟨rfl, rfl⟩)
    qE ⟨⟨by omega, by omega⟩, decide_eq_false (by omega), trivial⟩ ⟨ndO1, ?_, ?_⟩ (Nat.zero_le _) ?_
  · simp [TO, bsl, slO, leSlots, leV, leV1, leC, si, List.range, List.range.loop, N.v, bytesO, hc]
  · simp [TO, leBs, leB, leCells, roO, owB, bytesO]
  · intro i hi
    by_cases hlt : i < n
    · have q := congrFun (congrFun (congrFun (congrFun (congrFun orR l) n) c) (vint ((n : Nat) : Int) ++ bytesO (l.take i))) i
      have hil : i < l.length := by omega
      have hd := hw _ (row_in hil)
      have hr : rowOk (l.getD i []) = true := by
        refine List.all_eq_true.1 hall _ ?_
        have : l.take n = l.take i ++ l.getD i [] :: (l.take n).drop (i + 1) := by
          have h1 := List.take_append_drop (i + 1) (l.take n)
          rw [List.take_take, Nat.min_eq_left (by omega), take_row hil, List.append_assoc] at h1
          exact h1.symm
        rw [this]; simp
      have hlen : (bytesO (l.take i)).length ≤ 71 * i := by
        have : (l.take i).all rowOk = true := List.all_eq_true.2 fun x hx => List.all_eq_true.1 hall x (by
          have : l.take i = (l.take n).take i := by rw [List.take_take, Nat.min_eq_left (by omega)]
          rw [this] at hx
          exact List.mem_of_mem_take hx)
        have h := bytesO_len this
        rw [List.length_take, Nat.min_eq_left (by omega)] at h
        exact h
      have hvn := vint_le (n := ((n : Nat) : Int)) ⟨by omega, by omega⟩
      have hstep : vint ((n : Nat) : Int) ++ bytesO (l.take (i + 1)) = vint ((n : Nat) : Int) ++ bytesO (l.take i) ++ vint ((l.getD i []).getD 0 0) ++ vint ((l.getD i []).getD 1 0) ++ vint (((cmdR (l.getD i [])).length : Nat) : Int) ++ cmdR (l.getD i []) := by
        rw [take_row hil, bytesO_app]
        show _ ++ (_ ++ (rowB (l.getD i []) ++ [])) = _
        rw [List.append_nil]
        unfold rowB
        simp only [List.append_assoc]
      have hlo : (vint ((n : Nat) : Int) ++ bytesO (l.take i)).length ≤ 80000 := by rw [List.length_append]; omega
      have hrr := hr
      unfold rowOk at hrr
      rw [Bool.and_eq_true] at hrr
      obtain ⟨h1, h2⟩ := hrr
      obtain ⟨p1, p2, p3, p4⟩ := of_decide_eq_true h2
      have e0 : IntKind.wrap .u64 ((l.getD i []).getD 0 0) = (l.getD i []).getD 0 0 := w64 p1 (by omega)
      have e1 : IntKind.wrap .u64 ((l.getD i []).getD 1 0) = (l.getD i []).getD 1 0 := w64 p2 (by omega)
      have hv0 := vint_le (n := (l.getD i []).getD 0 0) ⟨by omega, by omega⟩
      have hv1 := vint_le (n := (l.getD i []).getD 1 0) ⟨by omega, by omega⟩
      have hcl : (cmdR (l.getD i [])).length ≤ 41 := cmdB_len h1
      simp only [e0, e1, List.take_length] at q
      unfold rightR2 at h1
      unfold cmdR at hstep hcl
      have fin : ∀ out' : List Int, vint ((n : Nat) : Int) ++ bytesO (l.take (i + 1)) = out' → leSlots (List.range 1 ++ [6]) [(4, bsl 6 out'.length out'.length), (16, slO 0 n c), (17, si .i64 n), (18, si .i64 ((i : Int) + 1))] (TO l n c (vint ((n : Nat) : Int) ++ bytesO (l.take (i + 1))) (i + 1) []).sl ∧
          leBs (List.range 1 ++ [6]) [roO l, owB out'] (TO l n c (vint ((n : Nat) : Int) ++ bytesO (l.take (i + 1))) (i + 1) []).m := by
        intro out' ho
        rw [ho]
        refine ⟨?_, ?_⟩
        · simp [TO, bsl, slO, leSlots, leV, leV1, leC, si, List.range, List.range.loop, N.v, hc]
        · simp [TO, leBs, leB, leCells, roO, owB]
      refine .round [true, true, false, false, false] [] _ _ [4, 16, 17, 18] [6] _ _ _ (i + 1) q ?_ ⟨ndO, (fin _ hstep).1, (fin _ hstep).2⟩ hlt (by omega)
      clear fin hstep hall q qE
      generalize (l.getD i []).getD 0 0 = P at *
      generalize (l.getD i []).getD 1 0 = Sq at *
      generalize cmdB ((l.getD i []).getD 2 0) ((l.getD i []).getD 3 0) ((l.getD i []).getD 4 0) ((l.getD i []).getD 5 0) ((l.getD i []).getD 6 0) = CM at *
      generalize vint ((n : Nat) : Int) ++ bytesO (l.take i) = out at *
      have k1 : (out ++ vint P).length ≤ 80010 := by rw [List.length_append]; omega
      have k2 : (out ++ vint P ++ vint Sq).length ≤ 80020 := by rw [List.length_append]; omega
      have k3 : decide ((if Sq < P then Sq else P) < 0) = false := decide_eq_false fun h => (mn_neg P Sq).1 h ⟨p1, p2⟩
      have k4 : (-9223372036854775808 : Int) ≤ (i : Int) + 1 ∧ (i : Int) + 1 ≤ 9223372036854775807 := by omega
      have k5 : (out ++ vint P ++ vint Sq).length + CM.length + 20 ≤ 140737488355328 := by omega
      have k6 : (out ++ vint P).length + 10 ≤ 140737488355328 := by omega
      have k7 : out.length + 10 ≤ 140737488355328 := by omega
      have k8 : u64 P := ⟨p1, by omega⟩
      have k9 : u64 Sq := ⟨p2, by omega⟩
      have k10 : (i : Int) < (n : Int) := by omega
      have k11 : (0 : Int) ≤ (i : Int) := by omega
      have k12 : decide (1099511627776 < Sq) = false := decide_eq_false (by omega)
      have k13 : decide (1073741824 < P) = false := decide_eq_false (by omega)
      repeat' (first | exact allO_nil | refine allO_cons ?_ ?_)
      all_goals first | exact Eq.refl _ | exact k3 | exact k4 | exact k5 | exact k6 | exact k7 | exact k8 | exact k9 | exact k10 | exact k11 | exact k12 | exact k13 | exact h1 | exact hd | exact hil | exact Nat.le_refl _ | exact decide_eq_true k10
    · have hin : i = n := by omega
      subst hin
      refine .stop [false] [] _ _ [1] _ _ _ (congrFun (congrFun (congrFun (congrFun (congrFun orX l) i) c) (vint ((i : Nat) : Int) ++ bytesO (l.take i))) i) ⟨decide_eq_false (by omega), trivial⟩ ndO1 ?_ ?_
      · simp [tupO, leV, leL1, leV1, leC, N.v, List.range, List.range.loop]
      · simp [leBs, leB, leCells, roO, owB]
set_option maxRecDepth 100000 in
/-- one is none -/
theorem ord_no (l : List (List Int)) (n c : Nat) (hn : n ≤ l.length) (hw : wfO l) (hm : n ≤ 1000) (hall : (l.take n).all rowOk = false) : Works Try.prog 15 [slO 0 n c] [roO l] nilO [roO l] := capO_works fun hc => by
  have ew : IntKind.wrap .u64 (n : Int) = ((n : Nat) : Int) := w64 (by omega) (by omega)
  have qE := congrFun (congrFun (congrFun orE l) n) c
  rw [ew] at qE
  refine works_loop (I := Nat) (Inv := fun i h => TO l n c (vint ((n : Nat) : Int) ++ bytesO (l.take i)) i h) (good := fun i => i ≤ n ∧ (l.take i).all rowOk = true) (μ := fun i => n - i) (i := 0) (r := [1]) (callO_ok 4) funO bodO (by exact tmpO) (fun _ _ => ⟨rfl, rfl⟩)
    qE ⟨⟨by omega, by omega⟩, decide_eq_false (by omega), trivial⟩ ⟨ndO1, ?_, ?_⟩ ⟨Nat.zero_le _, rfl⟩ ?_
  · simp [TO, bsl, slO, leSlots, leV, leV1, leC, si, List.range, List.range.loop, N.v, bytesO, hc]
  · simp [TO, leBs, leB, leCells, roO, owB, bytesO]
  · intro i ⟨hi, hok⟩
    have hlt : i < n := by
      rcases Nat.lt_or_ge i n with h | h
      · exact h
      · have : i = n := by omega
        subst this; rw [hok] at hall; cases hall
    have hil : i < l.length := by omega
    have hd := hw _ (row_in hil)
    have app : ∀ {A : Type} {f g : List (List Int) → Nat → Nat → List Int → Nat → A}, f = g → f l n c (vint ((n : Nat) : Int) ++ bytesO (l.take i)) i = g l n c (vint ((n : Nat) : Int) ++ bytesO (l.take i)) i := fun hh => by rw [hh]
    have hlen : (bytesO (l.take i)).length ≤ 71 * i := by
      have h := bytesO_len hok
      rw [List.length_take, Nat.min_eq_left (by omega)] at h
      exact h
    have hvn := vint_le (n := ((n : Nat) : Int)) ⟨by omega, by omega⟩
    have k10 : (i : Int) < (n : Int) := by omega
    have k11 : (0 : Int) ≤ (i : Int) := by omega
    have stop : ∀ (h : List Bool) (ob : List Prop), endV (List.range 1 ++ []) (rndO 0 h l n c (vint ((n : Nat) : Int) ++ bytesO (l.take i)) i) = some (.tup [.one .nils, .one (.int .i64 109)], [roO l], ob) → allP ob →
        Step Try.prog (callO 4) effO FO LO.1 LO.2 1 (fun i h => TO l n c (vint ((n : Nat) : Int) ++ bytesO (l.take i)) i h) (fun i => i ≤ n ∧ (l.take i).all rowOk = true) (fun i => n - i) nilO [roO l] i := by
      intro h ob hr hob
      exact .stop h [] 0 100000 [] _ _ _ hr hob ndG nilO_le ⟨⟨fun h => h, rfl, rfl⟩, trivial⟩
    by_cases hr : rightR2 (l.getD i []) = true
    · have hr' := hr
      unfold rightR2 at hr'
      by_cases hneg : 0 ≤ (l.getD i []).getD 0 0 ∧ 0 ≤ (l.getD i []).getD 1 0
      · have k3 : decide ((if (l.getD i []).getD 1 0 < (l.getD i []).getD 0 0 then (l.getD i []).getD 1 0 else (l.getD i []).getD 0 0) < 0) = false := decide_eq_false fun h => (mn_neg _ _).1 h hneg
        by_cases hP : 1073741824 < (l.getD i []).getD 0 0
        · exact stop _ _ (app orF2) ⟨decide_eq_true hP, k3, hr', hd, hil, k11, k10, decide_eq_true k10, trivial⟩
        · by_cases hS : 1099511627776 < (l.getD i []).getD 1 0
          · exact stop _ _ (app orF3) ⟨decide_eq_true hS, decide_eq_false hP, k3, hr', hd, hil, k11, k10, decide_eq_true k10, trivial⟩
          · have hrow : rowOk (l.getD i []) = true := by
              unfold rowOk
              rw [hr, Bool.true_and]
              exact decide_eq_true ⟨hneg.1, hneg.2, by omega, by omega⟩
            have q := app orR
            have e0 : IntKind.wrap .u64 ((l.getD i []).getD 0 0) = (l.getD i []).getD 0 0 := w64 hneg.1 (by omega)
            have e1 : IntKind.wrap .u64 ((l.getD i []).getD 1 0) = (l.getD i []).getD 1 0 := w64 hneg.2 (by omega)
            have hv0 := vint_le (n := (l.getD i []).getD 0 0) ⟨by omega, by omega⟩
            have hv1 := vint_le (n := (l.getD i []).getD 1 0) ⟨by omega, by omega⟩
            have hcl : (cmdR (l.getD i [])).length ≤ 41 := cmdB_len hr
            have hstep : vint ((n : Nat) : Int) ++ bytesO (l.take (i + 1)) = vint ((n : Nat) : Int) ++ bytesO (l.take i) ++ vint ((l.getD i []).getD 0 0) ++ vint ((l.getD i []).getD 1 0) ++ vint (((cmdR (l.getD i [])).length : Nat) : Int) ++ cmdR (l.getD i []) := by
              rw [take_row hil, bytesO_app]
              show _ ++ (_ ++ (rowB (l.getD i []) ++ [])) = _
              rw [List.append_nil]
              unfold rowB
              simp only [List.append_assoc]
            have hlo : (vint ((n : Nat) : Int) ++ bytesO (l.take i)).length ≤ 80000 := by rw [List.length_append]; omega
            simp only [e0, e1, List.take_length] at q
            unfold cmdR at hstep hcl
            have fin : ∀ out' : List Int, vint ((n : Nat) : Int) ++ bytesO (l.take (i + 1)) = out' → leSlots (List.range 1 ++ [6]) [(4, bsl 6 out'.length out'.length), (16, slO 0 n c), (17, si .i64 n), (18, si .i64 ((i : Int) + 1))] (TO l n c (vint ((n : Nat) : Int) ++ bytesO (l.take (i + 1))) (i + 1) []).sl ∧
                leBs (List.range 1 ++ [6]) [roO l, owB out'] (TO l n c (vint ((n : Nat) : Int) ++ bytesO (l.take (i + 1))) (i + 1) []).m := by
              intro out' ho
              rw [ho]
              refine ⟨?_, ?_⟩
              · simp [TO, bsl, slO, leSlots, leV, leV1, leC, si, List.range, List.range.loop, N.v, hc]
              · simp [TO, leBs, leB, leCells, roO, owB]
            have hnext : (l.take (i + 1)).all rowOk = true := by
              rw [take_row hil, List.all_append, hok, List.all_cons, hrow]; rfl
            refine .round [true, true, false, false, false] [] _ _ [4, 16, 17, 18] [6] _ _ _ (i + 1) q ?_ ⟨ndO, (fin _ hstep).1, (fin _ hstep).2⟩ ⟨hlt, hnext⟩ (by omega)
            clear fin hstep hall q qE hnext stop app
            generalize (l.getD i []).getD 0 0 = P at *
            generalize (l.getD i []).getD 1 0 = Sq at *
            generalize cmdB ((l.getD i []).getD 2 0) ((l.getD i []).getD 3 0) ((l.getD i []).getD 4 0) ((l.getD i []).getD 5 0) ((l.getD i []).getD 6 0) = CM at *
            generalize vint ((n : Nat) : Int) ++ bytesO (l.take i) = out at *
            have k1 : (out ++ vint P).length ≤ 80010 := by rw [List.length_append]; omega
            have k2 : (out ++ vint P ++ vint Sq).length ≤ 80020 := by rw [List.length_append]; omega
            have k4 : (-9223372036854775808 : Int) ≤ (i : Int) + 1 ∧ (i : Int) + 1 ≤ 9223372036854775807 := by omega
            have k5 : (out ++ vint P ++ vint Sq).length + CM.length + 20 ≤ 140737488355328 := by omega
            have k6 : (out ++ vint P).length + 10 ≤ 140737488355328 := by omega
            have k7 : out.length + 10 ≤ 140737488355328 := by omega
            have k8 : u64 P := ⟨hneg.1, by omega⟩
            have k9 : u64 Sq := ⟨hneg.2, by omega⟩
            have k12 : decide (1099511627776 < Sq) = false := decide_eq_false (by omega)
            have k13 : decide (1073741824 < P) = false := decide_eq_false (by omega)
            repeat' (first | exact allO_nil | refine allO_cons ?_ ?_)
            all_goals first | exact Eq.refl _ | exact k3 | exact k4 | exact k5 | exact k6 | exact k7 | exact k8 | exact k9 | exact k10 | exact k11 | exact k12 | exact k13 | exact hr' | exact hd | exact hil | exact Nat.le_refl _ | exact decide_eq_true k10
      · exact stop _ _ (app orF1) ⟨decide_eq_true ((mn_neg _ _).2 hneg), hr', hd, hil, k11, k10, decide_eq_true k10, trivial⟩
    · exact stop _ _ (app orF0) ⟨by unfold rightR2 at hr; exact Bool.eq_false_iff.2 hr, hd, hil, k11, k10, decide_eq_true k10, trivial⟩
theorem ord_works (l : List (List Int)) (n c : Nat) (hn : n ≤ l.length) (hw : wfO l) : Works Try.prog 15 [slO 0 n c] [roO l] (tupO 1 (ordS (l.take n)).1.length (ordS (l.take n)).2) [roO l, owB (ordS (l.take n)).1] := by
  have hl : (l.take n).length = n := by rw [List.length_take]; omega
  by_cases hb : 1000 < n
  · have e : ordS (l.take n) = ([], 109) := by unfold ordS; rw [if_pos (.inl (by omega))]
    rw [e]
    exact ghost_slice (works_of (r := []) tabO_ok (congrFun (congrFun (congrFun orBig l) n) c) ⟨decide_eq_true (by omega), trivial⟩ ndG nilO_le ⟨⟨fun h => h, rfl, rfl⟩, trivial⟩)
  · cases ha : (l.take n).all rowOk with
    | true =>
      have e : ordS (l.take n) = (vint ((n : Nat) : Int) ++ bytesO (l.take n), 0) := by
        unfold ordS; rw [if_neg (fun h => by rcases h with h | h; omega; rw [ha] at h; cases h), hl]
      rw [e]
      exact ord_yes l n c hn hw (by omega) ha
    | false =>
      have e : ordS (l.take n) = ([], 109) := by unfold ordS; rw [if_pos (.inr ha)]
      rw [e]
      exact ghost_slice (ord_no l n c hn hw (by omega) ha)
def gOrd : Sx.Loc := fun args bs => match args, bs with
  | [.v (.one (.slice 0 (.c 0) 7 (.s n) (.s _)))], [⟨false, .recs ks l⟩] => match decide (ks = ksO) with
    | true => some (tupO 1 (ordS (l.take n)).1.length (ordS (l.take n)).2, [roO l, owB (ordS (l.take n)).1], [n ≤ l.length, wfO l])
    | false => none
  | _, _ => none
def wantO : List V → List Want
  | .v (.one (.slice _ _ _ _ _)) :: _ => [(false, .recs ksO)]
  | _ => []
theorem ord_tab : TabOk Try.prog 15 (loc wantO gOrd) := loc_ok fun xs bs v bs' ob hg hob hokb => by
  unfold gOrd at hg
  split at hg
  · rename_i n c ks l
    split at hg
    · rename_i hk
      injection hg with hg; injection hg with e1 e2; injection e2 with e2 e3
      subst e1; subst e2; subst e3
      have hk' : ks = ksO := of_decide_eq_true hk
      subst hk'
      exact ord_works l n c (hob _ (by simp)) (hob (wfO l) (by simp))
    · cases hg
  · cases hg
end
section
open Go.Sx
/-- a reader: bytes, a place in them, whether it has failed -/
def rdr (n c : Nat) (a : Int) (bad : Bool) : SB := ⟨true, .exp [.slice 1 (.c 0) 1 (.s n) (.s c), .sint .i64 a, .sbool bad]⟩
def ptR : V := .v (.one (.ptr 0 (.c 0) 1 0))
def gGetUF (F : GI) : Sx.Loc := fun args bs => match args, bs with
  | [.v (.one (.slice 0 (.c 0) 1 (.s n) (.s _))), .v (.one (.sint .i64 a))], [⟨false, .ints k l⟩] => match decide (k = .u8) with
    | true => some (tupG (F l n a).1 (F l n a).2.1 (F l n a).2.2, [roB l], [n ≤ l.length, n ≤ 1000000000, wfB l])
    | false => none
  | _, _ => none
def tabNm (F : GI) := tabs [(37, loc wantRo (gGetUF F))]
noncomputable def nm (F : GI) (m : Int) (l : List Int) (n c : Nat) (a : Int) (bad : Bool) (h : List Bool) := retV [0, 1] (callN Try.prog (tabNm F) (fun f => Nat.beq f 40) 100000 4 32 [ptR, si .u64 m] [rdr n c a bad, roB l] h)
theorem nm1 : (fun (F : GI) (m : Int) (l : List Int) (n c : Nat) (a : Int) (bad : Bool) => nm F m l n c a bad [false, true]) = fun (F : GI) (m : Int) (l : List Int) (n : Nat) (c : Nat) (a : Int) (bad : Bool) => some (((V.v (V1.one (C.int (IntKind.i64) ((0 : Int))))), ([(SB.mk (true) (Cells.exp [(C.slice ((1 : Nat)) (N.c ((0 : Nat))) ((1 : Nat)) (N.s (n)) (N.s (c))), (C.sint (IntKind.i64) (a)), (C.bool (true))])), (SB.mk (false) (Cells.ints (IntKind.u8) (l)))], [bad = true, decide (Prod.snd (Prod.snd (F l n a)) = (0 : Int)) = false, n ≤ List.length l, n ≤ (1000000000 : Nat), wfB l]))) := by kernel_rfl
theorem nm2 : (fun (F : GI) (m : Int) (l : List Int) (n c : Nat) (a : Int) (bad : Bool) => nm F m l n c a bad [false, false]) = fun (F : GI) (m : Int) (l : List Int) (n : Nat) (c : Nat) (a : Int) (bad : Bool) => some (((V.v (V1.one (C.int (IntKind.i64) ((0 : Int))))), ([(SB.mk (true) (Cells.exp [(C.slice ((1 : Nat)) (N.c ((0 : Nat))) ((1 : Nat)) (N.s (n)) (N.s (c))), (C.sint (IntKind.i64) (a)), (C.bool (true))])), (SB.mk (false) (Cells.ints (IntKind.u8) (l)))], [bad = false, decide (Prod.snd (Prod.snd (F l n a)) = (0 : Int)) = false, n ≤ List.length l, n ≤ (1000000000 : Nat), wfB l]))) := by kernel_rfl
theorem nm3 : (fun (F : GI) (m : Int) (l : List Int) (n c : Nat) (a : Int) (bad : Bool) => nm F m l n c a bad [true, true]) = fun (F : GI) (m : Int) (l : List Int) (n : Nat) (c : Nat) (a : Int) (bad : Bool) => some (((V.v (V1.one (C.int (IntKind.i64) ((0 : Int))))), ([(SB.mk (true) (Cells.exp [(C.slice ((1 : Nat)) (N.c ((0 : Nat))) ((1 : Nat)) (N.s (n)) (N.s (c))), (C.sint (IntKind.i64) (a)), (C.bool (true))])), (SB.mk (false) (Cells.ints (IntKind.u8) (l)))], [bad = true, decide (Prod.snd (Prod.snd (F l n a)) = (0 : Int)) = true, n ≤ List.length l, n ≤ (1000000000 : Nat), wfB l]))) := by kernel_rfl
theorem nm4 : (fun (F : GI) (m : Int) (l : List Int) (n c : Nat) (a : Int) (bad : Bool) => nm F m l n c a bad [true, false, false, true]) = fun (F : GI) (m : Int) (l : List Int) (n : Nat) (c : Nat) (a : Int) (bad : Bool) => some (((V.v (V1.one (C.int (IntKind.i64) ((0 : Int))))), ([(SB.mk (true) (Cells.exp [(C.slice ((1 : Nat)) (N.c ((0 : Nat))) ((1 : Nat)) (N.s (n)) (N.s (c))), (C.sint (IntKind.i64) (a)), (C.sbool (!decide (Prod.fst (F l n a) ≤ m)))])), (SB.mk (false) (Cells.ints (IntKind.u8) (l)))], [(!!!decide (Prod.fst (F l n a) ≤ m)) = true, (!!decide (Prod.fst (F l n a) ≤ m)) = false, bad = false, decide (Prod.snd (Prod.snd (F l n a)) = (0 : Int)) = true, n ≤ List.length l, n ≤ (1000000000 : Nat), wfB l]))) := by kernel_rfl
theorem nm5 : (fun (F : GI) (m : Int) (l : List Int) (n c : Nat) (a : Int) (bad : Bool) => nm F m l n c a bad [true, false, true, false]) = fun (F : GI) (m : Int) (l : List Int) (n : Nat) (c : Nat) (a : Int) (bad : Bool) => some (((V.v (V1.one (C.sint (IntKind.i64) (IntKind.wrap IntKind.i64 (Prod.fst (F l n a)))))), ([(SB.mk (true) (Cells.exp [(C.slice ((1 : Nat)) (N.c ((0 : Nat))) ((1 : Nat)) (N.s (n)) (N.s (c))), (C.sint (IntKind.i64) (Prod.fst (Prod.snd (F l n a)))), (C.sbool (!decide (Prod.fst (F l n a) ≤ m)))])), (SB.mk (false) (Cells.ints (IntKind.u8) (l)))], [(!!!decide (Prod.fst (F l n a) ≤ m)) = false, (!!decide (Prod.fst (F l n a) ≤ m)) = true, bad = false, decide (Prod.snd (Prod.snd (F l n a)) = (0 : Int)) = true, n ≤ List.length l, n ≤ (1000000000 : Nat), wfB l]))) := by kernel_rfl
abbrev GB := List Int → Nat → Int → Int → List Int × Int × Int
abbrev GR := List Int → Nat → Cmd5 × Int
def gGetBF (F : GB) : Sx.Loc := fun args bs => match args, bs with
  | [.v (.one (.slice 0 (.c 0) 1 (.s n) (.s _))), .v (.one (.sint .i64 a)), .v (.one (.sint .i64 m))], [⟨false, .ints k l⟩] => match decide (k = .u8) with
    | true => some (tup3 1 (F l n a m).1.length (F l n a m).2.1 (F l n a m).2.2, [roB l, owB (F l n a m).1], [n ≤ l.length, n ≤ 1000000000, wfB l, i64 m])
    | false => none
  | _, _ => none
def gReadF (F : GR) : Sx.Loc := fun args bs => match args, bs with
  | [.v (.one (.slice 0 (.c 0) 1 (.s n) (.s _)))], [⟨false, .ints k l⟩] => match decide (k = .u8) with
    | true => some (tupC (F l n).1 (F l n).2, [roB l], [n ≤ l.length, n ≤ 1000000000, wfB l])
    | false => none
  | _, _ => none
def tabCm (F : GB) (G : GR) := tabs [(41, loc wantRo (gGetBF F)), (13, loc wantRo (gReadF G))]
noncomputable def cm (F : GB) (G : GR) (l : List Int) (n c : Nat) (a : Int) (bad : Bool) (h : List Bool) := retV [0, 1] (callN Try.prog (tabCm F G) (fun f => Nat.beq f 40) 100000 4 33 [ptR] [rdr n c a bad, roB l] h)
theorem cm1 : (fun (F : GB) (G : GR) (l : List Int) (n c : Nat) (a : Int) (bad : Bool) => cm F G l n c a bad [false, true]) = fun (F : GB) (G : GR) (l : List Int) (n : Nat) (c : Nat) (a : Int) (bad : Bool) => some (((V.v (V1.agg [(C.sint (IntKind.u8) (Cmd5.d (Prod.fst (G (Prod.fst (F l n a (100 : Int))) (List.length (Prod.fst (F l n a (100 : Int)))))))), (C.sint (IntKind.i64) (Cmd5.A (Prod.fst (G (Prod.fst (F l n a (100 : Int))) (List.length (Prod.fst (F l n a (100 : Int)))))))), (C.sint (IntKind.i64) (Cmd5.B (Prod.fst (G (Prod.fst (F l n a (100 : Int))) (List.length (Prod.fst (F l n a (100 : Int)))))))), (C.sint (IntKind.i64) (Cmd5.C (Prod.fst (G (Prod.fst (F l n a (100 : Int))) (List.length (Prod.fst (F l n a (100 : Int)))))))), (C.sint (IntKind.i64) (Cmd5.N (Prod.fst (G (Prod.fst (F l n a (100 : Int))) (List.length (Prod.fst (F l n a (100 : Int))))))))])), ([(SB.mk (true) (Cells.exp [(C.slice ((1 : Nat)) (N.c ((0 : Nat))) ((1 : Nat)) (N.s (n)) (N.s (c))), (C.sint (IntKind.i64) (a)), (C.bool (true))])), (SB.mk (false) (Cells.ints (IntKind.u8) (l)))], [bad = true, decide (Prod.snd (Prod.snd (F l n a (100 : Int))) = (0 : Int)) = false, List.length (Prod.fst (F l n a (100 : Int))) ≤ List.length (Prod.fst (F l n a (100 : Int))), List.length (Prod.fst (F l n a (100 : Int))) ≤ (1000000000 : Nat), wfB (Prod.fst (F l n a (100 : Int))), n ≤ List.length l, n ≤ (1000000000 : Nat), wfB l, i64 (100 : Int)]))) := by kernel_rfl
theorem cm2 : (fun (F : GB) (G : GR) (l : List Int) (n c : Nat) (a : Int) (bad : Bool) => cm F G l n c a bad [false, false]) = fun (F : GB) (G : GR) (l : List Int) (n : Nat) (c : Nat) (a : Int) (bad : Bool) => some (((V.v (V1.agg [(C.sint (IntKind.u8) (Cmd5.d (Prod.fst (G (Prod.fst (F l n a (100 : Int))) (List.length (Prod.fst (F l n a (100 : Int)))))))), (C.sint (IntKind.i64) (Cmd5.A (Prod.fst (G (Prod.fst (F l n a (100 : Int))) (List.length (Prod.fst (F l n a (100 : Int)))))))), (C.sint (IntKind.i64) (Cmd5.B (Prod.fst (G (Prod.fst (F l n a (100 : Int))) (List.length (Prod.fst (F l n a (100 : Int)))))))), (C.sint (IntKind.i64) (Cmd5.C (Prod.fst (G (Prod.fst (F l n a (100 : Int))) (List.length (Prod.fst (F l n a (100 : Int)))))))), (C.sint (IntKind.i64) (Cmd5.N (Prod.fst (G (Prod.fst (F l n a (100 : Int))) (List.length (Prod.fst (F l n a (100 : Int))))))))])), ([(SB.mk (true) (Cells.exp [(C.slice ((1 : Nat)) (N.c ((0 : Nat))) ((1 : Nat)) (N.s (n)) (N.s (c))), (C.sint (IntKind.i64) (a)), (C.bool (true))])), (SB.mk (false) (Cells.ints (IntKind.u8) (l)))], [bad = false, decide (Prod.snd (Prod.snd (F l n a (100 : Int))) = (0 : Int)) = false, List.length (Prod.fst (F l n a (100 : Int))) ≤ List.length (Prod.fst (F l n a (100 : Int))), List.length (Prod.fst (F l n a (100 : Int))) ≤ (1000000000 : Nat), wfB (Prod.fst (F l n a (100 : Int))), n ≤ List.length l, n ≤ (1000000000 : Nat), wfB l, i64 (100 : Int)]))) := by kernel_rfl
theorem cm3 : (fun (F : GB) (G : GR) (l : List Int) (n c : Nat) (a : Int) (bad : Bool) => cm F G l n c a bad [true, true]) = fun (F : GB) (G : GR) (l : List Int) (n : Nat) (c : Nat) (a : Int) (bad : Bool) => some (((V.v (V1.agg [(C.sint (IntKind.u8) (Cmd5.d (Prod.fst (G (Prod.fst (F l n a (100 : Int))) (List.length (Prod.fst (F l n a (100 : Int)))))))), (C.sint (IntKind.i64) (Cmd5.A (Prod.fst (G (Prod.fst (F l n a (100 : Int))) (List.length (Prod.fst (F l n a (100 : Int)))))))), (C.sint (IntKind.i64) (Cmd5.B (Prod.fst (G (Prod.fst (F l n a (100 : Int))) (List.length (Prod.fst (F l n a (100 : Int)))))))), (C.sint (IntKind.i64) (Cmd5.C (Prod.fst (G (Prod.fst (F l n a (100 : Int))) (List.length (Prod.fst (F l n a (100 : Int)))))))), (C.sint (IntKind.i64) (Cmd5.N (Prod.fst (G (Prod.fst (F l n a (100 : Int))) (List.length (Prod.fst (F l n a (100 : Int))))))))])), ([(SB.mk (true) (Cells.exp [(C.slice ((1 : Nat)) (N.c ((0 : Nat))) ((1 : Nat)) (N.s (n)) (N.s (c))), (C.sint (IntKind.i64) (a)), (C.bool (true))])), (SB.mk (false) (Cells.ints (IntKind.u8) (l)))], [bad = true, decide (Prod.snd (Prod.snd (F l n a (100 : Int))) = (0 : Int)) = true, List.length (Prod.fst (F l n a (100 : Int))) ≤ List.length (Prod.fst (F l n a (100 : Int))), List.length (Prod.fst (F l n a (100 : Int))) ≤ (1000000000 : Nat), wfB (Prod.fst (F l n a (100 : Int))), n ≤ List.length l, n ≤ (1000000000 : Nat), wfB l, i64 (100 : Int)]))) := by kernel_rfl
theorem cm4 : (fun (F : GB) (G : GR) (l : List Int) (n c : Nat) (a : Int) (bad : Bool) => cm F G l n c a bad [true, false, false]) = fun (F : GB) (G : GR) (l : List Int) (n : Nat) (c : Nat) (a : Int) (bad : Bool) => some (((V.v (V1.agg [(C.sint (IntKind.u8) (Cmd5.d (Prod.fst (G (Prod.fst (F l n a (100 : Int))) (List.length (Prod.fst (F l n a (100 : Int)))))))), (C.sint (IntKind.i64) (Cmd5.A (Prod.fst (G (Prod.fst (F l n a (100 : Int))) (List.length (Prod.fst (F l n a (100 : Int)))))))), (C.sint (IntKind.i64) (Cmd5.B (Prod.fst (G (Prod.fst (F l n a (100 : Int))) (List.length (Prod.fst (F l n a (100 : Int)))))))), (C.sint (IntKind.i64) (Cmd5.C (Prod.fst (G (Prod.fst (F l n a (100 : Int))) (List.length (Prod.fst (F l n a (100 : Int)))))))), (C.sint (IntKind.i64) (Cmd5.N (Prod.fst (G (Prod.fst (F l n a (100 : Int))) (List.length (Prod.fst (F l n a (100 : Int))))))))])), ([(SB.mk (true) (Cells.exp [(C.slice ((1 : Nat)) (N.c ((0 : Nat))) ((1 : Nat)) (N.s (n)) (N.s (c))), (C.sint (IntKind.i64) (a)), (C.sbool (!decide (Prod.snd (G (Prod.fst (F l n a (100 : Int))) (List.length (Prod.fst (F l n a (100 : Int))))) = (0 : Int))))])), (SB.mk (false) (Cells.ints (IntKind.u8) (l)))], [(!!decide (Prod.snd (G (Prod.fst (F l n a (100 : Int))) (List.length (Prod.fst (F l n a (100 : Int))))) = (0 : Int))) = false, bad = false, decide (Prod.snd (Prod.snd (F l n a (100 : Int))) = (0 : Int)) = true, List.length (Prod.fst (F l n a (100 : Int))) ≤ List.length (Prod.fst (F l n a (100 : Int))), List.length (Prod.fst (F l n a (100 : Int))) ≤ (1000000000 : Nat), wfB (Prod.fst (F l n a (100 : Int))), n ≤ List.length l, n ≤ (1000000000 : Nat), wfB l, i64 (100 : Int)]))) := by kernel_rfl
theorem cm5 : (fun (F : GB) (G : GR) (l : List Int) (n c : Nat) (a : Int) (bad : Bool) => cm F G l n c a bad [true, false, true]) = fun (F : GB) (G : GR) (l : List Int) (n : Nat) (c : Nat) (a : Int) (bad : Bool) => some (((V.v (V1.agg [(C.sint (IntKind.u8) (Cmd5.d (Prod.fst (G (Prod.fst (F l n a (100 : Int))) (List.length (Prod.fst (F l n a (100 : Int)))))))), (C.sint (IntKind.i64) (Cmd5.A (Prod.fst (G (Prod.fst (F l n a (100 : Int))) (List.length (Prod.fst (F l n a (100 : Int)))))))), (C.sint (IntKind.i64) (Cmd5.B (Prod.fst (G (Prod.fst (F l n a (100 : Int))) (List.length (Prod.fst (F l n a (100 : Int)))))))), (C.sint (IntKind.i64) (Cmd5.C (Prod.fst (G (Prod.fst (F l n a (100 : Int))) (List.length (Prod.fst (F l n a (100 : Int)))))))), (C.sint (IntKind.i64) (Cmd5.N (Prod.fst (G (Prod.fst (F l n a (100 : Int))) (List.length (Prod.fst (F l n a (100 : Int))))))))])), ([(SB.mk (true) (Cells.exp [(C.slice ((1 : Nat)) (N.c ((0 : Nat))) ((1 : Nat)) (N.s (n)) (N.s (c))), (C.sint (IntKind.i64) (Prod.fst (Prod.snd (F l n a (100 : Int))))), (C.sbool (!decide (Prod.snd (G (Prod.fst (F l n a (100 : Int))) (List.length (Prod.fst (F l n a (100 : Int))))) = (0 : Int))))])), (SB.mk (false) (Cells.ints (IntKind.u8) (l)))], [(!!decide (Prod.snd (G (Prod.fst (F l n a (100 : Int))) (List.length (Prod.fst (F l n a (100 : Int))))) = (0 : Int))) = true, bad = false, decide (Prod.snd (Prod.snd (F l n a (100 : Int))) = (0 : Int)) = true, List.length (Prod.fst (F l n a (100 : Int))) ≤ List.length (Prod.fst (F l n a (100 : Int))), List.length (Prod.fst (F l n a (100 : Int))) ≤ (1000000000 : Nat), wfB (Prod.fst (F l n a (100 : Int))), n ≤ List.length l, n ≤ (1000000000 : Nat), wfB l, i64 (100 : Int)]))) := by kernel_rfl
end
section
open Go.ChangeShapes Go.WideShapes Go.ChangeAt Go.RowKit Go.Sx
theorem works_le2 {f : FuncId} {args : List V} {s0 t0 s1 : SB} {v : V} {bs' : List SB} (h : Works Try.prog f args [t0, s1] v bs') (h0 : leB [0, 1] s0 t0) (h1 : leB [0, 1] s1 s1) : Works Try.prog f args [s0, s1] v bs' := by
  intro ρ K w us hm hu
  have hl := hm.len
  have hrel : Rel ρ K w 0 ⟨[], [s0, s1], [], []⟩ { tmps := #[], defers := [] } w := ⟨⟨rfl, rfl, fun t v h => by cases h⟩, hm⟩
  obtain ⟨ρ2, hs, hr2⟩ := hrel.le (sel := [0, 1]) (T := ⟨[], [t0, s1], [], []⟩) ⟨by decide, trivial, ⟨⟨s0, rfl, h0⟩, ⟨s1, rfl, h1⟩, trivial⟩⟩
  have e : ρ2 = ρ := by
    have l2 := hs.len
    refine List.ext_getElem? fun i => ?_
    by_cases hi : i < 2
    · exact hs.get i i (by have : i = 0 ∨ i = 1 := by omega
                           rcases this with rfl | rfl <;> rfl)
    · rw [List.getElem?_eq_none (by rw [l2]; simp; omega), List.getElem?_eq_none (by rw [hl]; simp; omega)]
  subst e
  exact h ρ2 K w us hr2.m hu
/-- a number is read: the number, the place, whether it has failed -/
def numS (l : List Int) (n : Nat) (a : Int) (bad : Bool) (m : Int) : Int × Int × Bool :=
  let ok := decide ((getU l n a).2.2 = 0) && decide ((getU l n a).1 ≤ m)
  (if bad || !ok then 0 else (getU l n a).1, if bad || !ok then a else (getU l n a).2.1, bad || !ok)
def read2 (l : List Int) (n : Nat) : Cmd5 × Int := (readC l n, readE l n)
def blobC (l : List Int) (n : Nat) (a : Int) : Cmd5 × Int := read2 (getB l n a 100).1 (getB l n a 100).1.length
/-- a command is read -/
def comS (l : List Int) (n : Nat) (a : Int) (bad : Bool) : Cmd5 × Int × Bool :=
  let ok := decide ((getB l n a 100).2.2 = 0) && decide ((blobC l n a).2 = 0)
  ((blobC l n a).1, if bad || !ok then a else (getB l n a 100).2.1, bad || !ok)
theorem getUF_tab : TabOk Try.prog 37 (loc wantRo (gGetUF getU)) := loc_ok fun xs bs v bs' ob hg hob hokb => by
  unfold gGetUF at hg
  split at hg
  · rename_i n c a k l
    split at hg
    · rename_i hk
      injection hg with hg; injection hg with e1 e2; injection e2 with e2 e3
      subst e1; subst e2; subst e3
      have hk' : k = .u8 := of_decide_eq_true hk
      subst hk'
      exact get_works l n c a (hob _ (by simp)) (hob (n ≤ 1000000000) (by simp)) (hob (wfB l) (by simp))
    · cases hg
  · cases hg
theorem getBF_tab : TabOk Try.prog 41 (loc wantRo (gGetBF getB)) := loc_ok fun xs bs v bs' ob hg hob hokb => by
  unfold gGetBF at hg
  split at hg
  · rename_i n c a m k l
    split at hg
    · rename_i hk
      injection hg with hg; injection hg with e1 e2; injection e2 with e2 e3
      subst e1; subst e2; subst e3
      have hk' : k = .u8 := of_decide_eq_true hk
      subst hk'
      exact getb_works l n c a m (hob _ (by simp)) (hob (n ≤ 1000000000) (by simp)) (hob (wfB l) (by simp)) (hob (i64 m) (by simp))
    · cases hg
  · cases hg
theorem readF_tab : TabOk Try.prog 13 (loc wantRo (gReadF read2)) := loc_ok fun xs bs v bs' ob hg hob hokb => by
  unfold gReadF at hg
  split at hg
  · rename_i n c k l
    split at hg
    · rename_i hk
      injection hg with hg; injection hg with e1 e2; injection e2 with e2 e3
      subst e1; subst e2; subst e3
      have hk' : k = .u8 := of_decide_eq_true hk
      subst hk'
      exact read_works l n c (hob _ (by simp)) (hob (n ≤ 1000000000) (by simp)) (hob (wfB l) (by simp))
    · cases hg
  · cases hg
theorem tabNm_ok : ∀ f g, tabNm getU f = some g → TabOk Try.prog f g := tabs_ok fun x hx => by
  simp only [List.mem_cons, List.not_mem_nil, or_false] at hx
  rcases hx with rfl
  exact getUF_tab
theorem tabCm_ok : ∀ f g, tabCm getB read2 f = some g → TabOk Try.prog f g := tabs_ok fun x hx => by
  simp only [List.mem_cons, List.not_mem_nil, or_false] at hx
  rcases hx with rfl | rfl
  · exact getBF_tab
  · exact readF_tab
theorem nd2L : (List.range 2 ++ ([] : List Nat)).Nodup := by decide
theorem rdr_le {n c : Nat} {a : Int} {b b' : Bool} {l : List Int} (hc : n ≤ c) {y : Sx.C} (hy : leC [0, 1] y (.sbool b')) : leBs [0, 1] [⟨true, .exp [.slice 1 (.c 0) 1 (.s n) (.s c), .sint .i64 a, y]⟩, ⟨false, .ints .u8 l⟩] [rdr n c a b', roB l] :=
  ⟨⟨fun h => h, ⟨rfl, rfl, rfl, rfl, Nat.le_refl _, hc⟩, ⟨rfl, rfl⟩, hy, trivial⟩, ⟨fun h => h, rfl, rfl⟩, trivial⟩
theorem number_works (l : List Int) (n c : Nat) (a m : Int) (bad : Bool) (hc : n ≤ c) (hn : n ≤ l.length) (hx : n ≤ 1000000000) (hw : wfB l) (hm : m ≤ 9223372036854775807) :
    Works Try.prog 32 [ptR, si .u64 m] [rdr n c a bad, roB l] (si .i64 (numS l n a bad m).1) [rdr n c (numS l n a bad m).2.1 (numS l n a bad m).2.2, roB l] := by
  have hr := getU_range hw n a
  have app : ∀ {A : Type} {f g : GI → Int → List Int → Nat → Nat → Int → Bool → A}, f = g → f getU m l n c a bad = g getU m l n c a bad := fun hh => by rw [hh]
  by_cases he : (getU l n a).2.2 = 0
  · have d1 : decide ((getU l n a).2.2 = 0) = true := decide_eq_true he
    cases bad with
    | true =>
      have e : numS l n a true m = (0, a, true) := by simp [numS]
      rw [e]
      exact works_of (r := []) tabNm_ok (app nm3) ⟨rfl, d1, hn, hx, hw, trivial⟩ nd2L ⟨rfl, rfl⟩ (rdr_le hc (b := true) rfl)
    | false =>
      by_cases hv : (getU l n a).1 ≤ m
      · have e : numS l n a false m = ((getU l n a).1, (getU l n a).2.1, false) := by simp [numS, he, hv]
        rw [e]
        have q := app nm5
        rw [decide_eq_true hv, wi64 (n := (getU l n a).1) (by omega) (by omega)] at q
        exact works_of (r := []) tabNm_ok q ⟨rfl, rfl, rfl, d1, hn, hx, hw, trivial⟩ nd2L ⟨rfl, rfl⟩ (rdr_le hc (b := true) rfl)
      · have e : numS l n a false m = (0, a, true) := by simp [numS, he, hv]
        rw [e]
        have q := app nm4
        rw [decide_eq_false hv] at q
        exact works_of (r := []) tabNm_ok q ⟨rfl, rfl, rfl, d1, hn, hx, hw, trivial⟩ nd2L ⟨rfl, rfl⟩ (rdr_le hc (b := true) rfl)
  · have d1 : decide ((getU l n a).2.2 = 0) = false := decide_eq_false he
    have e : numS l n a bad m = (0, a, true) := by simp [numS, he]
    rw [e]
    cases bad with
    | true => exact works_of (r := []) tabNm_ok (app nm1) ⟨rfl, d1, hn, hx, hw, trivial⟩ nd2L ⟨rfl, rfl⟩ (rdr_le hc (b := true) rfl)
    | false => exact works_of (r := []) tabNm_ok (app nm2) ⟨rfl, d1, hn, hx, hw, trivial⟩ nd2L ⟨rfl, rfl⟩ (rdr_le hc (b := true) rfl)
def aggC (x : Cmd5) : V := .v (.agg [.sint .u8 x.d, .sint .i64 x.A, .sint .i64 x.B, .sint .i64 x.C, .sint .i64 x.N])
theorem getB_wf {l : List Int} (hw : wfB l) (n : Nat) (a m : Int) : wfB (getB l n a m).1 := by
  unfold getB
  split
  · exact fun x hx => by simp at hx
  · split
    · exact fun x hx => by simp at hx
    · split
      · exact fun x hx => by simp at hx
      · exact fun x hx => hw x (List.mem_of_mem_drop (List.mem_of_mem_take hx))
theorem getB_len {l : List Int} (n : Nat) (a m : Int) (hl : l.length ≤ 1000000000) : (getB l n a m).1.length ≤ 1000000000 := by
  unfold getB
  split
  · simp
  · split
    · simp
    · split
      · simp
      · simp only [List.length_take, List.length_drop]; omega
theorem command_works (l : List Int) (n c : Nat) (a : Int) (bad : Bool) (hc : n ≤ c) (hn : n ≤ l.length) (hx : n ≤ 1000000000) (hl : l.length ≤ 1000000000) (hw : wfB l) :
    Works Try.prog 33 [ptR] [rdr n c a bad, roB l] (aggC (comS l n a bad).1) [rdr n c (comS l n a bad).2.1 (comS l n a bad).2.2, roB l] := by
  have app : ∀ {A : Type} {f g : GB → GR → List Int → Nat → Nat → Int → Bool → A}, f = g → f getB read2 l n c a bad = g getB read2 l n c a bad := fun hh => by rw [hh]
  have hi : i64 100 := ⟨by decide, by decide⟩
  have hbw := getB_wf hw n a 100
  have hbl := getB_len (l := l) n a 100 hl
  have hle : leV (List.range 2 ++ []) (aggC (read2 (getB l n a 100).1 (getB l n a 100).1.length).1) (aggC (comS l n a bad).1) := ⟨⟨rfl, rfl⟩, ⟨rfl, rfl⟩, ⟨rfl, rfl⟩, ⟨rfl, rfl⟩, ⟨rfl, rfl⟩, trivial⟩
  by_cases he : (getB l n a 100).2.2 = 0
  · have d1 : decide ((getB l n a 100).2.2 = 0) = true := decide_eq_true he
    cases bad with
    | true =>
      have e1 : (comS l n a true).2.1 = a := by simp [comS]
      have e2 : (comS l n a true).2.2 = true := by simp [comS]
      rw [e1, e2]
      exact works_of (r := []) tabCm_ok (app cm3) ⟨rfl, d1, Nat.le_refl _, hbl, hbw, hn, hx, hw, hi, trivial⟩ nd2L hle (rdr_le hc (b := true) rfl)
    | false =>
      by_cases hv : (blobC l n a).2 = 0
      · have e1 : (comS l n a false).2.1 = (getB l n a 100).2.1 := by simp [comS, he, hv]
        have e2 : (comS l n a false).2.2 = false := by simp [comS, he, hv]
        rw [e1, e2]
        have q := app cm5
        have hv' : decide ((read2 (getB l n a 100).1 (getB l n a 100).1.length).2 = 0) = true := decide_eq_true hv
        rw [hv'] at q
        exact works_of (r := []) tabCm_ok q ⟨rfl, rfl, d1, Nat.le_refl _, hbl, hbw, hn, hx, hw, hi, trivial⟩ nd2L hle (rdr_le hc (b := true) rfl)
      · have e1 : (comS l n a false).2.1 = a := by simp [comS, he, hv]
        have e2 : (comS l n a false).2.2 = true := by simp [comS, he, hv]
        rw [e1, e2]
        have q := app cm4
        have hv' : decide ((read2 (getB l n a 100).1 (getB l n a 100).1.length).2 = 0) = false := decide_eq_false hv
        rw [hv'] at q
        exact works_of (r := []) tabCm_ok q ⟨rfl, rfl, d1, Nat.le_refl _, hbl, hbw, hn, hx, hw, hi, trivial⟩ nd2L hle (rdr_le hc (b := true) rfl)
  · have d1 : decide ((getB l n a 100).2.2 = 0) = false := decide_eq_false he
    have e1 : (comS l n a bad).2.1 = a := by simp [comS, he]
    have e2 : (comS l n a bad).2.2 = true := by simp [comS, he]
    rw [e1, e2]
    cases bad with
    | true => exact works_of (r := []) tabCm_ok (app cm1) ⟨rfl, d1, Nat.le_refl _, hbl, hbw, hn, hx, hw, hi, trivial⟩ nd2L hle (rdr_le hc (b := true) rfl)
    | false => exact works_of (r := []) tabCm_ok (app cm2) ⟨rfl, d1, Nat.le_refl _, hbl, hbw, hn, hx, hw, hi, trivial⟩ nd2L hle (rdr_le hc (b := true) rfl)
def cI : Sx.C → Option Int
  | .int .i64 n => some n
  | .sint .i64 n => some n
  | _ => none
def cB : Sx.C → Option Bool
  | .bool b => some b
  | .sbool b => some b
  | _ => none
theorem cI_le {x : Sx.C} {a : Int} (h : cI x = some a) : leC [0, 1] x (.sint .i64 a) := by
  unfold cI at h
  split at h
  · injection h with h; exact ⟨rfl, h⟩
  · injection h with h; exact ⟨rfl, h⟩
  · cases h
theorem cB_le {x : Sx.C} {b : Bool} (h : cB x = some b) : leC [0, 1] x (.sbool b) := by
  unfold cB at h
  split at h
  · cases h; rfl
  · cases h; rfl
  · cases h
abbrev NumF := List Int → Nat → Int → Bool → Int → Int × Int × Bool
abbrev ComF := List Int → Nat → Int → Bool → Cmd5 × Int × Bool
def gNum (F : NumF) : Sx.Loc := fun args bs => match args, bs with
  | [.v (.one (.ptr 0 (.c 0) 1 0)), .v (.one (.sint .u64 m))], [⟨true, .exp [.slice 1 (.c 0) 1 nn cc, x, y]⟩, ⟨false, .ints k l⟩] => match decide (k = .u8), cI x, cB y with
    | true, some a, some bad => some (si .i64 (F l nn.v a bad m).1, [rdr nn.v cc.v (F l nn.v a bad m).2.1 (F l nn.v a bad m).2.2, roB l], [nn.v ≤ cc.v, nn.v ≤ l.length, nn.v ≤ 1000000000, wfB l, m ≤ 9223372036854775807])
    | _, _, _ => none
  | _, _ => none
def gCom (F : ComF) : Sx.Loc := fun args bs => match args, bs with
  | [.v (.one (.ptr 0 (.c 0) 1 0))], [⟨true, .exp [.slice 1 (.c 0) 1 nn cc, x, y]⟩, ⟨false, .ints k l⟩] => match decide (k = .u8), cI x, cB y with
    | true, some a, some bad => some (aggC (F l nn.v a bad).1, [rdr nn.v cc.v (F l nn.v a bad).2.1 (F l nn.v a bad).2.2, roB l], [nn.v ≤ cc.v, nn.v ≤ l.length, nn.v ≤ 1000000000, l.length ≤ 1000000000, wfB l])
    | _, _, _ => none
  | _, _ => none
def wantRd : List V → List Want := fun _ => [(true, .any), (false, .ints .u8)]
theorem num_tab : TabOk Try.prog 32 (loc wantRd (gNum numS)) := loc_ok fun xs bs v bs' ob hg hob hokb => by
  unfold gNum at hg
  split at hg
  · rename_i m nn cc x y k l
    split at hg
    · rename_i a bad hk ha hb
      injection hg with hg; injection hg with e1 e2; injection e2 with e2 e3
      subst e1; subst e2; subst e3
      have hk' : k = .u8 := of_decide_eq_true hk
      subst hk'
      have hc := hob (nn.v ≤ cc.v) (by simp)
      exact works_le2 (number_works l nn.v cc.v a m bad hc (hob (nn.v ≤ l.length) (by simp)) (hob (nn.v ≤ 1000000000) (by simp)) (hob (wfB l) (by simp)) (hob (m ≤ 9223372036854775807) (by simp)))
        ⟨fun h => h, ⟨rfl, rfl, rfl, rfl, Nat.le_refl _, hc⟩, cI_le ha, cB_le hb, trivial⟩ ⟨fun h => h, rfl, rfl⟩
    · cases hg
  · cases hg
theorem com_tab : TabOk Try.prog 33 (loc wantRd (gCom comS)) := loc_ok fun xs bs v bs' ob hg hob hokb => by
  unfold gCom at hg
  split at hg
  · rename_i nn cc x y k l
    split at hg
    · rename_i a bad hk ha hb
      injection hg with hg; injection hg with e1 e2; injection e2 with e2 e3
      subst e1; subst e2; subst e3
      have hk' : k = .u8 := of_decide_eq_true hk
      subst hk'
      have hc := hob (nn.v ≤ cc.v) (by simp)
      exact works_le2 (command_works l nn.v cc.v a bad hc (hob (nn.v ≤ l.length) (by simp)) (hob (nn.v ≤ 1000000000) (by simp)) (hob (l.length ≤ 1000000000) (by simp)) (hob (wfB l) (by simp)))
        ⟨fun h => h, ⟨rfl, rfl, rfl, rfl, Nat.le_refl _, hc⟩, cI_le ha, cB_le hb, trivial⟩ ⟨fun h => h, rfl, rfl⟩
    · cases hg
  · cases hg
end
section
open Go.Sx
def effL : FuncId → Bool := fun f => Nat.beq f 32 || Nat.beq f 33
def tabLi (F : NumF) (G : ComF) := tabs [(32, loc wantRd (gNum F)), (33, loc wantRd (gCom G))]
noncomputable def callLi (F : NumF) (G : ComF) (d : Nat) := callN Try.prog (tabLi F G) effL 100000 d
noncomputable def LL := loopN Try.prog 17 0
noncomputable def EL : List Item := .code (.loop LL.1) :: LL.2
noncomputable def KL : List Item := .inLoop LL.1 :: LL.2
noncomputable def FL : Go.Func := match Try.prog.funcs[17]? with | some fn => fn | none => default
def rdL (n c : Nat) (a : Int) (bad : Bool) : SB := ⟨true, .exp [.slice 0 (.c 0) 1 (.s n) (.s c), .sint .i64 a, .sbool bad]⟩
def rwL (l : List (List Int)) : SB := ⟨true, .recs ksO l⟩
def T0L (l : List Int) (n c : Nat) (a : Int) (bad : Bool) (k : Int) (h : List Bool) : St := ⟨[(0, bsl 0 n c), (4, .v (.one (.ptr 1 (.c 0) 1 0))), (5, .v (.one .nils)), (6, si .i64 k)], [roB l, rdL n c a bad], h, []⟩
def T1L (l : List Int) (n c : Nat) (a : Int) (bad : Bool) (k : Int) (out : List (List Int)) (h : List Bool) : St := ⟨[(0, bsl 0 n c), (4, .v (.one (.ptr 1 (.c 0) 1 0))), (5, slO 2 out.length out.length), (6, si .i64 k)], [roB l, rdL n c a bad, rwL out], h, []⟩
noncomputable def rnd0L (F : NumF) (G : ComF) (lim : Nat) (h : List Bool) (l : List Int) (n c : Nat) (a : Int) (bad : Bool) (k : Int) := run Try.prog (callLi F G 4) effL FL lim 100000 [] (.code LL.1 :: .inLoop LL.1 :: LL.2) (T0L l n c a bad k h)
noncomputable def rnd1L (F : NumF) (G : ComF) (lim : Nat) (h : List Bool) (l : List Int) (n c : Nat) (a : Int) (bad : Bool) (k : Int) (out : List (List Int)) := run Try.prog (callLi F G 4) effL FL lim 100000 [] (.code LL.1 :: .inLoop LL.1 :: LL.2) (T1L l n c a bad k out h)
theorem liE : (fun (F : NumF) (G : ComF) (l : List Int) (n c : Nat) => stopV [0, 4, 5, 6] [0, 1] (run Try.prog (callLi F G 4) effL FL 0 100000 [false] [.code (bodyF 17)] ⟨argSlots 0 [bsl 0 n c], [roB l], [], []⟩)) = fun (F : NumF) (G : ComF) (l : List Int) (n : Nat) (c : Nat) => some ((EL, ([(((0 : Nat)), (V.v (V1.one (C.slice ((0 : Nat)) (N.c ((0 : Nat))) ((1 : Nat)) (N.s (n)) (N.s (c)))))), (((4 : Nat)), (V.v (V1.one (C.ptr ((1 : Nat)) (N.c ((0 : Nat))) ((1 : Nat)) ((0 : Nat)))))), (((5 : Nat)), (V.v (V1.one (C.nils)))), (((6 : Nat)), (V.v (V1.one (C.sint (IntKind.i64) (Prod.fst (F l n (0 : Int) false (1000 : Int)))))))], ([(SB.mk (false) (Cells.ints (IntKind.u8) (l))), (SB.mk (true) (Cells.exp [(C.slice ((0 : Nat)) (N.c ((0 : Nat))) ((1 : Nat)) (N.s (n)) (N.s (c))), (C.sint (IntKind.i64) (Prod.fst (Prod.snd (F l n (0 : Int) false (1000 : Int))))), (C.sbool (Prod.snd (Prod.snd (F l n (0 : Int) false (1000 : Int)))))]))], [n ≤ c, n ≤ List.length l, n ≤ (1000000000 : Nat), wfB l, (1000 : Int) ≤ (9223372036854775807 : Int)])))) := by kernel_rfl
theorem li0R : (fun (F : NumF) (G : ComF) (l : List Int) (n c : Nat) (a : Int) (bad : Bool) (k : Int) => stopV [0, 4, 5, 6] [0, 1, 4] (rnd0L F G (LL.2.length + 1) [true, true] l n c a bad k)) = fun (F : NumF) (G : ComF) (l : List Int) (n : Nat) (c : Nat) (a : Int) (bad : Bool) (k : Int) => some ((KL, ([(((0 : Nat)), (V.v (V1.one (C.slice ((0 : Nat)) (N.c ((0 : Nat))) ((1 : Nat)) (N.s (n)) (N.s (c)))))), (((4 : Nat)), (V.v (V1.one (C.ptr ((1 : Nat)) (N.c ((0 : Nat))) ((1 : Nat)) ((0 : Nat)))))), (((5 : Nat)), (V.v (V1.one (C.slice ((4 : Nat)) (N.c ((0 : Nat))) ((7 : Nat)) (N.c ((1 : Nat))) (N.c ((1 : Nat))))))), (((6 : Nat)), (V.v (V1.one (C.sint (IntKind.i64) (k - (1 : Int))))))], ([(SB.mk (false) (Cells.ints (IntKind.u8) (l))), (SB.mk (true) (Cells.exp [(C.slice ((0 : Nat)) (N.c ((0 : Nat))) ((1 : Nat)) (N.s (n)) (N.s (c))), (C.sint (IntKind.i64) (Prod.fst (Prod.snd (G l n (Prod.fst (Prod.snd (F l n (Prod.fst (Prod.snd (F l n a bad (1073741824 : Int)))) (Prod.snd (Prod.snd (F l n a bad (1073741824 : Int)))) (1099511627776 : Int)))) (Prod.snd (Prod.snd (F l n (Prod.fst (Prod.snd (F l n a bad (1073741824 : Int)))) (Prod.snd (Prod.snd (F l n a bad (1073741824 : Int)))) (1099511627776 : Int)))))))), (C.sbool (Prod.snd (Prod.snd (G l n (Prod.fst (Prod.snd (F l n (Prod.fst (Prod.snd (F l n a bad (1073741824 : Int)))) (Prod.snd (Prod.snd (F l n a bad (1073741824 : Int)))) (1099511627776 : Int)))) (Prod.snd (Prod.snd (F l n (Prod.fst (Prod.snd (F l n a bad (1073741824 : Int)))) (Prod.snd (Prod.snd (F l n a bad (1073741824 : Int)))) (1099511627776 : Int))))))))])), (SB.mk (true) (Cells.exp [(C.sint (IntKind.i64) (Prod.fst (F l n a bad (1073741824 : Int)))), (C.sint (IntKind.i64) (Prod.fst (F l n (Prod.fst (Prod.snd (F l n a bad (1073741824 : Int)))) (Prod.snd (Prod.snd (F l n a bad (1073741824 : Int)))) (1099511627776 : Int)))), (C.sint (IntKind.u8) (Cmd5.d (Prod.fst (G l n (Prod.fst (Prod.snd (F l n (Prod.fst (Prod.snd (F l n a bad (1073741824 : Int)))) (Prod.snd (Prod.snd (F l n a bad (1073741824 : Int)))) (1099511627776 : Int)))) (Prod.snd (Prod.snd (F l n (Prod.fst (Prod.snd (F l n a bad (1073741824 : Int)))) (Prod.snd (Prod.snd (F l n a bad (1073741824 : Int)))) (1099511627776 : Int)))))))), (C.sint (IntKind.i64) (Cmd5.A (Prod.fst (G l n (Prod.fst (Prod.snd (F l n (Prod.fst (Prod.snd (F l n a bad (1073741824 : Int)))) (Prod.snd (Prod.snd (F l n a bad (1073741824 : Int)))) (1099511627776 : Int)))) (Prod.snd (Prod.snd (F l n (Prod.fst (Prod.snd (F l n a bad (1073741824 : Int)))) (Prod.snd (Prod.snd (F l n a bad (1073741824 : Int)))) (1099511627776 : Int)))))))), (C.sint (IntKind.i64) (Cmd5.B (Prod.fst (G l n (Prod.fst (Prod.snd (F l n (Prod.fst (Prod.snd (F l n a bad (1073741824 : Int)))) (Prod.snd (Prod.snd (F l n a bad (1073741824 : Int)))) (1099511627776 : Int)))) (Prod.snd (Prod.snd (F l n (Prod.fst (Prod.snd (F l n a bad (1073741824 : Int)))) (Prod.snd (Prod.snd (F l n a bad (1073741824 : Int)))) (1099511627776 : Int)))))))), (C.sint (IntKind.i64) (Cmd5.C (Prod.fst (G l n (Prod.fst (Prod.snd (F l n (Prod.fst (Prod.snd (F l n a bad (1073741824 : Int)))) (Prod.snd (Prod.snd (F l n a bad (1073741824 : Int)))) (1099511627776 : Int)))) (Prod.snd (Prod.snd (F l n (Prod.fst (Prod.snd (F l n a bad (1073741824 : Int)))) (Prod.snd (Prod.snd (F l n a bad (1073741824 : Int)))) (1099511627776 : Int)))))))), (C.sint (IntKind.i64) (Cmd5.N (Prod.fst (G l n (Prod.fst (Prod.snd (F l n (Prod.fst (Prod.snd (F l n a bad (1073741824 : Int)))) (Prod.snd (Prod.snd (F l n a bad (1073741824 : Int)))) (1099511627776 : Int)))) (Prod.snd (Prod.snd (F l n (Prod.fst (Prod.snd (F l n a bad (1073741824 : Int)))) (Prod.snd (Prod.snd (F l n a bad (1073741824 : Int)))) (1099511627776 : Int))))))))]))], [(-9223372036854775808 : Int) ≤ k - (1 : Int) ∧ k - (1 : Int) ≤ (9223372036854775807 : Int), n ≤ c, n ≤ List.length l, n ≤ (1000000000 : Nat), List.length l ≤ (1000000000 : Nat), wfB l, n ≤ c, n ≤ List.length l, n ≤ (1000000000 : Nat), wfB l, (1099511627776 : Int) ≤ (9223372036854775807 : Int), n ≤ c, n ≤ List.length l, n ≤ (1000000000 : Nat), wfB l, (1073741824 : Int) ≤ (9223372036854775807 : Int), (!bad) = true, decide ((0 : Int) < k) = true])))) := by kernel_rfl
theorem li0A : (fun (F : NumF) (G : ComF) (l : List Int) (n c : Nat) (a : Int) (bad : Bool) (k : Int) => endV [0, 1] (rnd0L F G 0 [false, true] l n c a bad k)) = fun (F : NumF) (G : ComF) (l : List Int) (n : Nat) (c : Nat) (a : Int) (bad : Bool) (k : Int) => some (((V.tup [(V1.one (C.nils)), (V1.one (C.int (IntKind.i64) ((109 : Int))))]), ([(SB.mk (false) (Cells.ints (IntKind.u8) (l))), (SB.mk (true) (Cells.exp [(C.slice ((0 : Nat)) (N.c ((0 : Nat))) ((1 : Nat)) (N.s (n)) (N.s (c))), (C.sint (IntKind.i64) (a)), (C.sbool (bad))]))], [bad = true, decide ((0 : Int) < k) = false]))) := by kernel_rfl
theorem li0B : (fun (F : NumF) (G : ComF) (l : List Int) (n c : Nat) (a : Int) (bad : Bool) (k : Int) => endV [0, 1] (rnd0L F G 0 [false, false, true] l n c a bad k)) = fun (F : NumF) (G : ComF) (l : List Int) (n : Nat) (c : Nat) (a : Int) (bad : Bool) (k : Int) => some (((V.tup [(V1.one (C.nils)), (V1.one (C.int (IntKind.i64) ((109 : Int))))]), ([(SB.mk (false) (Cells.ints (IntKind.u8) (l))), (SB.mk (true) (Cells.exp [(C.slice ((0 : Nat)) (N.c ((0 : Nat))) ((1 : Nat)) (N.s (n)) (N.s (c))), (C.sint (IntKind.i64) (a)), (C.sbool (bad))]))], [(!decide (a = (↑n : Int))) = true, bad = false, decide ((0 : Int) < k) = false]))) := by kernel_rfl
theorem li0C : (fun (F : NumF) (G : ComF) (l : List Int) (n c : Nat) (a : Int) (bad : Bool) (k : Int) => endV [0, 1] (rnd0L F G 0 [false, false, false] l n c a bad k)) = fun (F : NumF) (G : ComF) (l : List Int) (n : Nat) (c : Nat) (a : Int) (bad : Bool) (k : Int) => some (((V.tup [(V1.one (C.nils)), (V1.one (C.int (IntKind.i64) ((0 : Int))))]), ([(SB.mk (false) (Cells.ints (IntKind.u8) (l))), (SB.mk (true) (Cells.exp [(C.slice ((0 : Nat)) (N.c ((0 : Nat))) ((1 : Nat)) (N.s (n)) (N.s (c))), (C.sint (IntKind.i64) (a)), (C.sbool (bad))]))], [(!decide (a = (↑n : Int))) = false, bad = false, decide ((0 : Int) < k) = false]))) := by kernel_rfl
theorem li0D : (fun (F : NumF) (G : ComF) (l : List Int) (n c : Nat) (a : Int) (bad : Bool) (k : Int) => endV [0, 1] (rnd0L F G 0 [true, false, true] l n c a bad k)) = fun (F : NumF) (G : ComF) (l : List Int) (n : Nat) (c : Nat) (a : Int) (bad : Bool) (k : Int) => some (((V.tup [(V1.one (C.nils)), (V1.one (C.int (IntKind.i64) ((109 : Int))))]), ([(SB.mk (false) (Cells.ints (IntKind.u8) (l))), (SB.mk (true) (Cells.exp [(C.slice ((0 : Nat)) (N.c ((0 : Nat))) ((1 : Nat)) (N.s (n)) (N.s (c))), (C.sint (IntKind.i64) (a)), (C.sbool (bad))]))], [bad = true, (!bad) = false, decide ((0 : Int) < k) = true]))) := by kernel_rfl
theorem li1R : (fun (F : NumF) (G : ComF) (l : List Int) (n c : Nat) (a : Int) (bad : Bool) (k : Int) (out : List (List Int)) => stopV [0, 4, 5, 6] [0, 1, 5] (rnd1L F G (LL.2.length + 1) [true, true, true] l n c a bad k out)) = fun (F : NumF) (G : ComF) (l : List Int) (n : Nat) (c : Nat) (a : Int) (bad : Bool) (k : Int) (out : List (List Int)) => some ((KL, ([(((0 : Nat)), (V.v (V1.one (C.slice ((0 : Nat)) (N.c ((0 : Nat))) ((1 : Nat)) (N.s (n)) (N.s (c)))))), (((4 : Nat)), (V.v (V1.one (C.ptr ((1 : Nat)) (N.c ((0 : Nat))) ((1 : Nat)) ((0 : Nat)))))), (((5 : Nat)), (V.v (V1.one (C.slice ((5 : Nat)) (N.c ((0 : Nat))) ((7 : Nat)) (N.s (List.length out + (1 : Nat))) (N.s (List.length out + (1 : Nat))))))), (((6 : Nat)), (V.v (V1.one (C.sint (IntKind.i64) (k - (1 : Int))))))], ([(SB.mk (false) (Cells.ints (IntKind.u8) (l))), (SB.mk (true) (Cells.exp [(C.slice ((0 : Nat)) (N.c ((0 : Nat))) ((1 : Nat)) (N.s (n)) (N.s (c))), (C.sint (IntKind.i64) (Prod.fst (Prod.snd (G l n (Prod.fst (Prod.snd (F l n (Prod.fst (Prod.snd (F l n a bad (1073741824 : Int)))) (Prod.snd (Prod.snd (F l n a bad (1073741824 : Int)))) (1099511627776 : Int)))) (Prod.snd (Prod.snd (F l n (Prod.fst (Prod.snd (F l n a bad (1073741824 : Int)))) (Prod.snd (Prod.snd (F l n a bad (1073741824 : Int)))) (1099511627776 : Int)))))))), (C.sbool (Prod.snd (Prod.snd (G l n (Prod.fst (Prod.snd (F l n (Prod.fst (Prod.snd (F l n a bad (1073741824 : Int)))) (Prod.snd (Prod.snd (F l n a bad (1073741824 : Int)))) (1099511627776 : Int)))) (Prod.snd (Prod.snd (F l n (Prod.fst (Prod.snd (F l n a bad (1073741824 : Int)))) (Prod.snd (Prod.snd (F l n a bad (1073741824 : Int)))) (1099511627776 : Int))))))))])), (SB.mk (true) (Cells.recs (ksO) (out ++ [[Prod.fst (F l n a bad (1073741824 : Int)), Prod.fst (F l n (Prod.fst (Prod.snd (F l n a bad (1073741824 : Int)))) (Prod.snd (Prod.snd (F l n a bad (1073741824 : Int)))) (1099511627776 : Int)), Cmd5.d (Prod.fst (G l n (Prod.fst (Prod.snd (F l n (Prod.fst (Prod.snd (F l n a bad (1073741824 : Int)))) (Prod.snd (Prod.snd (F l n a bad (1073741824 : Int)))) (1099511627776 : Int)))) (Prod.snd (Prod.snd (F l n (Prod.fst (Prod.snd (F l n a bad (1073741824 : Int)))) (Prod.snd (Prod.snd (F l n a bad (1073741824 : Int)))) (1099511627776 : Int)))))), Cmd5.A (Prod.fst (G l n (Prod.fst (Prod.snd (F l n (Prod.fst (Prod.snd (F l n a bad (1073741824 : Int)))) (Prod.snd (Prod.snd (F l n a bad (1073741824 : Int)))) (1099511627776 : Int)))) (Prod.snd (Prod.snd (F l n (Prod.fst (Prod.snd (F l n a bad (1073741824 : Int)))) (Prod.snd (Prod.snd (F l n a bad (1073741824 : Int)))) (1099511627776 : Int)))))), Cmd5.B (Prod.fst (G l n (Prod.fst (Prod.snd (F l n (Prod.fst (Prod.snd (F l n a bad (1073741824 : Int)))) (Prod.snd (Prod.snd (F l n a bad (1073741824 : Int)))) (1099511627776 : Int)))) (Prod.snd (Prod.snd (F l n (Prod.fst (Prod.snd (F l n a bad (1073741824 : Int)))) (Prod.snd (Prod.snd (F l n a bad (1073741824 : Int)))) (1099511627776 : Int)))))), Cmd5.C (Prod.fst (G l n (Prod.fst (Prod.snd (F l n (Prod.fst (Prod.snd (F l n a bad (1073741824 : Int)))) (Prod.snd (Prod.snd (F l n a bad (1073741824 : Int)))) (1099511627776 : Int)))) (Prod.snd (Prod.snd (F l n (Prod.fst (Prod.snd (F l n a bad (1073741824 : Int)))) (Prod.snd (Prod.snd (F l n a bad (1073741824 : Int)))) (1099511627776 : Int)))))), Cmd5.N (Prod.fst (G l n (Prod.fst (Prod.snd (F l n (Prod.fst (Prod.snd (F l n a bad (1073741824 : Int)))) (Prod.snd (Prod.snd (F l n a bad (1073741824 : Int)))) (1099511627776 : Int)))) (Prod.snd (Prod.snd (F l n (Prod.fst (Prod.snd (F l n a bad (1073741824 : Int)))) (Prod.snd (Prod.snd (F l n a bad (1073741824 : Int)))) (1099511627776 : Int))))))]])))], [(-9223372036854775808 : Int) ≤ k - (1 : Int) ∧ k - (1 : Int) ≤ (9223372036854775807 : Int), (0 : Nat) = (0 : Nat), List.length out = List.length out, (List.length out + (1 : Nat)) * (56 : Nat) ≤ (140737488355328 : Nat), List.length out + (1 : Nat) ≤ (9223372036854775807 : Nat), n ≤ c, n ≤ List.length l, n ≤ (1000000000 : Nat), List.length l ≤ (1000000000 : Nat), wfB l, n ≤ c, n ≤ List.length l, n ≤ (1000000000 : Nat), wfB l, (1099511627776 : Int) ≤ (9223372036854775807 : Int), n ≤ c, n ≤ List.length l, n ≤ (1000000000 : Nat), wfB l, (1073741824 : Int) ≤ (9223372036854775807 : Int), (!bad) = true, decide ((0 : Int) < k) = true])))) := by kernel_rfl
theorem li1A : (fun (F : NumF) (G : ComF) (l : List Int) (n c : Nat) (a : Int) (bad : Bool) (k : Int) (out : List (List Int)) => endV [0, 1] (rnd1L F G 0 [false, true] l n c a bad k out)) = fun (F : NumF) (G : ComF) (l : List Int) (n : Nat) (c : Nat) (a : Int) (bad : Bool) (k : Int) (out : List (List Int)) => some (((V.tup [(V1.one (C.nils)), (V1.one (C.int (IntKind.i64) ((109 : Int))))]), ([(SB.mk (false) (Cells.ints (IntKind.u8) (l))), (SB.mk (true) (Cells.exp [(C.slice ((0 : Nat)) (N.c ((0 : Nat))) ((1 : Nat)) (N.s (n)) (N.s (c))), (C.sint (IntKind.i64) (a)), (C.sbool (bad))]))], [bad = true, decide ((0 : Int) < k) = false]))) := by kernel_rfl
theorem li1B : (fun (F : NumF) (G : ComF) (l : List Int) (n c : Nat) (a : Int) (bad : Bool) (k : Int) (out : List (List Int)) => endV [0, 1] (rnd1L F G 0 [false, false, true] l n c a bad k out)) = fun (F : NumF) (G : ComF) (l : List Int) (n : Nat) (c : Nat) (a : Int) (bad : Bool) (k : Int) (out : List (List Int)) => some (((V.tup [(V1.one (C.nils)), (V1.one (C.int (IntKind.i64) ((109 : Int))))]), ([(SB.mk (false) (Cells.ints (IntKind.u8) (l))), (SB.mk (true) (Cells.exp [(C.slice ((0 : Nat)) (N.c ((0 : Nat))) ((1 : Nat)) (N.s (n)) (N.s (c))), (C.sint (IntKind.i64) (a)), (C.sbool (bad))]))], [(!decide (a = (↑n : Int))) = true, bad = false, decide ((0 : Int) < k) = false]))) := by kernel_rfl
theorem li1C : (fun (F : NumF) (G : ComF) (l : List Int) (n c : Nat) (a : Int) (bad : Bool) (k : Int) (out : List (List Int)) => endV [0, 2] (rnd1L F G 0 [false, false, false] l n c a bad k out)) = fun (F : NumF) (G : ComF) (l : List Int) (n : Nat) (c : Nat) (a : Int) (bad : Bool) (k : Int) (out : List (List Int)) => some (((V.tup [(V1.one (C.slice ((2 : Nat)) (N.c ((0 : Nat))) ((7 : Nat)) (N.s (List.length out)) (N.s (List.length out)))), (V1.one (C.int (IntKind.i64) ((0 : Int))))]), ([(SB.mk (false) (Cells.ints (IntKind.u8) (l))), (SB.mk (true) (Cells.recs (ksO) (out)))], [(!decide (a = (↑n : Int))) = false, bad = false, decide ((0 : Int) < k) = false]))) := by kernel_rfl
theorem li1D : (fun (F : NumF) (G : ComF) (l : List Int) (n c : Nat) (a : Int) (bad : Bool) (k : Int) (out : List (List Int)) => endV [0, 1] (rnd1L F G 0 [true, false, true] l n c a bad k out)) = fun (F : NumF) (G : ComF) (l : List Int) (n : Nat) (c : Nat) (a : Int) (bad : Bool) (k : Int) (out : List (List Int)) => some (((V.tup [(V1.one (C.nils)), (V1.one (C.int (IntKind.i64) ((109 : Int))))]), ([(SB.mk (false) (Cells.ints (IntKind.u8) (l))), (SB.mk (true) (Cells.exp [(C.slice ((0 : Nat)) (N.c ((0 : Nat))) ((1 : Nat)) (N.s (n)) (N.s (c))), (C.sint (IntKind.i64) (a)), (C.sbool (bad))]))], [bad = true, (!bad) = false, decide ((0 : Int) < k) = true]))) := by kernel_rfl
end
section
open Go.ChangeShapes Go.WideShapes Go.ChangeAt Go.RowKit Go.Sx
theorem tabLi_ok : ∀ f g, tabLi numS comS f = some g → TabOk Try.prog f g := tabs_ok fun x hx => by
  simp only [List.mem_cons, List.not_mem_nil, or_false] at hx
  rcases hx with rfl | rfl
  · exact num_tab
  · exact com_tab
theorem callLi_ok (d : Nat) : CallOk Try.prog (callLi numS comS d) := callN_sound tabLi_ok d
/-- one order is read -/
def stepL (l : List Int) (n : Nat) (a : Int) (bad : Bool) : List Int × Int × Bool :=
  let p := numS l n a bad 1073741824
  let q := numS l n p.2.1 p.2.2 1099511627776
  let r := comS l n q.2.1 q.2.2
  ([p.1, q.1, r.1.d, r.1.A, r.1.B, r.1.C, r.1.N], r.2.1, r.2.2)
def loopS (l : List Int) (n : Nat) : Nat → Int → Bool → List (List Int) → List (List Int) × Int × Bool
  | 0, a, bad, out => (out, a, bad)
  | k + 1, a, bad, out => if bad = true then (out, a, bad) else loopS l n k (stepL l n a bad).2.1 (stepL l n a bad).2.2 (out ++ [(stepL l n a bad).1])
def finS (n : Nat) (x : List (List Int) × Int × Bool) : List (List Int) × Int := if x.2.2 = true ∨ x.2.1 ≠ (n : Int) then ([], 109) else (x.1, 0)
def listS (l : List Int) (n : Nat) : List (List Int) × Int := finS n (loopS l n (numS l n 0 false 1000).1.toNat (numS l n 0 false 1000).2.1 (numS l n 0 false 1000).2.2 [])
theorem numS_range {l : List Int} (hw : wfB l) (n : Nat) (a : Int) (bad : Bool) {m : Int} (hm : 0 ≤ m) : 0 ≤ (numS l n a bad m).1 ∧ (numS l n a bad m).1 ≤ m := by
  have hr := getU_range hw n a
  unfold numS
  simp only
  split
  · exact ⟨Int.le_refl _, hm⟩
  · rename_i h
    simp only [Bool.or_eq_true, Bool.not_eq_true', Bool.and_eq_false_iff, decide_eq_false_iff_not, not_or] at h
    exact ⟨hr.1, by omega⟩
theorem funL : Try.prog.funcs[17]? = some FL := by kernel_rfl
theorem bodL : FL.body = some (bodyF 17) := by kernel_rfl
theorem tmpL : 1 ≤ FL.ntmps := Nat.le_of_ble_eq_true (by kernel_rfl)
def TL (l : List Int) (n c : Nat) (a : Int) (bad : Bool) (k : Int) (out : List (List Int)) (h : List Bool) : St := match out with
  | [] => T0L l n c a bad k h
  | _ :: _ => T1L l n c a bad k out h
def tup7 (b n : Nat) (e : Int) : V := .tup [.one (.slice b (.c 0) 7 (.s n) (.s n)), .one (.sint .i64 e)]
theorem nd01 : (List.range 1 ++ [1]).Nodup := by decide
theorem nd02 : (List.range 1 ++ [2]).Nodup := by decide
theorem nd014 : (List.range 1 ++ [1, 4]).Nodup := by decide
theorem nd015 : (List.range 1 ++ [1, 5]).Nodup := by decide
theorem nilL_le (e : Int) : leV (List.range 1 ++ [1]) (.tup [.one .nils, .one (.int .i64 e)]) (tup7 1 0 e) := ⟨⟨by decide, rfl, rfl⟩, ⟨rfl, rfl⟩, trivial⟩
theorem nilL_bs (l : List Int) (cs : List Sx.C) : leBs (List.range 1 ++ [1]) [roB l, ⟨true, .exp cs⟩] [roB l, rwL []] := ⟨⟨fun h => h, rfl, rfl⟩, ⟨fun h => h, .inl rfl⟩, trivial⟩
theorem listed_works (l : List Int) (n c : Nat) (hn : n ≤ l.length) (hx : l.length ≤ 1000000000) (hw : wfB l) : Works Try.prog 17 [bsl 0 n c] [roB l] (tup7 1 (listS l n).1.length (listS l n).2) [roB l, rwL (listS l n).1] := capG_works fun hc => by
  have h0 := numS_range hw n 0 false (m := 1000) (by decide)
  refine works_loop (I := Int × Bool × Int × List (List Int)) (Inv := fun s h => TL l n c s.1 s.2.1 s.2.2.1 s.2.2.2 h)
    (good := fun s => 0 ≤ s.2.2.1 ∧ s.2.2.2.length + s.2.2.1 ≤ 1000 ∧ finS n (loopS l n s.2.2.1.toNat s.1 s.2.1 s.2.2.2) = listS l n) (μ := fun s => s.2.2.1.toNat)
    (i := ((numS l n 0 false 1000).2.1, (numS l n 0 false 1000).2.2, (numS l n 0 false 1000).1, [])) (r := [1]) (callLi_ok 4) funL bodL (by exact tmpL) (fun s _ => ?_)
    (congrFun (congrFun (congrFun (congrFun (congrFun liE numS) comS) l) n) c) ⟨hc, hn, by omega, hw, by decide, trivial⟩ ⟨nd01, ?_, ?_⟩ ⟨h0.1, by simp only [List.length_nil]; omega, rfl⟩ ?_
  · obtain ⟨a, bad, k, out⟩ := s
    cases out <;> exact ⟨rfl, rfl⟩
  · simp [TL, T0L, bsl, leSlots, leV, leV1, leC, si, List.range, List.range.loop, N.v, hc]
  · simp [TL, T0L, leBs, leB, leCells, leL, leC, roB, rdL, List.range, List.range.loop, N.v, hc]
  · rintro ⟨a, bad, k, out⟩ ⟨g1, g2, g3⟩
    simp only at g1 g2 g3
    have app0 : ∀ {A : Type} {f g : NumF → ComF → List Int → Nat → Nat → Int → Bool → Int → A}, f = g → f numS comS l n c a bad k = g numS comS l n c a bad k := fun hh => by rw [hh]
    have app1 : ∀ {A : Type} {f g : NumF → ComF → List Int → Nat → Nat → Int → Bool → Int → List (List Int) → A}, f = g → f numS comS l n c a bad k out = g numS comS l n c a bad k out := fun hh => by rw [hh]
    have errF : ∀ (h : (finS n (loopS l n k.toNat a bad out)) = ([], 109)), tup7 1 (listS l n).1.length (listS l n).2 = tup7 1 0 109 ∧ [roB l, rwL (listS l n).1] = [roB l, rwL []] := by
      intro h; rw [← g3, h]; exact ⟨rfl, rfl⟩
    by_cases hk : 0 < k
    · obtain ⟨m, hm⟩ : ∃ m : Nat, k.toNat = m + 1 := ⟨k.toNat - 1, by omega⟩
      cases bad with
      | true =>
        have he := errF (by rw [hm]; unfold loopS; rw [if_pos rfl]; unfold finS; rw [if_pos (.inl rfl)])
        rw [he.1, he.2]
        cases out with
        | nil => exact .stop [true, false, true] [] _ _ [1] _ _ _ (app0 li0D) ⟨rfl, rfl, decide_eq_true hk, trivial⟩ nd01 (nilL_le 109) (nilL_bs l _)
        | cons r t => exact .stop [true, false, true] [] _ _ [1] _ _ _ (app1 li1D) ⟨rfl, rfl, decide_eq_true hk, trivial⟩ nd01 (nilL_le 109) (nilL_bs l _)
      | false =>
        have hnext : finS n (loopS l n (k - 1).toNat (stepL l n a false).2.1 (stepL l n a false).2.2 (out ++ [(stepL l n a false).1])) = listS l n := by
          rw [← g3, hm, show (k - 1).toNat = m by omega]
          conv => rhs; unfold loopS
          rw [if_neg (by decide)]
        have hlen : (out ++ [(stepL l n a false).1]).length + (k - 1) ≤ 1000 := by rw [List.length_append, List.length_singleton]; omega
        cases out with
        | nil =>
          refine .round [true, true] [] _ _ [0, 4, 5, 6] [1, 4] _ _ _ ((stepL l n a false).2.1, (stepL l n a false).2.2, k - 1, [] ++ [(stepL l n a false).1]) (app0 li0R) ?_ ⟨nd014, ?_, ?_⟩ ⟨by simp only; omega, hlen, hnext⟩ (by simp only; omega)
          · exact ⟨by omega, hc, hn, by omega, hx, hw, hc, hn, by omega, hw, by decide, hc, hn, by omega, hw, by decide, rfl, decide_eq_true hk, trivial⟩
          · exact ⟨⟨rfl, rfl, rfl, rfl, rfl, Nat.le_refl _, hc⟩, ⟨rfl, rfl, rfl, rfl, rfl⟩, ⟨rfl, rfl, rfl, rfl, rfl, Nat.le_refl _, Nat.le_refl _⟩, ⟨rfl, rfl, rfl⟩, trivial⟩
          · exact ⟨⟨fun h => h, rfl, rfl⟩, ⟨fun h => h, ⟨rfl, rfl, rfl, rfl, Nat.le_refl _, hc⟩, ⟨rfl, rfl⟩, rfl, trivial⟩, ⟨fun h => h, .inr ⟨⟨⟨rfl, rfl⟩, ⟨rfl, rfl⟩, ⟨rfl, rfl⟩, ⟨rfl, rfl⟩, ⟨rfl, rfl⟩, ⟨rfl, rfl⟩, ⟨rfl, rfl⟩, trivial⟩, fun r hr => by
              simp only [List.nil_append, List.mem_singleton] at hr
              subst hr; rfl⟩⟩, trivial⟩
        | cons r t =>
          have e2 : TL l n c (stepL l n a false).2.1 (stepL l n a false).2.2 (k - 1) (r :: t ++ [(stepL l n a false).1]) [] = T1L l n c (stepL l n a false).2.1 (stepL l n a false).2.2 (k - 1) (r :: t ++ [(stepL l n a false).1]) [] := rfl
          refine .round [true, true, true] [] _ _ [0, 4, 5, 6] [1, 5] _ _ _ ((stepL l n a false).2.1, (stepL l n a false).2.2, k - 1, r :: t ++ [(stepL l n a false).1]) (app1 li1R) ?_ ⟨nd015, ?_, ?_⟩ ⟨by simp only; omega, hlen, hnext⟩ (by simp only; omega)
          · exact ⟨by omega, rfl, rfl, by omega, by omega, hc, hn, by omega, hx, hw, hc, hn, by omega, hw, by decide, hc, hn, by omega, hw, by decide, rfl, decide_eq_true hk, trivial⟩
          · show leSlots _ _ (TL l n c (stepL l n a false).2.1 (stepL l n a false).2.2 (k - 1) (r :: t ++ [(stepL l n a false).1]) []).sl
            rw [e2]
            have hl : (r :: t ++ [(stepL l n a false).1]).length = (r :: t).length + 1 := by rw [List.length_append]; rfl
            exact ⟨⟨rfl, rfl, rfl, rfl, rfl, Nat.le_refl _, hc⟩, ⟨rfl, rfl, rfl, rfl, rfl⟩, ⟨rfl, rfl, rfl, rfl, hl.symm, Nat.le_of_eq hl, Nat.le_of_eq hl.symm⟩, ⟨rfl, rfl, rfl⟩, trivial⟩
          · show leBs _ _ (TL l n c (stepL l n a false).2.1 (stepL l n a false).2.2 (k - 1) (r :: t ++ [(stepL l n a false).1]) []).m
            rw [e2]
            exact ⟨⟨fun h => h, rfl, rfl⟩, ⟨fun h => h, ⟨rfl, rfl, rfl, rfl, Nat.le_refl _, hc⟩, ⟨rfl, rfl⟩, rfl, trivial⟩, ⟨fun h => h, rfl, rfl⟩, trivial⟩
    · have hk0 : k.toNat = 0 := by omega
      have dk : decide (0 < k) = false := decide_eq_false hk
      rw [hk0] at g3 errF
      cases bad with
      | true =>
        have he := errF (by unfold loopS finS; rw [if_pos (.inl rfl)])
        rw [he.1, he.2]
        cases out with
        | nil => exact .stop [false, true] [] _ _ [1] _ _ _ (app0 li0A) ⟨rfl, dk, trivial⟩ nd01 (nilL_le 109) (nilL_bs l _)
        | cons r t => exact .stop [false, true] [] _ _ [1] _ _ _ (app1 li1A) ⟨rfl, dk, trivial⟩ nd01 (nilL_le 109) (nilL_bs l _)
      | false =>
        by_cases ha : a = (n : Int)
        · have da : (!decide (a = (n : Int))) = false := by rw [decide_eq_true ha]; rfl
          have e : listS l n = (out, 0) := by
            rw [← g3]; unfold loopS finS
            rw [if_neg (fun h => by rcases h with h | h; cases h; exact h ha)]
          rw [e]
          cases out with
          | nil => exact .stop [false, false, false] [] _ _ [1] _ _ _ (app0 li0C) ⟨da, rfl, dk, trivial⟩ nd01 (nilL_le 0) (nilL_bs l _)
          | cons r t => exact .stop [false, false, false] [] _ _ [2] _ _ _ (app1 li1C) ⟨da, rfl, dk, trivial⟩ nd02 ⟨⟨rfl, rfl, rfl, rfl, Nat.le_refl _, Nat.le_refl _⟩, ⟨rfl, rfl⟩, trivial⟩ ⟨⟨fun h => h, rfl, rfl⟩, ⟨fun h => h, rfl, rfl⟩, trivial⟩
        · have da : (!decide (a = (n : Int))) = true := by rw [decide_eq_false ha]; rfl
          have he := errF (by unfold loopS finS; rw [if_pos (.inr ha)])
          rw [he.1, he.2]
          cases out with
          | nil => exact .stop [false, false, true] [] _ _ [1] _ _ _ (app0 li0B) ⟨da, rfl, dk, trivial⟩ nd01 (nilL_le 109) (nilL_bs l _)
          | cons r t => exact .stop [false, false, true] [] _ _ [1] _ _ _ (app1 li1B) ⟨da, rfl, dk, trivial⟩ nd01 (nilL_le 109) (nilL_bs l _)
def gLst (F : List Int → Nat → List (List Int) × Int) : Sx.Loc := fun args bs => match args, bs with
  | [.v (.one (.slice 0 (.c 0) 1 (.s n) (.s _)))], [⟨false, .ints k l⟩] => match decide (k = .u8) with
    | true => some (tup7 1 (F l n).1.length (F l n).2, [roB l, rwL (F l n).1], [n ≤ l.length, l.length ≤ 1000000000, wfB l])
    | false => none
  | _, _ => none
theorem list_tab : TabOk Try.prog 17 (loc wantRo (gLst listS)) := loc_ok fun xs bs v bs' ob hg hob hokb => by
  unfold gLst at hg
  split at hg
  · rename_i n c k l
    split at hg
    · rename_i hk
      injection hg with hg; injection hg with e1 e2; injection e2 with e2 e3
      subst e1; subst e2; subst e3
      have hk' : k = .u8 := of_decide_eq_true hk
      subst hk'
      exact listed_works l n c (hob _ (by simp)) (hob (l.length ≤ 1000000000) (by simp)) (hob (wfB l) (by simp))
    · cases hg
  · cases hg
end
section
open Go.ChangeShapes Go.WideShapes Go.ChangeAt Go.RowKit Go.Sx
theorem drop_app {l a r : List Int} {k : Nat} (h : l.drop k = a ++ r) : l.drop (k + a.length) = r := by rw [← List.drop_drop, h, List.drop_left]
/-- a command's bytes are read -/
theorem read_put {d A B C N : Int} (hr : rightF d A B C N = true) : readC (cmdB d A B C N) (cmdB d A B C N).length = ⟨d, A, B, C, N⟩ ∧ readE (cmdB d A B C N) (cmdB d A B C N).length = 0 := by
  obtain ⟨hA, hB, hC, hN⟩ := right_le hr
  have iA : i64 A := ⟨by omega, by omega⟩
  have iB : i64 B := ⟨by omega, by omega⟩
  have iC : i64 C := ⟨by omega, by omega⟩
  have iN : i64 N := ⟨by omega, by omega⟩
  have hl : (cmdB d A B C N).length = 1 + (svint A).length + (svint B).length + (svint C).length + (svint N).length := by simp [cmdB, List.length_append]; omega
  have e1 : (cmdB d A B C N).drop 1 = svint A ++ (svint B ++ (svint C ++ svint N)) := by simp [cmdB, List.append_assoc]
  have e2 := drop_app e1
  have e3 := drop_app e2
  have e4 := drop_app e3
  rw [← List.append_nil (svint N)] at e4
  have g1 := getI_put (n := (cmdB d A B C N).length) e1 iA (by omega)
  have g2 := getI_put (n := (cmdB d A B C N).length) e2 iB (by omega)
  have g3 := getI_put (n := (cmdB d A B C N).length) e3 iC (by omega)
  have g4 := getI_put (n := (cmdB d A B C N).length) e4 iN (by omega)
  have t0 : gR getI (cmdB d A B C N) (cmdB d A B C N).length 0 = (A, ((1 + (svint A).length : Nat) : Int), 0) := g1
  have t1 : gR getI (cmdB d A B C N) (cmdB d A B C N).length 1 = (B, ((1 + (svint A).length + (svint B).length : Nat) : Int), 0) := by
    show getI _ _ (gR getI (cmdB d A B C N) (cmdB d A B C N).length 0).2.1 = _
    rw [t0]; exact g2
  have t2 : gR getI (cmdB d A B C N) (cmdB d A B C N).length 2 = (C, ((1 + (svint A).length + (svint B).length + (svint C).length : Nat) : Int), 0) := by
    show getI _ _ (gR getI (cmdB d A B C N) (cmdB d A B C N).length 1).2.1 = _
    rw [t1]; exact g3
  have t3 : gR getI (cmdB d A B C N) (cmdB d A B C N).length 3 = (N, ((1 + (svint A).length + (svint B).length + (svint C).length + (svint N).length : Nat) : Int), 0) := by
    show getI _ _ (gR getI (cmdB d A B C N) (cmdB d A B C N).length 2).2.1 = _
    rw [t2]; exact g4
  have hd : (cmdB d A B C N).getD 0 0 = d := by simp [cmdB]
  have hrF : rF getI (cmdB d A B C N) (cmdB d A B C N).length = true := by unfold rF; rw [t0, t1, t2, t3, hd]; exact hr
  have hok : readOk (cmdB d A B C N) (cmdB d A B C N).length := by
    refine ⟨by omega, ?_, ?_, ?_, ?_, ?_, hrF⟩
    · unfold good; rw [t0]; exact ⟨rfl, hA.1, hA.2⟩
    · unfold good; rw [t1]; exact ⟨rfl, hB.1, hB.2⟩
    · unfold good; rw [t2]; exact ⟨rfl, hC.1, hC.2⟩
    · unfold good; rw [t3]; exact ⟨rfl, hN.1, hN.2⟩
    · show (gR getI (cmdB d A B C N) (cmdB d A B C N).length 3).2.1 = _
      rw [t3]; show ((_ : Nat) : Int) = _; rw [hl]
  unfold readC readE
  rw [if_pos hok, if_pos hok, t0, t1, t2, t3, hd]
  exact ⟨rfl, rfl⟩
/-- bytes that are read are a command's -/
theorem read_inv {l : List Int} (hw : wfB l) (h : readE l l.length = 0) : ∃ d A B C N, rightF d A B C N = true ∧ (0 ≤ d ∧ d < 256) ∧ readC l l.length = ⟨d, A, B, C, N⟩ ∧ l = cmdB d A B C N := by
  unfold readE at h
  by_cases hok : readOk l l.length
  · obtain ⟨hp, g0, g1, g2, g3, ht, hr⟩ := hok
    obtain ⟨A, iA, a1, a2, a3⟩ := getI_inv hw (Nat.le_refl l.length) (k := 1) g0.1
    have t0 : gR getI l l.length 0 = (A, ((1 + (svint A).length : Nat) : Int), 0) := a1
    have p1 : gR getI l l.length 1 = getI l l.length ((1 + (svint A).length : Nat) : Int) := by
      show getI _ _ (gR getI l l.length 0).2.1 = _
      rw [t0]
    unfold good at g1 g2 g3
    rw [p1] at g1
    obtain ⟨B, iB, b1, b2, b3⟩ := getI_inv hw (Nat.le_refl l.length) g1.1
    have t1 := p1.trans b1
    have p2 : gR getI l l.length 2 = getI l l.length ((1 + (svint A).length + (svint B).length : Nat) : Int) := by
      show getI _ _ (gR getI l l.length 1).2.1 = _
      rw [t1]
    rw [p2] at g2
    obtain ⟨C, iC, c1, c2, c3⟩ := getI_inv hw (Nat.le_refl l.length) g2.1
    have t2 := p2.trans c1
    have p3 : gR getI l l.length 3 = getI l l.length ((1 + (svint A).length + (svint B).length + (svint C).length : Nat) : Int) := by
      show getI _ _ (gR getI l l.length 2).2.1 = _
      rw [t2]
    rw [p3] at g3
    obtain ⟨N, iN, n1, n2, n3⟩ := getI_inv hw (Nat.le_refl l.length) g3.1
    have t3 := p3.trans n1
    have ht' : (gR getI l l.length 3).2.1 = (l.length : Int) := ht
    rw [t3] at ht'
    have hlen : 1 + (svint A).length + (svint B).length + (svint C).length + (svint N).length = l.length := by
      have : ((1 + (svint A).length + (svint B).length + (svint C).length + (svint N).length : Nat) : Int) = (l.length : Int) := ht'
      omega
    have hend : l.drop (1 + (svint A).length + (svint B).length + (svint C).length + (svint N).length) = [] := List.drop_eq_nil_of_le (by omega)
    have hrF := hr
    unfold rF at hrF
    rw [t0, t1, t2, t3] at hrF
    refine ⟨l.getD 0 0, A, B, C, N, hrF, wfB_get hw 0, ?_, ?_⟩
    · unfold readC
      rw [if_pos ⟨hp, g0, by unfold good; rw [p1]; exact g1, by unfold good; rw [p2]; exact g2, by unfold good; rw [p3]; exact g3, ht, hr⟩, t0, t1, t2, t3]
    · have h0 := drop_get (l := l) (k := 0) hp
      rw [List.drop_zero] at h0
      rw [h0]
      show _ :: l.drop 1 = _
      rw [a2, b2, c2, n2, hend]
      simp [cmdB, List.append_assoc]
  · rw [if_neg hok] at h; cases h
/-! ### orders -/
theorem numS_put {l : List Int} {n k : Nat} {m M : Int} {r : List Int} (h : l.drop k = vint m ++ r) (hm : u64 m) (hM : m ≤ M) (hn : k + (vint m).length ≤ n) : numS l n (k : Int) false M = (m, ((k + (vint m).length : Nat) : Int), false) := by
  unfold numS
  rw [getU_put h hm hn]
  simp [hM]
theorem numS_inv {l : List Int} (hw : wfB l) {n : Nat} (hn : n ≤ l.length) {k : Nat} {M : Int} (h : (numS l n (k : Int) false M).2.2 = false) : ∃ m : Int, u64 m ∧ m ≤ M ∧ numS l n (k : Int) false M = (m, ((k + (vint m).length : Nat) : Int), false) ∧ l.drop k = vint m ++ l.drop (k + (vint m).length) ∧ k + (vint m).length ≤ n := by
  unfold numS at h
  simp only [Bool.false_or, Bool.not_eq_false', Bool.and_eq_true, decide_eq_true_eq] at h
  obtain ⟨h1, h2⟩ := h
  obtain ⟨m, m1, m2, m3, m4⟩ := getU_inv hw hn h1
  rw [m2] at h2
  exact ⟨m, m1, h2, numS_put m3 m1 h2 m4, m3, m4⟩
theorem numS_bad (l : List Int) (n : Nat) (a M : Int) : (numS l n a true M).2.2 = true := by simp [numS]
theorem comS_bad (l : List Int) (n : Nat) (a : Int) : (comS l n a true).2.2 = true := by simp [comS]
theorem comS_put {l : List Int} {n k : Nat} {d A B C N : Int} {r : List Int} (hr : rightF d A B C N = true) (h : l.drop k = vint (((cmdB d A B C N).length : Nat) : Int) ++ (cmdB d A B C N ++ r)) (hn : k + (vint (((cmdB d A B C N).length : Nat) : Int)).length + (cmdB d A B C N).length ≤ n) :
    comS l n (k : Int) false = (⟨d, A, B, C, N⟩, ((k + (vint (((cmdB d A B C N).length : Nat) : Int)).length + (cmdB d A B C N).length : Nat) : Int), false) := by
  have hl := cmdB_len hr
  have g := getB_put (m := 100) h (by omega) (by omega) hn
  obtain ⟨r1, r2⟩ := read_put hr
  have hb : blobC l n (k : Int) = (⟨d, A, B, C, N⟩, 0) := by unfold blobC read2; rw [g]; simp only; rw [r1, r2]
  unfold comS
  rw [hb, g]
  simp
theorem comS_inv {l : List Int} (hw : wfB l) {n : Nat} (hn : n ≤ l.length) {k : Nat} (h : (comS l n (k : Int) false).2.2 = false) : ∃ d A B C N : Int, rightF d A B C N = true ∧ (0 ≤ d ∧ d < 256) ∧ l.drop k = vint (((cmdB d A B C N).length : Nat) : Int) ++ (cmdB d A B C N ++ l.drop (k + (vint (((cmdB d A B C N).length : Nat) : Int)).length + (cmdB d A B C N).length)) ∧
    k + (vint (((cmdB d A B C N).length : Nat) : Int)).length + (cmdB d A B C N).length ≤ n := by
  unfold comS at h
  simp only [Bool.false_or, Bool.not_eq_false', Bool.and_eq_true, decide_eq_true_eq] at h
  obtain ⟨h1, h2⟩ := h
  obtain ⟨b, b1, b2, b3, b4⟩ := getB_inv hw hn h1
  unfold blobC read2 at h2
  rw [b2] at h2
  have hwb : wfB b := by have := getB_wf hw n (k : Int) 100; rw [b2] at this; exact this
  obtain ⟨d, A, B, C, N, r1, r2, r3, r4⟩ := read_inv hwb h2
  subst r4
  exact ⟨d, A, B, C, N, r1, r2, b3, b4⟩
/-- a row of seven -/
def row7 (r : List Int) : Prop := ∃ p s d A B C N : Int, r = [p, s, d, A, B, C, N]
theorem stepL_put {l : List Int} {n k : Nat} {r rest : List Int} (h7 : row7 r) (hr : rowOk r = true) (h : l.drop k = rowB r ++ rest) (hn : k + (rowB r).length ≤ n) : stepL l n (k : Int) false = (r, ((k + (rowB r).length : Nat) : Int), false) := by
  obtain ⟨p, s, d, A, B, C, N, rfl⟩ := h7
  unfold rowOk at hr
  rw [Bool.and_eq_true] at hr
  obtain ⟨h1, h2⟩ := hr
  have h1 : rightF d A B C N = true := h1
  obtain ⟨p1, p2, p3, p4⟩ : 0 ≤ p ∧ 0 ≤ s ∧ p ≤ 1073741824 ∧ s ≤ 1099511627776 := of_decide_eq_true h2
  have eb : rowB [p, s, d, A, B, C, N] = vint p ++ (vint s ++ (vint (((cmdB d A B C N).length : Nat) : Int) ++ cmdB d A B C N)) := by
    show vint p ++ vint s ++ vint (((cmdB d A B C N).length : Nat) : Int) ++ cmdB d A B C N = _
    simp only [List.append_assoc]
  have hl : (rowB [p, s, d, A, B, C, N]).length = (vint p).length + (vint s).length + (vint (((cmdB d A B C N).length : Nat) : Int)).length + (cmdB d A B C N).length := by rw [eb]; simp only [List.length_append]; omega
  rw [eb] at h
  simp only [List.append_assoc] at h
  have e2 := drop_app h
  have e3 := drop_app e2
  have n1 := numS_put (n := n) (M := 1073741824) h ⟨p1, by omega⟩ p3 (by omega)
  have n2 := numS_put (n := n) (M := 1099511627776) e2 ⟨p2, by omega⟩ p4 (by omega)
  have n3 := comS_put (n := n) h1 e3 (by omega)
  unfold stepL
  rw [n1]
  simp only
  rw [n2]
  simp only
  rw [n3, hl]
  refine Prod.ext rfl (Prod.ext ?_ rfl)
  show ((_ : Nat) : Int) = ((_ : Nat) : Int)
  omega
theorem stepL_inv {l : List Int} (hw : wfB l) {n : Nat} (hn : n ≤ l.length) {k : Nat} (h : (stepL l n (k : Int) false).2.2 = false) : ∃ r : List Int, row7 r ∧ rowOk r = true ∧ (0 ≤ r.getD 2 0 ∧ r.getD 2 0 < 256) ∧ l.drop k = rowB r ++ l.drop (k + (rowB r).length) ∧ k + (rowB r).length ≤ n := by
  unfold stepL at h
  simp only at h
  have hp : (numS l n (k : Int) false 1073741824).2.2 = false := by
    cases hb : (numS l n (k : Int) false 1073741824).2.2 with
    | false => rfl
    | true => rw [hb, numS_bad, comS_bad] at h; cases h
  obtain ⟨p, p1, p2, p3, p4, p5⟩ := numS_inv hw hn hp
  rw [p3] at h
  simp only at h
  have hq : (numS l n ((k + (vint p).length : Nat) : Int) false 1099511627776).2.2 = false := by
    cases hb : (numS l n ((k + (vint p).length : Nat) : Int) false 1099511627776).2.2 with
    | false => rfl
    | true => rw [hb, comS_bad] at h; cases h
  obtain ⟨s, s1, s2, s3, s4, s5⟩ := numS_inv hw hn hq
  rw [s3] at h
  simp only at h
  obtain ⟨d, A, B, C, N, c1, c2, c3, c4⟩ := comS_inv hw hn h
  have eb : rowB [p, s, d, A, B, C, N] = vint p ++ (vint s ++ (vint (((cmdB d A B C N).length : Nat) : Int) ++ cmdB d A B C N)) := by
    show vint p ++ vint s ++ vint (((cmdB d A B C N).length : Nat) : Int) ++ cmdB d A B C N = _
    simp only [List.append_assoc]
  have hl : (rowB [p, s, d, A, B, C, N]).length = (vint p).length + (vint s).length + (vint (((cmdB d A B C N).length : Nat) : Int)).length + (cmdB d A B C N).length := by rw [eb]; simp only [List.length_append]; omega
  refine ⟨[p, s, d, A, B, C, N], ⟨p, s, d, A, B, C, N, rfl⟩, ?_, c2, ?_, by omega⟩
  · unfold rowOk
    rw [Bool.and_eq_true]
    exact ⟨c1, decide_eq_true ⟨p1.1, s1.1, p2, s2⟩⟩
  · rw [hl, show k + ((vint p).length + (vint s).length + (vint (((cmdB d A B C N).length : Nat) : Int)).length + (cmdB d A B C N).length) = k + (vint p).length + (vint s).length + (vint (((cmdB d A B C N).length : Nat) : Int)).length + (cmdB d A B C N).length by omega, eb]
    simp only [List.append_assoc]
    rw [← c3, ← s4, ← p4]
theorem loopS_put {l : List Int} {n : Nat} : ∀ {rows : List (List Int)} {k : Nat} {rest : List Int} {out : List (List Int)}, (∀ r ∈ rows, row7 r) → rows.all rowOk = true → l.drop k = bytesO rows ++ rest → k + (bytesO rows).length ≤ n → loopS l n rows.length (k : Int) false out = (out ++ rows, ((k + (bytesO rows).length : Nat) : Int), false)
  | [], k, rest, out, _, _, _, _ => by simp [loopS, bytesO]
  | r :: t, k, rest, out, h7, ha, h, hn => by
    rw [List.all_cons, Bool.and_eq_true] at ha
    have hb : bytesO (r :: t) = rowB r ++ bytesO t := rfl
    rw [hb, List.append_assoc] at h
    have hl : (bytesO (r :: t)).length = (rowB r).length + (bytesO t).length := by rw [hb, List.length_append]
    have hs := stepL_put (n := n) (h7 r (by simp)) ha.1 h (by omega)
    have ih := loopS_put (l := l) (n := n) (rows := t) (k := k + (rowB r).length) (rest := rest) (out := out ++ [r]) (fun x hx => h7 x (by simp [hx])) ha.2 (drop_app h) (by omega)
    show loopS l n (t.length + 1) (k : Int) false out = _
    conv => lhs; unfold loopS
    rw [if_neg (by decide), hs]
    simp only
    rw [ih, hl]
    refine Prod.ext (by simp) (Prod.ext ?_ rfl)
    show ((_ : Nat) : Int) = ((_ : Nat) : Int)
    omega
theorem loopS_bad {l : List Int} {n : Nat} : ∀ (c : Nat) (a : Int) (out : List (List Int)), (loopS l n c a true out).2.2 = true
  | 0, _, _ => rfl
  | c + 1, a, out => by unfold loopS; rw [if_pos rfl]
theorem loopS_inv {l : List Int} (hw : wfB l) {n : Nat} (hn : n ≤ l.length) : ∀ {c k : Nat} {out : List (List Int)}, k ≤ n → (loopS l n c (k : Int) false out).2.2 = false → ∃ rows : List (List Int), rows.length = c ∧ (∀ r ∈ rows, row7 r) ∧ rows.all rowOk = true ∧ wfO rows ∧ l.drop k = bytesO rows ++ l.drop (k + (bytesO rows).length) ∧ k + (bytesO rows).length ≤ n
  | 0, k, out, hk, _ => ⟨[], rfl, (fun r h => by simp at h), rfl, (fun r h => by simp at h), by simp [bytesO], by simpa [bytesO] using hk⟩
  | c + 1, k, out, hk, h => by
    unfold loopS at h
    rw [if_neg (by decide)] at h
    have hb : (stepL l n (k : Int) false).2.2 = false := by
      cases hs : (stepL l n (k : Int) false).2.2 with
      | false => rfl
      | true => rw [hs, loopS_bad] at h; cases h
    obtain ⟨r, r1, r2, r3, r4, r5⟩ := stepL_inv hw hn hb
    have hs := stepL_put r1 r2 r4 r5
    rw [hs] at h
    simp only at h
    obtain ⟨rows, q1, q2, q3, q4, q5, q6⟩ := loopS_inv hw hn r5 h
    have hl : (bytesO (r :: rows)).length = (rowB r).length + (bytesO rows).length := by
      show (rowB r ++ bytesO rows).length = _
      rw [List.length_append]
    refine ⟨r :: rows, by rw [List.length_cons, q1], ?_, by rw [List.all_cons, r2, q3]; rfl, ?_, ?_, by omega⟩
    · intro x hx
      rcases List.mem_cons.1 hx with rfl | hx
      · exact r1
      · exact q2 x hx
    · intro x hx
      rcases List.mem_cons.1 hx with rfl | hx
      · exact r3
      · exact q4 x hx
    · rw [hl, show k + ((rowB r).length + (bytesO rows).length) = k + (rowB r).length + (bytesO rows).length by omega]
      show _ = (rowB r ++ bytesO rows) ++ _
      rw [List.append_assoc, ← q5, ← r4]
/-- orders' bytes are read -/
theorem list_put {rows : List (List Int)} (h7 : ∀ r ∈ rows, row7 r) (ha : rows.all rowOk = true) (hc : rows.length ≤ 1000) : listS (vint ((rows.length : Nat) : Int) ++ bytesO rows) (vint ((rows.length : Nat) : Int) ++ bytesO rows).length = (rows, 0) := by
  have hu : u64 ((rows.length : Nat) : Int) := ⟨by omega, by omega⟩
  have hl : (vint ((rows.length : Nat) : Int) ++ bytesO rows).length = (vint ((rows.length : Nat) : Int)).length + (bytesO rows).length := List.length_append
  have n0 := numS_put (l := vint ((rows.length : Nat) : Int) ++ bytesO rows) (n := (vint ((rows.length : Nat) : Int) ++ bytesO rows).length) (k := 0) (M := 1000) (r := bytesO rows) rfl hu (by omega) (by omega)
  have e : (vint ((rows.length : Nat) : Int) ++ bytesO rows).drop (vint ((rows.length : Nat) : Int)).length = bytesO rows ++ [] := by rw [List.drop_left, List.append_nil]
  have hp := loopS_put (n := (vint ((rows.length : Nat) : Int) ++ bytesO rows).length) (out := []) h7 ha e (by omega)
  unfold listS
  have n0' : numS (vint ((rows.length : Nat) : Int) ++ bytesO rows) (vint ((rows.length : Nat) : Int) ++ bytesO rows).length 0 false 1000 = (((rows.length : Nat) : Int), ((0 + (vint ((rows.length : Nat) : Int)).length : Nat) : Int), false) := n0
  rw [n0']
  simp only [Nat.zero_add]
  rw [show (((rows.length : Nat) : Int)).toNat = rows.length by omega, hp]
  unfold finS
  rw [if_neg (fun h => by
    rcases h with h | h
    · cases h
    · exact h (by show ((_ : Nat) : Int) = ((_ : Nat) : Int); omega))]
  simp
/-- bytes that are read are orders' -/
theorem list_inv {l : List Int} (hw : wfB l) (h : (listS l l.length).2 = 0) : ∃ rows : List (List Int), rows.length ≤ 1000 ∧ (∀ r ∈ rows, row7 r) ∧ rows.all rowOk = true ∧ wfO rows ∧ l = vint ((rows.length : Nat) : Int) ++ bytesO rows ∧ (listS l l.length).1 = rows := by
  have hl2 : ∀ rows : List (List Int), (∀ r ∈ rows, row7 r) → rows.all rowOk = true → rows.length ≤ 1000 → l = vint ((rows.length : Nat) : Int) ++ bytesO rows → (listS l l.length).1 = rows := by
    intro rows h1 h2 h3 h4
    have := list_put h1 h2 h3
    rw [← h4] at this
    rw [this]
  unfold listS finS at h
  by_cases hb : (loopS l l.length (numS l l.length 0 false 1000).1.toNat (numS l l.length 0 false 1000).2.1 (numS l l.length 0 false 1000).2.2 []).2.2 = true ∨ (loopS l l.length (numS l l.length 0 false 1000).1.toNat (numS l l.length 0 false 1000).2.1 (numS l l.length 0 false 1000).2.2 []).2.1 ≠ (l.length : Int)
  · rw [if_pos hb] at h; cases h
  · have hb1 : (loopS l l.length (numS l l.length 0 false 1000).1.toNat (numS l l.length 0 false 1000).2.1 (numS l l.length 0 false 1000).2.2 []).2.2 = false := by
      cases hc : (loopS l l.length (numS l l.length 0 false 1000).1.toNat (numS l l.length 0 false 1000).2.1 (numS l l.length 0 false 1000).2.2 []).2.2 with
      | false => rfl
      | true => exact absurd (.inl hc) hb
    have hb2 : (loopS l l.length (numS l l.length 0 false 1000).1.toNat (numS l l.length 0 false 1000).2.1 (numS l l.length 0 false 1000).2.2 []).2.1 = (l.length : Int) := Classical.byContradiction fun hc => hb (.inr hc)
    have h0 : (numS l l.length ((0 : Nat) : Int) false 1000).2.2 = false := by
      cases hc : (numS l l.length ((0 : Nat) : Int) false 1000).2.2 with
      | false => rfl
      | true =>
        have hc' : (numS l l.length 0 false 1000).2.2 = true := hc
        rw [hc', loopS_bad] at hb1; cases hb1
    obtain ⟨m, m1, m2, m3, m4, m5⟩ := numS_inv hw (Nat.le_refl l.length) h0
    have m3' : numS l l.length 0 false 1000 = (m, ((0 + (vint m).length : Nat) : Int), false) := m3
    rw [m3'] at hb1 hb2
    simp only [Nat.zero_add] at hb1 hb2 m4 m5
    unfold u64 at m1
    obtain ⟨rows, q1, q2, q3, q4, q5, q6⟩ := loopS_inv hw (Nat.le_refl l.length) m5 hb1
    have hp := loopS_put (n := l.length) (out := []) q2 q3 q5 q6
    rw [← q1, hp] at hb2
    have hend : (vint m).length + (bytesO rows).length = l.length := by
      have : (((vint m).length + (bytesO rows).length : Nat) : Int) = (l.length : Int) := hb2
      omega
    have hl : l = vint ((rows.length : Nat) : Int) ++ bytesO rows := by
      have e : ((rows.length : Nat) : Int) = m := by omega
      rw [e]
      rw [List.drop_zero] at m4
      rw [hend, List.drop_length, List.append_nil] at q5
      rw [q5] at m4
      exact m4
    exact ⟨rows, by omega, q2, q3, q4, hl, hl2 rows q2 q3 (by omega) hl⟩
end
section
open Go.Sx
noncomputable def LS := loopN Try.prog 20 0
noncomputable def ES : List Item := .code (.loop LS.1) :: LS.2
noncomputable def KS : List Item := .inLoop LS.1 :: LS.2
noncomputable def FnS : Go.Func := match Try.prog.funcs[20]? with | some fn => fn | none => default
def TS (l k : List (List Int)) (n c d : Nat) (i : Nat) (h : List Bool) : St := ⟨[(0, slO 0 n c), (1, slO 1 n d), (12, si .i64 n), (13, si .i64 i)], [roO l, roO k], h, []⟩
noncomputable def rndS (lim : Nat) (h : List Bool) (l k : List (List Int)) (n c d : Nat) (i : Nat) := run Try.prog (call0 4) (fun _ => false) FnS lim 100000 [] (.code LS.1 :: .inLoop LS.1 :: LS.2) (TS l k n c d i h)
theorem smN : (fun (l k : List (List Int)) (n c m d : Nat) => retV [0, 1] (call0 4 20 [slO 0 n c, slO 1 m d] [roO l, roO k] [true])) = fun (l : List (List Int)) (k : List (List Int)) (n : Nat) (c : Nat) (m : Nat) (d : Nat) => some (((V.v (V1.one (C.bool (false)))), ([(SB.mk (false) (Cells.recs (ksO) (l))), (SB.mk (false) (Cells.recs (ksO) (k)))], [(!decide ((↑n : Int) = (↑m : Int))) = true]))) := by kernel_rfl
theorem smE : (fun (l k : List (List Int)) (n c m d : Nat) => stopV [0, 1, 12, 13] [0, 1] (run Try.prog (call0 4) (fun _ => false) FnS 0 100000 [false] [.code (bodyF 20)] ⟨argSlots 0 [slO 0 n c, slO 1 m d], [roO l, roO k], [false], []⟩)) = fun (l : List (List Int)) (k : List (List Int)) (n : Nat) (c : Nat) (m : Nat) (d : Nat) => some ((ES, ([(((0 : Nat)), (V.v (V1.one (C.slice ((0 : Nat)) (N.c ((0 : Nat))) ((7 : Nat)) (N.s (n)) (N.s (c)))))), (((1 : Nat)), (V.v (V1.one (C.slice ((1 : Nat)) (N.c ((0 : Nat))) ((7 : Nat)) (N.s (m)) (N.s (d)))))), (((12 : Nat)), (V.v (V1.one (C.sint (IntKind.i64) ((↑n : Int)))))), (((13 : Nat)), (V.v (V1.one (C.int (IntKind.i64) ((0 : Int))))))], ([(SB.mk (false) (Cells.recs (ksO) (l))), (SB.mk (false) (Cells.recs (ksO) (k)))], [(!decide ((↑n : Int) = (↑m : Int))) = false])))) := by kernel_rfl
theorem smR : (fun (l k : List (List Int)) (n c d : Nat) (i : Nat) => stopV [0, 1, 12, 13] [0, 1] (rndS (LS.2.length + 1) [true, false] l k n c d i)) = fun (l : List (List Int)) (k : List (List Int)) (n : Nat) (c : Nat) (d : Nat) (i : Nat) => some ((KS, ([(((0 : Nat)), (V.v (V1.one (C.slice ((0 : Nat)) (N.c ((0 : Nat))) ((7 : Nat)) (N.s (n)) (N.s (c)))))), (((1 : Nat)), (V.v (V1.one (C.slice ((1 : Nat)) (N.c ((0 : Nat))) ((7 : Nat)) (N.s (n)) (N.s (d)))))), (((12 : Nat)), (V.v (V1.one (C.sint (IntKind.i64) ((↑n : Int)))))), (((13 : Nat)), (V.v (V1.one (C.sint (IntKind.i64) ((↑i : Int) + (1 : Int))))))], ([(SB.mk (false) (Cells.recs (ksO) (l))), (SB.mk (false) (Cells.recs (ksO) (k)))], [(-9223372036854775808 : Int) ≤ (↑i : Int) + (1 : Int) ∧ (↑i : Int) + (1 : Int) ≤ (9223372036854775807 : Int), (!(decide (List.getD (List.getD l (i) []) (0 : Nat) (0 : Int) = List.getD (List.getD k (i) []) (0 : Nat) (0 : Int)) && (decide (List.getD (List.getD l (i) []) (1 : Nat) (0 : Int) = List.getD (List.getD k (i) []) (1 : Nat) (0 : Int)) && (decide (List.getD (List.getD l (i) []) (2 : Nat) (0 : Int) = List.getD (List.getD k (i) []) (2 : Nat) (0 : Int)) && (decide (List.getD (List.getD l (i) []) (3 : Nat) (0 : Int) = List.getD (List.getD k (i) []) (3 : Nat) (0 : Int)) && (decide (List.getD (List.getD l (i) []) (4 : Nat) (0 : Int) = List.getD (List.getD k (i) []) (4 : Nat) (0 : Int)) && (decide (List.getD (List.getD l (i) []) (5 : Nat) (0 : Int) = List.getD (List.getD k (i) []) (5 : Nat) (0 : Int)) && (decide (List.getD (List.getD l (i) []) (6 : Nat) (0 : Int) = List.getD (List.getD k (i) []) (6 : Nat) (0 : Int)) && true)))))))) = false, i < List.length k, (0 : Int) ≤ (↑i : Int), (↑i : Int) < (↑n : Int), i < List.length l, (0 : Int) ≤ (↑i : Int), (↑i : Int) < (↑n : Int), decide ((↑i : Int) < (↑n : Int)) = true])))) := by kernel_rfl
theorem smX0 : (fun (l k : List (List Int)) (n c d : Nat) (i : Nat) => endV [0, 1] (rndS 0 [true, true] l k n c d i)) = fun (l : List (List Int)) (k : List (List Int)) (n : Nat) (c : Nat) (d : Nat) (i : Nat) => some (((V.v (V1.one (C.bool (false)))), ([(SB.mk (false) (Cells.recs (ksO) (l))), (SB.mk (false) (Cells.recs (ksO) (k)))], [(!(decide (List.getD (List.getD l (i) []) (0 : Nat) (0 : Int) = List.getD (List.getD k (i) []) (0 : Nat) (0 : Int)) && (decide (List.getD (List.getD l (i) []) (1 : Nat) (0 : Int) = List.getD (List.getD k (i) []) (1 : Nat) (0 : Int)) && (decide (List.getD (List.getD l (i) []) (2 : Nat) (0 : Int) = List.getD (List.getD k (i) []) (2 : Nat) (0 : Int)) && (decide (List.getD (List.getD l (i) []) (3 : Nat) (0 : Int) = List.getD (List.getD k (i) []) (3 : Nat) (0 : Int)) && (decide (List.getD (List.getD l (i) []) (4 : Nat) (0 : Int) = List.getD (List.getD k (i) []) (4 : Nat) (0 : Int)) && (decide (List.getD (List.getD l (i) []) (5 : Nat) (0 : Int) = List.getD (List.getD k (i) []) (5 : Nat) (0 : Int)) && (decide (List.getD (List.getD l (i) []) (6 : Nat) (0 : Int) = List.getD (List.getD k (i) []) (6 : Nat) (0 : Int)) && true)))))))) = true, i < List.length k, (0 : Int) ≤ (↑i : Int), (↑i : Int) < (↑n : Int), i < List.length l, (0 : Int) ≤ (↑i : Int), (↑i : Int) < (↑n : Int), decide ((↑i : Int) < (↑n : Int)) = true]))) := by kernel_rfl
theorem smX1 : (fun (l k : List (List Int)) (n c d : Nat) (i : Nat) => endV [0, 1] (rndS 0 [false] l k n c d i)) = fun (l : List (List Int)) (k : List (List Int)) (n : Nat) (c : Nat) (d : Nat) (i : Nat) => some (((V.v (V1.one (C.bool (true)))), ([(SB.mk (false) (Cells.recs (ksO) (l))), (SB.mk (false) (Cells.recs (ksO) (k)))], [decide ((↑i : Int) < (↑n : Int)) = false]))) := by kernel_rfl
end
section
open Go.ChangeShapes Go.WideShapes Go.ChangeAt Go.RowKit Go.Sx
theorem funS : Try.prog.funcs[20]? = some FnS := by kernel_rfl
theorem bodS : FnS.body = some (bodyF 20) := by kernel_rfl
theorem tmpS : 2 ≤ FnS.ntmps := Nat.le_of_ble_eq_true (by kernel_rfl)
theorem call0G_ok (d : Nat) : CallOk Try.prog (call0 d) := callN_sound no_tabs d
theorem capO2_works {f : FuncId} {b n c b' n' c' : Nat} {args : List V} {bs bs' : List SB} {v : V} (h : n ≤ c → n' ≤ c' → Works Try.prog f (slO b n c :: slO b' n' c' :: args) bs v bs') : Works Try.prog f (slO b n c :: slO b' n' c' :: args) bs v bs' := capO_works fun hc => by
  intro ρ K w us hm hu
  have hd : n' ≤ c' := by
    obtain ⟨_, s, _, _, u, s', _, ⟨⟨e, _, hu⟩, _⟩, _⟩ := hu
    rcases hu with ⟨h0, _⟩ | ⟨_, _, _, h1, _⟩
    · simp only [N.v] at h0; omega
    · exact h1
  exact h hc hd ρ K w us hm hu
def rows7 (l : List (List Int)) : Prop := ∀ r ∈ l, row7 r
/-- two rows are the same, cell by cell -/
def eq7 (r s : List Int) : Bool := decide (r.getD 0 0 = s.getD 0 0) && (decide (r.getD 1 0 = s.getD 1 0) && (decide (r.getD 2 0 = s.getD 2 0) && (decide (r.getD 3 0 = s.getD 3 0) && (decide (r.getD 4 0 = s.getD 4 0) && (decide (r.getD 5 0 = s.getD 5 0) && (decide (r.getD 6 0 = s.getD 6 0) && true))))))
theorem eq7_iff {r s : List Int} (hr : row7 r) (hs : row7 s) : eq7 r s = decide (r = s) := by
  obtain ⟨a, b, c, d, e, f, g, rfl⟩ := hr
  obtain ⟨a', b', c', d', e', f', g', rfl⟩ := hs
  unfold eq7
  simp [Bool.decide_and]
theorem takeR_iff {l k : List (List Int)} {n : Nat} (hl : n ≤ l.length) (hk : n ≤ k.length) : l.take n = k.take n ↔ ∀ i, i < n → l.getD i [] = k.getD i [] := by
  have gt : ∀ {l : List (List Int)} {i : Nat}, i < n → (l.take n).getD i [] = l.getD i [] := by
    intro l i h
    simp [List.getD_eq_getElem?_getD, List.getElem?_take, h]
  constructor
  · intro h i hi
    rw [← gt (l := l) hi, ← gt (l := k) hi, h]
  · intro h
    refine List.ext_getElem (by rw [List.length_take, List.length_take]; omega) fun i h1 h2 => ?_
    have hi : i < n := by rw [List.length_take] at h1; omega
    have := h i hi
    rw [List.getD_eq_getElem?_getD, List.getD_eq_getElem?_getD, List.getElem?_eq_getElem (by omega), List.getElem?_eq_getElem (by omega)] at this
    simpa using this
theorem nd2S : (List.range 2 ++ ([] : List Nat)).Nodup := by decide
theorem same_works (l k : List (List Int)) (n c m d : Nat) (hn : n ≤ l.length) (hk : m ≤ k.length) (hx : n ≤ 1000000000) (h7 : rows7 l) (h7' : rows7 k) : Works Try.prog 20 [slO 0 n c, slO 1 m d] [roO l, roO k] (.v (.one (.sbool (decide (l.take n = k.take m))))) [roO l, roO k] := capO2_works fun hc hd => by
  by_cases hnm : n = m
  · subst hnm
    have hiff := takeR_iff hn hk
    refine works_loop (I := Nat) (Inv := fun i h => TS l k n c d i h) (good := fun i => i ≤ n ∧ ∀ j, j < i → l.getD j [] = k.getD j []) (μ := fun i => n - i) (i := 0) (r := []) (call0G_ok 4) funS bodS (by exact tmpS) (fun _ _ => ⟨rfl, rfl⟩)
      (congrFun (congrFun (congrFun (congrFun (congrFun (congrFun smE l) k) n) c) n) d) (by simp [allP]) ⟨nd2S, ?_, ?_⟩ ⟨Nat.zero_le _, fun j h => by omega⟩ ?_
    · simp [TS, slO, leSlots, leV, leV1, leC, si, List.range, List.range.loop, N.v, hc, hd]
    · simp [TS, leBs, leB, leCells, roO]
    · intro i ⟨hi, hall⟩
      by_cases hlt : i < n
      · have q0 := congrFun (congrFun (congrFun (congrFun (congrFun (congrFun smR l) k) n) c) d) i
        have q1 := congrFun (congrFun (congrFun (congrFun (congrFun (congrFun smX0 l) k) n) c) d) i
        have hq := eq7_iff (h7 _ (row_in (l := l) (i := i) (by omega))) (h7' _ (row_in (l := k) (i := i) (by omega)))
        unfold eq7 at hq
        rw [hq] at q0 q1
        have k10 : (i : Int) < (n : Int) := by omega
        by_cases he : l.getD i [] = k.getD i []
        · refine .round [true, false] [] _ _ [0, 1, 12, 13] [] _ _ _ (i + 1) q0 ?_ ⟨nd2S, ?_, ?_⟩ ⟨hlt, fun j hj => ?_⟩ (by omega)
          · refine ⟨by omega, by rw [decide_eq_true he]; rfl, by omega, by omega, by omega, by omega, by omega, by omega, decide_eq_true k10, trivial⟩
          · simp [TS, slO, leSlots, leV, leV1, leC, si, List.range, List.range.loop, N.v, hc, hd]
          · simp [TS, leBs, leB, leCells, roO]
          · by_cases hji : j = i
            · subst hji; exact he
            · exact hall j (by omega)
        · refine .stop [true, true] [] _ _ [] _ _ _ q1 ?_ nd2S ?_ ?_
          · refine ⟨by rw [decide_eq_false he]; rfl, by omega, by omega, by omega, by omega, by omega, by omega, decide_eq_true k10, trivial⟩
          · have : ¬ l.take n = k.take n := fun h => he (hiff.1 h i hlt)
            simp [leV, leV1, leC, this]
          · simp [leBs, leB, leCells, roO]
      · have hin : i = n := by omega
        subst hin
        refine .stop [false] [] _ _ [] _ _ _ (congrFun (congrFun (congrFun (congrFun (congrFun (congrFun smX1 l) k) i) c) d) i) ?_ nd2S ?_ ?_
        · simp [allP]
        · simp only [leV, leV1, leC, decide_eq_true (hiff.2 hall)]
        · simp [leBs, leB, leCells, roO]
  · refine works_of (r := []) no_tabs (congrFun (congrFun (congrFun (congrFun (congrFun (congrFun smN l) k) n) c) m) d) ?_ nd2S ?_ ?_
    · have : ¬ (n : Int) = m := by omega
      exact ⟨by simp only [decide_eq_false this]; rfl, trivial⟩
    · have : ¬ l.take n = k.take m := fun h => by
        have := congrArg List.length h
        rw [List.length_take, List.length_take] at this
        omega
      simp [leV, leV1, leC, this]
    · simp [leBs, leB, leCells, roO]
def gSame : Sx.Loc := fun args bs => match args, bs with
  | [.v (.one (.slice 0 (.c 0) 7 (.s n) (.s _))), .v (.one (.slice 1 (.c 0) 7 (.s m) (.s _)))], [⟨false, .recs ks l⟩, ⟨false, .recs ks' k⟩] => match decide (ks = ksO) && decide (ks' = ksO) with
    | true => some (.v (.one (.sbool (decide (l.take n = k.take m)))), [roO l, roO k], [n ≤ l.length, m ≤ k.length, n ≤ 1000000000, rows7 l, rows7 k])
    | false => none
  | _, _ => none
def wantO2 : List V → List Want := fun _ => [(false, .recs ksO), (false, .recs ksO)]
theorem same_tab : TabOk Try.prog 20 (loc wantO2 gSame) := loc_ok fun xs bs v bs' ob hg hob hokb => by
  unfold gSame at hg
  split at hg
  · rename_i n c m d ks l ks' k
    split at hg
    · rename_i hk
      rw [Bool.and_eq_true] at hk
      injection hg with hg; injection hg with e1 e2; injection e2 with e2 e3
      subst e1; subst e2; subst e3
      have h1 : ks = ksO := of_decide_eq_true hk.1
      have h2 : ks' = ksO := of_decide_eq_true hk.2
      subst h1; subst h2
      exact same_works l k n c m d (hob _ (by simp)) (hob (m ≤ k.length) (by simp)) (hob (n ≤ 1000000000) (by simp)) (hob (rows7 l) (by simp)) (hob (rows7 k) (by simp))
    · cases hg
  · cases hg
end
section
open Go.Sx
abbrev GO := List (List Int) → List Int × Int
abbrev GL := List Int → Nat → List (List Int) × Int
def gOrdF (F : GO) : Sx.Loc := fun args bs => match args, bs with
  | [.v (.one (.slice 0 (.c 0) 7 (.s n) (.s _)))], [⟨false, .recs ks l⟩] => match decide (ks = ksO) with
    | true => some (tupO 1 (F (l.take n)).1.length (F (l.take n)).2, [roO l, owB (F (l.take n)).1], [n ≤ l.length, wfO l])
    | false => none
  | _, _ => none
def tabK (G : GR) (O : GO) (F : GL) := tabs [(9, yes), (8, fresh gBytes), (13, loc wantRo (gReadF G)), (15, loc wantO (gOrdF O)), (17, loc wantRo (gLst F)), (20, loc wantO2 gSame)]
noncomputable def lwK (f : FuncId) (G : GR) (O : GO) (F : GL) (args : List V) (m : List SB) (h : List Bool) := obsOf (callN Try.prog (tabK G O F) (fun _ => false) 100000 6 f args m h)
noncomputable def bk (G : GR) (O : GO) (F : GL) (d A B C N : Int) (l : List (List Int)) (b : List Int) (h : List Bool) := lwK 6 G O F [cmdS d A B C N, slO 0 l.length l.length, bsl 1 b.length b.length] [roO l, roB b] h
theorem bkL : (fun (G : GR) (O : GO) (F : GL) (d A B C N : Int) (l : List (List Int)) (b : List Int) => bk G O F d A B C N l b [true]) = fun (G : GR) (O : GO) (F : GL) (d : Int) (A : Int) (B : Int) (C : Int) (N : Int) (l : List (List Int)) (b : List Int) => some ([decide ((20000 : Int) < (↑(List.length b) : Int)) = true]) := by kernel_rfl
theorem bk0000 : (fun (G : GR) (O : GO) (F : GL) (d A B C N : Int) (l : List (List Int)) (b : List Int) => bk G O F d A B C N l b [false, false, false, false, true, true]) = fun (G : GR) (O : GO) (F : GL) (d : Int) (A : Int) (B : Int) (C : Int) (N : Int) (l : List (List Int)) (b : List Int) => some ([decide ((↑(List.length (Prod.fst (F b (List.length b)))) : Int) = (0 : Int)) = true, (!decide (Prod.snd (F b (List.length b)) = (0 : Int))) = true, List.length b ≤ List.length b, List.length b ≤ (1000000000 : Nat), wfB b, decide (Prod.snd (O (List.take (Int.toNat (if (200 : Int) < (↑(List.length l) : Int) then (200 : Int) else (↑(List.length l) : Int))) l)) = (0 : Int)) = false, Int.toNat (if (200 : Int) < (↑(List.length l) : Int) then (200 : Int) else (↑(List.length l) : Int)) ≤ List.length l, wfO l, decide (Prod.snd (G b (List.length b)) = (0 : Int)) = false, List.length b ≤ List.length b, List.length b ≤ (1000000000 : Nat), wfB b, rightF d A B C N = false, (0 : Int) ≤ d ∧ d < (256 : Int), (0 : Int) ≤ if (200 : Int) < (↑(List.length l) : Int) then (200 : Int) else (↑(List.length l) : Int), (if (200 : Int) < (↑(List.length l) : Int) then (200 : Int) else (↑(List.length l) : Int)) ≤ (↑(List.length l) : Int), decide ((20000 : Int) < (↑(List.length b) : Int)) = false]) := by kernel_rfl
theorem bk0001 : (fun (G : GR) (O : GO) (F : GL) (d A B C N : Int) (l : List (List Int)) (b : List Int) => bk G O F d A B C N l b [false, false, false, false, false, true, true, true, true]) = fun (G : GR) (O : GO) (F : GL) (d : Int) (A : Int) (B : Int) (C : Int) (N : Int) (l : List (List Int)) (b : List Int) => some ([(List.map (fun (n : Int) ↦ UInt8.ofNat (Int.toNat n)) (Prod.fst (O (List.take (List.length (Prod.fst (F b (List.length b)))) (Prod.fst (F b (List.length b)))))) == List.map (fun (n : Int) ↦ UInt8.ofNat (Int.toNat n)) b) = true, (0 : Nat) = (0 : Nat), List.length b = List.length b, (0 : Nat) = (0 : Nat), List.length (Prod.fst (O (List.take (List.length (Prod.fst (F b (List.length b)))) (Prod.fst (F b (List.length b)))))) = List.length (Prod.fst (O (List.take (List.length (Prod.fst (F b (List.length b)))) (Prod.fst (F b (List.length b)))))), decide (Prod.snd (O (List.take (List.length (Prod.fst (F b (List.length b)))) (Prod.fst (F b (List.length b))))) = (0 : Int)) = true, List.length (Prod.fst (F b (List.length b))) ≤ List.length (Prod.fst (F b (List.length b))), wfO (Prod.fst (F b (List.length b))), (!decide (Prod.snd (F b (List.length b)) = (0 : Int))) = false, List.length b ≤ List.length b, List.length b ≤ (1000000000 : Nat), wfB b, decide (Prod.snd (O (List.take (Int.toNat (if (200 : Int) < (↑(List.length l) : Int) then (200 : Int) else (↑(List.length l) : Int))) l)) = (0 : Int)) = false, Int.toNat (if (200 : Int) < (↑(List.length l) : Int) then (200 : Int) else (↑(List.length l) : Int)) ≤ List.length l, wfO l, decide (Prod.snd (G b (List.length b)) = (0 : Int)) = false, List.length b ≤ List.length b, List.length b ≤ (1000000000 : Nat), wfB b, rightF d A B C N = false, (0 : Int) ≤ d ∧ d < (256 : Int), (0 : Int) ≤ if (200 : Int) < (↑(List.length l) : Int) then (200 : Int) else (↑(List.length l) : Int), (if (200 : Int) < (↑(List.length l) : Int) then (200 : Int) else (↑(List.length l) : Int)) ≤ (↑(List.length l) : Int), decide ((20000 : Int) < (↑(List.length b) : Int)) = false]) := by kernel_rfl
theorem bk0010 : (fun (G : GR) (O : GO) (F : GL) (d A B C N : Int) (l : List (List Int)) (b : List Int) => bk G O F d A B C N l b [false, false, false, true, false, false, true, true]) = fun (G : GR) (O : GO) (F : GL) (d : Int) (A : Int) (B : Int) (C : Int) (N : Int) (l : List (List Int)) (b : List Int) => some ([decide ((↑(List.length (Prod.fst (F b (List.length b)))) : Int) = (0 : Int)) = true, (!decide (Prod.snd (F b (List.length b)) = (0 : Int))) = true, List.length b ≤ List.length b, List.length b ≤ (1000000000 : Nat), wfB b, (!decide (List.take (Int.toNat (if (200 : Int) < (↑(List.length l) : Int) then (200 : Int) else (↑(List.length l) : Int))) l = List.take (List.length (Prod.fst (F (Prod.fst (O (List.take (Int.toNat (if (200 : Int) < (↑(List.length l) : Int) then (200 : Int) else (↑(List.length l) : Int))) l))) (List.length (Prod.fst (O (List.take (Int.toNat (if (200 : Int) < (↑(List.length l) : Int) then (200 : Int) else (↑(List.length l) : Int))) l))))))) (Prod.fst (F (Prod.fst (O (List.take (Int.toNat (if (200 : Int) < (↑(List.length l) : Int) then (200 : Int) else (↑(List.length l) : Int))) l))) (List.length (Prod.fst (O (List.take (Int.toNat (if (200 : Int) < (↑(List.length l) : Int) then (200 : Int) else (↑(List.length l) : Int))) l)))))))) = false, Int.toNat (if (200 : Int) < (↑(List.length l) : Int) then (200 : Int) else (↑(List.length l) : Int)) ≤ List.length l, List.length (Prod.fst (F (Prod.fst (O (List.take (Int.toNat (if (200 : Int) < (↑(List.length l) : Int) then (200 : Int) else (↑(List.length l) : Int))) l))) (List.length (Prod.fst (O (List.take (Int.toNat (if (200 : Int) < (↑(List.length l) : Int) then (200 : Int) else (↑(List.length l) : Int))) l)))))) ≤ List.length (Prod.fst (F (Prod.fst (O (List.take (Int.toNat (if (200 : Int) < (↑(List.length l) : Int) then (200 : Int) else (↑(List.length l) : Int))) l))) (List.length (Prod.fst (O (List.take (Int.toNat (if (200 : Int) < (↑(List.length l) : Int) then (200 : Int) else (↑(List.length l) : Int))) l)))))), Int.toNat (if (200 : Int) < (↑(List.length l) : Int) then (200 : Int) else (↑(List.length l) : Int)) ≤ (1000000000 : Nat), rows7 l, rows7 (Prod.fst (F (Prod.fst (O (List.take (Int.toNat (if (200 : Int) < (↑(List.length l) : Int) then (200 : Int) else (↑(List.length l) : Int))) l))) (List.length (Prod.fst (O (List.take (Int.toNat (if (200 : Int) < (↑(List.length l) : Int) then (200 : Int) else (↑(List.length l) : Int))) l)))))), (!decide (Prod.snd (F (Prod.fst (O (List.take (Int.toNat (if (200 : Int) < (↑(List.length l) : Int) then (200 : Int) else (↑(List.length l) : Int))) l))) (List.length (Prod.fst (O (List.take (Int.toNat (if (200 : Int) < (↑(List.length l) : Int) then (200 : Int) else (↑(List.length l) : Int))) l))))) = (0 : Int))) = false, List.length (Prod.fst (O (List.take (Int.toNat (if (200 : Int) < (↑(List.length l) : Int) then (200 : Int) else (↑(List.length l) : Int))) l))) ≤ List.length (Prod.fst (O (List.take (Int.toNat (if (200 : Int) < (↑(List.length l) : Int) then (200 : Int) else (↑(List.length l) : Int))) l))), List.length (Prod.fst (O (List.take (Int.toNat (if (200 : Int) < (↑(List.length l) : Int) then (200 : Int) else (↑(List.length l) : Int))) l))) ≤ (1000000000 : Nat), wfB (Prod.fst (O (List.take (Int.toNat (if (200 : Int) < (↑(List.length l) : Int) then (200 : Int) else (↑(List.length l) : Int))) l))), decide (Prod.snd (O (List.take (Int.toNat (if (200 : Int) < (↑(List.length l) : Int) then (200 : Int) else (↑(List.length l) : Int))) l)) = (0 : Int)) = true, Int.toNat (if (200 : Int) < (↑(List.length l) : Int) then (200 : Int) else (↑(List.length l) : Int)) ≤ List.length l, wfO l, decide (Prod.snd (G b (List.length b)) = (0 : Int)) = false, List.length b ≤ List.length b, List.length b ≤ (1000000000 : Nat), wfB b, rightF d A B C N = false, (0 : Int) ≤ d ∧ d < (256 : Int), (0 : Int) ≤ if (200 : Int) < (↑(List.length l) : Int) then (200 : Int) else (↑(List.length l) : Int), (if (200 : Int) < (↑(List.length l) : Int) then (200 : Int) else (↑(List.length l) : Int)) ≤ (↑(List.length l) : Int), decide ((20000 : Int) < (↑(List.length b) : Int)) = false]) := by kernel_rfl
theorem bk0011 : (fun (G : GR) (O : GO) (F : GL) (d A B C N : Int) (l : List (List Int)) (b : List Int) => bk G O F d A B C N l b [false, false, false, true, false, false, false, true, true, true, true]) = fun (G : GR) (O : GO) (F : GL) (d : Int) (A : Int) (B : Int) (C : Int) (N : Int) (l : List (List Int)) (b : List Int) => some ([(List.map (fun (n : Int) ↦ UInt8.ofNat (Int.toNat n)) (Prod.fst (O (List.take (List.length (Prod.fst (F b (List.length b)))) (Prod.fst (F b (List.length b)))))) == List.map (fun (n : Int) ↦ UInt8.ofNat (Int.toNat n)) b) = true, (0 : Nat) = (0 : Nat), List.length b = List.length b, (0 : Nat) = (0 : Nat), List.length (Prod.fst (O (List.take (List.length (Prod.fst (F b (List.length b)))) (Prod.fst (F b (List.length b)))))) = List.length (Prod.fst (O (List.take (List.length (Prod.fst (F b (List.length b)))) (Prod.fst (F b (List.length b)))))), decide (Prod.snd (O (List.take (List.length (Prod.fst (F b (List.length b)))) (Prod.fst (F b (List.length b))))) = (0 : Int)) = true, List.length (Prod.fst (F b (List.length b))) ≤ List.length (Prod.fst (F b (List.length b))), wfO (Prod.fst (F b (List.length b))), (!decide (Prod.snd (F b (List.length b)) = (0 : Int))) = false, List.length b ≤ List.length b, List.length b ≤ (1000000000 : Nat), wfB b, (!decide (List.take (Int.toNat (if (200 : Int) < (↑(List.length l) : Int) then (200 : Int) else (↑(List.length l) : Int))) l = List.take (List.length (Prod.fst (F (Prod.fst (O (List.take (Int.toNat (if (200 : Int) < (↑(List.length l) : Int) then (200 : Int) else (↑(List.length l) : Int))) l))) (List.length (Prod.fst (O (List.take (Int.toNat (if (200 : Int) < (↑(List.length l) : Int) then (200 : Int) else (↑(List.length l) : Int))) l))))))) (Prod.fst (F (Prod.fst (O (List.take (Int.toNat (if (200 : Int) < (↑(List.length l) : Int) then (200 : Int) else (↑(List.length l) : Int))) l))) (List.length (Prod.fst (O (List.take (Int.toNat (if (200 : Int) < (↑(List.length l) : Int) then (200 : Int) else (↑(List.length l) : Int))) l)))))))) = false, Int.toNat (if (200 : Int) < (↑(List.length l) : Int) then (200 : Int) else (↑(List.length l) : Int)) ≤ List.length l, List.length (Prod.fst (F (Prod.fst (O (List.take (Int.toNat (if (200 : Int) < (↑(List.length l) : Int) then (200 : Int) else (↑(List.length l) : Int))) l))) (List.length (Prod.fst (O (List.take (Int.toNat (if (200 : Int) < (↑(List.length l) : Int) then (200 : Int) else (↑(List.length l) : Int))) l)))))) ≤ List.length (Prod.fst (F (Prod.fst (O (List.take (Int.toNat (if (200 : Int) < (↑(List.length l) : Int) then (200 : Int) else (↑(List.length l) : Int))) l))) (List.length (Prod.fst (O (List.take (Int.toNat (if (200 : Int) < (↑(List.length l) : Int) then (200 : Int) else (↑(List.length l) : Int))) l)))))), Int.toNat (if (200 : Int) < (↑(List.length l) : Int) then (200 : Int) else (↑(List.length l) : Int)) ≤ (1000000000 : Nat), rows7 l, rows7 (Prod.fst (F (Prod.fst (O (List.take (Int.toNat (if (200 : Int) < (↑(List.length l) : Int) then (200 : Int) else (↑(List.length l) : Int))) l))) (List.length (Prod.fst (O (List.take (Int.toNat (if (200 : Int) < (↑(List.length l) : Int) then (200 : Int) else (↑(List.length l) : Int))) l)))))), (!decide (Prod.snd (F (Prod.fst (O (List.take (Int.toNat (if (200 : Int) < (↑(List.length l) : Int) then (200 : Int) else (↑(List.length l) : Int))) l))) (List.length (Prod.fst (O (List.take (Int.toNat (if (200 : Int) < (↑(List.length l) : Int) then (200 : Int) else (↑(List.length l) : Int))) l))))) = (0 : Int))) = false, List.length (Prod.fst (O (List.take (Int.toNat (if (200 : Int) < (↑(List.length l) : Int) then (200 : Int) else (↑(List.length l) : Int))) l))) ≤ List.length (Prod.fst (O (List.take (Int.toNat (if (200 : Int) < (↑(List.length l) : Int) then (200 : Int) else (↑(List.length l) : Int))) l))), List.length (Prod.fst (O (List.take (Int.toNat (if (200 : Int) < (↑(List.length l) : Int) then (200 : Int) else (↑(List.length l) : Int))) l))) ≤ (1000000000 : Nat), wfB (Prod.fst (O (List.take (Int.toNat (if (200 : Int) < (↑(List.length l) : Int) then (200 : Int) else (↑(List.length l) : Int))) l))), decide (Prod.snd (O (List.take (Int.toNat (if (200 : Int) < (↑(List.length l) : Int) then (200 : Int) else (↑(List.length l) : Int))) l)) = (0 : Int)) = true, Int.toNat (if (200 : Int) < (↑(List.length l) : Int) then (200 : Int) else (↑(List.length l) : Int)) ≤ List.length l, wfO l, decide (Prod.snd (G b (List.length b)) = (0 : Int)) = false, List.length b ≤ List.length b, List.length b ≤ (1000000000 : Nat), wfB b, rightF d A B C N = false, (0 : Int) ≤ d ∧ d < (256 : Int), (0 : Int) ≤ if (200 : Int) < (↑(List.length l) : Int) then (200 : Int) else (↑(List.length l) : Int), (if (200 : Int) < (↑(List.length l) : Int) then (200 : Int) else (↑(List.length l) : Int)) ≤ (↑(List.length l) : Int), decide ((20000 : Int) < (↑(List.length b) : Int)) = false]) := by kernel_rfl
theorem bk0100 : (fun (G : GR) (O : GO) (F : GL) (d A B C N : Int) (l : List (List Int)) (b : List Int) => bk G O F d A B C N l b [false, false, true, true, true, true, false, false, true, true]) = fun (G : GR) (O : GO) (F : GL) (d : Int) (A : Int) (B : Int) (C : Int) (N : Int) (l : List (List Int)) (b : List Int) => some ([decide ((↑(List.length (Prod.fst (F b (List.length b)))) : Int) = (0 : Int)) = true, (!decide (Prod.snd (F b (List.length b)) = (0 : Int))) = true, List.length b ≤ List.length b, List.length b ≤ (1000000000 : Nat), wfB b, decide (Prod.snd (O (List.take (Int.toNat (if (200 : Int) < (↑(List.length l) : Int) then (200 : Int) else (↑(List.length l) : Int))) l)) = (0 : Int)) = false, Int.toNat (if (200 : Int) < (↑(List.length l) : Int) then (200 : Int) else (↑(List.length l) : Int)) ≤ List.length l, wfO l, (!List.map (fun (n : Int) ↦ UInt8.ofNat (Int.toNat n)) (cmdB (Cmd5.d (Prod.fst (G b (List.length b)))) (Cmd5.A (Prod.fst (G b (List.length b)))) (Cmd5.B (Prod.fst (G b (List.length b)))) (Cmd5.C (Prod.fst (G b (List.length b)))) (Cmd5.N (Prod.fst (G b (List.length b))))) == List.map (fun (n : Int) ↦ UInt8.ofNat (Int.toNat n)) b) = false, (0 : Nat) = (0 : Nat), List.length b = List.length b, (0 : Nat) = (0 : Nat), List.length (cmdB (Cmd5.d (Prod.fst (G b (List.length b)))) (Cmd5.A (Prod.fst (G b (List.length b)))) (Cmd5.B (Prod.fst (G b (List.length b)))) (Cmd5.C (Prod.fst (G b (List.length b)))) (Cmd5.N (Prod.fst (G b (List.length b))))) = List.length (cmdB (Cmd5.d (Prod.fst (G b (List.length b)))) (Cmd5.A (Prod.fst (G b (List.length b)))) (Cmd5.B (Prod.fst (G b (List.length b)))) (Cmd5.C (Prod.fst (G b (List.length b)))) (Cmd5.N (Prod.fst (G b (List.length b))))), rightF (Cmd5.d (Prod.fst (G b (List.length b)))) (Cmd5.A (Prod.fst (G b (List.length b)))) (Cmd5.B (Prod.fst (G b (List.length b)))) (Cmd5.C (Prod.fst (G b (List.length b)))) (Cmd5.N (Prod.fst (G b (List.length b)))) = true, (0 : Int) ≤ Cmd5.d (Prod.fst (G b (List.length b))) ∧ Cmd5.d (Prod.fst (G b (List.length b))) < (256 : Int), decide (Prod.snd (G b (List.length b)) = (0 : Int)) = true, List.length b ≤ List.length b, List.length b ≤ (1000000000 : Nat), wfB b, rightF d A B C N = false, (0 : Int) ≤ d ∧ d < (256 : Int), (0 : Int) ≤ if (200 : Int) < (↑(List.length l) : Int) then (200 : Int) else (↑(List.length l) : Int), (if (200 : Int) < (↑(List.length l) : Int) then (200 : Int) else (↑(List.length l) : Int)) ≤ (↑(List.length l) : Int), decide ((20000 : Int) < (↑(List.length b) : Int)) = false]) := by kernel_rfl
theorem bk0101 : (fun (G : GR) (O : GO) (F : GL) (d A B C N : Int) (l : List (List Int)) (b : List Int) => bk G O F d A B C N l b [false, false, true, true, true, true, false, false, false, true, true, true, true]) = fun (G : GR) (O : GO) (F : GL) (d : Int) (A : Int) (B : Int) (C : Int) (N : Int) (l : List (List Int)) (b : List Int) => some ([(List.map (fun (n : Int) ↦ UInt8.ofNat (Int.toNat n)) (Prod.fst (O (List.take (List.length (Prod.fst (F b (List.length b)))) (Prod.fst (F b (List.length b)))))) == List.map (fun (n : Int) ↦ UInt8.ofNat (Int.toNat n)) b) = true, (0 : Nat) = (0 : Nat), List.length b = List.length b, (0 : Nat) = (0 : Nat), List.length (Prod.fst (O (List.take (List.length (Prod.fst (F b (List.length b)))) (Prod.fst (F b (List.length b)))))) = List.length (Prod.fst (O (List.take (List.length (Prod.fst (F b (List.length b)))) (Prod.fst (F b (List.length b)))))), decide (Prod.snd (O (List.take (List.length (Prod.fst (F b (List.length b)))) (Prod.fst (F b (List.length b))))) = (0 : Int)) = true, List.length (Prod.fst (F b (List.length b))) ≤ List.length (Prod.fst (F b (List.length b))), wfO (Prod.fst (F b (List.length b))), (!decide (Prod.snd (F b (List.length b)) = (0 : Int))) = false, List.length b ≤ List.length b, List.length b ≤ (1000000000 : Nat), wfB b, decide (Prod.snd (O (List.take (Int.toNat (if (200 : Int) < (↑(List.length l) : Int) then (200 : Int) else (↑(List.length l) : Int))) l)) = (0 : Int)) = false, Int.toNat (if (200 : Int) < (↑(List.length l) : Int) then (200 : Int) else (↑(List.length l) : Int)) ≤ List.length l, wfO l, (!List.map (fun (n : Int) ↦ UInt8.ofNat (Int.toNat n)) (cmdB (Cmd5.d (Prod.fst (G b (List.length b)))) (Cmd5.A (Prod.fst (G b (List.length b)))) (Cmd5.B (Prod.fst (G b (List.length b)))) (Cmd5.C (Prod.fst (G b (List.length b)))) (Cmd5.N (Prod.fst (G b (List.length b))))) == List.map (fun (n : Int) ↦ UInt8.ofNat (Int.toNat n)) b) = false, (0 : Nat) = (0 : Nat), List.length b = List.length b, (0 : Nat) = (0 : Nat), List.length (cmdB (Cmd5.d (Prod.fst (G b (List.length b)))) (Cmd5.A (Prod.fst (G b (List.length b)))) (Cmd5.B (Prod.fst (G b (List.length b)))) (Cmd5.C (Prod.fst (G b (List.length b)))) (Cmd5.N (Prod.fst (G b (List.length b))))) = List.length (cmdB (Cmd5.d (Prod.fst (G b (List.length b)))) (Cmd5.A (Prod.fst (G b (List.length b)))) (Cmd5.B (Prod.fst (G b (List.length b)))) (Cmd5.C (Prod.fst (G b (List.length b)))) (Cmd5.N (Prod.fst (G b (List.length b))))), rightF (Cmd5.d (Prod.fst (G b (List.length b)))) (Cmd5.A (Prod.fst (G b (List.length b)))) (Cmd5.B (Prod.fst (G b (List.length b)))) (Cmd5.C (Prod.fst (G b (List.length b)))) (Cmd5.N (Prod.fst (G b (List.length b)))) = true, (0 : Int) ≤ Cmd5.d (Prod.fst (G b (List.length b))) ∧ Cmd5.d (Prod.fst (G b (List.length b))) < (256 : Int), decide (Prod.snd (G b (List.length b)) = (0 : Int)) = true, List.length b ≤ List.length b, List.length b ≤ (1000000000 : Nat), wfB b, rightF d A B C N = false, (0 : Int) ≤ d ∧ d < (256 : Int), (0 : Int) ≤ if (200 : Int) < (↑(List.length l) : Int) then (200 : Int) else (↑(List.length l) : Int), (if (200 : Int) < (↑(List.length l) : Int) then (200 : Int) else (↑(List.length l) : Int)) ≤ (↑(List.length l) : Int), decide ((20000 : Int) < (↑(List.length b) : Int)) = false]) := by kernel_rfl
theorem bk0110 : (fun (G : GR) (O : GO) (F : GL) (d A B C N : Int) (l : List (List Int)) (b : List Int) => bk G O F d A B C N l b [false, false, true, true, true, true, false, true, false, false, true, true]) = fun (G : GR) (O : GO) (F : GL) (d : Int) (A : Int) (B : Int) (C : Int) (N : Int) (l : List (List Int)) (b : List Int) => some ([decide ((↑(List.length (Prod.fst (F b (List.length b)))) : Int) = (0 : Int)) = true, (!decide (Prod.snd (F b (List.length b)) = (0 : Int))) = true, List.length b ≤ List.length b, List.length b ≤ (1000000000 : Nat), wfB b, (!decide (List.take (Int.toNat (if (200 : Int) < (↑(List.length l) : Int) then (200 : Int) else (↑(List.length l) : Int))) l = List.take (List.length (Prod.fst (F (Prod.fst (O (List.take (Int.toNat (if (200 : Int) < (↑(List.length l) : Int) then (200 : Int) else (↑(List.length l) : Int))) l))) (List.length (Prod.fst (O (List.take (Int.toNat (if (200 : Int) < (↑(List.length l) : Int) then (200 : Int) else (↑(List.length l) : Int))) l))))))) (Prod.fst (F (Prod.fst (O (List.take (Int.toNat (if (200 : Int) < (↑(List.length l) : Int) then (200 : Int) else (↑(List.length l) : Int))) l))) (List.length (Prod.fst (O (List.take (Int.toNat (if (200 : Int) < (↑(List.length l) : Int) then (200 : Int) else (↑(List.length l) : Int))) l)))))))) = false, Int.toNat (if (200 : Int) < (↑(List.length l) : Int) then (200 : Int) else (↑(List.length l) : Int)) ≤ List.length l, List.length (Prod.fst (F (Prod.fst (O (List.take (Int.toNat (if (200 : Int) < (↑(List.length l) : Int) then (200 : Int) else (↑(List.length l) : Int))) l))) (List.length (Prod.fst (O (List.take (Int.toNat (if (200 : Int) < (↑(List.length l) : Int) then (200 : Int) else (↑(List.length l) : Int))) l)))))) ≤ List.length (Prod.fst (F (Prod.fst (O (List.take (Int.toNat (if (200 : Int) < (↑(List.length l) : Int) then (200 : Int) else (↑(List.length l) : Int))) l))) (List.length (Prod.fst (O (List.take (Int.toNat (if (200 : Int) < (↑(List.length l) : Int) then (200 : Int) else (↑(List.length l) : Int))) l)))))), Int.toNat (if (200 : Int) < (↑(List.length l) : Int) then (200 : Int) else (↑(List.length l) : Int)) ≤ (1000000000 : Nat), rows7 l, rows7 (Prod.fst (F (Prod.fst (O (List.take (Int.toNat (if (200 : Int) < (↑(List.length l) : Int) then (200 : Int) else (↑(List.length l) : Int))) l))) (List.length (Prod.fst (O (List.take (Int.toNat (if (200 : Int) < (↑(List.length l) : Int) then (200 : Int) else (↑(List.length l) : Int))) l)))))), (!decide (Prod.snd (F (Prod.fst (O (List.take (Int.toNat (if (200 : Int) < (↑(List.length l) : Int) then (200 : Int) else (↑(List.length l) : Int))) l))) (List.length (Prod.fst (O (List.take (Int.toNat (if (200 : Int) < (↑(List.length l) : Int) then (200 : Int) else (↑(List.length l) : Int))) l))))) = (0 : Int))) = false, List.length (Prod.fst (O (List.take (Int.toNat (if (200 : Int) < (↑(List.length l) : Int) then (200 : Int) else (↑(List.length l) : Int))) l))) ≤ List.length (Prod.fst (O (List.take (Int.toNat (if (200 : Int) < (↑(List.length l) : Int) then (200 : Int) else (↑(List.length l) : Int))) l))), List.length (Prod.fst (O (List.take (Int.toNat (if (200 : Int) < (↑(List.length l) : Int) then (200 : Int) else (↑(List.length l) : Int))) l))) ≤ (1000000000 : Nat), wfB (Prod.fst (O (List.take (Int.toNat (if (200 : Int) < (↑(List.length l) : Int) then (200 : Int) else (↑(List.length l) : Int))) l))), decide (Prod.snd (O (List.take (Int.toNat (if (200 : Int) < (↑(List.length l) : Int) then (200 : Int) else (↑(List.length l) : Int))) l)) = (0 : Int)) = true, Int.toNat (if (200 : Int) < (↑(List.length l) : Int) then (200 : Int) else (↑(List.length l) : Int)) ≤ List.length l, wfO l, (!List.map (fun (n : Int) ↦ UInt8.ofNat (Int.toNat n)) (cmdB (Cmd5.d (Prod.fst (G b (List.length b)))) (Cmd5.A (Prod.fst (G b (List.length b)))) (Cmd5.B (Prod.fst (G b (List.length b)))) (Cmd5.C (Prod.fst (G b (List.length b)))) (Cmd5.N (Prod.fst (G b (List.length b))))) == List.map (fun (n : Int) ↦ UInt8.ofNat (Int.toNat n)) b) = false, (0 : Nat) = (0 : Nat), List.length b = List.length b, (0 : Nat) = (0 : Nat), List.length (cmdB (Cmd5.d (Prod.fst (G b (List.length b)))) (Cmd5.A (Prod.fst (G b (List.length b)))) (Cmd5.B (Prod.fst (G b (List.length b)))) (Cmd5.C (Prod.fst (G b (List.length b)))) (Cmd5.N (Prod.fst (G b (List.length b))))) = List.length (cmdB (Cmd5.d (Prod.fst (G b (List.length b)))) (Cmd5.A (Prod.fst (G b (List.length b)))) (Cmd5.B (Prod.fst (G b (List.length b)))) (Cmd5.C (Prod.fst (G b (List.length b)))) (Cmd5.N (Prod.fst (G b (List.length b))))), rightF (Cmd5.d (Prod.fst (G b (List.length b)))) (Cmd5.A (Prod.fst (G b (List.length b)))) (Cmd5.B (Prod.fst (G b (List.length b)))) (Cmd5.C (Prod.fst (G b (List.length b)))) (Cmd5.N (Prod.fst (G b (List.length b)))) = true, (0 : Int) ≤ Cmd5.d (Prod.fst (G b (List.length b))) ∧ Cmd5.d (Prod.fst (G b (List.length b))) < (256 : Int), decide (Prod.snd (G b (List.length b)) = (0 : Int)) = true, List.length b ≤ List.length b, List.length b ≤ (1000000000 : Nat), wfB b, rightF d A B C N = false, (0 : Int) ≤ d ∧ d < (256 : Int), (0 : Int) ≤ if (200 : Int) < (↑(List.length l) : Int) then (200 : Int) else (↑(List.length l) : Int), (if (200 : Int) < (↑(List.length l) : Int) then (200 : Int) else (↑(List.length l) : Int)) ≤ (↑(List.length l) : Int), decide ((20000 : Int) < (↑(List.length b) : Int)) = false]) := by kernel_rfl
theorem bk0111 : (fun (G : GR) (O : GO) (F : GL) (d A B C N : Int) (l : List (List Int)) (b : List Int) => bk G O F d A B C N l b [false, false, true, true, true, true, false, true, false, false, false, true, true, true, true]) = fun (G : GR) (O : GO) (F : GL) (d : Int) (A : Int) (B : Int) (C : Int) (N : Int) (l : List (List Int)) (b : List Int) => some ([(List.map (fun (n : Int) ↦ UInt8.ofNat (Int.toNat n)) (Prod.fst (O (List.take (List.length (Prod.fst (F b (List.length b)))) (Prod.fst (F b (List.length b)))))) == List.map (fun (n : Int) ↦ UInt8.ofNat (Int.toNat n)) b) = true, (0 : Nat) = (0 : Nat), List.length b = List.length b, (0 : Nat) = (0 : Nat), List.length (Prod.fst (O (List.take (List.length (Prod.fst (F b (List.length b)))) (Prod.fst (F b (List.length b)))))) = List.length (Prod.fst (O (List.take (List.length (Prod.fst (F b (List.length b)))) (Prod.fst (F b (List.length b)))))), decide (Prod.snd (O (List.take (List.length (Prod.fst (F b (List.length b)))) (Prod.fst (F b (List.length b))))) = (0 : Int)) = true, List.length (Prod.fst (F b (List.length b))) ≤ List.length (Prod.fst (F b (List.length b))), wfO (Prod.fst (F b (List.length b))), (!decide (Prod.snd (F b (List.length b)) = (0 : Int))) = false, List.length b ≤ List.length b, List.length b ≤ (1000000000 : Nat), wfB b, (!decide (List.take (Int.toNat (if (200 : Int) < (↑(List.length l) : Int) then (200 : Int) else (↑(List.length l) : Int))) l = List.take (List.length (Prod.fst (F (Prod.fst (O (List.take (Int.toNat (if (200 : Int) < (↑(List.length l) : Int) then (200 : Int) else (↑(List.length l) : Int))) l))) (List.length (Prod.fst (O (List.take (Int.toNat (if (200 : Int) < (↑(List.length l) : Int) then (200 : Int) else (↑(List.length l) : Int))) l))))))) (Prod.fst (F (Prod.fst (O (List.take (Int.toNat (if (200 : Int) < (↑(List.length l) : Int) then (200 : Int) else (↑(List.length l) : Int))) l))) (List.length (Prod.fst (O (List.take (Int.toNat (if (200 : Int) < (↑(List.length l) : Int) then (200 : Int) else (↑(List.length l) : Int))) l)))))))) = false, Int.toNat (if (200 : Int) < (↑(List.length l) : Int) then (200 : Int) else (↑(List.length l) : Int)) ≤ List.length l, List.length (Prod.fst (F (Prod.fst (O (List.take (Int.toNat (if (200 : Int) < (↑(List.length l) : Int) then (200 : Int) else (↑(List.length l) : Int))) l))) (List.length (Prod.fst (O (List.take (Int.toNat (if (200 : Int) < (↑(List.length l) : Int) then (200 : Int) else (↑(List.length l) : Int))) l)))))) ≤ List.length (Prod.fst (F (Prod.fst (O (List.take (Int.toNat (if (200 : Int) < (↑(List.length l) : Int) then (200 : Int) else (↑(List.length l) : Int))) l))) (List.length (Prod.fst (O (List.take (Int.toNat (if (200 : Int) < (↑(List.length l) : Int) then (200 : Int) else (↑(List.length l) : Int))) l)))))), Int.toNat (if (200 : Int) < (↑(List.length l) : Int) then (200 : Int) else (↑(List.length l) : Int)) ≤ (1000000000 : Nat), rows7 l, rows7 (Prod.fst (F (Prod.fst (O (List.take (Int.toNat (if (200 : Int) < (↑(List.length l) : Int) then (200 : Int) else (↑(List.length l) : Int))) l))) (List.length (Prod.fst (O (List.take (Int.toNat (if (200 : Int) < (↑(List.length l) : Int) then (200 : Int) else (↑(List.length l) : Int))) l)))))), (!decide (Prod.snd (F (Prod.fst (O (List.take (Int.toNat (if (200 : Int) < (↑(List.length l) : Int) then (200 : Int) else (↑(List.length l) : Int))) l))) (List.length (Prod.fst (O (List.take (Int.toNat (if (200 : Int) < (↑(List.length l) : Int) then (200 : Int) else (↑(List.length l) : Int))) l))))) = (0 : Int))) = false, List.length (Prod.fst (O (List.take (Int.toNat (if (200 : Int) < (↑(List.length l) : Int) then (200 : Int) else (↑(List.length l) : Int))) l))) ≤ List.length (Prod.fst (O (List.take (Int.toNat (if (200 : Int) < (↑(List.length l) : Int) then (200 : Int) else (↑(List.length l) : Int))) l))), List.length (Prod.fst (O (List.take (Int.toNat (if (200 : Int) < (↑(List.length l) : Int) then (200 : Int) else (↑(List.length l) : Int))) l))) ≤ (1000000000 : Nat), wfB (Prod.fst (O (List.take (Int.toNat (if (200 : Int) < (↑(List.length l) : Int) then (200 : Int) else (↑(List.length l) : Int))) l))), decide (Prod.snd (O (List.take (Int.toNat (if (200 : Int) < (↑(List.length l) : Int) then (200 : Int) else (↑(List.length l) : Int))) l)) = (0 : Int)) = true, Int.toNat (if (200 : Int) < (↑(List.length l) : Int) then (200 : Int) else (↑(List.length l) : Int)) ≤ List.length l, wfO l, (!List.map (fun (n : Int) ↦ UInt8.ofNat (Int.toNat n)) (cmdB (Cmd5.d (Prod.fst (G b (List.length b)))) (Cmd5.A (Prod.fst (G b (List.length b)))) (Cmd5.B (Prod.fst (G b (List.length b)))) (Cmd5.C (Prod.fst (G b (List.length b)))) (Cmd5.N (Prod.fst (G b (List.length b))))) == List.map (fun (n : Int) ↦ UInt8.ofNat (Int.toNat n)) b) = false, (0 : Nat) = (0 : Nat), List.length b = List.length b, (0 : Nat) = (0 : Nat), List.length (cmdB (Cmd5.d (Prod.fst (G b (List.length b)))) (Cmd5.A (Prod.fst (G b (List.length b)))) (Cmd5.B (Prod.fst (G b (List.length b)))) (Cmd5.C (Prod.fst (G b (List.length b)))) (Cmd5.N (Prod.fst (G b (List.length b))))) = List.length (cmdB (Cmd5.d (Prod.fst (G b (List.length b)))) (Cmd5.A (Prod.fst (G b (List.length b)))) (Cmd5.B (Prod.fst (G b (List.length b)))) (Cmd5.C (Prod.fst (G b (List.length b)))) (Cmd5.N (Prod.fst (G b (List.length b))))), rightF (Cmd5.d (Prod.fst (G b (List.length b)))) (Cmd5.A (Prod.fst (G b (List.length b)))) (Cmd5.B (Prod.fst (G b (List.length b)))) (Cmd5.C (Prod.fst (G b (List.length b)))) (Cmd5.N (Prod.fst (G b (List.length b)))) = true, (0 : Int) ≤ Cmd5.d (Prod.fst (G b (List.length b))) ∧ Cmd5.d (Prod.fst (G b (List.length b))) < (256 : Int), decide (Prod.snd (G b (List.length b)) = (0 : Int)) = true, List.length b ≤ List.length b, List.length b ≤ (1000000000 : Nat), wfB b, rightF d A B C N = false, (0 : Int) ≤ d ∧ d < (256 : Int), (0 : Int) ≤ if (200 : Int) < (↑(List.length l) : Int) then (200 : Int) else (↑(List.length l) : Int), (if (200 : Int) < (↑(List.length l) : Int) then (200 : Int) else (↑(List.length l) : Int)) ≤ (↑(List.length l) : Int), decide ((20000 : Int) < (↑(List.length b) : Int)) = false]) := by kernel_rfl
theorem bk1000 : (fun (G : GR) (O : GO) (F : GL) (d A B C N : Int) (l : List (List Int)) (b : List Int) => bk G O F d A B C N l b [false, true, false, false, false, false, true, true]) = fun (G : GR) (O : GO) (F : GL) (d : Int) (A : Int) (B : Int) (C : Int) (N : Int) (l : List (List Int)) (b : List Int) => some ([decide ((↑(List.length (Prod.fst (F b (List.length b)))) : Int) = (0 : Int)) = true, (!decide (Prod.snd (F b (List.length b)) = (0 : Int))) = true, List.length b ≤ List.length b, List.length b ≤ (1000000000 : Nat), wfB b, decide (Prod.snd (O (List.take (Int.toNat (if (200 : Int) < (↑(List.length l) : Int) then (200 : Int) else (↑(List.length l) : Int))) l)) = (0 : Int)) = false, Int.toNat (if (200 : Int) < (↑(List.length l) : Int) then (200 : Int) else (↑(List.length l) : Int)) ≤ List.length l, wfO l, decide (Prod.snd (G b (List.length b)) = (0 : Int)) = false, List.length b ≤ List.length b, List.length b ≤ (1000000000 : Nat), wfB b, (!(decide (Cmd5.d (Prod.fst (G (cmdB d A B C N) (List.length (cmdB d A B C N)))) = d) && (decide (Cmd5.A (Prod.fst (G (cmdB d A B C N) (List.length (cmdB d A B C N)))) = A) && (decide (Cmd5.B (Prod.fst (G (cmdB d A B C N) (List.length (cmdB d A B C N)))) = B) && (decide (Cmd5.C (Prod.fst (G (cmdB d A B C N) (List.length (cmdB d A B C N)))) = C) && (decide (Cmd5.N (Prod.fst (G (cmdB d A B C N) (List.length (cmdB d A B C N)))) = N) && true)))))) = false, (!decide (Prod.snd (G (cmdB d A B C N) (List.length (cmdB d A B C N))) = (0 : Int))) = false, List.length (cmdB d A B C N) ≤ List.length (cmdB d A B C N), List.length (cmdB d A B C N) ≤ (1000000000 : Nat), wfB (cmdB d A B C N), rightF d A B C N = true, (0 : Int) ≤ d ∧ d < (256 : Int), (0 : Int) ≤ if (200 : Int) < (↑(List.length l) : Int) then (200 : Int) else (↑(List.length l) : Int), (if (200 : Int) < (↑(List.length l) : Int) then (200 : Int) else (↑(List.length l) : Int)) ≤ (↑(List.length l) : Int), decide ((20000 : Int) < (↑(List.length b) : Int)) = false]) := by kernel_rfl
theorem bk1001 : (fun (G : GR) (O : GO) (F : GL) (d A B C N : Int) (l : List (List Int)) (b : List Int) => bk G O F d A B C N l b [false, true, false, false, false, false, false, true, true, true, true]) = fun (G : GR) (O : GO) (F : GL) (d : Int) (A : Int) (B : Int) (C : Int) (N : Int) (l : List (List Int)) (b : List Int) => some ([(List.map (fun (n : Int) ↦ UInt8.ofNat (Int.toNat n)) (Prod.fst (O (List.take (List.length (Prod.fst (F b (List.length b)))) (Prod.fst (F b (List.length b)))))) == List.map (fun (n : Int) ↦ UInt8.ofNat (Int.toNat n)) b) = true, (0 : Nat) = (0 : Nat), List.length b = List.length b, (0 : Nat) = (0 : Nat), List.length (Prod.fst (O (List.take (List.length (Prod.fst (F b (List.length b)))) (Prod.fst (F b (List.length b)))))) = List.length (Prod.fst (O (List.take (List.length (Prod.fst (F b (List.length b)))) (Prod.fst (F b (List.length b)))))), decide (Prod.snd (O (List.take (List.length (Prod.fst (F b (List.length b)))) (Prod.fst (F b (List.length b))))) = (0 : Int)) = true, List.length (Prod.fst (F b (List.length b))) ≤ List.length (Prod.fst (F b (List.length b))), wfO (Prod.fst (F b (List.length b))), (!decide (Prod.snd (F b (List.length b)) = (0 : Int))) = false, List.length b ≤ List.length b, List.length b ≤ (1000000000 : Nat), wfB b, decide (Prod.snd (O (List.take (Int.toNat (if (200 : Int) < (↑(List.length l) : Int) then (200 : Int) else (↑(List.length l) : Int))) l)) = (0 : Int)) = false, Int.toNat (if (200 : Int) < (↑(List.length l) : Int) then (200 : Int) else (↑(List.length l) : Int)) ≤ List.length l, wfO l, decide (Prod.snd (G b (List.length b)) = (0 : Int)) = false, List.length b ≤ List.length b, List.length b ≤ (1000000000 : Nat), wfB b, (!(decide (Cmd5.d (Prod.fst (G (cmdB d A B C N) (List.length (cmdB d A B C N)))) = d) && (decide (Cmd5.A (Prod.fst (G (cmdB d A B C N) (List.length (cmdB d A B C N)))) = A) && (decide (Cmd5.B (Prod.fst (G (cmdB d A B C N) (List.length (cmdB d A B C N)))) = B) && (decide (Cmd5.C (Prod.fst (G (cmdB d A B C N) (List.length (cmdB d A B C N)))) = C) && (decide (Cmd5.N (Prod.fst (G (cmdB d A B C N) (List.length (cmdB d A B C N)))) = N) && true)))))) = false, (!decide (Prod.snd (G (cmdB d A B C N) (List.length (cmdB d A B C N))) = (0 : Int))) = false, List.length (cmdB d A B C N) ≤ List.length (cmdB d A B C N), List.length (cmdB d A B C N) ≤ (1000000000 : Nat), wfB (cmdB d A B C N), rightF d A B C N = true, (0 : Int) ≤ d ∧ d < (256 : Int), (0 : Int) ≤ if (200 : Int) < (↑(List.length l) : Int) then (200 : Int) else (↑(List.length l) : Int), (if (200 : Int) < (↑(List.length l) : Int) then (200 : Int) else (↑(List.length l) : Int)) ≤ (↑(List.length l) : Int), decide ((20000 : Int) < (↑(List.length b) : Int)) = false]) := by kernel_rfl
theorem bk1010 : (fun (G : GR) (O : GO) (F : GL) (d A B C N : Int) (l : List (List Int)) (b : List Int) => bk G O F d A B C N l b [false, true, false, false, false, true, false, false, true, true]) = fun (G : GR) (O : GO) (F : GL) (d : Int) (A : Int) (B : Int) (C : Int) (N : Int) (l : List (List Int)) (b : List Int) => some ([decide ((↑(List.length (Prod.fst (F b (List.length b)))) : Int) = (0 : Int)) = true, (!decide (Prod.snd (F b (List.length b)) = (0 : Int))) = true, List.length b ≤ List.length b, List.length b ≤ (1000000000 : Nat), wfB b, (!decide (List.take (Int.toNat (if (200 : Int) < (↑(List.length l) : Int) then (200 : Int) else (↑(List.length l) : Int))) l = List.take (List.length (Prod.fst (F (Prod.fst (O (List.take (Int.toNat (if (200 : Int) < (↑(List.length l) : Int) then (200 : Int) else (↑(List.length l) : Int))) l))) (List.length (Prod.fst (O (List.take (Int.toNat (if (200 : Int) < (↑(List.length l) : Int) then (200 : Int) else (↑(List.length l) : Int))) l))))))) (Prod.fst (F (Prod.fst (O (List.take (Int.toNat (if (200 : Int) < (↑(List.length l) : Int) then (200 : Int) else (↑(List.length l) : Int))) l))) (List.length (Prod.fst (O (List.take (Int.toNat (if (200 : Int) < (↑(List.length l) : Int) then (200 : Int) else (↑(List.length l) : Int))) l)))))))) = false, Int.toNat (if (200 : Int) < (↑(List.length l) : Int) then (200 : Int) else (↑(List.length l) : Int)) ≤ List.length l, List.length (Prod.fst (F (Prod.fst (O (List.take (Int.toNat (if (200 : Int) < (↑(List.length l) : Int) then (200 : Int) else (↑(List.length l) : Int))) l))) (List.length (Prod.fst (O (List.take (Int.toNat (if (200 : Int) < (↑(List.length l) : Int) then (200 : Int) else (↑(List.length l) : Int))) l)))))) ≤ List.length (Prod.fst (F (Prod.fst (O (List.take (Int.toNat (if (200 : Int) < (↑(List.length l) : Int) then (200 : Int) else (↑(List.length l) : Int))) l))) (List.length (Prod.fst (O (List.take (Int.toNat (if (200 : Int) < (↑(List.length l) : Int) then (200 : Int) else (↑(List.length l) : Int))) l)))))), Int.toNat (if (200 : Int) < (↑(List.length l) : Int) then (200 : Int) else (↑(List.length l) : Int)) ≤ (1000000000 : Nat), rows7 l, rows7 (Prod.fst (F (Prod.fst (O (List.take (Int.toNat (if (200 : Int) < (↑(List.length l) : Int) then (200 : Int) else (↑(List.length l) : Int))) l))) (List.length (Prod.fst (O (List.take (Int.toNat (if (200 : Int) < (↑(List.length l) : Int) then (200 : Int) else (↑(List.length l) : Int))) l)))))), (!decide (Prod.snd (F (Prod.fst (O (List.take (Int.toNat (if (200 : Int) < (↑(List.length l) : Int) then (200 : Int) else (↑(List.length l) : Int))) l))) (List.length (Prod.fst (O (List.take (Int.toNat (if (200 : Int) < (↑(List.length l) : Int) then (200 : Int) else (↑(List.length l) : Int))) l))))) = (0 : Int))) = false, List.length (Prod.fst (O (List.take (Int.toNat (if (200 : Int) < (↑(List.length l) : Int) then (200 : Int) else (↑(List.length l) : Int))) l))) ≤ List.length (Prod.fst (O (List.take (Int.toNat (if (200 : Int) < (↑(List.length l) : Int) then (200 : Int) else (↑(List.length l) : Int))) l))), List.length (Prod.fst (O (List.take (Int.toNat (if (200 : Int) < (↑(List.length l) : Int) then (200 : Int) else (↑(List.length l) : Int))) l))) ≤ (1000000000 : Nat), wfB (Prod.fst (O (List.take (Int.toNat (if (200 : Int) < (↑(List.length l) : Int) then (200 : Int) else (↑(List.length l) : Int))) l))), decide (Prod.snd (O (List.take (Int.toNat (if (200 : Int) < (↑(List.length l) : Int) then (200 : Int) else (↑(List.length l) : Int))) l)) = (0 : Int)) = true, Int.toNat (if (200 : Int) < (↑(List.length l) : Int) then (200 : Int) else (↑(List.length l) : Int)) ≤ List.length l, wfO l, decide (Prod.snd (G b (List.length b)) = (0 : Int)) = false, List.length b ≤ List.length b, List.length b ≤ (1000000000 : Nat), wfB b, (!(decide (Cmd5.d (Prod.fst (G (cmdB d A B C N) (List.length (cmdB d A B C N)))) = d) && (decide (Cmd5.A (Prod.fst (G (cmdB d A B C N) (List.length (cmdB d A B C N)))) = A) && (decide (Cmd5.B (Prod.fst (G (cmdB d A B C N) (List.length (cmdB d A B C N)))) = B) && (decide (Cmd5.C (Prod.fst (G (cmdB d A B C N) (List.length (cmdB d A B C N)))) = C) && (decide (Cmd5.N (Prod.fst (G (cmdB d A B C N) (List.length (cmdB d A B C N)))) = N) && true)))))) = false, (!decide (Prod.snd (G (cmdB d A B C N) (List.length (cmdB d A B C N))) = (0 : Int))) = false, List.length (cmdB d A B C N) ≤ List.length (cmdB d A B C N), List.length (cmdB d A B C N) ≤ (1000000000 : Nat), wfB (cmdB d A B C N), rightF d A B C N = true, (0 : Int) ≤ d ∧ d < (256 : Int), (0 : Int) ≤ if (200 : Int) < (↑(List.length l) : Int) then (200 : Int) else (↑(List.length l) : Int), (if (200 : Int) < (↑(List.length l) : Int) then (200 : Int) else (↑(List.length l) : Int)) ≤ (↑(List.length l) : Int), decide ((20000 : Int) < (↑(List.length b) : Int)) = false]) := by kernel_rfl
theorem bk1011 : (fun (G : GR) (O : GO) (F : GL) (d A B C N : Int) (l : List (List Int)) (b : List Int) => bk G O F d A B C N l b [false, true, false, false, false, true, false, false, false, true, true, true, true]) = fun (G : GR) (O : GO) (F : GL) (d : Int) (A : Int) (B : Int) (C : Int) (N : Int) (l : List (List Int)) (b : List Int) => some ([(List.map (fun (n : Int) ↦ UInt8.ofNat (Int.toNat n)) (Prod.fst (O (List.take (List.length (Prod.fst (F b (List.length b)))) (Prod.fst (F b (List.length b)))))) == List.map (fun (n : Int) ↦ UInt8.ofNat (Int.toNat n)) b) = true, (0 : Nat) = (0 : Nat), List.length b = List.length b, (0 : Nat) = (0 : Nat), List.length (Prod.fst (O (List.take (List.length (Prod.fst (F b (List.length b)))) (Prod.fst (F b (List.length b)))))) = List.length (Prod.fst (O (List.take (List.length (Prod.fst (F b (List.length b)))) (Prod.fst (F b (List.length b)))))), decide (Prod.snd (O (List.take (List.length (Prod.fst (F b (List.length b)))) (Prod.fst (F b (List.length b))))) = (0 : Int)) = true, List.length (Prod.fst (F b (List.length b))) ≤ List.length (Prod.fst (F b (List.length b))), wfO (Prod.fst (F b (List.length b))), (!decide (Prod.snd (F b (List.length b)) = (0 : Int))) = false, List.length b ≤ List.length b, List.length b ≤ (1000000000 : Nat), wfB b, (!decide (List.take (Int.toNat (if (200 : Int) < (↑(List.length l) : Int) then (200 : Int) else (↑(List.length l) : Int))) l = List.take (List.length (Prod.fst (F (Prod.fst (O (List.take (Int.toNat (if (200 : Int) < (↑(List.length l) : Int) then (200 : Int) else (↑(List.length l) : Int))) l))) (List.length (Prod.fst (O (List.take (Int.toNat (if (200 : Int) < (↑(List.length l) : Int) then (200 : Int) else (↑(List.length l) : Int))) l))))))) (Prod.fst (F (Prod.fst (O (List.take (Int.toNat (if (200 : Int) < (↑(List.length l) : Int) then (200 : Int) else (↑(List.length l) : Int))) l))) (List.length (Prod.fst (O (List.take (Int.toNat (if (200 : Int) < (↑(List.length l) : Int) then (200 : Int) else (↑(List.length l) : Int))) l)))))))) = false, Int.toNat (if (200 : Int) < (↑(List.length l) : Int) then (200 : Int) else (↑(List.length l) : Int)) ≤ List.length l, List.length (Prod.fst (F (Prod.fst (O (List.take (Int.toNat (if (200 : Int) < (↑(List.length l) : Int) then (200 : Int) else (↑(List.length l) : Int))) l))) (List.length (Prod.fst (O (List.take (Int.toNat (if (200 : Int) < (↑(List.length l) : Int) then (200 : Int) else (↑(List.length l) : Int))) l)))))) ≤ List.length (Prod.fst (F (Prod.fst (O (List.take (Int.toNat (if (200 : Int) < (↑(List.length l) : Int) then (200 : Int) else (↑(List.length l) : Int))) l))) (List.length (Prod.fst (O (List.take (Int.toNat (if (200 : Int) < (↑(List.length l) : Int) then (200 : Int) else (↑(List.length l) : Int))) l)))))), Int.toNat (if (200 : Int) < (↑(List.length l) : Int) then (200 : Int) else (↑(List.length l) : Int)) ≤ (1000000000 : Nat), rows7 l, rows7 (Prod.fst (F (Prod.fst (O (List.take (Int.toNat (if (200 : Int) < (↑(List.length l) : Int) then (200 : Int) else (↑(List.length l) : Int))) l))) (List.length (Prod.fst (O (List.take (Int.toNat (if (200 : Int) < (↑(List.length l) : Int) then (200 : Int) else (↑(List.length l) : Int))) l)))))), (!decide (Prod.snd (F (Prod.fst (O (List.take (Int.toNat (if (200 : Int) < (↑(List.length l) : Int) then (200 : Int) else (↑(List.length l) : Int))) l))) (List.length (Prod.fst (O (List.take (Int.toNat (if (200 : Int) < (↑(List.length l) : Int) then (200 : Int) else (↑(List.length l) : Int))) l))))) = (0 : Int))) = false, List.length (Prod.fst (O (List.take (Int.toNat (if (200 : Int) < (↑(List.length l) : Int) then (200 : Int) else (↑(List.length l) : Int))) l))) ≤ List.length (Prod.fst (O (List.take (Int.toNat (if (200 : Int) < (↑(List.length l) : Int) then (200 : Int) else (↑(List.length l) : Int))) l))), List.length (Prod.fst (O (List.take (Int.toNat (if (200 : Int) < (↑(List.length l) : Int) then (200 : Int) else (↑(List.length l) : Int))) l))) ≤ (1000000000 : Nat), wfB (Prod.fst (O (List.take (Int.toNat (if (200 : Int) < (↑(List.length l) : Int) then (200 : Int) else (↑(List.length l) : Int))) l))), decide (Prod.snd (O (List.take (Int.toNat (if (200 : Int) < (↑(List.length l) : Int) then (200 : Int) else (↑(List.length l) : Int))) l)) = (0 : Int)) = true, Int.toNat (if (200 : Int) < (↑(List.length l) : Int) then (200 : Int) else (↑(List.length l) : Int)) ≤ List.length l, wfO l, decide (Prod.snd (G b (List.length b)) = (0 : Int)) = false, List.length b ≤ List.length b, List.length b ≤ (1000000000 : Nat), wfB b, (!(decide (Cmd5.d (Prod.fst (G (cmdB d A B C N) (List.length (cmdB d A B C N)))) = d) && (decide (Cmd5.A (Prod.fst (G (cmdB d A B C N) (List.length (cmdB d A B C N)))) = A) && (decide (Cmd5.B (Prod.fst (G (cmdB d A B C N) (List.length (cmdB d A B C N)))) = B) && (decide (Cmd5.C (Prod.fst (G (cmdB d A B C N) (List.length (cmdB d A B C N)))) = C) && (decide (Cmd5.N (Prod.fst (G (cmdB d A B C N) (List.length (cmdB d A B C N)))) = N) && true)))))) = false, (!decide (Prod.snd (G (cmdB d A B C N) (List.length (cmdB d A B C N))) = (0 : Int))) = false, List.length (cmdB d A B C N) ≤ List.length (cmdB d A B C N), List.length (cmdB d A B C N) ≤ (1000000000 : Nat), wfB (cmdB d A B C N), rightF d A B C N = true, (0 : Int) ≤ d ∧ d < (256 : Int), (0 : Int) ≤ if (200 : Int) < (↑(List.length l) : Int) then (200 : Int) else (↑(List.length l) : Int), (if (200 : Int) < (↑(List.length l) : Int) then (200 : Int) else (↑(List.length l) : Int)) ≤ (↑(List.length l) : Int), decide ((20000 : Int) < (↑(List.length b) : Int)) = false]) := by kernel_rfl
theorem bk1100 : (fun (G : GR) (O : GO) (F : GL) (d A B C N : Int) (l : List (List Int)) (b : List Int) => bk G O F d A B C N l b [false, true, false, false, true, true, true, true, false, false, true, true]) = fun (G : GR) (O : GO) (F : GL) (d : Int) (A : Int) (B : Int) (C : Int) (N : Int) (l : List (List Int)) (b : List Int) => some ([decide ((↑(List.length (Prod.fst (F b (List.length b)))) : Int) = (0 : Int)) = true, (!decide (Prod.snd (F b (List.length b)) = (0 : Int))) = true, List.length b ≤ List.length b, List.length b ≤ (1000000000 : Nat), wfB b, decide (Prod.snd (O (List.take (Int.toNat (if (200 : Int) < (↑(List.length l) : Int) then (200 : Int) else (↑(List.length l) : Int))) l)) = (0 : Int)) = false, Int.toNat (if (200 : Int) < (↑(List.length l) : Int) then (200 : Int) else (↑(List.length l) : Int)) ≤ List.length l, wfO l, (!List.map (fun (n : Int) ↦ UInt8.ofNat (Int.toNat n)) (cmdB (Cmd5.d (Prod.fst (G b (List.length b)))) (Cmd5.A (Prod.fst (G b (List.length b)))) (Cmd5.B (Prod.fst (G b (List.length b)))) (Cmd5.C (Prod.fst (G b (List.length b)))) (Cmd5.N (Prod.fst (G b (List.length b))))) == List.map (fun (n : Int) ↦ UInt8.ofNat (Int.toNat n)) b) = false, (0 : Nat) = (0 : Nat), List.length b = List.length b, (0 : Nat) = (0 : Nat), List.length (cmdB (Cmd5.d (Prod.fst (G b (List.length b)))) (Cmd5.A (Prod.fst (G b (List.length b)))) (Cmd5.B (Prod.fst (G b (List.length b)))) (Cmd5.C (Prod.fst (G b (List.length b)))) (Cmd5.N (Prod.fst (G b (List.length b))))) = List.length (cmdB (Cmd5.d (Prod.fst (G b (List.length b)))) (Cmd5.A (Prod.fst (G b (List.length b)))) (Cmd5.B (Prod.fst (G b (List.length b)))) (Cmd5.C (Prod.fst (G b (List.length b)))) (Cmd5.N (Prod.fst (G b (List.length b))))), rightF (Cmd5.d (Prod.fst (G b (List.length b)))) (Cmd5.A (Prod.fst (G b (List.length b)))) (Cmd5.B (Prod.fst (G b (List.length b)))) (Cmd5.C (Prod.fst (G b (List.length b)))) (Cmd5.N (Prod.fst (G b (List.length b)))) = true, (0 : Int) ≤ Cmd5.d (Prod.fst (G b (List.length b))) ∧ Cmd5.d (Prod.fst (G b (List.length b))) < (256 : Int), decide (Prod.snd (G b (List.length b)) = (0 : Int)) = true, List.length b ≤ List.length b, List.length b ≤ (1000000000 : Nat), wfB b, (!(decide (Cmd5.d (Prod.fst (G (cmdB d A B C N) (List.length (cmdB d A B C N)))) = d) && (decide (Cmd5.A (Prod.fst (G (cmdB d A B C N) (List.length (cmdB d A B C N)))) = A) && (decide (Cmd5.B (Prod.fst (G (cmdB d A B C N) (List.length (cmdB d A B C N)))) = B) && (decide (Cmd5.C (Prod.fst (G (cmdB d A B C N) (List.length (cmdB d A B C N)))) = C) && (decide (Cmd5.N (Prod.fst (G (cmdB d A B C N) (List.length (cmdB d A B C N)))) = N) && true)))))) = false, (!decide (Prod.snd (G (cmdB d A B C N) (List.length (cmdB d A B C N))) = (0 : Int))) = false, List.length (cmdB d A B C N) ≤ List.length (cmdB d A B C N), List.length (cmdB d A B C N) ≤ (1000000000 : Nat), wfB (cmdB d A B C N), rightF d A B C N = true, (0 : Int) ≤ d ∧ d < (256 : Int), (0 : Int) ≤ if (200 : Int) < (↑(List.length l) : Int) then (200 : Int) else (↑(List.length l) : Int), (if (200 : Int) < (↑(List.length l) : Int) then (200 : Int) else (↑(List.length l) : Int)) ≤ (↑(List.length l) : Int), decide ((20000 : Int) < (↑(List.length b) : Int)) = false]) := by kernel_rfl
theorem bk1101 : (fun (G : GR) (O : GO) (F : GL) (d A B C N : Int) (l : List (List Int)) (b : List Int) => bk G O F d A B C N l b [false, true, false, false, true, true, true, true, false, false, false, true, true, true, true]) = fun (G : GR) (O : GO) (F : GL) (d : Int) (A : Int) (B : Int) (C : Int) (N : Int) (l : List (List Int)) (b : List Int) => some ([(List.map (fun (n : Int) ↦ UInt8.ofNat (Int.toNat n)) (Prod.fst (O (List.take (List.length (Prod.fst (F b (List.length b)))) (Prod.fst (F b (List.length b)))))) == List.map (fun (n : Int) ↦ UInt8.ofNat (Int.toNat n)) b) = true, (0 : Nat) = (0 : Nat), List.length b = List.length b, (0 : Nat) = (0 : Nat), List.length (Prod.fst (O (List.take (List.length (Prod.fst (F b (List.length b)))) (Prod.fst (F b (List.length b)))))) = List.length (Prod.fst (O (List.take (List.length (Prod.fst (F b (List.length b)))) (Prod.fst (F b (List.length b)))))), decide (Prod.snd (O (List.take (List.length (Prod.fst (F b (List.length b)))) (Prod.fst (F b (List.length b))))) = (0 : Int)) = true, List.length (Prod.fst (F b (List.length b))) ≤ List.length (Prod.fst (F b (List.length b))), wfO (Prod.fst (F b (List.length b))), (!decide (Prod.snd (F b (List.length b)) = (0 : Int))) = false, List.length b ≤ List.length b, List.length b ≤ (1000000000 : Nat), wfB b, decide (Prod.snd (O (List.take (Int.toNat (if (200 : Int) < (↑(List.length l) : Int) then (200 : Int) else (↑(List.length l) : Int))) l)) = (0 : Int)) = false, Int.toNat (if (200 : Int) < (↑(List.length l) : Int) then (200 : Int) else (↑(List.length l) : Int)) ≤ List.length l, wfO l, (!List.map (fun (n : Int) ↦ UInt8.ofNat (Int.toNat n)) (cmdB (Cmd5.d (Prod.fst (G b (List.length b)))) (Cmd5.A (Prod.fst (G b (List.length b)))) (Cmd5.B (Prod.fst (G b (List.length b)))) (Cmd5.C (Prod.fst (G b (List.length b)))) (Cmd5.N (Prod.fst (G b (List.length b))))) == List.map (fun (n : Int) ↦ UInt8.ofNat (Int.toNat n)) b) = false, (0 : Nat) = (0 : Nat), List.length b = List.length b, (0 : Nat) = (0 : Nat), List.length (cmdB (Cmd5.d (Prod.fst (G b (List.length b)))) (Cmd5.A (Prod.fst (G b (List.length b)))) (Cmd5.B (Prod.fst (G b (List.length b)))) (Cmd5.C (Prod.fst (G b (List.length b)))) (Cmd5.N (Prod.fst (G b (List.length b))))) = List.length (cmdB (Cmd5.d (Prod.fst (G b (List.length b)))) (Cmd5.A (Prod.fst (G b (List.length b)))) (Cmd5.B (Prod.fst (G b (List.length b)))) (Cmd5.C (Prod.fst (G b (List.length b)))) (Cmd5.N (Prod.fst (G b (List.length b))))), rightF (Cmd5.d (Prod.fst (G b (List.length b)))) (Cmd5.A (Prod.fst (G b (List.length b)))) (Cmd5.B (Prod.fst (G b (List.length b)))) (Cmd5.C (Prod.fst (G b (List.length b)))) (Cmd5.N (Prod.fst (G b (List.length b)))) = true, (0 : Int) ≤ Cmd5.d (Prod.fst (G b (List.length b))) ∧ Cmd5.d (Prod.fst (G b (List.length b))) < (256 : Int), decide (Prod.snd (G b (List.length b)) = (0 : Int)) = true, List.length b ≤ List.length b, List.length b ≤ (1000000000 : Nat), wfB b, (!(decide (Cmd5.d (Prod.fst (G (cmdB d A B C N) (List.length (cmdB d A B C N)))) = d) && (decide (Cmd5.A (Prod.fst (G (cmdB d A B C N) (List.length (cmdB d A B C N)))) = A) && (decide (Cmd5.B (Prod.fst (G (cmdB d A B C N) (List.length (cmdB d A B C N)))) = B) && (decide (Cmd5.C (Prod.fst (G (cmdB d A B C N) (List.length (cmdB d A B C N)))) = C) && (decide (Cmd5.N (Prod.fst (G (cmdB d A B C N) (List.length (cmdB d A B C N)))) = N) && true)))))) = false, (!decide (Prod.snd (G (cmdB d A B C N) (List.length (cmdB d A B C N))) = (0 : Int))) = false, List.length (cmdB d A B C N) ≤ List.length (cmdB d A B C N), List.length (cmdB d A B C N) ≤ (1000000000 : Nat), wfB (cmdB d A B C N), rightF d A B C N = true, (0 : Int) ≤ d ∧ d < (256 : Int), (0 : Int) ≤ if (200 : Int) < (↑(List.length l) : Int) then (200 : Int) else (↑(List.length l) : Int), (if (200 : Int) < (↑(List.length l) : Int) then (200 : Int) else (↑(List.length l) : Int)) ≤ (↑(List.length l) : Int), decide ((20000 : Int) < (↑(List.length b) : Int)) = false]) := by kernel_rfl
theorem bk1110 : (fun (G : GR) (O : GO) (F : GL) (d A B C N : Int) (l : List (List Int)) (b : List Int) => bk G O F d A B C N l b [false, true, false, false, true, true, true, true, false, true, false, false, true, true]) = fun (G : GR) (O : GO) (F : GL) (d : Int) (A : Int) (B : Int) (C : Int) (N : Int) (l : List (List Int)) (b : List Int) => some ([decide ((↑(List.length (Prod.fst (F b (List.length b)))) : Int) = (0 : Int)) = true, (!decide (Prod.snd (F b (List.length b)) = (0 : Int))) = true, List.length b ≤ List.length b, List.length b ≤ (1000000000 : Nat), wfB b, (!decide (List.take (Int.toNat (if (200 : Int) < (↑(List.length l) : Int) then (200 : Int) else (↑(List.length l) : Int))) l = List.take (List.length (Prod.fst (F (Prod.fst (O (List.take (Int.toNat (if (200 : Int) < (↑(List.length l) : Int) then (200 : Int) else (↑(List.length l) : Int))) l))) (List.length (Prod.fst (O (List.take (Int.toNat (if (200 : Int) < (↑(List.length l) : Int) then (200 : Int) else (↑(List.length l) : Int))) l))))))) (Prod.fst (F (Prod.fst (O (List.take (Int.toNat (if (200 : Int) < (↑(List.length l) : Int) then (200 : Int) else (↑(List.length l) : Int))) l))) (List.length (Prod.fst (O (List.take (Int.toNat (if (200 : Int) < (↑(List.length l) : Int) then (200 : Int) else (↑(List.length l) : Int))) l)))))))) = false, Int.toNat (if (200 : Int) < (↑(List.length l) : Int) then (200 : Int) else (↑(List.length l) : Int)) ≤ List.length l, List.length (Prod.fst (F (Prod.fst (O (List.take (Int.toNat (if (200 : Int) < (↑(List.length l) : Int) then (200 : Int) else (↑(List.length l) : Int))) l))) (List.length (Prod.fst (O (List.take (Int.toNat (if (200 : Int) < (↑(List.length l) : Int) then (200 : Int) else (↑(List.length l) : Int))) l)))))) ≤ List.length (Prod.fst (F (Prod.fst (O (List.take (Int.toNat (if (200 : Int) < (↑(List.length l) : Int) then (200 : Int) else (↑(List.length l) : Int))) l))) (List.length (Prod.fst (O (List.take (Int.toNat (if (200 : Int) < (↑(List.length l) : Int) then (200 : Int) else (↑(List.length l) : Int))) l)))))), Int.toNat (if (200 : Int) < (↑(List.length l) : Int) then (200 : Int) else (↑(List.length l) : Int)) ≤ (1000000000 : Nat), rows7 l, rows7 (Prod.fst (F (Prod.fst (O (List.take (Int.toNat (if (200 : Int) < (↑(List.length l) : Int) then (200 : Int) else (↑(List.length l) : Int))) l))) (List.length (Prod.fst (O (List.take (Int.toNat (if (200 : Int) < (↑(List.length l) : Int) then (200 : Int) else (↑(List.length l) : Int))) l)))))), (!decide (Prod.snd (F (Prod.fst (O (List.take (Int.toNat (if (200 : Int) < (↑(List.length l) : Int) then (200 : Int) else (↑(List.length l) : Int))) l))) (List.length (Prod.fst (O (List.take (Int.toNat (if (200 : Int) < (↑(List.length l) : Int) then (200 : Int) else (↑(List.length l) : Int))) l))))) = (0 : Int))) = false, List.length (Prod.fst (O (List.take (Int.toNat (if (200 : Int) < (↑(List.length l) : Int) then (200 : Int) else (↑(List.length l) : Int))) l))) ≤ List.length (Prod.fst (O (List.take (Int.toNat (if (200 : Int) < (↑(List.length l) : Int) then (200 : Int) else (↑(List.length l) : Int))) l))), List.length (Prod.fst (O (List.take (Int.toNat (if (200 : Int) < (↑(List.length l) : Int) then (200 : Int) else (↑(List.length l) : Int))) l))) ≤ (1000000000 : Nat), wfB (Prod.fst (O (List.take (Int.toNat (if (200 : Int) < (↑(List.length l) : Int) then (200 : Int) else (↑(List.length l) : Int))) l))), decide (Prod.snd (O (List.take (Int.toNat (if (200 : Int) < (↑(List.length l) : Int) then (200 : Int) else (↑(List.length l) : Int))) l)) = (0 : Int)) = true, Int.toNat (if (200 : Int) < (↑(List.length l) : Int) then (200 : Int) else (↑(List.length l) : Int)) ≤ List.length l, wfO l, (!List.map (fun (n : Int) ↦ UInt8.ofNat (Int.toNat n)) (cmdB (Cmd5.d (Prod.fst (G b (List.length b)))) (Cmd5.A (Prod.fst (G b (List.length b)))) (Cmd5.B (Prod.fst (G b (List.length b)))) (Cmd5.C (Prod.fst (G b (List.length b)))) (Cmd5.N (Prod.fst (G b (List.length b))))) == List.map (fun (n : Int) ↦ UInt8.ofNat (Int.toNat n)) b) = false, (0 : Nat) = (0 : Nat), List.length b = List.length b, (0 : Nat) = (0 : Nat), List.length (cmdB (Cmd5.d (Prod.fst (G b (List.length b)))) (Cmd5.A (Prod.fst (G b (List.length b)))) (Cmd5.B (Prod.fst (G b (List.length b)))) (Cmd5.C (Prod.fst (G b (List.length b)))) (Cmd5.N (Prod.fst (G b (List.length b))))) = List.length (cmdB (Cmd5.d (Prod.fst (G b (List.length b)))) (Cmd5.A (Prod.fst (G b (List.length b)))) (Cmd5.B (Prod.fst (G b (List.length b)))) (Cmd5.C (Prod.fst (G b (List.length b)))) (Cmd5.N (Prod.fst (G b (List.length b))))), rightF (Cmd5.d (Prod.fst (G b (List.length b)))) (Cmd5.A (Prod.fst (G b (List.length b)))) (Cmd5.B (Prod.fst (G b (List.length b)))) (Cmd5.C (Prod.fst (G b (List.length b)))) (Cmd5.N (Prod.fst (G b (List.length b)))) = true, (0 : Int) ≤ Cmd5.d (Prod.fst (G b (List.length b))) ∧ Cmd5.d (Prod.fst (G b (List.length b))) < (256 : Int), decide (Prod.snd (G b (List.length b)) = (0 : Int)) = true, List.length b ≤ List.length b, List.length b ≤ (1000000000 : Nat), wfB b, (!(decide (Cmd5.d (Prod.fst (G (cmdB d A B C N) (List.length (cmdB d A B C N)))) = d) && (decide (Cmd5.A (Prod.fst (G (cmdB d A B C N) (List.length (cmdB d A B C N)))) = A) && (decide (Cmd5.B (Prod.fst (G (cmdB d A B C N) (List.length (cmdB d A B C N)))) = B) && (decide (Cmd5.C (Prod.fst (G (cmdB d A B C N) (List.length (cmdB d A B C N)))) = C) && (decide (Cmd5.N (Prod.fst (G (cmdB d A B C N) (List.length (cmdB d A B C N)))) = N) && true)))))) = false, (!decide (Prod.snd (G (cmdB d A B C N) (List.length (cmdB d A B C N))) = (0 : Int))) = false, List.length (cmdB d A B C N) ≤ List.length (cmdB d A B C N), List.length (cmdB d A B C N) ≤ (1000000000 : Nat), wfB (cmdB d A B C N), rightF d A B C N = true, (0 : Int) ≤ d ∧ d < (256 : Int), (0 : Int) ≤ if (200 : Int) < (↑(List.length l) : Int) then (200 : Int) else (↑(List.length l) : Int), (if (200 : Int) < (↑(List.length l) : Int) then (200 : Int) else (↑(List.length l) : Int)) ≤ (↑(List.length l) : Int), decide ((20000 : Int) < (↑(List.length b) : Int)) = false]) := by kernel_rfl
theorem bk1111 : (fun (G : GR) (O : GO) (F : GL) (d A B C N : Int) (l : List (List Int)) (b : List Int) => bk G O F d A B C N l b [false, true, false, false, true, true, true, true, false, true, false, false, false, true, true, true, true]) = fun (G : GR) (O : GO) (F : GL) (d : Int) (A : Int) (B : Int) (C : Int) (N : Int) (l : List (List Int)) (b : List Int) => some ([(List.map (fun (n : Int) ↦ UInt8.ofNat (Int.toNat n)) (Prod.fst (O (List.take (List.length (Prod.fst (F b (List.length b)))) (Prod.fst (F b (List.length b)))))) == List.map (fun (n : Int) ↦ UInt8.ofNat (Int.toNat n)) b) = true, (0 : Nat) = (0 : Nat), List.length b = List.length b, (0 : Nat) = (0 : Nat), List.length (Prod.fst (O (List.take (List.length (Prod.fst (F b (List.length b)))) (Prod.fst (F b (List.length b)))))) = List.length (Prod.fst (O (List.take (List.length (Prod.fst (F b (List.length b)))) (Prod.fst (F b (List.length b)))))), decide (Prod.snd (O (List.take (List.length (Prod.fst (F b (List.length b)))) (Prod.fst (F b (List.length b))))) = (0 : Int)) = true, List.length (Prod.fst (F b (List.length b))) ≤ List.length (Prod.fst (F b (List.length b))), wfO (Prod.fst (F b (List.length b))), (!decide (Prod.snd (F b (List.length b)) = (0 : Int))) = false, List.length b ≤ List.length b, List.length b ≤ (1000000000 : Nat), wfB b, (!decide (List.take (Int.toNat (if (200 : Int) < (↑(List.length l) : Int) then (200 : Int) else (↑(List.length l) : Int))) l = List.take (List.length (Prod.fst (F (Prod.fst (O (List.take (Int.toNat (if (200 : Int) < (↑(List.length l) : Int) then (200 : Int) else (↑(List.length l) : Int))) l))) (List.length (Prod.fst (O (List.take (Int.toNat (if (200 : Int) < (↑(List.length l) : Int) then (200 : Int) else (↑(List.length l) : Int))) l))))))) (Prod.fst (F (Prod.fst (O (List.take (Int.toNat (if (200 : Int) < (↑(List.length l) : Int) then (200 : Int) else (↑(List.length l) : Int))) l))) (List.length (Prod.fst (O (List.take (Int.toNat (if (200 : Int) < (↑(List.length l) : Int) then (200 : Int) else (↑(List.length l) : Int))) l)))))))) = false, Int.toNat (if (200 : Int) < (↑(List.length l) : Int) then (200 : Int) else (↑(List.length l) : Int)) ≤ List.length l, List.length (Prod.fst (F (Prod.fst (O (List.take (Int.toNat (if (200 : Int) < (↑(List.length l) : Int) then (200 : Int) else (↑(List.length l) : Int))) l))) (List.length (Prod.fst (O (List.take (Int.toNat (if (200 : Int) < (↑(List.length l) : Int) then (200 : Int) else (↑(List.length l) : Int))) l)))))) ≤ List.length (Prod.fst (F (Prod.fst (O (List.take (Int.toNat (if (200 : Int) < (↑(List.length l) : Int) then (200 : Int) else (↑(List.length l) : Int))) l))) (List.length (Prod.fst (O (List.take (Int.toNat (if (200 : Int) < (↑(List.length l) : Int) then (200 : Int) else (↑(List.length l) : Int))) l)))))), Int.toNat (if (200 : Int) < (↑(List.length l) : Int) then (200 : Int) else (↑(List.length l) : Int)) ≤ (1000000000 : Nat), rows7 l, rows7 (Prod.fst (F (Prod.fst (O (List.take (Int.toNat (if (200 : Int) < (↑(List.length l) : Int) then (200 : Int) else (↑(List.length l) : Int))) l))) (List.length (Prod.fst (O (List.take (Int.toNat (if (200 : Int) < (↑(List.length l) : Int) then (200 : Int) else (↑(List.length l) : Int))) l)))))), (!decide (Prod.snd (F (Prod.fst (O (List.take (Int.toNat (if (200 : Int) < (↑(List.length l) : Int) then (200 : Int) else (↑(List.length l) : Int))) l))) (List.length (Prod.fst (O (List.take (Int.toNat (if (200 : Int) < (↑(List.length l) : Int) then (200 : Int) else (↑(List.length l) : Int))) l))))) = (0 : Int))) = false, List.length (Prod.fst (O (List.take (Int.toNat (if (200 : Int) < (↑(List.length l) : Int) then (200 : Int) else (↑(List.length l) : Int))) l))) ≤ List.length (Prod.fst (O (List.take (Int.toNat (if (200 : Int) < (↑(List.length l) : Int) then (200 : Int) else (↑(List.length l) : Int))) l))), List.length (Prod.fst (O (List.take (Int.toNat (if (200 : Int) < (↑(List.length l) : Int) then (200 : Int) else (↑(List.length l) : Int))) l))) ≤ (1000000000 : Nat), wfB (Prod.fst (O (List.take (Int.toNat (if (200 : Int) < (↑(List.length l) : Int) then (200 : Int) else (↑(List.length l) : Int))) l))), decide (Prod.snd (O (List.take (Int.toNat (if (200 : Int) < (↑(List.length l) : Int) then (200 : Int) else (↑(List.length l) : Int))) l)) = (0 : Int)) = true, Int.toNat (if (200 : Int) < (↑(List.length l) : Int) then (200 : Int) else (↑(List.length l) : Int)) ≤ List.length l, wfO l, (!List.map (fun (n : Int) ↦ UInt8.ofNat (Int.toNat n)) (cmdB (Cmd5.d (Prod.fst (G b (List.length b)))) (Cmd5.A (Prod.fst (G b (List.length b)))) (Cmd5.B (Prod.fst (G b (List.length b)))) (Cmd5.C (Prod.fst (G b (List.length b)))) (Cmd5.N (Prod.fst (G b (List.length b))))) == List.map (fun (n : Int) ↦ UInt8.ofNat (Int.toNat n)) b) = false, (0 : Nat) = (0 : Nat), List.length b = List.length b, (0 : Nat) = (0 : Nat), List.length (cmdB (Cmd5.d (Prod.fst (G b (List.length b)))) (Cmd5.A (Prod.fst (G b (List.length b)))) (Cmd5.B (Prod.fst (G b (List.length b)))) (Cmd5.C (Prod.fst (G b (List.length b)))) (Cmd5.N (Prod.fst (G b (List.length b))))) = List.length (cmdB (Cmd5.d (Prod.fst (G b (List.length b)))) (Cmd5.A (Prod.fst (G b (List.length b)))) (Cmd5.B (Prod.fst (G b (List.length b)))) (Cmd5.C (Prod.fst (G b (List.length b)))) (Cmd5.N (Prod.fst (G b (List.length b))))), rightF (Cmd5.d (Prod.fst (G b (List.length b)))) (Cmd5.A (Prod.fst (G b (List.length b)))) (Cmd5.B (Prod.fst (G b (List.length b)))) (Cmd5.C (Prod.fst (G b (List.length b)))) (Cmd5.N (Prod.fst (G b (List.length b)))) = true, (0 : Int) ≤ Cmd5.d (Prod.fst (G b (List.length b))) ∧ Cmd5.d (Prod.fst (G b (List.length b))) < (256 : Int), decide (Prod.snd (G b (List.length b)) = (0 : Int)) = true, List.length b ≤ List.length b, List.length b ≤ (1000000000 : Nat), wfB b, (!(decide (Cmd5.d (Prod.fst (G (cmdB d A B C N) (List.length (cmdB d A B C N)))) = d) && (decide (Cmd5.A (Prod.fst (G (cmdB d A B C N) (List.length (cmdB d A B C N)))) = A) && (decide (Cmd5.B (Prod.fst (G (cmdB d A B C N) (List.length (cmdB d A B C N)))) = B) && (decide (Cmd5.C (Prod.fst (G (cmdB d A B C N) (List.length (cmdB d A B C N)))) = C) && (decide (Cmd5.N (Prod.fst (G (cmdB d A B C N) (List.length (cmdB d A B C N)))) = N) && true)))))) = false, (!decide (Prod.snd (G (cmdB d A B C N) (List.length (cmdB d A B C N))) = (0 : Int))) = false, List.length (cmdB d A B C N) ≤ List.length (cmdB d A B C N), List.length (cmdB d A B C N) ≤ (1000000000 : Nat), wfB (cmdB d A B C N), rightF d A B C N = true, (0 : Int) ≤ d ∧ d < (256 : Int), (0 : Int) ≤ if (200 : Int) < (↑(List.length l) : Int) then (200 : Int) else (↑(List.length l) : Int), (if (200 : Int) < (↑(List.length l) : Int) then (200 : Int) else (↑(List.length l) : Int)) ≤ (↑(List.length l) : Int), decide ((20000 : Int) < (↑(List.length b) : Int)) = false]) := by kernel_rfl
end
end Go.Proofs.Ytgkhbhddmafakaa
