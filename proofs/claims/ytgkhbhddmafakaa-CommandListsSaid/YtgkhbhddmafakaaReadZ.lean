/- command.Read: what it comes to, and the contract. -/
import Derived.Test.YtgkhbhddmafakaaCmd
import Derived.Test.YtgkhbhddmafakaaGetZ
namespace Go.Proofs.Ytgkhbhddmafakaa
open Go.ChangeShapes Go.WideShapes Go.ChangeAt Go.RowKit Go.Sx
abbrev GI := List Int → Nat → Int → Int × Int × Int
def gGetIF (F : GI) : Sx.Loc := fun args bs => match args, bs with
  | [.v (.one (.slice 0 (.c 0) 1 (.s n) (.s _))), .v (.one (.sint .i64 a))], [⟨false, .ints k l⟩] => match decide (k = .u8) with
    | true => some (tupS (F l n a).1 (F l n a).2.1 (F l n a).2.2, [roB l], [n ≤ l.length, n ≤ 1000000000, wfB l])
    | false => none
  | _, _ => none
theorem getiF_tab : TabOk Try.prog 25 (loc wantRo (gGetIF getI)) := loc_ok fun xs bs v bs' ob hg hob hokb => by
  unfold gGetIF at hg
  split at hg
  · rename_i n c a k l
    split at hg
    · rename_i hk
      injection hg with hg; injection hg with e1 e2; injection e2 with e2 e3
      subst e1; subst e2; subst e3
      have hk' : k = .u8 := of_decide_eq_true hk
      subst hk'
      exact geti_works l n c a (hob _ (by simp)) (hob (n ≤ 1000000000) (by simp)) (hob (wfB l) (by simp))
    · cases hg
  · cases hg
def tabRd (F : GI) := tabs [(25, loc wantRo (gGetIF F)), (11, loc (fun _ => []) gRight)]
noncomputable def callRd (F : GI) (d : Nat) := callN Try.prog (tabRd F) (fun _ => false) 100000 d
theorem tabRd_ok : ∀ f g, tabRd getI f = some g → TabOk Try.prog f g := tabs_ok fun x hx => by
  simp only [List.mem_cons, List.not_mem_nil, or_false] at hx
  rcases hx with rfl | rfl
  · exact getiF_tab
  · exact right_tab
noncomputable def rd (F : GI) (l : List Int) (n c : Nat) (h : List Bool) := retV [0] (callRd F 4 13 [bsl 0 n c] [roB l] h)
/-- the place of each number, and what is there -/
def tR (F : GI) (l : List Int) (n : Nat) : Nat → Int
  | 0 => 1
  | i + 1 => (F l n (tR F l n i)).2.1
def gR (F : GI) (l : List Int) (n i : Nat) : Int × Int × Int := F l n (tR F l n i)
def baseR (l : List Int) (n : Nat) : List Prop := [n ≤ l.length, n ≤ 1000000000, wfB l]
def okR (F : GI) (l : List Int) (n : Nat) : Nat → List Prop
  | 0 => [0 < l.length, 0 < (n : Int), decide ((n : Int) = 0) = false]
  | i + 1 => [decide (1073741824 < (gR F l n i).1) = false, decide ((gR F l n i).1 < -1) = false, (!decide ((gR F l n i).2.2 = 0)) = false] ++ baseR l n ++ okR F l n i
def f1R (F : GI) (l : List Int) (n i : Nat) : List Prop := [(!decide ((gR F l n i).2.2 = 0)) = true] ++ baseR l n ++ okR F l n i
def f2R (F : GI) (l : List Int) (n i : Nat) : List Prop := (decide ((gR F l n i).1 < -1) = true) :: ((!decide ((gR F l n i).2.2 = 0)) = false) :: (baseR l n ++ okR F l n i)
def f3R (F : GI) (l : List Int) (n i : Nat) : List Prop := [decide (1073741824 < (gR F l n i).1) = true, decide ((gR F l n i).1 < -1) = false, (!decide ((gR F l n i).2.2 = 0)) = false] ++ baseR l n ++ okR F l n i
def rF (F : GI) (l : List Int) (n : Nat) : Bool := rightF (l.getD 0 0) (gR F l n 0).1 (gR F l n 1).1 (gR F l n 2).1 (gR F l n 3).1
def noR : V := .tup [.agg [.int .u8 0, .int .i64 0, .int .i64 0, .int .i64 0, .int .i64 0], .one (.int .i64 109)]
def yesR (F : GI) (l : List Int) (n : Nat) : V := .tup [.agg [.sint .u8 (l.getD 0 0), .sint .i64 (gR F l n 0).1, .sint .i64 (gR F l n 1).1, .sint .i64 (gR F l n 2).1, .sint .i64 (gR F l n 3).1], .one (.int .i64 0)]
theorem rd0 : (fun F l n c => rd F l n c [true]) = fun (F : GI) (l : List Int) (n : Nat) (_ : Nat) => some (noR, [roB l], [decide ((n : Int) = 0) = true]) := by kernel_rfl
theorem rdX : (fun F l n c => rd F l n c (List.replicate 13 false ++ [true])) = fun (F : GI) (l : List Int) (n : Nat) (_ : Nat) => some (noR, [roB l], [(!decide ((F l n (tR F l n 3)).2.1 = (n : Int))) = true] ++ okR F l n 4) := by kernel_rfl
theorem rdY : (fun F l n c => rd F l n c (List.replicate 13 false ++ [false, true])) = fun (F : GI) (l : List Int) (n : Nat) (_ : Nat) => some (noR, [roB l], [(!rF F l n) = true, 0 ≤ l.getD 0 0 ∧ l.getD 0 0 < 256, (!decide ((F l n (tR F l n 3)).2.1 = (n : Int))) = false] ++ okR F l n 4) := by kernel_rfl
theorem rdZ : (fun F l n c => rd F l n c (List.replicate 13 false ++ [false, false])) = fun (F : GI) (l : List Int) (n : Nat) (_ : Nat) => some (yesR F l n, [roB l], [(!rF F l n) = false, 0 ≤ l.getD 0 0 ∧ l.getD 0 0 < 256, (!decide ((F l n (tR F l n 3)).2.1 = (n : Int))) = false] ++ okR F l n 4) := by kernel_rfl
theorem rdF10 : (fun F l n c => rd F l n c (List.replicate 1 false ++ [true])) = fun (F : GI) (l : List Int) (n : Nat) (_ : Nat) => some (noR, [roB l], f1R F l n 0) := by kernel_rfl
theorem rdF11 : (fun F l n c => rd F l n c (List.replicate 4 false ++ [true])) = fun (F : GI) (l : List Int) (n : Nat) (_ : Nat) => some (noR, [roB l], f1R F l n 1) := by kernel_rfl
theorem rdF12 : (fun F l n c => rd F l n c (List.replicate 7 false ++ [true])) = fun (F : GI) (l : List Int) (n : Nat) (_ : Nat) => some (noR, [roB l], f1R F l n 2) := by kernel_rfl
theorem rdF13 : (fun F l n c => rd F l n c (List.replicate 10 false ++ [true])) = fun (F : GI) (l : List Int) (n : Nat) (_ : Nat) => some (noR, [roB l], f1R F l n 3) := by kernel_rfl
theorem rdF1_all (F : GI) (l : List Int) (n c : Nat) : ∀ i, i < 4 → rd F l n c (List.replicate (1 + 3 * i) false ++ [true]) = some (noR, [roB l], f1R F l n i)
  | 0, _ => congrFun (congrFun (congrFun (congrFun rdF10 F) l) n) c
  | 1, _ => congrFun (congrFun (congrFun (congrFun rdF11 F) l) n) c
  | 2, _ => congrFun (congrFun (congrFun (congrFun rdF12 F) l) n) c
  | 3, _ => congrFun (congrFun (congrFun (congrFun rdF13 F) l) n) c
  | _ + 4, h => absurd h (by omega)
theorem rdF20 : (fun F l n c => rd F l n c (List.replicate 1 false ++ [false, true])) = fun (F : GI) (l : List Int) (n : Nat) (_ : Nat) => some (noR, [roB l], f2R F l n 0) := by kernel_rfl
theorem rdF21 : (fun F l n c => rd F l n c (List.replicate 4 false ++ [false, true])) = fun (F : GI) (l : List Int) (n : Nat) (_ : Nat) => some (noR, [roB l], f2R F l n 1) := by kernel_rfl
theorem rdF22 : (fun F l n c => rd F l n c (List.replicate 7 false ++ [false, true])) = fun (F : GI) (l : List Int) (n : Nat) (_ : Nat) => some (noR, [roB l], f2R F l n 2) := by kernel_rfl
theorem rdF23 : (fun F l n c => rd F l n c (List.replicate 10 false ++ [false, true])) = fun (F : GI) (l : List Int) (n : Nat) (_ : Nat) => some (noR, [roB l], f2R F l n 3) := by kernel_rfl
theorem rdF2_all (F : GI) (l : List Int) (n c : Nat) : ∀ i, i < 4 → rd F l n c (List.replicate (1 + 3 * i) false ++ [false, true]) = some (noR, [roB l], f2R F l n i)
  | 0, _ => congrFun (congrFun (congrFun (congrFun rdF20 F) l) n) c
  | 1, _ => congrFun (congrFun (congrFun (congrFun rdF21 F) l) n) c
  | 2, _ => congrFun (congrFun (congrFun (congrFun rdF22 F) l) n) c
  | 3, _ => congrFun (congrFun (congrFun (congrFun rdF23 F) l) n) c
  | _ + 4, h => absurd h (by omega)
theorem rdF30 : (fun F l n c => rd F l n c (List.replicate 1 false ++ [false, false, true])) = fun (F : GI) (l : List Int) (n : Nat) (_ : Nat) => some (noR, [roB l], f3R F l n 0) := by kernel_rfl
theorem rdF31 : (fun F l n c => rd F l n c (List.replicate 4 false ++ [false, false, true])) = fun (F : GI) (l : List Int) (n : Nat) (_ : Nat) => some (noR, [roB l], f3R F l n 1) := by kernel_rfl
theorem rdF32 : (fun F l n c => rd F l n c (List.replicate 7 false ++ [false, false, true])) = fun (F : GI) (l : List Int) (n : Nat) (_ : Nat) => some (noR, [roB l], f3R F l n 2) := by kernel_rfl
theorem rdF33 : (fun F l n c => rd F l n c (List.replicate 10 false ++ [false, false, true])) = fun (F : GI) (l : List Int) (n : Nat) (_ : Nat) => some (noR, [roB l], f3R F l n 3) := by kernel_rfl
theorem rdF3_all (F : GI) (l : List Int) (n c : Nat) : ∀ i, i < 4 → rd F l n c (List.replicate (1 + 3 * i) false ++ [false, false, true]) = some (noR, [roB l], f3R F l n i)
  | 0, _ => congrFun (congrFun (congrFun (congrFun rdF30 F) l) n) c
  | 1, _ => congrFun (congrFun (congrFun (congrFun rdF31 F) l) n) c
  | 2, _ => congrFun (congrFun (congrFun (congrFun rdF32 F) l) n) c
  | 3, _ => congrFun (congrFun (congrFun (congrFun rdF33 F) l) n) c
  | _ + 4, h => absurd h (by omega)
/-- each of the numbers is one -/
def good (l : List Int) (n i : Nat) : Prop := (gR getI l n i).2.2 = 0 ∧ -1 ≤ (gR getI l n i).1 ∧ (gR getI l n i).1 ≤ 1073741824
instance (l : List Int) (n i : Nat) : Decidable (good l n i) := by unfold good; infer_instance
def readOk (l : List Int) (n : Nat) : Prop := 0 < n ∧ good l n 0 ∧ good l n 1 ∧ good l n 2 ∧ good l n 3 ∧ (getI l n (tR getI l n 3)).2.1 = (n : Int) ∧ rF getI l n = true
instance (l : List Int) (n : Nat) : Decidable (readOk l n) := by unfold readOk; infer_instance
structure Cmd5 where
  d : Int
  A : Int
  B : Int
  C : Int
  N : Int
def readC (l : List Int) (n : Nat) : Cmd5 := if readOk l n then ⟨l.getD 0 0, (gR getI l n 0).1, (gR getI l n 1).1, (gR getI l n 2).1, (gR getI l n 3).1⟩ else ⟨0, 0, 0, 0, 0⟩
def readE (l : List Int) (n : Nat) : Int := if readOk l n then 0 else 109
def tupC (c : Cmd5) (e : Int) : V := .tup [.agg [.sint .u8 c.d, .sint .i64 c.A, .sint .i64 c.B, .sint .i64 c.C, .sint .i64 c.N], .one (.sint .i64 e)]
theorem baseR_ok {l : List Int} {n : Nat} (hn : n ≤ l.length) (hm : n ≤ 1000000000) (hw : wfB l) {r : List Prop} (hr : allP r) : allP (baseR l n ++ r) := ⟨hn, hm, hw, hr⟩
theorem okR_ok {l : List Int} {n : Nat} (hp : 0 < n) (hn : n ≤ l.length) (hm : n ≤ 1000000000) (hw : wfB l) : ∀ {i : Nat}, (∀ j, j < i → good l n j) → allP (okR getI l n i)
  | 0, _ => ⟨by omega, by omega, decide_eq_false (by omega), trivial⟩
  | i + 1, h => by
    obtain ⟨h1, h2, h3⟩ := h i (by omega)
    exact ⟨decide_eq_false (by omega), decide_eq_false (by omega), by rw [decide_eq_true h1]; rfl, baseR_ok hn hm hw (okR_ok hp hn hm hw fun j hj => h j (by omega))⟩
theorem read_works (l : List Int) (n c : Nat) (hn : n ≤ l.length) (hm : n ≤ 1000000000) (hw : wfB l) : Works Try.prog 13 [bsl 0 n c] [roB l] (tupC (readC l n) (readE l n)) [roB l] := by
  have no : ∀ (h : List Bool) (ob : List Prop), ¬ readOk l n → rd getI l n c h = some (noR, [roB l], ob) → allP ob → Works Try.prog 13 [bsl 0 n c] [roB l] (tupC (readC l n) (readE l n)) [roB l] := by
    intro h ob hno hr hob
    unfold readC readE
    rw [if_neg hno, if_neg hno]
    exact works_of (r := []) tabRd_ok hr hob ndG (by simp [noR, tupC, leV, leL1, leV1, leL, leC]) (leG l)
  by_cases h0 : n = 0
  · exact no [true] _ (fun h => by have := h.1; omega) (congrFun (congrFun (congrFun (congrFun rd0 getI) l) n) c) ⟨decide_eq_true (by omega), trivial⟩
  have hp : 0 < n := by omega
  have bad : ∀ i, i < 4 → (∀ j, j < i → good l n j) → ¬ good l n i → ¬ readOk l n → Works Try.prog 13 [bsl 0 n c] [roB l] (tupC (readC l n) (readE l n)) [roB l] := by
    intro i hi hb hg hno
    have hk := okR_ok hp hn hm hw hb
    by_cases e1 : (gR getI l n i).2.2 = 0
    · have d1 : (!decide ((gR getI l n i).2.2 = 0)) = false := by rw [decide_eq_true e1]; rfl
      by_cases e2 : (gR getI l n i).1 < -1
      · exact no _ _ hno (rdF2_all getI l n c i hi) ⟨decide_eq_true e2, d1, baseR_ok hn hm hw hk⟩
      · by_cases e3 : 1073741824 < (gR getI l n i).1
        · exact no _ _ hno (rdF3_all getI l n c i hi) ⟨decide_eq_true e3, decide_eq_false e2, d1, baseR_ok hn hm hw hk⟩
        · exact absurd ⟨e1, by omega, by omega⟩ hg
    · exact no _ _ hno (rdF1_all getI l n c i hi) ⟨by rw [decide_eq_false e1]; rfl, baseR_ok hn hm hw hk⟩
  by_cases g0 : good l n 0
  · by_cases g1 : good l n 1
    · by_cases g2 : good l n 2
      · by_cases g3 : good l n 3
        · have hk : allP (okR getI l n 4) := okR_ok hp hn hm hw fun j hj => by
            have : j = 0 ∨ j = 1 ∨ j = 2 ∨ j = 3 := by omega
            rcases this with rfl | rfl | rfl | rfl
            · exact g0
            · exact g1
            · exact g2
            · exact g3
          have hb := wfB_get hw 0
          by_cases ht : (getI l n (tR getI l n 3)).2.1 = (n : Int)
          · have d1 : (!decide ((getI l n (tR getI l n 3)).2.1 = (n : Int))) = false := by rw [decide_eq_true ht]; rfl
            cases hr : rF getI l n with
            | true =>
              have hok : readOk l n := ⟨hp, g0, g1, g2, g3, ht, hr⟩
              unfold readC readE
              rw [if_pos hok, if_pos hok]
              refine works_of (r := []) tabRd_ok (congrFun (congrFun (congrFun (congrFun rdZ getI) l) n) c) ⟨by rw [hr]; rfl, hb, d1, hk⟩ ndG ?_ (leG l)
              simp [yesR, tupC, leV, leL1, leV1, leL, leC]
            | false => exact no _ _ (fun h => by have := h.2.2.2.2.2.2; rw [hr] at this; cases this) (congrFun (congrFun (congrFun (congrFun rdY getI) l) n) c) ⟨by rw [hr]; rfl, hb, d1, hk⟩
          · exact no _ _ (fun h => ht h.2.2.2.2.2.1) (congrFun (congrFun (congrFun (congrFun rdX getI) l) n) c) ⟨by rw [decide_eq_false ht]; rfl, hk⟩
        · exact bad 3 (by omega) (fun j hj => by
            have : j = 0 ∨ j = 1 ∨ j = 2 := by omega
            rcases this with rfl | rfl | rfl
            · exact g0
            · exact g1
            · exact g2) g3 (fun h => g3 h.2.2.2.2.1)
      · exact bad 2 (by omega) (fun j hj => by
          have : j = 0 ∨ j = 1 := by omega
          rcases this with rfl | rfl
          · exact g0
          · exact g1) g2 (fun h => g2 h.2.2.2.1)
    · exact bad 1 (by omega) (fun j hj => by
        have : j = 0 := by omega
        rw [this]; exact g0) g1 (fun h => g1 h.2.2.1)
  · exact bad 0 (by omega) (fun j hj => by omega) g0 (fun h => g0 h.2.1)
def gRead : Sx.Loc := fun args bs => match args, bs with
  | [.v (.one (.slice 0 (.c 0) 1 (.s n) (.s _)))], [⟨false, .ints k l⟩] => match decide (k = .u8) with
    | true => some (tupC (readC l n) (readE l n), [roB l], [n ≤ l.length, n ≤ 1000000000, wfB l])
    | false => none
  | _, _ => none
theorem read_tab : TabOk Try.prog 13 (loc wantRo gRead) := loc_ok fun xs bs v bs' ob hg hob hokb => by
  unfold gRead at hg
  split at hg
  · rename_i n c k l
    split at hg
    · rename_i hk
      injection hg with hg; injection hg with e1 e2; injection e2 with e2 e3
      subst e1; subst e2; subst e3
      have hk' : k = .u8 := of_decide_eq_true hk
      subst hk'
      exact read_works l n c (hob _ (by simp)) (hob (n ≤ 1000000000) (by simp)) (hob (wfB l) (by simp))
    · cases hg
  · cases hg
end Go.Proofs.Ytgkhbhddmafakaa
