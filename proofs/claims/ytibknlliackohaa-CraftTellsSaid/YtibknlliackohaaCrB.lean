/- Making: the contract. -/
import Derived.Test.YtibknlliackohaaCrA
import Derived.Test.YtibknlliackohaaBagP
namespace Go.Proofs.Ytibknlliackohaa
open Go.ChangeShapes Go.WideShapes Go.ChangeAt Go.RowKit Go.Sx
theorem tabM_ok : ∀ f g, tabM f = some g → TabOk Try.prog f g := tabs_ok fun x hx => by
  simp only [List.mem_cons, List.not_mem_nil, or_false] at hx
  rcases hx with rfl | rfl | rfl | rfl | rfl | rfl
  · exact stack_tab
  · exact right_tab
  · exact clone_tab
  · exact count_tab
  · exact put_tab
  · exact spend_tab
theorem one2n_ok {f : FuncId} {g : Rows2 → Int → Option (V × List SB × List Prop)} (h : ∀ l c i v bs ob, g l i = some (v, bs, ob) → (∀ p ∈ ob, p) → wfL l → Works Try.prog f [sl 0 l.length c, si .i64 i] [ro l] v (ro l :: bs)) : TabOk Try.prog f (loc w1 (one2n g)) := loc_ok fun xs bs v bs' ob hg hob hok => by
  clear hok
  unfold one2n at hg
  split at hg
  · split at hg
    · rename_i hk hgl
      have hks := isK2_eq hk
      subst hks
      injection hg with hg; injection hg with e1 e2; injection e2 with e2 e3
      subst e1; subst e2; subst e3
      have hn := hob _ (List.Mem.head _)
      subst hn
      exact h _ _ _ _ _ _ hgl (fun p hp => hob p (by simp [hp])) (hob _ (by simp))
    · cases hg
  · cases hg
theorem mk_sc {l : Rows2} {c : Nat} {n : Int} {v : V} {bs : List SB} (h : Works Try.prog 10 [sl 0 l.length c, sc n] [ro l] v bs) : Works Try.prog 10 [sl 0 l.length c, si .i64 n] [ro l] v bs := h
theorem makeS_bad {l : Rows2} {n : Int} (h : l.all okR = false) : makeS l n = (l, 103) := by unfold makeS; rw [if_pos h]
theorem makeS_none {l : Rows2} {n : Int} (h : l.all okR = true) (hn : n < 0 ∨ 7 ≤ n) : makeS l n = (l, 112) := by
  unfold makeS; rw [if_neg (by rw [h]; simp), if_pos hn]
theorem makeS_lacks {l : Rows2} {n : Int} (h : l.all okR = true) (hn : ¬ (n < 0 ∨ 7 ≤ n)) (hl : lacks l (recT n.toNat).1 = true) : makeS l n = (l, 105) := by
  unfold makeS; rw [if_neg (by rw [h]; simp), if_neg hn, if_pos hl]
theorem makeS_room {l : Rows2} {n : Int} (h : l.all okR = true) (hn : ¬ (n < 0 ∨ 7 ≤ n)) (hl : lacks l (recT n.toNat).1 = false) (hr : 0 < (putS (spendAll l (recT n.toNat).1) (recT n.toNat).2.1 (recT n.toNat).2.2).2) : makeS l n = (l, 104) := by
  unfold makeS; rw [if_neg (by rw [h]; simp), if_neg hn, if_neg (by rw [hl]; simp), if_pos hr]
theorem makeS_made {l : Rows2} {n : Int} (h : l.all okR = true) (hn : ¬ (n < 0 ∨ 7 ≤ n)) (hl : lacks l (recT n.toNat).1 = false) (hr : ¬ 0 < (putS (spendAll l (recT n.toNat).1) (recT n.toNat).2.1 (recT n.toNat).2.2).2) : makeS l n = ((putS (spendAll l (recT n.toNat).1) (recT n.toNat).2.1 (recT n.toNat).2.2).1, 0) := by
  unfold makeS; rw [if_neg (by rw [h]; simp), if_neg hn, if_neg (by rw [hl]; simp), if_neg hr]
abbrev MkW (l : Rows2) (c : Nat) (n : Int) : Prop := Works Try.prog 10 [sl 0 l.length c, si .i64 n] [ro l] (tup2 1 l.length (makeS l n).2) [ro l, ow (makeS l n).1]
theorem fin2 (l l' : Rows2) (k : Nat) : leBs (List.range 1 ++ [k]) [ro l, ⟨true, .recs ks2 l'⟩] [ro l, ow l'] := by simp [leBs, leB, leCells, ro, ow, ks2]
theorem val2 (l : Rows2) (k n : Nat) (e : Int) (h : n = l.length) : leV (List.range 1 ++ [k]) (.tup [.one (.slice k (.c 0) 2 (.s n) (.s n)), .one (.int .i64 e)]) (tup2 1 l.length e) := by
  subst h; simp [tup2, leV, leL1, leV1, leC, N.v, List.range, List.range.loop]
theorem lacks2 {l : Rows2} {r s : List Int} (h : cnt (it s) l < nn s) : lacks l [r, s] = true := by
  unfold lacks; unfold lacks; rw [decide_eq_true h]; simp
theorem nolack1 {l : Rows2} {r : List Int} (h : ¬ cnt (it r) l < nn r) : lacks l [r] = false := by
  unfold lacks; rw [decide_eq_false h]; rfl
theorem nolack2 {l : Rows2} {r s : List Int} (h : ¬ cnt (it r) l < nn r) (h' : ¬ cnt (it s) l < nn s) : lacks l [r, s] = false := by
  unfold lacks; unfold lacks; rw [decide_eq_false h, decide_eq_false h']; rfl
theorem mkw0 (l : Rows2) (c : Nat) (hw : wfL l) : MkW l c 0 := by
  have hlen := hw.2
  have hn : ¬ ((0 : Int) < 0 ∨ 7 ≤ (0 : Int)) := by decide
  have w1 := spendS_wf (x := 3) (n := 1) hw
  have l1 := spendS_len l 3 1
  by_cases h1 : l.all okR = true
  · by_cases hc0 : cnt 3 l < 1
    · have hp : makeS l 0 = (l, 105) := makeS_lacks h1 hn (by show (decide _ || _) = true; rw [decide_eq_true (by exact hc0)]; rfl)
      unfold MkW; rw [hp]
      refine mk_sc (works_of (r := [2]) tabM_ok (congrFun (congrFun mk0b0 l) c) ?_ (by exact nd1 2 (by omega)) (val2 l 2 _ _ rfl) (fin2 l _ 2))
      simp only [allP, h1]; simp [hw, hc0]; omega
    · have hl : lacks l (recT (Int.toNat 0)).1 = false := (nolack1 (by exact hc0))
      by_cases hr : 0 < (putS (spendS l 3 1).1 5 4).2
      · have hp : makeS l 0 = (l, 104) := makeS_room h1 hn hl hr
        unfold MkW; rw [hp]
        refine mk_sc (works_of (r := [2]) tabM_ok (congrFun (congrFun mk0c l) c) ?_ (by exact nd1 2 (by omega)) (val2 l 2 _ _ rfl) (fin2 l _ 2))
        simp only [allP, h1]; simp [i64, hw, hc0, hr, w1, l1]; omega
      · have hp : makeS l 0 = ((putS (spendS l 3 1).1 5 4).1, 0) := makeS_made h1 hn hl hr
        unfold MkW; rw [hp]
        refine mk_sc (works_of (r := [15]) tabM_ok (congrFun (congrFun mk0d l) c) ?_ (by exact nd1 15 (by omega)) (val2 l 15 _ _ (by simp [spendS_len])) (fin2 l _ 15))
        simp only [allP, h1]; simp [i64, hw, hc0, hr, w1, l1]; omega
  · have h1 : l.all okR = false := by simpa using h1
    have hp : makeS l 0 = (l, 103) := makeS_bad h1
    unfold MkW; rw [hp]
    refine mk_sc (works_of (r := [2]) tabM_ok (congrFun (congrFun mk0a l) c) ?_ (by exact nd1 2 (by omega)) (val2 l 2 _ _ rfl) (fin2 l _ 2))
    simp only [allP, h1]; simp [hw]; omega
theorem mkw1 (l : Rows2) (c : Nat) (hw : wfL l) : MkW l c 1 := by
  have hlen := hw.2
  have hn : ¬ ((1 : Int) < 0 ∨ 7 ≤ (1 : Int)) := by decide
  have w1 := spendS_wf (x := 5) (n := 2) hw
  have l1 := spendS_len l 5 2
  by_cases h1 : l.all okR = true
  · by_cases hc0 : cnt 5 l < 2
    · have hp : makeS l 1 = (l, 105) := makeS_lacks h1 hn (by show (decide _ || _) = true; rw [decide_eq_true (by exact hc0)]; rfl)
      unfold MkW; rw [hp]
      refine mk_sc (works_of (r := [2]) tabM_ok (congrFun (congrFun mk1b0 l) c) ?_ (by exact nd1 2 (by omega)) (val2 l 2 _ _ rfl) (fin2 l _ 2))
      simp only [allP, h1]; simp [hw, hc0]; omega
    · have hl : lacks l (recT (Int.toNat 1)).1 = false := (nolack1 (by exact hc0))
      by_cases hr : 0 < (putS (spendS l 5 2).1 6 4).2
      · have hp : makeS l 1 = (l, 104) := makeS_room h1 hn hl hr
        unfold MkW; rw [hp]
        refine mk_sc (works_of (r := [2]) tabM_ok (congrFun (congrFun mk1c l) c) ?_ (by exact nd1 2 (by omega)) (val2 l 2 _ _ rfl) (fin2 l _ 2))
        simp only [allP, h1]; simp [i64, hw, hc0, hr, w1, l1]; omega
      · have hp : makeS l 1 = ((putS (spendS l 5 2).1 6 4).1, 0) := makeS_made h1 hn hl hr
        unfold MkW; rw [hp]
        refine mk_sc (works_of (r := [15]) tabM_ok (congrFun (congrFun mk1d l) c) ?_ (by exact nd1 15 (by omega)) (val2 l 15 _ _ (by simp [spendS_len])) (fin2 l _ 15))
        simp only [allP, h1]; simp [i64, hw, hc0, hr, w1, l1]; omega
  · have h1 : l.all okR = false := by simpa using h1
    have hp : makeS l 1 = (l, 103) := makeS_bad h1
    unfold MkW; rw [hp]
    refine mk_sc (works_of (r := [2]) tabM_ok (congrFun (congrFun mk1a l) c) ?_ (by exact nd1 2 (by omega)) (val2 l 2 _ _ rfl) (fin2 l _ 2))
    simp only [allP, h1]; simp [hw]; omega
theorem mkw2 (l : Rows2) (c : Nat) (hw : wfL l) : MkW l c 2 := by
  have hlen := hw.2
  have hn : ¬ ((2 : Int) < 0 ∨ 7 ≤ (2 : Int)) := by decide
  have w1 := spendS_wf (x := 5) (n := 8) hw
  have l1 := spendS_len l 5 8
  by_cases h1 : l.all okR = true
  · by_cases hc0 : cnt 5 l < 8
    · have hp : makeS l 2 = (l, 105) := makeS_lacks h1 hn (by show (decide _ || _) = true; rw [decide_eq_true (by exact hc0)]; rfl)
      unfold MkW; rw [hp]
      refine mk_sc (works_of (r := [2]) tabM_ok (congrFun (congrFun mk2b0 l) c) ?_ (by exact nd1 2 (by omega)) (val2 l 2 _ _ rfl) (fin2 l _ 2))
      simp only [allP, h1]; simp [hw, hc0]; omega
    · have hl : lacks l (recT (Int.toNat 2)).1 = false := (nolack1 (by exact hc0))
      by_cases hr : 0 < (putS (spendS l 5 8).1 9 1).2
      · have hp : makeS l 2 = (l, 104) := makeS_room h1 hn hl hr
        unfold MkW; rw [hp]
        refine mk_sc (works_of (r := [2]) tabM_ok (congrFun (congrFun mk2c l) c) ?_ (by exact nd1 2 (by omega)) (val2 l 2 _ _ rfl) (fin2 l _ 2))
        simp only [allP, h1]; simp [i64, hw, hc0, hr, w1, l1]; omega
      · have hp : makeS l 2 = ((putS (spendS l 5 8).1 9 1).1, 0) := makeS_made h1 hn hl hr
        unfold MkW; rw [hp]
        refine mk_sc (works_of (r := [15]) tabM_ok (congrFun (congrFun mk2d l) c) ?_ (by exact nd1 15 (by omega)) (val2 l 15 _ _ (by simp [spendS_len])) (fin2 l _ 15))
        simp only [allP, h1]; simp [i64, hw, hc0, hr, w1, l1]; omega
  · have h1 : l.all okR = false := by simpa using h1
    have hp : makeS l 2 = (l, 103) := makeS_bad h1
    unfold MkW; rw [hp]
    refine mk_sc (works_of (r := [2]) tabM_ok (congrFun (congrFun mk2a l) c) ?_ (by exact nd1 2 (by omega)) (val2 l 2 _ _ rfl) (fin2 l _ 2))
    simp only [allP, h1]; simp [hw]; omega
theorem mkw3 (l : Rows2) (c : Nat) (hw : wfL l) : MkW l c 3 := by
  have hlen := hw.2
  have hn : ¬ ((3 : Int) < 0 ∨ 7 ≤ (3 : Int)) := by decide
  have w1 := spendS_wf (x := 6) (n := 1) hw
  have l1 := spendS_len l 6 1
  have w2 := spendS_wf (x := 7) (n := 1) w1
  have l2 := spendS_len (spendS l 6 1).1 7 1
  by_cases h1 : l.all okR = true
  · by_cases hc0 : cnt 6 l < 1
    · have hp : makeS l 3 = (l, 105) := makeS_lacks h1 hn (by show (decide _ || _) = true; rw [decide_eq_true (by exact hc0)]; rfl)
      unfold MkW; rw [hp]
      refine mk_sc (works_of (r := [2]) tabM_ok (congrFun (congrFun mk3b0 l) c) ?_ (by exact nd1 2 (by omega)) (val2 l 2 _ _ rfl) (fin2 l _ 2))
      simp only [allP, h1]; simp [hw, hc0]; omega
    · by_cases hc1 : cnt 7 l < 1
      · have hp : makeS l 3 = (l, 105) := makeS_lacks h1 hn (lacks2 (by exact hc1))
        unfold MkW; rw [hp]
        refine mk_sc (works_of (r := [2]) tabM_ok (congrFun (congrFun mk3b1 l) c) ?_ (by exact nd1 2 (by omega)) (val2 l 2 _ _ rfl) (fin2 l _ 2))
        simp only [allP, h1]; simp [hw, hc0, hc1]; omega
      · have hl : lacks l (recT (Int.toNat 3)).1 = false := (nolack2 (by exact hc0) (by exact hc1))
        by_cases hr : 0 < (putS (spendS (spendS l 6 1).1 7 1).1 10 4).2
        · have hp : makeS l 3 = (l, 104) := makeS_room h1 hn hl hr
          unfold MkW; rw [hp]
          refine mk_sc (works_of (r := [2]) tabM_ok (congrFun (congrFun mk3c l) c) ?_ (by exact nd1 2 (by omega)) (val2 l 2 _ _ rfl) (fin2 l _ 2))
          simp only [allP, h1]; simp [i64, hw, hc0, hc1, hr, w1, l1, w2, l2]; omega
        · have hp : makeS l 3 = ((putS (spendS (spendS l 6 1).1 7 1).1 10 4).1, 0) := makeS_made h1 hn hl hr
          unfold MkW; rw [hp]
          refine mk_sc (works_of (r := [17]) tabM_ok (congrFun (congrFun mk3d l) c) ?_ (by exact nd1 17 (by omega)) (val2 l 17 _ _ (by simp [spendS_len])) (fin2 l _ 17))
          simp only [allP, h1]; simp [i64, hw, hc0, hc1, hr, w1, l1, w2, l2]; omega
  · have h1 : l.all okR = false := by simpa using h1
    have hp : makeS l 3 = (l, 103) := makeS_bad h1
    unfold MkW; rw [hp]
    refine mk_sc (works_of (r := [2]) tabM_ok (congrFun (congrFun mk3a l) c) ?_ (by exact nd1 2 (by omega)) (val2 l 2 _ _ rfl) (fin2 l _ 2))
    simp only [allP, h1]; simp [hw]; omega
theorem mkw4 (l : Rows2) (c : Nat) (hw : wfL l) : MkW l c 4 := by
  have hlen := hw.2
  have hn : ¬ ((4 : Int) < 0 ∨ 7 ≤ (4 : Int)) := by decide
  have w1 := spendS_wf (x := 7) (n := 1) hw
  have l1 := spendS_len l 7 1
  have w2 := spendS_wf (x := 3) (n := 1) w1
  have l2 := spendS_len (spendS l 7 1).1 3 1
  by_cases h1 : l.all okR = true
  · by_cases hc0 : cnt 7 l < 1
    · have hp : makeS l 4 = (l, 105) := makeS_lacks h1 hn (by show (decide _ || _) = true; rw [decide_eq_true (by exact hc0)]; rfl)
      unfold MkW; rw [hp]
      refine mk_sc (works_of (r := [2]) tabM_ok (congrFun (congrFun mk4b0 l) c) ?_ (by exact nd1 2 (by omega)) (val2 l 2 _ _ rfl) (fin2 l _ 2))
      simp only [allP, h1]; simp [hw, hc0]; omega
    · by_cases hc1 : cnt 3 l < 1
      · have hp : makeS l 4 = (l, 105) := makeS_lacks h1 hn (lacks2 (by exact hc1))
        unfold MkW; rw [hp]
        refine mk_sc (works_of (r := [2]) tabM_ok (congrFun (congrFun mk4b1 l) c) ?_ (by exact nd1 2 (by omega)) (val2 l 2 _ _ rfl) (fin2 l _ 2))
        simp only [allP, h1]; simp [hw, hc0, hc1]; omega
      · have hl : lacks l (recT (Int.toNat 4)).1 = false := (nolack2 (by exact hc0) (by exact hc1))
        by_cases hr : 0 < (putS (spendS (spendS l 7 1).1 3 1).1 8 1).2
        · have hp : makeS l 4 = (l, 104) := makeS_room h1 hn hl hr
          unfold MkW; rw [hp]
          refine mk_sc (works_of (r := [2]) tabM_ok (congrFun (congrFun mk4c l) c) ?_ (by exact nd1 2 (by omega)) (val2 l 2 _ _ rfl) (fin2 l _ 2))
          simp only [allP, h1]; simp [i64, hw, hc0, hc1, hr, w1, l1, w2, l2]; omega
        · have hp : makeS l 4 = ((putS (spendS (spendS l 7 1).1 3 1).1 8 1).1, 0) := makeS_made h1 hn hl hr
          unfold MkW; rw [hp]
          refine mk_sc (works_of (r := [17]) tabM_ok (congrFun (congrFun mk4d l) c) ?_ (by exact nd1 17 (by omega)) (val2 l 17 _ _ (by simp [spendS_len])) (fin2 l _ 17))
          simp only [allP, h1]; simp [i64, hw, hc0, hc1, hr, w1, l1, w2, l2]; omega
  · have h1 : l.all okR = false := by simpa using h1
    have hp : makeS l 4 = (l, 103) := makeS_bad h1
    unfold MkW; rw [hp]
    refine mk_sc (works_of (r := [2]) tabM_ok (congrFun (congrFun mk4a l) c) ?_ (by exact nd1 2 (by omega)) (val2 l 2 _ _ rfl) (fin2 l _ 2))
    simp only [allP, h1]; simp [hw]; omega
theorem mkw5 (l : Rows2) (c : Nat) (hw : wfL l) : MkW l c 5 := by
  have hlen := hw.2
  have hn : ¬ ((5 : Int) < 0 ∨ 7 ≤ (5 : Int)) := by decide
  have w1 := spendS_wf (x := 6) (n := 2) hw
  have l1 := spendS_len l 6 2
  have w2 := spendS_wf (x := 8) (n := 3) w1
  have l2 := spendS_len (spendS l 6 2).1 8 3
  by_cases h1 : l.all okR = true
  · by_cases hc0 : cnt 6 l < 2
    · have hp : makeS l 5 = (l, 105) := makeS_lacks h1 hn (by show (decide _ || _) = true; rw [decide_eq_true (by exact hc0)]; rfl)
      unfold MkW; rw [hp]
      refine mk_sc (works_of (r := [2]) tabM_ok (congrFun (congrFun mk5b0 l) c) ?_ (by exact nd1 2 (by omega)) (val2 l 2 _ _ rfl) (fin2 l _ 2))
      simp only [allP, h1]; simp [hw, hc0]; omega
    · by_cases hc1 : cnt 8 l < 3
      · have hp : makeS l 5 = (l, 105) := makeS_lacks h1 hn (lacks2 (by exact hc1))
        unfold MkW; rw [hp]
        refine mk_sc (works_of (r := [2]) tabM_ok (congrFun (congrFun mk5b1 l) c) ?_ (by exact nd1 2 (by omega)) (val2 l 2 _ _ rfl) (fin2 l _ 2))
        simp only [allP, h1]; simp [hw, hc0, hc1]; omega
      · have hl : lacks l (recT (Int.toNat 5)).1 = false := (nolack2 (by exact hc0) (by exact hc1))
        by_cases hr : 0 < (putS (spendS (spendS l 6 2).1 8 3).1 12 1).2
        · have hp : makeS l 5 = (l, 104) := makeS_room h1 hn hl hr
          unfold MkW; rw [hp]
          refine mk_sc (works_of (r := [2]) tabM_ok (congrFun (congrFun mk5c l) c) ?_ (by exact nd1 2 (by omega)) (val2 l 2 _ _ rfl) (fin2 l _ 2))
          simp only [allP, h1]; simp [i64, hw, hc0, hc1, hr, w1, l1, w2, l2]; omega
        · have hp : makeS l 5 = ((putS (spendS (spendS l 6 2).1 8 3).1 12 1).1, 0) := makeS_made h1 hn hl hr
          unfold MkW; rw [hp]
          refine mk_sc (works_of (r := [17]) tabM_ok (congrFun (congrFun mk5d l) c) ?_ (by exact nd1 17 (by omega)) (val2 l 17 _ _ (by simp [spendS_len])) (fin2 l _ 17))
          simp only [allP, h1]; simp [i64, hw, hc0, hc1, hr, w1, l1, w2, l2]; omega
  · have h1 : l.all okR = false := by simpa using h1
    have hp : makeS l 5 = (l, 103) := makeS_bad h1
    unfold MkW; rw [hp]
    refine mk_sc (works_of (r := [2]) tabM_ok (congrFun (congrFun mk5a l) c) ?_ (by exact nd1 2 (by omega)) (val2 l 2 _ _ rfl) (fin2 l _ 2))
    simp only [allP, h1]; simp [hw]; omega
theorem mkw6 (l : Rows2) (c : Nat) (hw : wfL l) : MkW l c 6 := by
  have hlen := hw.2
  have hn : ¬ ((6 : Int) < 0 ∨ 7 ≤ (6 : Int)) := by decide
  have w1 := spendS_wf (x := 2) (n := 4) hw
  have l1 := spendS_len l 2 4
  have w2 := spendS_wf (x := 1) (n := 1) w1
  have l2 := spendS_len (spendS l 2 4).1 1 1
  by_cases h1 : l.all okR = true
  · by_cases hc0 : cnt 2 l < 4
    · have hp : makeS l 6 = (l, 105) := makeS_lacks h1 hn (by show (decide _ || _) = true; rw [decide_eq_true (by exact hc0)]; rfl)
      unfold MkW; rw [hp]
      refine mk_sc (works_of (r := [2]) tabM_ok (congrFun (congrFun mk6b0 l) c) ?_ (by exact nd1 2 (by omega)) (val2 l 2 _ _ rfl) (fin2 l _ 2))
      simp only [allP, h1]; simp [hw, hc0]; omega
    · by_cases hc1 : cnt 1 l < 1
      · have hp : makeS l 6 = (l, 105) := makeS_lacks h1 hn (lacks2 (by exact hc1))
        unfold MkW; rw [hp]
        refine mk_sc (works_of (r := [2]) tabM_ok (congrFun (congrFun mk6b1 l) c) ?_ (by exact nd1 2 (by omega)) (val2 l 2 _ _ rfl) (fin2 l _ 2))
        simp only [allP, h1]; simp [hw, hc0, hc1]; omega
      · have hl : lacks l (recT (Int.toNat 6)).1 = false := (nolack2 (by exact hc0) (by exact hc1))
        by_cases hr : 0 < (putS (spendS (spendS l 2 4).1 1 1).1 7 1).2
        · have hp : makeS l 6 = (l, 104) := makeS_room h1 hn hl hr
          unfold MkW; rw [hp]
          refine mk_sc (works_of (r := [2]) tabM_ok (congrFun (congrFun mk6c l) c) ?_ (by exact nd1 2 (by omega)) (val2 l 2 _ _ rfl) (fin2 l _ 2))
          simp only [allP, h1]; simp [i64, hw, hc0, hc1, hr, w1, l1, w2, l2]; omega
        · have hp : makeS l 6 = ((putS (spendS (spendS l 2 4).1 1 1).1 7 1).1, 0) := makeS_made h1 hn hl hr
          unfold MkW; rw [hp]
          refine mk_sc (works_of (r := [17]) tabM_ok (congrFun (congrFun mk6d l) c) ?_ (by exact nd1 17 (by omega)) (val2 l 17 _ _ (by simp [spendS_len])) (fin2 l _ 17))
          simp only [allP, h1]; simp [i64, hw, hc0, hc1, hr, w1, l1, w2, l2]; omega
  · have h1 : l.all okR = false := by simpa using h1
    have hp : makeS l 6 = (l, 103) := makeS_bad h1
    unfold MkW; rw [hp]
    refine mk_sc (works_of (r := [2]) tabM_ok (congrFun (congrFun mk6a l) c) ?_ (by exact nd1 2 (by omega)) (val2 l 2 _ _ rfl) (fin2 l _ 2))
    simp only [allP, h1]; simp [hw]; omega
theorem mk_range {n : Int} (h : ¬ (n < 0 ∨ 7 ≤ n)) : n = 0 ∨ n = 1 ∨ n = 2 ∨ n = 3 ∨ n = 4 ∨ n = 5 ∨ n = 6 := by omega
theorem make_works (l : Rows2) (c : Nat) (n : Int) (hw : wfL l) : MkW l c n := by
  have hlen := hw.2
  by_cases hn : n < 0 ∨ 7 ≤ n
  · by_cases h1 : l.all okR = true
    · have hp : makeS l n = (l, 112) := makeS_none h1 hn
      unfold MkW; rw [hp]
      by_cases h0 : n < 0
      · refine works_of (r := [2]) tabM_ok (congrFun (congrFun (congrFun mkNb l) c) n) ?_ (by exact nd1 2 (by omega)) (val2 l 2 _ _ rfl) (fin2 l _ 2)
        simp only [allP, h1]; simp [hw, h0]; omega
      · refine works_of (r := [2]) tabM_ok (congrFun (congrFun (congrFun mkNd l) c) n) ?_ (by exact nd1 2 (by omega)) (val2 l 2 _ _ rfl) (fin2 l _ 2)
        simp only [allP, h1]; simp [hw, h0]; omega
    · have h1 : l.all okR = false := by simpa using h1
      have hp : makeS l n = (l, 103) := makeS_bad h1
      unfold MkW; rw [hp]
      by_cases h0 : n < 0
      · refine works_of (r := [2]) tabM_ok (congrFun (congrFun (congrFun mkNa l) c) n) ?_ (by exact nd1 2 (by omega)) (val2 l 2 _ _ rfl) (fin2 l _ 2)
        simp only [allP, h1]; simp [hw, h0]; omega
      · refine works_of (r := [2]) tabM_ok (congrFun (congrFun (congrFun mkNc l) c) n) ?_ (by exact nd1 2 (by omega)) (val2 l 2 _ _ rfl) (fin2 l _ 2)
        simp only [allP, h1]; simp [hw, h0]; omega
  · rcases mk_range hn with rfl | rfl | rfl | rfl | rfl | rfl | rfl
    · exact mkw0 l c hw
    · exact mkw1 l c hw
    · exact mkw2 l c hw
    · exact mkw3 l c hw
    · exact mkw4 l c hw
    · exact mkw5 l c hw
    · exact mkw6 l c hw
theorem make_tab : TabOk Try.prog 10 (loc w1 (one2n gMake)) := one2n_ok fun l c i v bs ob hg hob hw => by
  unfold gMake at hg
  injection hg with hg; injection hg with e1 e2; injection e2 with e2 e3
  subst e1; subst e2; subst e3
  exact make_works l c i hw
end Go.Proofs.Ytibknlliackohaa
