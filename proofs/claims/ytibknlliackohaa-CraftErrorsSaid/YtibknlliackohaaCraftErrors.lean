/- CraftErrors is true of any bag and any number, and leaves its arguments as they were. -/
import Derived.Test.YtibknlliackohaaCrF
namespace Go.Proofs.Ytibknlliackohaa
open Go.ChangeShapes Go.WideShapes Go.ChangeAt Go.RowKit Go.Sx
theorem putS_nn (l : Rows2) (x n : Int) : 0 ≤ (putS l x n).2 := by
  unfold putS
  by_cases h1 : n < 1
  · rw [if_pos h1]; exact Int.le_refl _
  · rw [if_neg h1]
    split
    · show 0 ≤ n; omega
    · have hA := fill_left (p := pA x) (x := x) (size := stackT x) (l := l) (n := n) (by omega)
      exact (fill_left (p := pB) (x := x) (size := stackT x) (l := (fill (pA x) x (stackT x) l n).1) hA.1).1
theorem err0 {l : Rows2} (hw : wfL l) (hl : l.length ≤ 300) : ∃ h ob, lwE [sl2 0 l, sc 0] [ro l] h = some ob ∧ allP ob := by
  have hn : ¬ ((0 : Int) < 0 ∨ 7 ≤ (0 : Int)) := by decide
  by_cases h1 : l.all okR = true
  · have w1 := spendS_wf (x := 3) (n := 1) hw
    have l1 := spendS_len l 3 1
    have cw : ∀ x, cntW x l 0 = cnt x l := fun x => by rw [cntW_right x h1 (Int.le_refl _) (by omega), Int.zero_add]
    by_cases hc0 : cnt 3 l < 1
    · have hp : makeS l 0 = (l, 105) := makeS_lacks h1 hn (by show (decide _ || _) = true; rw [decide_eq_true (by exact hc0)]; rfl)
      refine ⟨_, _, congrFun erb0 l, ?_⟩
      simp only [allP, h1, hp, cw]; simp [hw, hc0]; omega
    · have hlk : lacks l (recT (Int.toNat 0)).1 = false := (nolack1 (by exact hc0))
      have hnn := putS_nn (spendS l 3 1).1 5 4
      by_cases hr : 0 < (putS (spendS l 3 1).1 5 4).2
      · have hp : makeS l 0 = (l, 104) := makeS_room h1 hn hlk hr
        have hz : ¬ (putS (spendS l 3 1).1 5 4).2 = 0 := by omega
        refine ⟨_, _, congrFun erc0 l, ?_⟩
        simp only [allP, h1, hp, cw]; simp [i64, hw, hc0, hr, hz, w1, l1]; omega
      · have hp : makeS l 0 = ((putS (spendS l 3 1).1 5 4).1, 0) := makeS_made h1 hn hlk hr
        have hz : (putS (spendS l 3 1).1 5 4).2 = 0 := by omega
        refine ⟨_, _, congrFun erc0 l, ?_⟩
        simp only [allP, h1, hp, cw, hz]; simp [i64, hw, hc0, w1, l1]; omega
  · have h1 : l.all okR = false := by simpa using h1
    have hp : makeS l 0 = (l, 103) := makeS_bad h1
    refine ⟨_, _, congrFun era0 l, ?_⟩
    simp only [allP, h1, hp]; simp [hw]; omega
theorem err1 {l : Rows2} (hw : wfL l) (hl : l.length ≤ 300) : ∃ h ob, lwE [sl2 0 l, sc 1] [ro l] h = some ob ∧ allP ob := by
  have hn : ¬ ((1 : Int) < 0 ∨ 7 ≤ (1 : Int)) := by decide
  by_cases h1 : l.all okR = true
  · have w1 := spendS_wf (x := 5) (n := 2) hw
    have l1 := spendS_len l 5 2
    have cw : ∀ x, cntW x l 0 = cnt x l := fun x => by rw [cntW_right x h1 (Int.le_refl _) (by omega), Int.zero_add]
    by_cases hc0 : cnt 5 l < 2
    · have hp : makeS l 1 = (l, 105) := makeS_lacks h1 hn (by show (decide _ || _) = true; rw [decide_eq_true (by exact hc0)]; rfl)
      refine ⟨_, _, congrFun erb1 l, ?_⟩
      simp only [allP, h1, hp, cw]; simp [hw, hc0]; omega
    · have hlk : lacks l (recT (Int.toNat 1)).1 = false := (nolack1 (by exact hc0))
      have hnn := putS_nn (spendS l 5 2).1 6 4
      by_cases hr : 0 < (putS (spendS l 5 2).1 6 4).2
      · have hp : makeS l 1 = (l, 104) := makeS_room h1 hn hlk hr
        have hz : ¬ (putS (spendS l 5 2).1 6 4).2 = 0 := by omega
        refine ⟨_, _, congrFun erc1 l, ?_⟩
        simp only [allP, h1, hp, cw]; simp [i64, hw, hc0, hr, hz, w1, l1]; omega
      · have hp : makeS l 1 = ((putS (spendS l 5 2).1 6 4).1, 0) := makeS_made h1 hn hlk hr
        have hz : (putS (spendS l 5 2).1 6 4).2 = 0 := by omega
        refine ⟨_, _, congrFun erc1 l, ?_⟩
        simp only [allP, h1, hp, cw, hz]; simp [i64, hw, hc0, w1, l1]; omega
  · have h1 : l.all okR = false := by simpa using h1
    have hp : makeS l 1 = (l, 103) := makeS_bad h1
    refine ⟨_, _, congrFun era1 l, ?_⟩
    simp only [allP, h1, hp]; simp [hw]; omega
theorem err2 {l : Rows2} (hw : wfL l) (hl : l.length ≤ 300) : ∃ h ob, lwE [sl2 0 l, sc 2] [ro l] h = some ob ∧ allP ob := by
  have hn : ¬ ((2 : Int) < 0 ∨ 7 ≤ (2 : Int)) := by decide
  by_cases h1 : l.all okR = true
  · have w1 := spendS_wf (x := 5) (n := 8) hw
    have l1 := spendS_len l 5 8
    have cw : ∀ x, cntW x l 0 = cnt x l := fun x => by rw [cntW_right x h1 (Int.le_refl _) (by omega), Int.zero_add]
    by_cases hc0 : cnt 5 l < 8
    · have hp : makeS l 2 = (l, 105) := makeS_lacks h1 hn (by show (decide _ || _) = true; rw [decide_eq_true (by exact hc0)]; rfl)
      refine ⟨_, _, congrFun erb2 l, ?_⟩
      simp only [allP, h1, hp, cw]; simp [hw, hc0]; omega
    · have hlk : lacks l (recT (Int.toNat 2)).1 = false := (nolack1 (by exact hc0))
      have hnn := putS_nn (spendS l 5 8).1 9 1
      by_cases hr : 0 < (putS (spendS l 5 8).1 9 1).2
      · have hp : makeS l 2 = (l, 104) := makeS_room h1 hn hlk hr
        have hz : ¬ (putS (spendS l 5 8).1 9 1).2 = 0 := by omega
        refine ⟨_, _, congrFun erc2 l, ?_⟩
        simp only [allP, h1, hp, cw]; simp [i64, hw, hc0, hr, hz, w1, l1]; omega
      · have hp : makeS l 2 = ((putS (spendS l 5 8).1 9 1).1, 0) := makeS_made h1 hn hlk hr
        have hz : (putS (spendS l 5 8).1 9 1).2 = 0 := by omega
        refine ⟨_, _, congrFun erc2 l, ?_⟩
        simp only [allP, h1, hp, cw, hz]; simp [i64, hw, hc0, w1, l1]; omega
  · have h1 : l.all okR = false := by simpa using h1
    have hp : makeS l 2 = (l, 103) := makeS_bad h1
    refine ⟨_, _, congrFun era2 l, ?_⟩
    simp only [allP, h1, hp]; simp [hw]; omega
theorem err3 {l : Rows2} (hw : wfL l) (hl : l.length ≤ 300) : ∃ h ob, lwE [sl2 0 l, sc 3] [ro l] h = some ob ∧ allP ob := by
  have hn : ¬ ((3 : Int) < 0 ∨ 7 ≤ (3 : Int)) := by decide
  by_cases h1 : l.all okR = true
  · have w1 := spendS_wf (x := 6) (n := 1) hw
    have l1 := spendS_len l 6 1
    have w2 := spendS_wf (x := 7) (n := 1) w1
    have l2 := spendS_len (spendS l 6 1).1 7 1
    have cw : ∀ x, cntW x l 0 = cnt x l := fun x => by rw [cntW_right x h1 (Int.le_refl _) (by omega), Int.zero_add]
    by_cases hc0 : cnt 6 l < 1
    · have hp : makeS l 3 = (l, 105) := makeS_lacks h1 hn (by show (decide _ || _) = true; rw [decide_eq_true (by exact hc0)]; rfl)
      refine ⟨_, _, congrFun erbt3 l, ?_⟩
      simp only [allP, h1, hp, cw]; simp [hw, hc0]; omega
    · by_cases hc1 : cnt 7 l < 1
      · have hp : makeS l 3 = (l, 105) := makeS_lacks h1 hn (lacks2 (by exact hc1))
        refine ⟨_, _, congrFun erbf3 l, ?_⟩
        simp only [allP, h1, hp, cw]; simp [hw, hc0, hc1]; omega
      · have hlk : lacks l (recT (Int.toNat 3)).1 = false := (nolack2 (by exact hc0) (by exact hc1))
        have hnn := putS_nn (spendS (spendS l 6 1).1 7 1).1 10 4
        by_cases hr : 0 < (putS (spendS (spendS l 6 1).1 7 1).1 10 4).2
        · have hp : makeS l 3 = (l, 104) := makeS_room h1 hn hlk hr
          have hz : ¬ (putS (spendS (spendS l 6 1).1 7 1).1 10 4).2 = 0 := by omega
          refine ⟨_, _, congrFun erc3 l, ?_⟩
          simp only [allP, h1, hp, cw]; simp [i64, hw, hc0, hc1, hr, hz, w1, l1, w2, l2]; omega
        · have hp : makeS l 3 = ((putS (spendS (spendS l 6 1).1 7 1).1 10 4).1, 0) := makeS_made h1 hn hlk hr
          have hz : (putS (spendS (spendS l 6 1).1 7 1).1 10 4).2 = 0 := by omega
          refine ⟨_, _, congrFun erc3 l, ?_⟩
          simp only [allP, h1, hp, cw, hz]; simp [i64, hw, hc0, hc1, w1, l1, w2, l2]; omega
  · have h1 : l.all okR = false := by simpa using h1
    have hp : makeS l 3 = (l, 103) := makeS_bad h1
    by_cases hc : cntW 6 l 0 < 1
    · refine ⟨_, _, congrFun erat3 l, ?_⟩
      simp only [allP, h1, hp]; simp [hw, hc]; omega
    · refine ⟨_, _, congrFun eraf3 l, ?_⟩
      simp only [allP, h1, hp]; simp [hw, hc]; omega
theorem err4 {l : Rows2} (hw : wfL l) (hl : l.length ≤ 300) : ∃ h ob, lwE [sl2 0 l, sc 4] [ro l] h = some ob ∧ allP ob := by
  have hn : ¬ ((4 : Int) < 0 ∨ 7 ≤ (4 : Int)) := by decide
  by_cases h1 : l.all okR = true
  · have w1 := spendS_wf (x := 7) (n := 1) hw
    have l1 := spendS_len l 7 1
    have w2 := spendS_wf (x := 3) (n := 1) w1
    have l2 := spendS_len (spendS l 7 1).1 3 1
    have cw : ∀ x, cntW x l 0 = cnt x l := fun x => by rw [cntW_right x h1 (Int.le_refl _) (by omega), Int.zero_add]
    by_cases hc0 : cnt 7 l < 1
    · have hp : makeS l 4 = (l, 105) := makeS_lacks h1 hn (by show (decide _ || _) = true; rw [decide_eq_true (by exact hc0)]; rfl)
      refine ⟨_, _, congrFun erbt4 l, ?_⟩
      simp only [allP, h1, hp, cw]; simp [hw, hc0]; omega
    · by_cases hc1 : cnt 3 l < 1
      · have hp : makeS l 4 = (l, 105) := makeS_lacks h1 hn (lacks2 (by exact hc1))
        refine ⟨_, _, congrFun erbf4 l, ?_⟩
        simp only [allP, h1, hp, cw]; simp [hw, hc0, hc1]; omega
      · have hlk : lacks l (recT (Int.toNat 4)).1 = false := (nolack2 (by exact hc0) (by exact hc1))
        have hnn := putS_nn (spendS (spendS l 7 1).1 3 1).1 8 1
        by_cases hr : 0 < (putS (spendS (spendS l 7 1).1 3 1).1 8 1).2
        · have hp : makeS l 4 = (l, 104) := makeS_room h1 hn hlk hr
          have hz : ¬ (putS (spendS (spendS l 7 1).1 3 1).1 8 1).2 = 0 := by omega
          refine ⟨_, _, congrFun erc4 l, ?_⟩
          simp only [allP, h1, hp, cw]; simp [i64, hw, hc0, hc1, hr, hz, w1, l1, w2, l2]; omega
        · have hp : makeS l 4 = ((putS (spendS (spendS l 7 1).1 3 1).1 8 1).1, 0) := makeS_made h1 hn hlk hr
          have hz : (putS (spendS (spendS l 7 1).1 3 1).1 8 1).2 = 0 := by omega
          refine ⟨_, _, congrFun erc4 l, ?_⟩
          simp only [allP, h1, hp, cw, hz]; simp [i64, hw, hc0, hc1, w1, l1, w2, l2]; omega
  · have h1 : l.all okR = false := by simpa using h1
    have hp : makeS l 4 = (l, 103) := makeS_bad h1
    by_cases hc : cntW 7 l 0 < 1
    · refine ⟨_, _, congrFun erat4 l, ?_⟩
      simp only [allP, h1, hp]; simp [hw, hc]; omega
    · refine ⟨_, _, congrFun eraf4 l, ?_⟩
      simp only [allP, h1, hp]; simp [hw, hc]; omega
theorem err5 {l : Rows2} (hw : wfL l) (hl : l.length ≤ 300) : ∃ h ob, lwE [sl2 0 l, sc 5] [ro l] h = some ob ∧ allP ob := by
  have hn : ¬ ((5 : Int) < 0 ∨ 7 ≤ (5 : Int)) := by decide
  by_cases h1 : l.all okR = true
  · have w1 := spendS_wf (x := 6) (n := 2) hw
    have l1 := spendS_len l 6 2
    have w2 := spendS_wf (x := 8) (n := 3) w1
    have l2 := spendS_len (spendS l 6 2).1 8 3
    have cw : ∀ x, cntW x l 0 = cnt x l := fun x => by rw [cntW_right x h1 (Int.le_refl _) (by omega), Int.zero_add]
    by_cases hc0 : cnt 6 l < 2
    · have hp : makeS l 5 = (l, 105) := makeS_lacks h1 hn (by show (decide _ || _) = true; rw [decide_eq_true (by exact hc0)]; rfl)
      refine ⟨_, _, congrFun erbt5 l, ?_⟩
      simp only [allP, h1, hp, cw]; simp [hw, hc0]; omega
    · by_cases hc1 : cnt 8 l < 3
      · have hp : makeS l 5 = (l, 105) := makeS_lacks h1 hn (lacks2 (by exact hc1))
        refine ⟨_, _, congrFun erbf5 l, ?_⟩
        simp only [allP, h1, hp, cw]; simp [hw, hc0, hc1]; omega
      · have hlk : lacks l (recT (Int.toNat 5)).1 = false := (nolack2 (by exact hc0) (by exact hc1))
        have hnn := putS_nn (spendS (spendS l 6 2).1 8 3).1 12 1
        by_cases hr : 0 < (putS (spendS (spendS l 6 2).1 8 3).1 12 1).2
        · have hp : makeS l 5 = (l, 104) := makeS_room h1 hn hlk hr
          have hz : ¬ (putS (spendS (spendS l 6 2).1 8 3).1 12 1).2 = 0 := by omega
          refine ⟨_, _, congrFun erc5 l, ?_⟩
          simp only [allP, h1, hp, cw]; simp [i64, hw, hc0, hc1, hr, hz, w1, l1, w2, l2]; omega
        · have hp : makeS l 5 = ((putS (spendS (spendS l 6 2).1 8 3).1 12 1).1, 0) := makeS_made h1 hn hlk hr
          have hz : (putS (spendS (spendS l 6 2).1 8 3).1 12 1).2 = 0 := by omega
          refine ⟨_, _, congrFun erc5 l, ?_⟩
          simp only [allP, h1, hp, cw, hz]; simp [i64, hw, hc0, hc1, w1, l1, w2, l2]; omega
  · have h1 : l.all okR = false := by simpa using h1
    have hp : makeS l 5 = (l, 103) := makeS_bad h1
    by_cases hc : cntW 6 l 0 < 2
    · refine ⟨_, _, congrFun erat5 l, ?_⟩
      simp only [allP, h1, hp]; simp [hw, hc]; omega
    · refine ⟨_, _, congrFun eraf5 l, ?_⟩
      simp only [allP, h1, hp]; simp [hw, hc]; omega
theorem err6 {l : Rows2} (hw : wfL l) (hl : l.length ≤ 300) : ∃ h ob, lwE [sl2 0 l, sc 6] [ro l] h = some ob ∧ allP ob := by
  have hn : ¬ ((6 : Int) < 0 ∨ 7 ≤ (6 : Int)) := by decide
  by_cases h1 : l.all okR = true
  · have w1 := spendS_wf (x := 2) (n := 4) hw
    have l1 := spendS_len l 2 4
    have w2 := spendS_wf (x := 1) (n := 1) w1
    have l2 := spendS_len (spendS l 2 4).1 1 1
    have cw : ∀ x, cntW x l 0 = cnt x l := fun x => by rw [cntW_right x h1 (Int.le_refl _) (by omega), Int.zero_add]
    by_cases hc0 : cnt 2 l < 4
    · have hp : makeS l 6 = (l, 105) := makeS_lacks h1 hn (by show (decide _ || _) = true; rw [decide_eq_true (by exact hc0)]; rfl)
      refine ⟨_, _, congrFun erbt6 l, ?_⟩
      simp only [allP, h1, hp, cw]; simp [hw, hc0]; omega
    · by_cases hc1 : cnt 1 l < 1
      · have hp : makeS l 6 = (l, 105) := makeS_lacks h1 hn (lacks2 (by exact hc1))
        refine ⟨_, _, congrFun erbf6 l, ?_⟩
        simp only [allP, h1, hp, cw]; simp [hw, hc0, hc1]; omega
      · have hlk : lacks l (recT (Int.toNat 6)).1 = false := (nolack2 (by exact hc0) (by exact hc1))
        have hnn := putS_nn (spendS (spendS l 2 4).1 1 1).1 7 1
        by_cases hr : 0 < (putS (spendS (spendS l 2 4).1 1 1).1 7 1).2
        · have hp : makeS l 6 = (l, 104) := makeS_room h1 hn hlk hr
          have hz : ¬ (putS (spendS (spendS l 2 4).1 1 1).1 7 1).2 = 0 := by omega
          refine ⟨_, _, congrFun erc6 l, ?_⟩
          simp only [allP, h1, hp, cw]; simp [i64, hw, hc0, hc1, hr, hz, w1, l1, w2, l2]; omega
        · have hp : makeS l 6 = ((putS (spendS (spendS l 2 4).1 1 1).1 7 1).1, 0) := makeS_made h1 hn hlk hr
          have hz : (putS (spendS (spendS l 2 4).1 1 1).1 7 1).2 = 0 := by omega
          refine ⟨_, _, congrFun erc6 l, ?_⟩
          simp only [allP, h1, hp, cw, hz]; simp [i64, hw, hc0, hc1, w1, l1, w2, l2]; omega
  · have h1 : l.all okR = false := by simpa using h1
    have hp : makeS l 6 = (l, 103) := makeS_bad h1
    by_cases hc : cntW 2 l 0 < 4
    · refine ⟨_, _, congrFun erat6 l, ?_⟩
      simp only [allP, h1, hp]; simp [hw, hc]; omega
    · refine ⟨_, _, congrFun eraf6 l, ?_⟩
      simp only [allP, h1, hp]; simp [hw, hc]; omega
theorem craftErrors_calls (l : Rows2) (e : E) (v : Value) (n : Int) {W0 : World} (r : readOnly W0 (e, ro l)) (w : ∀ r ∈ l, wfRow [.u8, .i64] r) (_m : l.length ≤ maxLen) (u : ∀ (ρ : Env) (b : Nat), ρ[b]? = some e → (V.v (.one (.slice b (.c 0) 2 (.s l.length) (.s l.length)))).rel ρ v)
    (_ : (Lit.int .i64 n).wf = true) (W : World) (hW : W0 = W := by rfl) : Calls Try.prog 5 #[v, .int .i64 n] W fun e w' => e = .returned (.bool true) ∧ Below W.heap.size W w' := by
  subst hW
  have hm := mem_args (W := W0) [(e, ro l)] (by intro y hy; simp at hy; subst hy; exact r)
  have hu : relVs ([(e, ro l)].map (·.1)) [sl2 0 l, si .i64 n] [v, .int .i64 n] := ⟨_, _, rfl, rel1 u (W0 := W0), _, _, rfl, ⟨rfl, rfl⟩, rfl⟩
  have app : ∀ {f g : Rows2 → Int → Option (List Prop)}, f = g → f l n = g l n := fun h => by rw [h]
  by_cases hl : l.length ≤ 300
  · have hw := wfL_of w (by omega)
    by_cases hn : n < 0 ∨ 7 ≤ n
    · by_cases hr : l.all okR = true
      · have e1 := makeS_none hr hn
        by_cases h0 : n < 0
        · refine law_obs tabE_ok (app er3) ?_ hm hu
          simp only [allP, hr, e1]; simp [hw, h0]; omega
        · refine law_obs tabE_ok (app er4) ?_ hm hu
          simp only [allP, hr, e1]; simp [hw, h0]; omega
      · have hr' : l.all okR = false := by simpa using hr
        have e1 := makeS_bad (n := n) hr'
        by_cases h0 : n < 0
        · refine law_obs tabE_ok (app er1) ?_ hm hu
          simp only [allP, hr', e1]; simp [hw, h0]; omega
        · refine law_obs tabE_ok (app er2) ?_ hm hu
          simp only [allP, hr', e1]; simp [hw, h0]; omega
    · rcases mk_range hn with rfl | rfl | rfl | rfl | rfl | rfl | rfl
      · obtain ⟨h, ob, q, hob⟩ := err0 hw hl
        exact law_obs tabE_ok q hob hm hu
      · obtain ⟨h, ob, q, hob⟩ := err1 hw hl
        exact law_obs tabE_ok q hob hm hu
      · obtain ⟨h, ob, q, hob⟩ := err2 hw hl
        exact law_obs tabE_ok q hob hm hu
      · obtain ⟨h, ob, q, hob⟩ := err3 hw hl
        exact law_obs tabE_ok q hob hm hu
      · obtain ⟨h, ob, q, hob⟩ := err4 hw hl
        exact law_obs tabE_ok q hob hm hu
      · obtain ⟨h, ob, q, hob⟩ := err5 hw hl
        exact law_obs tabE_ok q hob hm hu
      · obtain ⟨h, ob, q, hob⟩ := err6 hw hl
        exact law_obs tabE_ok q hob hm hu
  · refine law_obs tabE_ok (app er0) ?_ hm hu
    simp [allP]; omega

set_option maxRecDepth 100000 in
theorem craftErrors_lifted (os : Os) (started : os.Started) (H : Type) (enc : TypeId × Value → H) :
    ReturnsInHanded {} Try.checked os 5 .any (Rows.craftErrorsSpec.pre6 enc Try.prog Try.f5 Rows.craftErrorsRow.domain false) (Rows.craftErrorsSpec.post enc Try.prog Try.f5 false true false false) := by
  refine returnsInHanded_of_change (C := Try.checked) own started (by kernel_rfl) Try.func5
    (ChangeSpec.witness6 (enc := enc) (C := Try.checked) false ⟨#[], #[.slice none 0 0, .int .i64 0], []⟩ 8 (by kernel_rfl) (by kernel_rfl) (by kernel_rfl) (by kernel_rfl)) ?_
  intro W base args ds gs before hval0 hW hcnd _
  have hval : ∀ (j : Nat) t v, Try.f5.params[j]? = some t → args[j]? = some v → Value.okWide Try.prog W .any base t v := hval0
  have hW' := hW
  obtain ⟨p, q, hA0, hV, hbef, hfz, hnd⟩ := hW
  have hA : DataW.TrodAll enc Try.prog W 0 (fun _ => true) true Try.f5.params.toList args.toList ds p := hA0
  rw [Try.params5] at hA hval
  obtain ⟨v0, v1, d0, d1, p0, p1, rfl, rfl, hp, h0, h1⟩ := trodAll_two hA
  obtain ⟨a0, e0, r0, w0, m0, u0⟩ := one_rows (ks := [.u8, .i64]) (d := 20) (by kernel_rfl) (hval 0 22 v0 rfl rfl) h0
  obtain ⟨a1, rfl, rfl, _, w1⟩ := open_int Try.underlying3 (hval 1 3 v1 rfl rfl) h1
  refine (craftErrors_calls a0 e0 v0 a1 r0 w0 m0 u0 w1 W).mono fun e W' ⟨he, hb⟩ => ?_
  subst he
  exact ⟨_, rfl, post_law laidOut (by rw [Try.params5]; decide +kernel) rfl rfl (by kernel_rfl) Try.underlying4 hW' hb⟩

theorem craftErrors_holds : Rows.CraftErrorsSaid :=
  OpenClaim.holds_of_wide 5 Try.f5 rfl rfl rfl rfl rfl rfl rfl ⟨rfl, rfl, rfl, rfl, rfl⟩ rfl rfl rfl rfl rfl (by kernel_rfl) Try.func5 (by kernel_rfl)
    (of_decide_eq_true (by kernel_rfl)) (by unfold Func.isWrapper; first | (rw [if_pos (by decide +kernel)]; kernel_rfl) | (rw [if_neg (by decide +kernel)]; exact ⟨rfl, rfl⟩))
    (fun os started H enc _ => craftErrors_lifted os started H enc)
#print axioms craftErrors_holds

end Go.Proofs.Ytibknlliackohaa
