/- CraftTrades is true of any bag and any number, and leaves its arguments as they were. -/
import Derived.Test.YtibknlliackohaaCrU
namespace Go.Proofs.Ytibknlliackohaa
open Go.ChangeShapes Go.WideShapes Go.ChangeAt Go.RowKit Go.Sx
/-- by how much a recipe changes an item's count -/
def dl (n : Nat) (k : Int) : Int := (if k = (recT n).2.1 then (recT n).2.2 else 0) - need k (recT n).1
theorem trade0 {l : Rows2} (hw : wfL l) (hl : l.length ≤ 300) (hr : l.all okR = true) (h0 : (makeS l 0).2 = 0) : ∃ ob, lw 4 [sl2 0 l, sc 0] [ro l] [false, true, false, false, true, false, false, false, false, false, false, false, false, false, false, false, false, false, false] = some ob ∧ allP ob := by
  obtain ⟨hmr, hwm, hlm, _, hs⟩ := make_spec (n := 0) hw hr
  obtain ⟨_, hc⟩ := hs h0
  have hml : l.length = (makeS l 0).1.length := hlm.symm
  have C : ∀ k, cnt k (makeS l 0).1 = cnt k l + dl 0 k := fun k => by rw [hc k]; show _ = _ + ((if k = (recT 0).2.1 then (recT 0).2.2 else 0) - need k (recT 0).1); show cnt k l - need k (recT 0).1 + (if k = (recT 0).2.1 then (recT 0).2.2 else 0) = _; omega
  have lo : ∀ (i d : Int), -10 ≤ d → d ≤ 10 → -9223372036854775808 ≤ cnt i l + d ∧ cnt i l + d ≤ 9223372036854775807 := fun i d h1 h2 => by
    have := cnt_bd (x := i) hw hr; omega
  refine ⟨_, congrFun ctA0 l, ?_⟩
  exact ⟨nd (C 12), lo _ _ (by decide) (by decide), rfl, hw, ⟨by decide, by decide⟩, hr, hml, hwm, ⟨by decide, by decide⟩, hmr, nd (C 11), lo _ _ (by decide) (by decide), rfl, hw, ⟨by decide, by decide⟩, hr, hml, hwm, ⟨by decide, by decide⟩, hmr, nd (C 10), lo _ _ (by decide) (by decide), rfl, hw, ⟨by decide, by decide⟩, hr, hml, hwm, ⟨by decide, by decide⟩, hmr, nd (C 9), lo _ _ (by decide) (by decide), rfl, hw, ⟨by decide, by decide⟩, hr, hml, hwm, ⟨by decide, by decide⟩, hmr, nd (C 8), lo _ _ (by decide) (by decide), rfl, hw, ⟨by decide, by decide⟩, hr, hml, hwm, ⟨by decide, by decide⟩, hmr, nd (C 7), lo _ _ (by decide) (by decide), rfl, hw, ⟨by decide, by decide⟩, hr, hml, hwm, ⟨by decide, by decide⟩, hmr, nd (C 6), lo _ _ (by decide) (by decide), rfl, hw, ⟨by decide, by decide⟩, hr, hml, hwm, ⟨by decide, by decide⟩, hmr, nd (C 5), lo _ _ (by decide) (by decide), rfl, hw, ⟨by decide, by decide⟩, hr, hml, hwm, ⟨by decide, by decide⟩, hmr, nd (C 4), lo _ _ (by decide) (by decide), rfl, hw, ⟨by decide, by decide⟩, hr, hml, hwm, ⟨by decide, by decide⟩, hmr, nd (C 3), lo _ _ (by decide) (by decide), rfl, hw, ⟨by decide, by decide⟩, hr, hml, hwm, ⟨by decide, by decide⟩, hmr, nd (C 2), lo _ _ (by decide) (by decide), rfl, hw, ⟨by decide, by decide⟩, hr, hml, hwm, ⟨by decide, by decide⟩, hmr, nd (C 1), lo _ _ (by decide) (by decide), rfl, hw, ⟨by decide, by decide⟩, hr, hml, hwm, ⟨by decide, by decide⟩, hmr, nd (C 0), lo _ _ (by decide) (by decide), rfl, hw, ⟨by decide, by decide⟩, hr, hml, hwm, ⟨by decide, by decide⟩, hmr, by rw [hmr]; rfl, hml, hwm, decide_eq_true rfl, nd h0, rfl, hw, by rw [hr]; rfl, rfl, hw, decide_eq_true rfl, decide_eq_false (by omega), trivial⟩
theorem trade1 {l : Rows2} (hw : wfL l) (hl : l.length ≤ 300) (hr : l.all okR = true) (h0 : (makeS l 1).2 = 0) : ∃ ob, lw 4 [sl2 0 l, sc 1] [ro l] [false, true, false, false, true, false, false, false, false, false, false, false, false, false, false, false, false, false, false] = some ob ∧ allP ob := by
  obtain ⟨hmr, hwm, hlm, _, hs⟩ := make_spec (n := 1) hw hr
  obtain ⟨_, hc⟩ := hs h0
  have hml : l.length = (makeS l 1).1.length := hlm.symm
  have C : ∀ k, cnt k (makeS l 1).1 = cnt k l + dl 1 k := fun k => by rw [hc k]; show _ = _ + ((if k = (recT 1).2.1 then (recT 1).2.2 else 0) - need k (recT 1).1); show cnt k l - need k (recT 1).1 + (if k = (recT 1).2.1 then (recT 1).2.2 else 0) = _; omega
  have lo : ∀ (i d : Int), -10 ≤ d → d ≤ 10 → -9223372036854775808 ≤ cnt i l + d ∧ cnt i l + d ≤ 9223372036854775807 := fun i d h1 h2 => by
    have := cnt_bd (x := i) hw hr; omega
  refine ⟨_, congrFun ctA1 l, ?_⟩
  exact ⟨nd (C 12), lo _ _ (by decide) (by decide), rfl, hw, ⟨by decide, by decide⟩, hr, hml, hwm, ⟨by decide, by decide⟩, hmr, nd (C 11), lo _ _ (by decide) (by decide), rfl, hw, ⟨by decide, by decide⟩, hr, hml, hwm, ⟨by decide, by decide⟩, hmr, nd (C 10), lo _ _ (by decide) (by decide), rfl, hw, ⟨by decide, by decide⟩, hr, hml, hwm, ⟨by decide, by decide⟩, hmr, nd (C 9), lo _ _ (by decide) (by decide), rfl, hw, ⟨by decide, by decide⟩, hr, hml, hwm, ⟨by decide, by decide⟩, hmr, nd (C 8), lo _ _ (by decide) (by decide), rfl, hw, ⟨by decide, by decide⟩, hr, hml, hwm, ⟨by decide, by decide⟩, hmr, nd (C 7), lo _ _ (by decide) (by decide), rfl, hw, ⟨by decide, by decide⟩, hr, hml, hwm, ⟨by decide, by decide⟩, hmr, nd (C 6), lo _ _ (by decide) (by decide), rfl, hw, ⟨by decide, by decide⟩, hr, hml, hwm, ⟨by decide, by decide⟩, hmr, nd (C 5), lo _ _ (by decide) (by decide), rfl, hw, ⟨by decide, by decide⟩, hr, hml, hwm, ⟨by decide, by decide⟩, hmr, nd (C 4), lo _ _ (by decide) (by decide), rfl, hw, ⟨by decide, by decide⟩, hr, hml, hwm, ⟨by decide, by decide⟩, hmr, nd (C 3), lo _ _ (by decide) (by decide), rfl, hw, ⟨by decide, by decide⟩, hr, hml, hwm, ⟨by decide, by decide⟩, hmr, nd (C 2), lo _ _ (by decide) (by decide), rfl, hw, ⟨by decide, by decide⟩, hr, hml, hwm, ⟨by decide, by decide⟩, hmr, nd (C 1), lo _ _ (by decide) (by decide), rfl, hw, ⟨by decide, by decide⟩, hr, hml, hwm, ⟨by decide, by decide⟩, hmr, nd (C 0), lo _ _ (by decide) (by decide), rfl, hw, ⟨by decide, by decide⟩, hr, hml, hwm, ⟨by decide, by decide⟩, hmr, by rw [hmr]; rfl, hml, hwm, decide_eq_true rfl, nd h0, rfl, hw, by rw [hr]; rfl, rfl, hw, decide_eq_true rfl, decide_eq_false (by omega), trivial⟩
theorem trade2 {l : Rows2} (hw : wfL l) (hl : l.length ≤ 300) (hr : l.all okR = true) (h0 : (makeS l 2).2 = 0) : ∃ ob, lw 4 [sl2 0 l, sc 2] [ro l] [false, true, false, false, true, false, false, false, false, false, false, false, false, false, false, false, false, false, false] = some ob ∧ allP ob := by
  obtain ⟨hmr, hwm, hlm, _, hs⟩ := make_spec (n := 2) hw hr
  obtain ⟨_, hc⟩ := hs h0
  have hml : l.length = (makeS l 2).1.length := hlm.symm
  have C : ∀ k, cnt k (makeS l 2).1 = cnt k l + dl 2 k := fun k => by rw [hc k]; show _ = _ + ((if k = (recT 2).2.1 then (recT 2).2.2 else 0) - need k (recT 2).1); show cnt k l - need k (recT 2).1 + (if k = (recT 2).2.1 then (recT 2).2.2 else 0) = _; omega
  have lo : ∀ (i d : Int), -10 ≤ d → d ≤ 10 → -9223372036854775808 ≤ cnt i l + d ∧ cnt i l + d ≤ 9223372036854775807 := fun i d h1 h2 => by
    have := cnt_bd (x := i) hw hr; omega
  refine ⟨_, congrFun ctA2 l, ?_⟩
  exact ⟨nd (C 12), lo _ _ (by decide) (by decide), rfl, hw, ⟨by decide, by decide⟩, hr, hml, hwm, ⟨by decide, by decide⟩, hmr, nd (C 11), lo _ _ (by decide) (by decide), rfl, hw, ⟨by decide, by decide⟩, hr, hml, hwm, ⟨by decide, by decide⟩, hmr, nd (C 10), lo _ _ (by decide) (by decide), rfl, hw, ⟨by decide, by decide⟩, hr, hml, hwm, ⟨by decide, by decide⟩, hmr, nd (C 9), lo _ _ (by decide) (by decide), rfl, hw, ⟨by decide, by decide⟩, hr, hml, hwm, ⟨by decide, by decide⟩, hmr, nd (C 8), lo _ _ (by decide) (by decide), rfl, hw, ⟨by decide, by decide⟩, hr, hml, hwm, ⟨by decide, by decide⟩, hmr, nd (C 7), lo _ _ (by decide) (by decide), rfl, hw, ⟨by decide, by decide⟩, hr, hml, hwm, ⟨by decide, by decide⟩, hmr, nd (C 6), lo _ _ (by decide) (by decide), rfl, hw, ⟨by decide, by decide⟩, hr, hml, hwm, ⟨by decide, by decide⟩, hmr, nd (C 5), lo _ _ (by decide) (by decide), rfl, hw, ⟨by decide, by decide⟩, hr, hml, hwm, ⟨by decide, by decide⟩, hmr, nd (C 4), lo _ _ (by decide) (by decide), rfl, hw, ⟨by decide, by decide⟩, hr, hml, hwm, ⟨by decide, by decide⟩, hmr, nd (C 3), lo _ _ (by decide) (by decide), rfl, hw, ⟨by decide, by decide⟩, hr, hml, hwm, ⟨by decide, by decide⟩, hmr, nd (C 2), lo _ _ (by decide) (by decide), rfl, hw, ⟨by decide, by decide⟩, hr, hml, hwm, ⟨by decide, by decide⟩, hmr, nd (C 1), lo _ _ (by decide) (by decide), rfl, hw, ⟨by decide, by decide⟩, hr, hml, hwm, ⟨by decide, by decide⟩, hmr, nd (C 0), lo _ _ (by decide) (by decide), rfl, hw, ⟨by decide, by decide⟩, hr, hml, hwm, ⟨by decide, by decide⟩, hmr, by rw [hmr]; rfl, hml, hwm, decide_eq_true rfl, nd h0, rfl, hw, by rw [hr]; rfl, rfl, hw, decide_eq_true rfl, decide_eq_false (by omega), trivial⟩
theorem trade3 {l : Rows2} (hw : wfL l) (hl : l.length ≤ 300) (hr : l.all okR = true) (h0 : (makeS l 3).2 = 0) : ∃ ob, lw 4 [sl2 0 l, sc 3] [ro l] [false, true, false, false, true, false, false, false, false, false, false, false, false, false, false, false, false, false, false] = some ob ∧ allP ob := by
  obtain ⟨hmr, hwm, hlm, _, hs⟩ := make_spec (n := 3) hw hr
  obtain ⟨_, hc⟩ := hs h0
  have hml : l.length = (makeS l 3).1.length := hlm.symm
  have C : ∀ k, cnt k (makeS l 3).1 = cnt k l + dl 3 k := fun k => by rw [hc k]; show _ = _ + ((if k = (recT 3).2.1 then (recT 3).2.2 else 0) - need k (recT 3).1); show cnt k l - need k (recT 3).1 + (if k = (recT 3).2.1 then (recT 3).2.2 else 0) = _; omega
  have lo : ∀ (i d : Int), -10 ≤ d → d ≤ 10 → -9223372036854775808 ≤ cnt i l + d ∧ cnt i l + d ≤ 9223372036854775807 := fun i d h1 h2 => by
    have := cnt_bd (x := i) hw hr; omega
  refine ⟨_, congrFun ctA3 l, ?_⟩
  exact ⟨nd (C 12), lo _ _ (by decide) (by decide), rfl, hw, ⟨by decide, by decide⟩, hr, hml, hwm, ⟨by decide, by decide⟩, hmr, nd (C 11), lo _ _ (by decide) (by decide), rfl, hw, ⟨by decide, by decide⟩, hr, hml, hwm, ⟨by decide, by decide⟩, hmr, nd (C 10), lo _ _ (by decide) (by decide), rfl, hw, ⟨by decide, by decide⟩, hr, hml, hwm, ⟨by decide, by decide⟩, hmr, nd (C 9), lo _ _ (by decide) (by decide), rfl, hw, ⟨by decide, by decide⟩, hr, hml, hwm, ⟨by decide, by decide⟩, hmr, nd (C 8), lo _ _ (by decide) (by decide), rfl, hw, ⟨by decide, by decide⟩, hr, hml, hwm, ⟨by decide, by decide⟩, hmr, nd (C 7), lo _ _ (by decide) (by decide), rfl, hw, ⟨by decide, by decide⟩, hr, hml, hwm, ⟨by decide, by decide⟩, hmr, nd (C 6), lo _ _ (by decide) (by decide), rfl, hw, ⟨by decide, by decide⟩, hr, hml, hwm, ⟨by decide, by decide⟩, hmr, nd (C 5), lo _ _ (by decide) (by decide), rfl, hw, ⟨by decide, by decide⟩, hr, hml, hwm, ⟨by decide, by decide⟩, hmr, nd (C 4), lo _ _ (by decide) (by decide), rfl, hw, ⟨by decide, by decide⟩, hr, hml, hwm, ⟨by decide, by decide⟩, hmr, nd (C 3), lo _ _ (by decide) (by decide), rfl, hw, ⟨by decide, by decide⟩, hr, hml, hwm, ⟨by decide, by decide⟩, hmr, nd (C 2), lo _ _ (by decide) (by decide), rfl, hw, ⟨by decide, by decide⟩, hr, hml, hwm, ⟨by decide, by decide⟩, hmr, nd (C 1), lo _ _ (by decide) (by decide), rfl, hw, ⟨by decide, by decide⟩, hr, hml, hwm, ⟨by decide, by decide⟩, hmr, nd (C 0), lo _ _ (by decide) (by decide), rfl, hw, ⟨by decide, by decide⟩, hr, hml, hwm, ⟨by decide, by decide⟩, hmr, by rw [hmr]; rfl, hml, hwm, decide_eq_true rfl, nd h0, rfl, hw, by rw [hr]; rfl, rfl, hw, decide_eq_true rfl, decide_eq_false (by omega), trivial⟩
theorem trade4 {l : Rows2} (hw : wfL l) (hl : l.length ≤ 300) (hr : l.all okR = true) (h0 : (makeS l 4).2 = 0) : ∃ ob, lw 4 [sl2 0 l, sc 4] [ro l] [false, true, false, false, true, false, false, false, false, false, false, false, false, false, false, false, false, false, false] = some ob ∧ allP ob := by
  obtain ⟨hmr, hwm, hlm, _, hs⟩ := make_spec (n := 4) hw hr
  obtain ⟨_, hc⟩ := hs h0
  have hml : l.length = (makeS l 4).1.length := hlm.symm
  have C : ∀ k, cnt k (makeS l 4).1 = cnt k l + dl 4 k := fun k => by rw [hc k]; show _ = _ + ((if k = (recT 4).2.1 then (recT 4).2.2 else 0) - need k (recT 4).1); show cnt k l - need k (recT 4).1 + (if k = (recT 4).2.1 then (recT 4).2.2 else 0) = _; omega
  have lo : ∀ (i d : Int), -10 ≤ d → d ≤ 10 → -9223372036854775808 ≤ cnt i l + d ∧ cnt i l + d ≤ 9223372036854775807 := fun i d h1 h2 => by
    have := cnt_bd (x := i) hw hr; omega
  refine ⟨_, congrFun ctA4 l, ?_⟩
  exact ⟨nd (C 12), lo _ _ (by decide) (by decide), rfl, hw, ⟨by decide, by decide⟩, hr, hml, hwm, ⟨by decide, by decide⟩, hmr, nd (C 11), lo _ _ (by decide) (by decide), rfl, hw, ⟨by decide, by decide⟩, hr, hml, hwm, ⟨by decide, by decide⟩, hmr, nd (C 10), lo _ _ (by decide) (by decide), rfl, hw, ⟨by decide, by decide⟩, hr, hml, hwm, ⟨by decide, by decide⟩, hmr, nd (C 9), lo _ _ (by decide) (by decide), rfl, hw, ⟨by decide, by decide⟩, hr, hml, hwm, ⟨by decide, by decide⟩, hmr, nd (C 8), lo _ _ (by decide) (by decide), rfl, hw, ⟨by decide, by decide⟩, hr, hml, hwm, ⟨by decide, by decide⟩, hmr, nd (C 7), lo _ _ (by decide) (by decide), rfl, hw, ⟨by decide, by decide⟩, hr, hml, hwm, ⟨by decide, by decide⟩, hmr, nd (C 6), lo _ _ (by decide) (by decide), rfl, hw, ⟨by decide, by decide⟩, hr, hml, hwm, ⟨by decide, by decide⟩, hmr, nd (C 5), lo _ _ (by decide) (by decide), rfl, hw, ⟨by decide, by decide⟩, hr, hml, hwm, ⟨by decide, by decide⟩, hmr, nd (C 4), lo _ _ (by decide) (by decide), rfl, hw, ⟨by decide, by decide⟩, hr, hml, hwm, ⟨by decide, by decide⟩, hmr, nd (C 3), lo _ _ (by decide) (by decide), rfl, hw, ⟨by decide, by decide⟩, hr, hml, hwm, ⟨by decide, by decide⟩, hmr, nd (C 2), lo _ _ (by decide) (by decide), rfl, hw, ⟨by decide, by decide⟩, hr, hml, hwm, ⟨by decide, by decide⟩, hmr, nd (C 1), lo _ _ (by decide) (by decide), rfl, hw, ⟨by decide, by decide⟩, hr, hml, hwm, ⟨by decide, by decide⟩, hmr, nd (C 0), lo _ _ (by decide) (by decide), rfl, hw, ⟨by decide, by decide⟩, hr, hml, hwm, ⟨by decide, by decide⟩, hmr, by rw [hmr]; rfl, hml, hwm, decide_eq_true rfl, nd h0, rfl, hw, by rw [hr]; rfl, rfl, hw, decide_eq_true rfl, decide_eq_false (by omega), trivial⟩
theorem trade5 {l : Rows2} (hw : wfL l) (hl : l.length ≤ 300) (hr : l.all okR = true) (h0 : (makeS l 5).2 = 0) : ∃ ob, lw 4 [sl2 0 l, sc 5] [ro l] [false, true, false, false, true, false, false, false, false, false, false, false, false, false, false, false, false, false, false] = some ob ∧ allP ob := by
  obtain ⟨hmr, hwm, hlm, _, hs⟩ := make_spec (n := 5) hw hr
  obtain ⟨_, hc⟩ := hs h0
  have hml : l.length = (makeS l 5).1.length := hlm.symm
  have C : ∀ k, cnt k (makeS l 5).1 = cnt k l + dl 5 k := fun k => by rw [hc k]; show _ = _ + ((if k = (recT 5).2.1 then (recT 5).2.2 else 0) - need k (recT 5).1); show cnt k l - need k (recT 5).1 + (if k = (recT 5).2.1 then (recT 5).2.2 else 0) = _; omega
  have lo : ∀ (i d : Int), -10 ≤ d → d ≤ 10 → -9223372036854775808 ≤ cnt i l + d ∧ cnt i l + d ≤ 9223372036854775807 := fun i d h1 h2 => by
    have := cnt_bd (x := i) hw hr; omega
  refine ⟨_, congrFun ctA5 l, ?_⟩
  exact ⟨nd (C 12), lo _ _ (by decide) (by decide), rfl, hw, ⟨by decide, by decide⟩, hr, hml, hwm, ⟨by decide, by decide⟩, hmr, nd (C 11), lo _ _ (by decide) (by decide), rfl, hw, ⟨by decide, by decide⟩, hr, hml, hwm, ⟨by decide, by decide⟩, hmr, nd (C 10), lo _ _ (by decide) (by decide), rfl, hw, ⟨by decide, by decide⟩, hr, hml, hwm, ⟨by decide, by decide⟩, hmr, nd (C 9), lo _ _ (by decide) (by decide), rfl, hw, ⟨by decide, by decide⟩, hr, hml, hwm, ⟨by decide, by decide⟩, hmr, nd (C 8), lo _ _ (by decide) (by decide), rfl, hw, ⟨by decide, by decide⟩, hr, hml, hwm, ⟨by decide, by decide⟩, hmr, nd (C 7), lo _ _ (by decide) (by decide), rfl, hw, ⟨by decide, by decide⟩, hr, hml, hwm, ⟨by decide, by decide⟩, hmr, nd (C 6), lo _ _ (by decide) (by decide), rfl, hw, ⟨by decide, by decide⟩, hr, hml, hwm, ⟨by decide, by decide⟩, hmr, nd (C 5), lo _ _ (by decide) (by decide), rfl, hw, ⟨by decide, by decide⟩, hr, hml, hwm, ⟨by decide, by decide⟩, hmr, nd (C 4), lo _ _ (by decide) (by decide), rfl, hw, ⟨by decide, by decide⟩, hr, hml, hwm, ⟨by decide, by decide⟩, hmr, nd (C 3), lo _ _ (by decide) (by decide), rfl, hw, ⟨by decide, by decide⟩, hr, hml, hwm, ⟨by decide, by decide⟩, hmr, nd (C 2), lo _ _ (by decide) (by decide), rfl, hw, ⟨by decide, by decide⟩, hr, hml, hwm, ⟨by decide, by decide⟩, hmr, nd (C 1), lo _ _ (by decide) (by decide), rfl, hw, ⟨by decide, by decide⟩, hr, hml, hwm, ⟨by decide, by decide⟩, hmr, nd (C 0), lo _ _ (by decide) (by decide), rfl, hw, ⟨by decide, by decide⟩, hr, hml, hwm, ⟨by decide, by decide⟩, hmr, by rw [hmr]; rfl, hml, hwm, decide_eq_true rfl, nd h0, rfl, hw, by rw [hr]; rfl, rfl, hw, decide_eq_true rfl, decide_eq_false (by omega), trivial⟩
theorem trade6 {l : Rows2} (hw : wfL l) (hl : l.length ≤ 300) (hr : l.all okR = true) (h0 : (makeS l 6).2 = 0) : ∃ ob, lw 4 [sl2 0 l, sc 6] [ro l] [false, true, false, false, true, false, false, false, false, false, false, false, false, false, false, false, false, false, false] = some ob ∧ allP ob := by
  obtain ⟨hmr, hwm, hlm, _, hs⟩ := make_spec (n := 6) hw hr
  obtain ⟨_, hc⟩ := hs h0
  have hml : l.length = (makeS l 6).1.length := hlm.symm
  have C : ∀ k, cnt k (makeS l 6).1 = cnt k l + dl 6 k := fun k => by rw [hc k]; show _ = _ + ((if k = (recT 6).2.1 then (recT 6).2.2 else 0) - need k (recT 6).1); show cnt k l - need k (recT 6).1 + (if k = (recT 6).2.1 then (recT 6).2.2 else 0) = _; omega
  have lo : ∀ (i d : Int), -10 ≤ d → d ≤ 10 → -9223372036854775808 ≤ cnt i l + d ∧ cnt i l + d ≤ 9223372036854775807 := fun i d h1 h2 => by
    have := cnt_bd (x := i) hw hr; omega
  refine ⟨_, congrFun ctA6 l, ?_⟩
  exact ⟨nd (C 12), lo _ _ (by decide) (by decide), rfl, hw, ⟨by decide, by decide⟩, hr, hml, hwm, ⟨by decide, by decide⟩, hmr, nd (C 11), lo _ _ (by decide) (by decide), rfl, hw, ⟨by decide, by decide⟩, hr, hml, hwm, ⟨by decide, by decide⟩, hmr, nd (C 10), lo _ _ (by decide) (by decide), rfl, hw, ⟨by decide, by decide⟩, hr, hml, hwm, ⟨by decide, by decide⟩, hmr, nd (C 9), lo _ _ (by decide) (by decide), rfl, hw, ⟨by decide, by decide⟩, hr, hml, hwm, ⟨by decide, by decide⟩, hmr, nd (C 8), lo _ _ (by decide) (by decide), rfl, hw, ⟨by decide, by decide⟩, hr, hml, hwm, ⟨by decide, by decide⟩, hmr, nd (C 7), lo _ _ (by decide) (by decide), rfl, hw, ⟨by decide, by decide⟩, hr, hml, hwm, ⟨by decide, by decide⟩, hmr, nd (C 6), lo _ _ (by decide) (by decide), rfl, hw, ⟨by decide, by decide⟩, hr, hml, hwm, ⟨by decide, by decide⟩, hmr, nd (C 5), lo _ _ (by decide) (by decide), rfl, hw, ⟨by decide, by decide⟩, hr, hml, hwm, ⟨by decide, by decide⟩, hmr, nd (C 4), lo _ _ (by decide) (by decide), rfl, hw, ⟨by decide, by decide⟩, hr, hml, hwm, ⟨by decide, by decide⟩, hmr, nd (C 3), lo _ _ (by decide) (by decide), rfl, hw, ⟨by decide, by decide⟩, hr, hml, hwm, ⟨by decide, by decide⟩, hmr, nd (C 2), lo _ _ (by decide) (by decide), rfl, hw, ⟨by decide, by decide⟩, hr, hml, hwm, ⟨by decide, by decide⟩, hmr, nd (C 1), lo _ _ (by decide) (by decide), rfl, hw, ⟨by decide, by decide⟩, hr, hml, hwm, ⟨by decide, by decide⟩, hmr, nd (C 0), lo _ _ (by decide) (by decide), rfl, hw, ⟨by decide, by decide⟩, hr, hml, hwm, ⟨by decide, by decide⟩, hmr, by rw [hmr]; rfl, hml, hwm, decide_eq_true rfl, nd h0, rfl, hw, by rw [hr]; rfl, rfl, hw, decide_eq_true rfl, decide_eq_false (by omega), trivial⟩
theorem craftTrades_calls (l : Rows2) (e : E) (v : Value) (n : Int) {W0 : World} (r : readOnly W0 (e, ro l)) (w : ∀ r ∈ l, wfRow [.u8, .i64] r) (_m : l.length ≤ maxLen) (u : ∀ (ρ : Env) (b : Nat), ρ[b]? = some e → (V.v (.one (.slice b (.c 0) 2 (.s l.length) (.s l.length)))).rel ρ v)
    (_ : (Lit.int .i64 n).wf = true) (W : World) (hW : W0 = W := by rfl) : Calls Try.prog 4 #[v, .int .i64 n] W fun e w' => e = .returned (.bool true) ∧ Below W.heap.size W w' := by
  subst hW
  have hm := mem_args (W := W0) [(e, ro l)] (by intro y hy; simp at hy; subst hy; exact r)
  have hu : relVs ([(e, ro l)].map (·.1)) [sl2 0 l, si .i64 n] [v, .int .i64 n] := ⟨_, _, rfl, rel1 u (W0 := W0), _, _, rfl, ⟨rfl, rfl⟩, rfl⟩
  have app : ∀ {f g : Rows2 → Int → Option (List Prop)}, f = g → f l n = g l n := fun h => by rw [h]
  by_cases hl : l.length ≤ 300
  · have hw := wfL_of w (by omega)
    by_cases hr : l.all okR = true
    · by_cases h0 : (makeS l n).2 = 0
      · obtain ⟨_, _, _, _, hs⟩ := make_spec (n := n) hw hr
        rcases mk_range (hs h0).1 with rfl | rfl | rfl | rfl | rfl | rfl | rfl
        · obtain ⟨ob, q, hob⟩ := trade0 hw hl hr h0
          exact law_obs tabL_ok q hob hm hu
        · obtain ⟨ob, q, hob⟩ := trade1 hw hl hr h0
          exact law_obs tabL_ok q hob hm hu
        · obtain ⟨ob, q, hob⟩ := trade2 hw hl hr h0
          exact law_obs tabL_ok q hob hm hu
        · obtain ⟨ob, q, hob⟩ := trade3 hw hl hr h0
          exact law_obs tabL_ok q hob hm hu
        · obtain ⟨ob, q, hob⟩ := trade4 hw hl hr h0
          exact law_obs tabL_ok q hob hm hu
        · obtain ⟨ob, q, hob⟩ := trade5 hw hl hr h0
          exact law_obs tabL_ok q hob hm hu
        · obtain ⟨ob, q, hob⟩ := trade6 hw hl hr h0
          exact law_obs tabL_ok q hob hm hu
      · obtain ⟨_, hwm, hlm, hs, _⟩ := make_spec (n := n) hw hr
        refine law_obs tabL_ok (app ct2) ?_ hm hu
        simp only [allP, hr, hs h0]; simp [hw, h0]; omega
    · have hr' : l.all okR = false := by simpa using hr
      refine law_obs tabL_ok (app ct1) ?_ hm hu
      simp only [allP, hr']; simp [hw]; omega
  · refine law_obs tabL_ok (app ct0) ?_ hm hu
    simp [allP]; omega

set_option maxRecDepth 100000 in
theorem craftTrades_lifted (os : Os) (started : os.Started) (H : Type) (enc : TypeId × Value → H) :
    ReturnsInHanded {} Try.checked os 4 .any (Rows.craftTradesSpec.pre6 enc Try.prog Try.f4 Rows.craftTradesRow.domain false) (Rows.craftTradesSpec.post enc Try.prog Try.f4 false true false false) := by
  refine returnsInHanded_of_change (C := Try.checked) own started (by kernel_rfl) Try.func4
    (ChangeSpec.witness6 (enc := enc) (C := Try.checked) false ⟨#[], #[.slice none 0 0, .int .i64 0], []⟩ 8 (by kernel_rfl) (by kernel_rfl) (by kernel_rfl) (by kernel_rfl)) ?_
  intro W base args ds gs before hval0 hW hcnd _
  have hval : ∀ (j : Nat) t v, Try.f4.params[j]? = some t → args[j]? = some v → Value.okWide Try.prog W .any base t v := hval0
  have hW' := hW
  obtain ⟨p, q, hA0, hV, hbef, hfz, hnd⟩ := hW
  have hA : DataW.TrodAll enc Try.prog W 0 (fun _ => true) true Try.f4.params.toList args.toList ds p := hA0
  rw [Try.params4] at hA hval
  obtain ⟨v0, v1, d0, d1, p0, p1, rfl, rfl, hp, h0, h1⟩ := trodAll_two hA
  obtain ⟨a0, e0, r0, w0, m0, u0⟩ := one_rows (ks := [.u8, .i64]) (d := 20) (by kernel_rfl) (hval 0 22 v0 rfl rfl) h0
  obtain ⟨a1, rfl, rfl, _, w1⟩ := open_int Try.underlying3 (hval 1 3 v1 rfl rfl) h1
  refine (craftTrades_calls a0 e0 v0 a1 r0 w0 m0 u0 w1 W).mono fun e W' ⟨he, hb⟩ => ?_
  subst he
  exact ⟨_, rfl, post_law laidOut (by rw [Try.params4]; decide +kernel) rfl rfl (by kernel_rfl) Try.underlying4 hW' hb⟩

theorem craftTrades_holds : Rows.CraftTradesSaid :=
  OpenClaim.holds_of_wide 4 Try.f4 rfl rfl rfl rfl rfl rfl rfl ⟨rfl, rfl, rfl, rfl, rfl⟩ rfl rfl rfl rfl rfl (by kernel_rfl) Try.func4 (by kernel_rfl)
    (of_decide_eq_true (by kernel_rfl)) (by unfold Func.isWrapper; first | (rw [if_pos (by decide +kernel)]; kernel_rfl) | (rw [if_neg (by decide +kernel)]; exact ⟨rfl, rfl⟩))
    (fun os started H enc _ => craftTrades_lifted os started H enc)
#print axioms craftTrades_holds

end Go.Proofs.Ytibknlliackohaa
