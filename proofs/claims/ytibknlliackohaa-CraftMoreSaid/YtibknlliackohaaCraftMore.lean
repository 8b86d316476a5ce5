/- CraftMore is true of any bag and any number, and leaves its arguments as they were. -/
import Derived.Test.YtibknlliackohaaCrU
namespace Go.Proofs.Ytibknlliackohaa
open Go.ChangeShapes Go.WideShapes Go.ChangeAt Go.RowKit Go.Sx
theorem wf_more {l : Rows2} (h : wfL l) (hl : l.length ≤ 300) : wfL (l ++ [[0, 0]]) := ⟨fun r hr => by
  rcases List.mem_append.1 hr with h1 | h1
  · exact h.1 r h1
  · simp at h1; subst h1; exact ⟨rfl, by decide, by decide⟩, by simp; omega⟩
theorem one_wf {a b : Int} (h : (0 ≤ a ∧ a < 256) ∧ (-9223372036854775808 ≤ b ∧ b ≤ 9223372036854775807) := by decide) : ∀ r ∈ ([[a, b]] : Rows2), wfR r := fun r hr => by
  simp at hr; subst hr; exact ⟨rfl, h.1, h.2⟩
theorem wf_app {l k : Rows2} (h : wfL l) (hk : ∀ r ∈ k, wfR r) (hl : l.length + k.length ≤ 400) : wfL (l ++ k) := ⟨fun r hr => by
  rcases List.mem_append.1 hr with h1 | h1
  · exact h.1 r h1
  · exact hk r h1, by rw [List.length_append]; exact hl⟩
theorem moreA0 {l : Rows2} (hw : wfL l) (hl : l.length ≤ 300) (hr : l.all okR = true) (h0 : ¬ (makeS l 0).2 = 0) : ∃ ob, lw 6 [sl2 0 l, sc 0] [ro l] [false, true, false, true, true, false, true, true, true] = some ob ∧ allP ob := by
  refine ⟨_, congrFun cmA0 l, ?_⟩
  have wm := wf_more hw hl
  have w0 : wfL (l ++ [[0, 0]] ++ [[3, 1]]) := wf_app (wf_more hw hl) one_wf (by simp; omega)
  have ha : (makeS (l ++ [[0, 0]] ++ [[3, 1]]) 0).2 = 0 := make_all (n := 0) w0 hr (by decide)
  simp only [allP, List.nil_append, hr, h0, ha, hw, wm, w0]; simp; omega
theorem moreB0 {l : Rows2} (hw : wfL l) (hl : l.length ≤ 300) (hr : l.all okR = true) (h0 : (makeS l 0).2 = 0) : ∃ ob, lw 6 [sl2 0 l, sc 0] [ro l] [false, true, false, true, true, true, false, true, true, true] = some ob ∧ allP ob := by
  refine ⟨_, congrFun cmB0 l, ?_⟩
  have wm := wf_more hw hl
  have w0 : wfL (l ++ [[0, 0]] ++ [[3, 1]]) := wf_app (wf_more hw hl) one_wf (by simp; omega)
  have ha : (makeS (l ++ [[0, 0]] ++ [[3, 1]]) 0).2 = 0 := make_all (n := 0) w0 hr (by decide)
  have hm := make_more hw hr h0
  simp only [allP, List.nil_append, hr, h0, hm, ha, hw, wm, w0]; simp; omega
theorem moreA1 {l : Rows2} (hw : wfL l) (hl : l.length ≤ 300) (hr : l.all okR = true) (h0 : ¬ (makeS l 1).2 = 0) : ∃ ob, lw 6 [sl2 0 l, sc 1] [ro l] [false, true, false, true, true, false, true, true, true] = some ob ∧ allP ob := by
  refine ⟨_, congrFun cmA1 l, ?_⟩
  have wm := wf_more hw hl
  have w0 : wfL (l ++ [[0, 0]] ++ [[5, 2]]) := wf_app (wf_more hw hl) one_wf (by simp; omega)
  have ha : (makeS (l ++ [[0, 0]] ++ [[5, 2]]) 1).2 = 0 := make_all (n := 1) w0 hr (by decide)
  simp only [allP, List.nil_append, hr, h0, ha, hw, wm, w0]; simp; omega
theorem moreB1 {l : Rows2} (hw : wfL l) (hl : l.length ≤ 300) (hr : l.all okR = true) (h0 : (makeS l 1).2 = 0) : ∃ ob, lw 6 [sl2 0 l, sc 1] [ro l] [false, true, false, true, true, true, false, true, true, true] = some ob ∧ allP ob := by
  refine ⟨_, congrFun cmB1 l, ?_⟩
  have wm := wf_more hw hl
  have w0 : wfL (l ++ [[0, 0]] ++ [[5, 2]]) := wf_app (wf_more hw hl) one_wf (by simp; omega)
  have ha : (makeS (l ++ [[0, 0]] ++ [[5, 2]]) 1).2 = 0 := make_all (n := 1) w0 hr (by decide)
  have hm := make_more hw hr h0
  simp only [allP, List.nil_append, hr, h0, hm, ha, hw, wm, w0]; simp; omega
theorem moreA2 {l : Rows2} (hw : wfL l) (hl : l.length ≤ 300) (hr : l.all okR = true) (h0 : ¬ (makeS l 2).2 = 0) : ∃ ob, lw 6 [sl2 0 l, sc 2] [ro l] [false, true, false, true, true, false, true, true, true] = some ob ∧ allP ob := by
  refine ⟨_, congrFun cmA2 l, ?_⟩
  have wm := wf_more hw hl
  have w0 : wfL (l ++ [[0, 0]] ++ [[5, 8]]) := wf_app (wf_more hw hl) one_wf (by simp; omega)
  have ha : (makeS (l ++ [[0, 0]] ++ [[5, 8]]) 2).2 = 0 := make_all (n := 2) w0 hr (by decide)
  simp only [allP, List.nil_append, hr, h0, ha, hw, wm, w0]; simp; omega
theorem moreB2 {l : Rows2} (hw : wfL l) (hl : l.length ≤ 300) (hr : l.all okR = true) (h0 : (makeS l 2).2 = 0) : ∃ ob, lw 6 [sl2 0 l, sc 2] [ro l] [false, true, false, true, true, true, false, true, true, true] = some ob ∧ allP ob := by
  refine ⟨_, congrFun cmB2 l, ?_⟩
  have wm := wf_more hw hl
  have w0 : wfL (l ++ [[0, 0]] ++ [[5, 8]]) := wf_app (wf_more hw hl) one_wf (by simp; omega)
  have ha : (makeS (l ++ [[0, 0]] ++ [[5, 8]]) 2).2 = 0 := make_all (n := 2) w0 hr (by decide)
  have hm := make_more hw hr h0
  simp only [allP, List.nil_append, hr, h0, hm, ha, hw, wm, w0]; simp; omega
theorem moreA3 {l : Rows2} (hw : wfL l) (hl : l.length ≤ 300) (hr : l.all okR = true) (h0 : ¬ (makeS l 3).2 = 0) : ∃ ob, lw 6 [sl2 0 l, sc 3] [ro l] [false, true, false, true, true, false, true, true, true, true] = some ob ∧ allP ob := by
  refine ⟨_, congrFun cmA3 l, ?_⟩
  have wm := wf_more hw hl
  have w0 : wfL (l ++ [[0, 0]] ++ [[6, 1]]) := wf_app (wf_more hw hl) one_wf (by simp; omega)
  have w1 : wfL (l ++ [[0, 0]] ++ [[6, 1]] ++ [[7, 1]]) := wf_app w0 one_wf (by simp; omega)
  have e2 : l ++ [[0, 0]] ++ [[6, 1]] ++ [[7, 1]] = l ++ [[0, 0]] ++ [[6, 1], [7, 1]] := by rw [List.append_assoc (l ++ [[0, 0]])]; rfl
  have ha : (makeS (l ++ [[0, 0]] ++ [[6, 1]] ++ [[7, 1]]) 3).2 = 0 := by rw [e2]; exact make_all (n := 3) (by show wfL (l ++ [[0, 0]] ++ [[6, 1], [7, 1]]); rw [← e2]; exact w1) hr (by decide)
  simp only [allP, List.nil_append, hr, h0, ha, hw, wm, w0, w1]; simp; omega
theorem moreB3 {l : Rows2} (hw : wfL l) (hl : l.length ≤ 300) (hr : l.all okR = true) (h0 : (makeS l 3).2 = 0) : ∃ ob, lw 6 [sl2 0 l, sc 3] [ro l] [false, true, false, true, true, true, false, true, true, true, true] = some ob ∧ allP ob := by
  refine ⟨_, congrFun cmB3 l, ?_⟩
  have wm := wf_more hw hl
  have w0 : wfL (l ++ [[0, 0]] ++ [[6, 1]]) := wf_app (wf_more hw hl) one_wf (by simp; omega)
  have w1 : wfL (l ++ [[0, 0]] ++ [[6, 1]] ++ [[7, 1]]) := wf_app w0 one_wf (by simp; omega)
  have e2 : l ++ [[0, 0]] ++ [[6, 1]] ++ [[7, 1]] = l ++ [[0, 0]] ++ [[6, 1], [7, 1]] := by rw [List.append_assoc (l ++ [[0, 0]])]; rfl
  have ha : (makeS (l ++ [[0, 0]] ++ [[6, 1]] ++ [[7, 1]]) 3).2 = 0 := by rw [e2]; exact make_all (n := 3) (by show wfL (l ++ [[0, 0]] ++ [[6, 1], [7, 1]]); rw [← e2]; exact w1) hr (by decide)
  have hm := make_more hw hr h0
  simp only [allP, List.nil_append, hr, h0, hm, ha, hw, wm, w0, w1]; simp; omega
theorem moreA4 {l : Rows2} (hw : wfL l) (hl : l.length ≤ 300) (hr : l.all okR = true) (h0 : ¬ (makeS l 4).2 = 0) : ∃ ob, lw 6 [sl2 0 l, sc 4] [ro l] [false, true, false, true, true, false, true, true, true, true] = some ob ∧ allP ob := by
  refine ⟨_, congrFun cmA4 l, ?_⟩
  have wm := wf_more hw hl
  have w0 : wfL (l ++ [[0, 0]] ++ [[7, 1]]) := wf_app (wf_more hw hl) one_wf (by simp; omega)
  have w1 : wfL (l ++ [[0, 0]] ++ [[7, 1]] ++ [[3, 1]]) := wf_app w0 one_wf (by simp; omega)
  have e2 : l ++ [[0, 0]] ++ [[7, 1]] ++ [[3, 1]] = l ++ [[0, 0]] ++ [[7, 1], [3, 1]] := by rw [List.append_assoc (l ++ [[0, 0]])]; rfl
  have ha : (makeS (l ++ [[0, 0]] ++ [[7, 1]] ++ [[3, 1]]) 4).2 = 0 := by rw [e2]; exact make_all (n := 4) (by show wfL (l ++ [[0, 0]] ++ [[7, 1], [3, 1]]); rw [← e2]; exact w1) hr (by decide)
  simp only [allP, List.nil_append, hr, h0, ha, hw, wm, w0, w1]; simp; omega
theorem moreB4 {l : Rows2} (hw : wfL l) (hl : l.length ≤ 300) (hr : l.all okR = true) (h0 : (makeS l 4).2 = 0) : ∃ ob, lw 6 [sl2 0 l, sc 4] [ro l] [false, true, false, true, true, true, false, true, true, true, true] = some ob ∧ allP ob := by
  refine ⟨_, congrFun cmB4 l, ?_⟩
  have wm := wf_more hw hl
  have w0 : wfL (l ++ [[0, 0]] ++ [[7, 1]]) := wf_app (wf_more hw hl) one_wf (by simp; omega)
  have w1 : wfL (l ++ [[0, 0]] ++ [[7, 1]] ++ [[3, 1]]) := wf_app w0 one_wf (by simp; omega)
  have e2 : l ++ [[0, 0]] ++ [[7, 1]] ++ [[3, 1]] = l ++ [[0, 0]] ++ [[7, 1], [3, 1]] := by rw [List.append_assoc (l ++ [[0, 0]])]; rfl
  have ha : (makeS (l ++ [[0, 0]] ++ [[7, 1]] ++ [[3, 1]]) 4).2 = 0 := by rw [e2]; exact make_all (n := 4) (by show wfL (l ++ [[0, 0]] ++ [[7, 1], [3, 1]]); rw [← e2]; exact w1) hr (by decide)
  have hm := make_more hw hr h0
  simp only [allP, List.nil_append, hr, h0, hm, ha, hw, wm, w0, w1]; simp; omega
theorem moreA5 {l : Rows2} (hw : wfL l) (hl : l.length ≤ 300) (hr : l.all okR = true) (h0 : ¬ (makeS l 5).2 = 0) : ∃ ob, lw 6 [sl2 0 l, sc 5] [ro l] [false, true, false, true, true, false, true, true, true, true] = some ob ∧ allP ob := by
  refine ⟨_, congrFun cmA5 l, ?_⟩
  have wm := wf_more hw hl
  have w0 : wfL (l ++ [[0, 0]] ++ [[6, 2]]) := wf_app (wf_more hw hl) one_wf (by simp; omega)
  have w1 : wfL (l ++ [[0, 0]] ++ [[6, 2]] ++ [[8, 3]]) := wf_app w0 one_wf (by simp; omega)
  have e2 : l ++ [[0, 0]] ++ [[6, 2]] ++ [[8, 3]] = l ++ [[0, 0]] ++ [[6, 2], [8, 3]] := by rw [List.append_assoc (l ++ [[0, 0]])]; rfl
  have ha : (makeS (l ++ [[0, 0]] ++ [[6, 2]] ++ [[8, 3]]) 5).2 = 0 := by rw [e2]; exact make_all (n := 5) (by show wfL (l ++ [[0, 0]] ++ [[6, 2], [8, 3]]); rw [← e2]; exact w1) hr (by decide)
  simp only [allP, List.nil_append, hr, h0, ha, hw, wm, w0, w1]; simp; omega
theorem moreB5 {l : Rows2} (hw : wfL l) (hl : l.length ≤ 300) (hr : l.all okR = true) (h0 : (makeS l 5).2 = 0) : ∃ ob, lw 6 [sl2 0 l, sc 5] [ro l] [false, true, false, true, true, true, false, true, true, true, true] = some ob ∧ allP ob := by
  refine ⟨_, congrFun cmB5 l, ?_⟩
  have wm := wf_more hw hl
  have w0 : wfL (l ++ [[0, 0]] ++ [[6, 2]]) := wf_app (wf_more hw hl) one_wf (by simp; omega)
  have w1 : wfL (l ++ [[0, 0]] ++ [[6, 2]] ++ [[8, 3]]) := wf_app w0 one_wf (by simp; omega)
  have e2 : l ++ [[0, 0]] ++ [[6, 2]] ++ [[8, 3]] = l ++ [[0, 0]] ++ [[6, 2], [8, 3]] := by rw [List.append_assoc (l ++ [[0, 0]])]; rfl
  have ha : (makeS (l ++ [[0, 0]] ++ [[6, 2]] ++ [[8, 3]]) 5).2 = 0 := by rw [e2]; exact make_all (n := 5) (by show wfL (l ++ [[0, 0]] ++ [[6, 2], [8, 3]]); rw [← e2]; exact w1) hr (by decide)
  have hm := make_more hw hr h0
  simp only [allP, List.nil_append, hr, h0, hm, ha, hw, wm, w0, w1]; simp; omega
theorem moreA6 {l : Rows2} (hw : wfL l) (hl : l.length ≤ 300) (hr : l.all okR = true) (h0 : ¬ (makeS l 6).2 = 0) : ∃ ob, lw 6 [sl2 0 l, sc 6] [ro l] [false, true, false, true, true, false, true, true, true, true] = some ob ∧ allP ob := by
  refine ⟨_, congrFun cmA6 l, ?_⟩
  have wm := wf_more hw hl
  have w0 : wfL (l ++ [[0, 0]] ++ [[2, 4]]) := wf_app (wf_more hw hl) one_wf (by simp; omega)
  have w1 : wfL (l ++ [[0, 0]] ++ [[2, 4]] ++ [[1, 1]]) := wf_app w0 one_wf (by simp; omega)
  have e2 : l ++ [[0, 0]] ++ [[2, 4]] ++ [[1, 1]] = l ++ [[0, 0]] ++ [[2, 4], [1, 1]] := by rw [List.append_assoc (l ++ [[0, 0]])]; rfl
  have ha : (makeS (l ++ [[0, 0]] ++ [[2, 4]] ++ [[1, 1]]) 6).2 = 0 := by rw [e2]; exact make_all (n := 6) (by show wfL (l ++ [[0, 0]] ++ [[2, 4], [1, 1]]); rw [← e2]; exact w1) hr (by decide)
  simp only [allP, List.nil_append, hr, h0, ha, hw, wm, w0, w1]; simp; omega
theorem moreB6 {l : Rows2} (hw : wfL l) (hl : l.length ≤ 300) (hr : l.all okR = true) (h0 : (makeS l 6).2 = 0) : ∃ ob, lw 6 [sl2 0 l, sc 6] [ro l] [false, true, false, true, true, true, false, true, true, true, true] = some ob ∧ allP ob := by
  refine ⟨_, congrFun cmB6 l, ?_⟩
  have wm := wf_more hw hl
  have w0 : wfL (l ++ [[0, 0]] ++ [[2, 4]]) := wf_app (wf_more hw hl) one_wf (by simp; omega)
  have w1 : wfL (l ++ [[0, 0]] ++ [[2, 4]] ++ [[1, 1]]) := wf_app w0 one_wf (by simp; omega)
  have e2 : l ++ [[0, 0]] ++ [[2, 4]] ++ [[1, 1]] = l ++ [[0, 0]] ++ [[2, 4], [1, 1]] := by rw [List.append_assoc (l ++ [[0, 0]])]; rfl
  have ha : (makeS (l ++ [[0, 0]] ++ [[2, 4]] ++ [[1, 1]]) 6).2 = 0 := by rw [e2]; exact make_all (n := 6) (by show wfL (l ++ [[0, 0]] ++ [[2, 4], [1, 1]]); rw [← e2]; exact w1) hr (by decide)
  have hm := make_more hw hr h0
  simp only [allP, List.nil_append, hr, h0, hm, ha, hw, wm, w0, w1]; simp; omega
theorem craftMore_calls (l : Rows2) (e : E) (v : Value) (n : Int) {W0 : World} (r : readOnly W0 (e, ro l)) (w : ∀ r ∈ l, wfRow [.u8, .i64] r) (_m : l.length ≤ maxLen) (u : ∀ (ρ : Env) (b : Nat), ρ[b]? = some e → (V.v (.one (.slice b (.c 0) 2 (.s l.length) (.s l.length)))).rel ρ v)
    (_ : (Lit.int .i64 n).wf = true) (W : World) (hW : W0 = W := by rfl) : Calls Try.prog 6 #[v, .int .i64 n] W fun e w' => e = .returned (.bool true) ∧ Below W.heap.size W w' := by
  subst hW
  have hm := mem_args (W := W0) [(e, ro l)] (by intro y hy; simp at hy; subst hy; exact r)
  have hu : relVs ([(e, ro l)].map (·.1)) [sl2 0 l, si .i64 n] [v, .int .i64 n] := ⟨_, _, rfl, rel1 u (W0 := W0), _, _, rfl, ⟨rfl, rfl⟩, rfl⟩
  have app : ∀ {f g : Rows2 → Int → Option (List Prop)}, f = g → f l n = g l n := fun h => by rw [h]
  by_cases hl : l.length ≤ 300
  · have hw := wfL_of w (by omega)
    by_cases hr : l.all okR = true
    · by_cases hn : n < 0 ∨ 7 ≤ n
      · have wm := wf_more hw hl
        have e1 := makeS_none hr hn
        have e2 := makeS_none (all_more hr) hn
        by_cases h0 : n < 0
        · refine law_obs tabL_ok (app cm2) ?_ hm hu
          simp only [allP, List.nil_append, hr, e1, e2, hw, wm]; simp [h0]; omega
        · refine law_obs tabL_ok (app cm3) ?_ hm hu
          simp only [allP, List.nil_append, hr, e1, e2, hw, wm]; simp [h0]; omega
      · rcases mk_range hn with rfl | rfl | rfl | rfl | rfl | rfl | rfl
        · by_cases h0 : (makeS l 0).2 = 0
          · obtain ⟨ob, q, hob⟩ := moreB0 hw hl hr h0
            exact law_obs tabL_ok q hob hm hu
          · obtain ⟨ob, q, hob⟩ := moreA0 hw hl hr h0
            exact law_obs tabL_ok q hob hm hu
        · by_cases h0 : (makeS l 1).2 = 0
          · obtain ⟨ob, q, hob⟩ := moreB1 hw hl hr h0
            exact law_obs tabL_ok q hob hm hu
          · obtain ⟨ob, q, hob⟩ := moreA1 hw hl hr h0
            exact law_obs tabL_ok q hob hm hu
        · by_cases h0 : (makeS l 2).2 = 0
          · obtain ⟨ob, q, hob⟩ := moreB2 hw hl hr h0
            exact law_obs tabL_ok q hob hm hu
          · obtain ⟨ob, q, hob⟩ := moreA2 hw hl hr h0
            exact law_obs tabL_ok q hob hm hu
        · by_cases h0 : (makeS l 3).2 = 0
          · obtain ⟨ob, q, hob⟩ := moreB3 hw hl hr h0
            exact law_obs tabL_ok q hob hm hu
          · obtain ⟨ob, q, hob⟩ := moreA3 hw hl hr h0
            exact law_obs tabL_ok q hob hm hu
        · by_cases h0 : (makeS l 4).2 = 0
          · obtain ⟨ob, q, hob⟩ := moreB4 hw hl hr h0
            exact law_obs tabL_ok q hob hm hu
          · obtain ⟨ob, q, hob⟩ := moreA4 hw hl hr h0
            exact law_obs tabL_ok q hob hm hu
        · by_cases h0 : (makeS l 5).2 = 0
          · obtain ⟨ob, q, hob⟩ := moreB5 hw hl hr h0
            exact law_obs tabL_ok q hob hm hu
          · obtain ⟨ob, q, hob⟩ := moreA5 hw hl hr h0
            exact law_obs tabL_ok q hob hm hu
        · by_cases h0 : (makeS l 6).2 = 0
          · obtain ⟨ob, q, hob⟩ := moreB6 hw hl hr h0
            exact law_obs tabL_ok q hob hm hu
          · obtain ⟨ob, q, hob⟩ := moreA6 hw hl hr h0
            exact law_obs tabL_ok q hob hm hu
    · have hr' : l.all okR = false := by simpa using hr
      refine law_obs tabL_ok (app cm1) ?_ hm hu
      simp only [allP, hr']; simp [hw]; omega
  · refine law_obs tabL_ok (app cm0) ?_ hm hu
    simp [allP]; omega

set_option maxRecDepth 100000 in
theorem craftMore_lifted (os : Os) (started : os.Started) (H : Type) (enc : TypeId × Value → H) :
    ReturnsInHanded {} Try.checked os 6 .any (Rows.craftMoreSpec.pre6 enc Try.prog Try.f6 Rows.craftMoreRow.domain false) (Rows.craftMoreSpec.post enc Try.prog Try.f6 false true false false) := by
  refine returnsInHanded_of_change (C := Try.checked) own started (by kernel_rfl) Try.func6
    (ChangeSpec.witness6 (enc := enc) (C := Try.checked) false ⟨#[], #[.slice none 0 0, .int .i64 0], []⟩ 8 (by kernel_rfl) (by kernel_rfl) (by kernel_rfl) (by kernel_rfl)) ?_
  intro W base args ds gs before hval0 hW hcnd _
  have hval : ∀ (j : Nat) t v, Try.f6.params[j]? = some t → args[j]? = some v → Value.okWide Try.prog W .any base t v := hval0
  have hW' := hW
  obtain ⟨p, q, hA0, hV, hbef, hfz, hnd⟩ := hW
  have hA : DataW.TrodAll enc Try.prog W 0 (fun _ => true) true Try.f6.params.toList args.toList ds p := hA0
  rw [Try.params6] at hA hval
  obtain ⟨v0, v1, d0, d1, p0, p1, rfl, rfl, hp, h0, h1⟩ := trodAll_two hA
  obtain ⟨a0, e0, r0, w0, m0, u0⟩ := one_rows (ks := [.u8, .i64]) (d := 20) (by kernel_rfl) (hval 0 22 v0 rfl rfl) h0
  obtain ⟨a1, rfl, rfl, _, w1⟩ := open_int Try.underlying3 (hval 1 3 v1 rfl rfl) h1
  refine (craftMore_calls a0 e0 v0 a1 r0 w0 m0 u0 w1 W).mono fun e W' ⟨he, hb⟩ => ?_
  subst he
  exact ⟨_, rfl, post_law laidOut (by rw [Try.params6]; decide +kernel) rfl rfl (by kernel_rfl) Try.underlying4 hW' hb⟩

theorem craftMore_holds : Rows.CraftMoreSaid :=
  OpenClaim.holds_of_wide 6 Try.f6 rfl rfl rfl rfl rfl rfl rfl ⟨rfl, rfl, rfl, rfl, rfl⟩ rfl rfl rfl rfl rfl (by kernel_rfl) Try.func6 (by kernel_rfl)
    (of_decide_eq_true (by kernel_rfl)) (by unfold Func.isWrapper; first | (rw [if_pos (by decide +kernel)]; kernel_rfl) | (rw [if_neg (by decide +kernel)]; exact ⟨rfl, rfl⟩))
    (fun os started H enc _ => craftMore_lifted os started H enc)
#print axioms craftMore_holds

end Go.Proofs.Ytibknlliackohaa
