/- How many there are in any bag, the sum wrapping: the contract. -/
import Derived.Test.YtibknlliackohaaCrE
import Derived.Test.YtibknlliackohaaCrU
namespace Go.Proofs.Ytibknlliackohaa
open Go.ChangeShapes Go.WideShapes Go.ChangeAt Go.RowKit Go.Sx
theorem cntW1 (x : Int) (r : List Int) (t : Rows2) (a : Int) : cntW x (r :: t) a = cntW x t (if x = 0 then a else if it r = x then IntKind.wrap .i64 (a + (if nn r < 0 then 0 else nn r)) else a) := rfl
theorem wrap64 {n : Int} (h : -9223372036854775808 ≤ n ∧ n ≤ 9223372036854775807) : IntKind.wrap .i64 n = n := by
  simp [IntKind.wrap, IntKind.signed, IntKind.bits]; omega
theorem cntW_right (x : Int) : ∀ {l : Rows2} {a : Int}, l.all okR = true → 0 ≤ a → a + 16 * l.length ≤ 1000000000 → cntW x l a = a + cnt x l
  | [], a, _, _, _ => by show a = a + 0; omega
  | r :: t, a, h, h0, hb => by
    rw [List.all_cons, Bool.and_eq_true] at h
    have hbd := okR_bd h.1
    rw [List.length_cons] at hb
    rw [cntW1, cnt1, cntR_un]
    by_cases hx : x = 0
    · rw [if_pos hx, if_pos hx, cntW_right x h.2 h0 (by omega)]; omega
    · rw [if_neg hx, if_neg hx]
      by_cases hit : it r = x
      · rw [if_pos hit, if_pos hit, if_neg (by omega), wrap64 (by omega), cntW_right x h.2 (by omega) (by omega)]; omega
      · rw [if_neg hit, if_neg hit, cntW_right x h.2 h0 (by omega)]; omega
theorem countW_works (l : Rows2) (c : Nat) (x : Int) (hw : wfL l) : Works Try.prog 18 [sl 0 l.length c, si .u8 x] [ro l] (si .i64 (cntW x l 0)) [ro l] := works_cap fun hc => by
  have hlen := hw.2
  refine works_loop (I := Int × Nat) (Inv := fun s h => TC l c x s.1 s.2 h) (good := fun s => s.2 ≤ l.length ∧ cntW x (l.drop s.2) s.1 = cntW x l 0) (μ := fun s => l.length - s.2) (i := (0, 0)) (r := []) (call0_ok 3) funC bodC (by exact tmpC) (fun _ _ => ⟨rfl, rfl⟩)
    (congrFun (congrFun (congrFun cwE l) c) x) trivial ⟨by simp, ?_, ?_⟩ ⟨Nat.zero_le _, by simp⟩ ?_
  · simp [TC, leSlots, leV, leV1, leC, si, sl, N.v, hc]
  · simp [TC, leBs, leB, leCells, ro]
  · intro ⟨acc, i⟩ ⟨h1, h2⟩
    simp only at h1 h2
    by_cases hi : i < l.length
    · have hd := drop_row hi
      have q0 := congrFun (congrFun (congrFun (congrFun (congrFun cwR0 l) c) x) acc) i
      have q1 := congrFun (congrFun (congrFun (congrFun (congrFun cwR1 l) c) x) acc) i
      have q2 := congrFun (congrFun (congrFun (congrFun (congrFun cwR2 l) c) x) acc) i
      rw [hd, cntW1] at h2
      clear hd
      change cntW x (l.drop (i + 1)) (if x = 0 then acc else if (l.getD i []).getD 0 0 = x then IntKind.wrap .i64 (acc + (if (l.getD i []).getD 1 0 < 0 then 0 else (l.getD i []).getD 1 0)) else acc) = _ at h2
      generalize l.getD i [] = R at *
      generalize R.getD 0 0 = a at *
      generalize R.getD 1 0 = b at *
      by_cases hx : x = 0
      · rw [if_pos hx] at h2
        refine .round [true, false] [] _ _ [1, 5, 8, 9, 10] [] _ _ _ (acc, i + 1) q0 ?_ ⟨by simp, ?_, ?_⟩ ⟨hi, h2⟩ (by simp only; omega)
        · simp [allP]; omega
        · simp [TC, leSlots, leV, leV1, leC, si, sl, N.v, hc]
        · simp [TC, leBs, leB, leCells, ro]
      · rw [if_neg hx] at h2
        by_cases hit : a = x
        · rw [if_pos hit] at h2
          refine .round [true, true, true] [] _ _ [1, 5, 8, 9, 10] [] _ _ _ (IntKind.wrap .i64 (acc + (if b < 0 then 0 else b)), i + 1) q2 ?_ ⟨by simp, ?_, ?_⟩ ⟨hi, h2⟩ (by simp only; omega)
          · simp [allP]; omega
          · simp [TC, leSlots, leV, leV1, leC, si, sl, N.v, hc]
          · simp [TC, leBs, leB, leCells, ro]
        · rw [if_neg hit] at h2
          refine .round [true, true, false] [] _ _ [1, 5, 8, 9, 10] [] _ _ _ (acc, i + 1) q1 ?_ ⟨by simp, ?_, ?_⟩ ⟨hi, h2⟩ (by simp only; omega)
          · simp [allP]; omega
          · simp [TC, leSlots, leV, leV1, leC, si, sl, N.v, hc]
          · simp [TC, leBs, leB, leCells, ro]
    · have : i = l.length := by omega
      subst this
      refine .stop [false] [] _ _ [] _ _ _ (congrFun (congrFun (congrFun (congrFun (congrFun cwX l) c) x) acc) l.length) ?_ (by simp) ?_ ?_
      · simp [allP]
      · rw [List.drop_length, cntW] at h2
        exact ⟨rfl, by rw [h2]⟩
      · simp [leBs, leB, leCells, ro]
theorem countW_tab : TabOk Try.prog 18 (loc w1 (one2i gCountW)) := one2i_ok fun l c i v bs ob hg hob hw hi => by
  unfold gCountW at hg
  injection hg with hg; injection hg with e1 e2; injection e2 with e2 e3
  subst e1; subst e2; subst e3
  exact countW_works l c i hw
theorem tabE_ok : ∀ f g, tabE f = some g → TabOk Try.prog f g := tabs_ok fun x hx => by
  simp only [List.mem_cons, List.not_mem_nil, or_false] at hx
  rcases hx with rfl | rfl | rfl | rfl | rfl | rfl | rfl | rfl | rfl
  · exact yes_ok no_tabs awake_run
  · exact stack_tab
  · exact right_tab
  · exact countW_tab
  · exact same_tab
  · exact put_tab
  · exact spend_tab
  · exact clone_tab
  · exact make_tab
end Go.Proofs.Ytibknlliackohaa
