/- How much room there is, by the code; the laws' table. -/
import Derived.Test.YtoonapmpckeceaaBagRA
import Derived.Test.YtoonapmpckeceaaBagP
namespace Go.Proofs.Ytoonapmpckeceaa
open Go.ChangeShapes Go.WideShapes Go.ChangeAt Go.RowKit Go.Sx
theorem funR : Try.prog.funcs[13]? = some FR := by kernel_rfl
theorem bodR : FR.body = some (body 13) := by kernel_rfl
theorem tmpR : 2 ≤ FR.ntmps := Nat.le_of_ble_eq_true (by kernel_rfl)
theorem room_works (l : Rows2) (c : Nat) (x : Int) (hw : wfL l) (hx : 0 ≤ x ∧ x < 256) (hr : l.all okR = true) : Works Try.prog 13 [sl 0 l.length c, si .u8 x] [ro l] (si .i64 (room x l)) [ro l] := works_cap fun hc => by
  have hlen := hw.2
  have hs := stackT_bd x
  refine works_loop (I := Int × Nat) (Inv := fun s h => TR l c x s.1 s.2 h) (good := fun s => s.2 ≤ l.length ∧ s.1 + room x (l.drop s.2) = room x l ∧ 0 ≤ s.1 ∧ s.1 ≤ 16 * s.2) (μ := fun s => l.length - s.2) (i := (0, 0)) (r := []) (call0_ok 3) funR bodR (by exact tmpR) (fun _ _ => ⟨rfl, rfl⟩)
    (congrFun (congrFun (congrFun roE l) c) x) trivial ⟨by simp, ?_, ?_⟩ ⟨Nat.zero_le _, by simp, by simp, by simp⟩ ?_
  · simp [TR, leSlots, leV, leV1, leC, si, sl, N.v, hc]
  · simp [TR, leBs, leB, leCells, ro]
  · intro ⟨acc, i⟩ ⟨h1, h2, h3, h4⟩
    simp only at h1 h2 h3 h4
    by_cases hi : i < l.length
    · have hd := drop_row hi
      have hb := okR_bd (all_row hr (row_mem hi))
      have q0 := congrFun (congrFun (congrFun (congrFun (congrFun roR0 l) c) x) acc) i
      have q1 := congrFun (congrFun (congrFun (congrFun (congrFun roR1 l) c) x) acc) i
      have q2 := congrFun (congrFun (congrFun (congrFun (congrFun roR2 l) c) x) acc) i
      rw [hd] at h2
      change acc + (roomR x (l.getD i []) + room x (l.drop (i + 1))) = _ at h2
      rw [show roomR x (l.getD i []) = if (l.getD i []).getD 1 0 = 0 then stackT x else if (l.getD i []).getD 0 0 = x then stackT x - (l.getD i []).getD 1 0 else 0 from rfl] at h2
      clear hd
      change 0 ≤ (l.getD i []).getD 1 0 ∧ (l.getD i []).getD 1 0 ≤ stackT ((l.getD i []).getD 0 0) ∧ (l.getD i []).getD 1 0 ≤ 16 at hb
      generalize l.getD i [] = R at *
      generalize R.getD 0 0 = a at *
      generalize R.getD 1 0 = b at *
      by_cases hb0 : b = 0
      · rw [if_pos hb0] at h2
        refine .round [true, true] [] _ _ [1, 5, 8, 9, 10] [] _ _ _ (acc + stackT x, i + 1) q0 ?_ ⟨by simp, ?_, ?_⟩ ⟨hi, by simp only; omega, by simp only; omega, by simp only; omega⟩ (by simp only; omega)
        · simp [allP]; omega
        · simp [TR, leSlots, leV, leV1, leC, si, sl, N.v, hc]
        · simp [TR, leBs, leB, leCells, ro]
      · rw [if_neg hb0] at h2
        by_cases hit : a = x
        · rw [if_pos hit] at h2
          subst hit
          refine .round [true, false, true] [] _ _ [1, 5, 8, 9, 10] [] _ _ _ (acc + (stackT a - b), i + 1) q1 ?_ ⟨by simp, ?_, ?_⟩ ⟨hi, by simp only; omega, by simp only; omega, by simp only; omega⟩ (by simp only; omega)
          · simp [allP]; omega
          · simp [TR, leSlots, leV, leV1, leC, si, sl, N.v, hc]
          · simp [TR, leBs, leB, leCells, ro]
        · rw [if_neg hit] at h2
          refine .round [true, false, false] [] _ _ [1, 5, 8, 9, 10] [] _ _ _ (acc, i + 1) q2 ?_ ⟨by simp, ?_, ?_⟩ ⟨hi, by simp only; omega, h3, by simp only; omega⟩ (by simp only; omega)
          · simp [allP]; omega
          · simp [TR, leSlots, leV, leV1, leC, si, sl, N.v, hc]
          · simp [TR, leBs, leB, leCells, ro]
    · have : i = l.length := by omega
      subst this
      refine .stop [false] [] _ _ [] _ _ _ (congrFun (congrFun (congrFun (congrFun (congrFun roX l) c) x) acc) l.length) ?_ (by simp) ?_ ?_
      · simp [allP]
      · rw [List.drop_length] at h2
        change acc + 0 = _ at h2
        exact ⟨rfl, by omega⟩
      · simp [leBs, leB, leCells, ro]
theorem room_tab : TabOk Try.prog 13 (loc w1 (one2i gRoom)) := one2i_ok fun l c i v bs ob hg hob hw hi => by
  unfold gRoom at hg
  injection hg with hg; injection hg with e1 e2; injection e2 with e2 e3
  subst e1; subst e2; subst e3
  exact room_works l c i hw hi (hob _ (by simp))
theorem awake_run : isT (callN Try.prog (fun _ => none) ef2 100000 14 11 [] [] []) = true := by kernel_rfl
theorem fitsNil_run : (fun (_ : Unit) => retV [] (callN Try.prog (fun _ => none) ef2 100000 14 21 [.v (.one .nils), .v (.one .nils)] [] [])) = fun _ => some (.v (.one (.bool true)), [], []) := by kernel_rfl
theorem fitsNil_tab : TabOk Try.prog 21 (loc w2 fitsNil) := loc_ok fun xs bs v bs' ob hg hob hok => by
  clear hok
  unfold fitsNil at hg
  split at hg
  · injection hg with hg; injection hg with e1 e2; injection e2 with e2 e3
    subst e1; subst e2; subst e3
    exact works_of (r := []) no_tabs (congrFun fitsNil_run ()) trivial (by decide) rfl trivial
  · cases hg
theorem pick_ok (x n : Int) (hn : 1 ≤ n) (hn2 : n ≤ 1000000000) : Makes Try.prog 14 [.int .i64 x, .int .i64 n] (si .i64 (pickS x n)) [] := by
  have hu : relVs [] [si .i64 x, si .i64 n] [.int .i64 x, .int .i64 n] := ⟨_, _, rfl, ⟨rfl, rfl⟩, _, _, rfl, ⟨rfl, rfl⟩, rfl⟩
  have hb := Int.lt_tmod_of_pos x (show 0 < n by omega)
  have hb2 := Int.tmod_lt_of_pos x (show 0 < n by omega)
  by_cases hx : x.tmod n < 0
  · have e : pickS x n = x.tmod n + n := by unfold pickS; rw [if_pos hx]
    rw [e]
    refine makes_of (bs := []) (v := si .i64 (x.tmod n + n)) tab0_ok (congrFun (congrFun piA x) n) ?_ (by simp) ⟨rfl, rfl⟩ (by exact trivial) hu
    simp [allP]; omega
  · have e : pickS x n = x.tmod n := by unfold pickS; rw [if_neg hx]
    rw [e]
    refine makes_of (bs := []) (v := si .i64 (x.tmod n)) tab0_ok (congrFun (congrFun piB x) n) ?_ (by simp) ⟨rfl, rfl⟩ (by exact trivial) hu
    simp [allP]; omega
theorem pickS_bd {x n : Int} (hn : 1 ≤ n) : 0 ≤ pickS x n ∧ pickS x n < n := by
  have hb := Int.lt_tmod_of_pos x (show 0 < n by omega)
  have hb2 := Int.tmod_lt_of_pos x (show 0 < n by omega)
  unfold pickS; split <;> omega
theorem pick_tab : TabOk Try.prog 14 (numTab [.i64, .i64] gPick) := numTab_ok fun ns hl hob => by
  match ns, hl with
  | [x, n], _ =>
    refine ⟨rfl, pick_ok x n ?_ ?_⟩
    · exact (hob (1 ≤ n ∧ n ≤ 1000000000) (by simp [gPick])).1
    · exact (hob (1 ≤ n ∧ n ≤ 1000000000) (by simp [gPick])).2
theorem allNil_tab : TabOk Try.prog 20 (loc w1 allNil) := loc_ok fun xs bs v bs' ob hg hob hok => by
  clear hok
  unfold allNil at hg
  split at hg
  · rename_i n c ks l
    split at hg
    · rename_i hk
      have hks := isK2_eq hk
      subst hks
      injection hg with hg; injection hg with e1 e2; injection e2 with e2 e3
      subst e1; subst e2; subst e3
      have hn := hob _ (List.Mem.head _)
      subst hn
      have hw : wfL l := hob _ (by simp)
      have hr : l.all okR = false := hob (l.all okR = false) (by simp)
      have hlen := hw.2
      refine works_of (r := [1]) tab3_ok (congrFun (congrFun alN l) c) ?_ (by exact nd1 1 (by omega)) ?_ ?_
      · simp only [allP, hr]; simp [hw]; omega
      · simp [tup2, leV, leL1, leV1, leC, N.v, List.range, List.range.loop]
      · simp [leBs, leB, leCells, ro, ow, ks2]
    · cases hg
  · cases hg
theorem tabL_ok : ∀ f g, tabL f = some g → TabOk Try.prog f g := tabs_ok fun x hx => by
  simp only [List.mem_cons, List.not_mem_nil, or_false] at hx
  rcases hx with rfl | rfl | rfl | rfl | rfl | rfl | rfl | rfl | rfl | rfl | rfl | rfl | rfl
  · exact yes_ok no_tabs awake_run
  · exact stack_tab
  · exact right_tab
  · exact count_tab
  · exact same_tab
  · exact put_tab
  · exact take_tab
  · exact spend_tab
  · exact orTab_ok all_tab allNil_tab
  · exact orTab_ok fits_tab fitsNil_tab
  · exact room_tab
  · exact clone_tab
  · exact pick_tab
theorem wfRow2 {r : List Int} (h : wfRow [.u8, .i64] r) : wfR r := by
  match r, h with
  | [a, b], ⟨ha, hb, _⟩ =>
    simp [Lit.wf, IntKind.min, IntKind.max, IntKind.signed, IntKind.bits] at ha hb
    exact ⟨rfl, by show 0 ≤ a ∧ a < 256; omega, by show _ ≤ b ∧ b ≤ _; omega⟩
theorem wfL_of {l : Rows2} (h : ∀ r ∈ l, wfRow [.u8, .i64] r) (hl : l.length ≤ 400) : wfL l := ⟨fun r hr => wfRow2 (h r hr), hl⟩
theorem wf8 {x : Int} (hx : (Lit.int .u8 x).wf = true) : 0 ≤ x ∧ x < 256 := by
  simp [Lit.wf, IntKind.min, IntKind.max, IntKind.signed, IntKind.bits] at hx
  omega
theorem wf64 {x : Int} (hx : (Lit.int .i64 x).wf = true) : i64 x := by
  simp [Lit.wf, IntKind.min, IntKind.max, IntKind.signed, IntKind.bits] at hx
  exact ⟨by omega, by omega⟩
end Go.Proofs.Ytoonapmpckeceaa
