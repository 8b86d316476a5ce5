/- The bag's contracts, the last: putting all. -/
import Derived.Test.YtoonapmpckeceaaBagH
namespace Go.Proofs.Ytoonapmpckeceaa
open Go.ChangeShapes Go.WideShapes Go.ChangeAt Go.RowKit Go.Sx
theorem fill_wf {p : List Int → Bool} {x size : Int} (hx : 0 ≤ x ∧ x < 256) (hs : size ≤ 16) : ∀ {l : Rows2} {n : Int}, (∀ r ∈ l, 0 ≤ nn r ∧ nn r ≤ 16) → (∀ r ∈ l, wfR r) → 0 ≤ n → ∀ r ∈ (fill p x size l n).1, wfR r
  | [], n, _, _, _ => fun r hr => by simp [fill] at hr
  | r :: t, n, hb, h, h0 => by
    have hr := h r (by simp)
    have hbr := hb r (by simp)
    have ha := amt_bd (p := p) (size := size) (r := r) h0
    have ih := fill_wf (p := p) (size := size) hx hs (l := t) (n := n - amt p size r n) (fun s hs => hb s (by simp [hs])) (fun s hs => h s (by simp [hs])) (by omega)
    have hbd := fill_bd (p := p) (x := x) (size := size) (l := r :: t) (n := n) hb h0 hs
    intro s hsm
    have hsb := hbd s hsm
    simp only [fill, List.mem_cons] at hsm
    rcases hsm with e | hsm
    · unfold putR at e
      by_cases hz : amt p size r n = 0
      · rw [if_pos hz] at e; subst e; exact hr
      · rw [if_neg hz] at e; subst e
        exact ⟨rfl, hx, by omega, by omega⟩
    · exact ih s hsm
theorem putS_wf {l : Rows2} {i n : Int} (hw : wfL l) (hi : 0 ≤ i ∧ i < 256) : wfL (putS l i n).1 := by
  refine ⟨?_, by rw [putS_len]; exact hw.2⟩
  unfold putS
  split
  · exact hw.1
  · rename_i h1
    split
    · exact hw.1
    · rename_i h2
      have h3 : l.all okR = true := by
        cases h : l.all okR with
        | true => rfl
        | false => exact absurd (.inr h) h2
      have hst := stackT_bd i
      have hb := okl_bd h3
      exact fill_wf hi hst.2 (fill_bd hb (by omega) hst.2) (fill_wf hi hst.2 hb hw.1 (by omega)) (fill_left (by omega)).1
theorem tab3_ok : ∀ f g, tab3 f = some g → TabOk Try.prog f g := tabs_ok fun x hx => by
  simp only [List.mem_cons, List.not_mem_nil, or_false] at hx
  rcases hx with rfl | rfl | rfl
  · exact right_tab
  · exact clone_tab
  · exact put_tab
theorem call3_ok (d : Nat) : CallOk Try.prog (call3 d) := callN_sound tab3_ok d
theorem funA : Try.prog.funcs[20]? = some FA := by kernel_rfl
theorem bodA : FA.body = some (body 20) := by kernel_rfl
theorem tmpA : 2 ≤ FA.ntmps := Nat.le_of_ble_eq_true (by kernel_rfl)
theorem ndA (k : Nat) (h : 2 ≤ k) : (List.range 2 ++ [k]).Nodup := by
  simp [List.range, List.range.loop]; omega
theorem putAll_len : ∀ {more l m : Rows2}, putAll l more = some m → m.length = l.length
  | [], l, m, h => by simp only [putAll, Option.some.injEq] at h; rw [h]
  | r :: t, l, m, h => by
    simp only [putAll] at h
    split at h
    · cases h
    · rw [putAll_len h, putS_len]
theorem all_works (l more : Rows2) (c d : Nat) (hw : wfL l) (hm : wfL more) :
    Works Try.prog 20 [sl 0 l.length c, sl 1 more.length d] [ro l, ro more] (tup2 2 l.length (allS l more).2) [ro l, ro more, ow (allS l more).1] := works_cap2 fun hc hdd => by
  have hlen := hw.2
  have hlm := hm.2
  have fin : ∀ (l' : Rows2), leBs (List.range 2 ++ [2]) [ro l, ro more, ⟨true, .recs ks2 l'⟩] [ro l, ro more, ow l'] := fun l' => by simp [leBs, leB, leCells, ro, ow, ks2]
  have fv : ∀ (k : Nat) (e : Int), leV (List.range 2 ++ [k]) (.tup [.one (.slice k (.c 0) 2 (.s l.length) (.s l.length)), .one (.int .i64 e)]) (tup2 2 l.length e) := fun k e => by
    simp [tup2, leV, leL1, leV1, leC, N.v, List.range, List.range.loop]
  by_cases h1 : l.all okR = true
  · by_cases h2 : more.all okR = true
    · have hnb : ¬ (l.all okR = false ∨ more.all okR = false) := by rw [h1, h2]; simp
      refine works_loop (I := Rows2 × Nat) (Inv := fun s h => TA l more c d s.1 s.2 h) (good := fun s => s.2 ≤ more.length ∧ s.1.length = l.length ∧ wfL s.1 ∧ putAll s.1 (more.drop s.2) = putAll l more) (μ := fun s => more.length - s.2) (i := (l, 0)) (r := [2]) (call3_ok 3) funA bodA (by exact tmpA) (fun _ _ => ⟨rfl, rfl⟩)
        (congrFun (congrFun (congrFun (congrFun alE l) more) c) d) ?_ ⟨by exact ndA 2 (by omega), ?_, ?_⟩ ⟨Nat.zero_le _, rfl, hw, rfl⟩ ?_
      · simp only [allP, h1, h2]; simp [hw, hm]; omega
      · simp [TA, leSlots, leV, leV1, leC, si, sl, N.v, List.range, List.range.loop, hc, hdd]
      · simp [TA, leBs, leB, leCells, ro, ow, ks2]
      · intro ⟨cur, k⟩ ⟨g1, g2, g3, g4⟩
        simp only at g1 g2 g3 g4
        by_cases hk : k < more.length
        · have hrow := hm.1 _ (row_mem hk)
          have hd := drop_row hk
          have hpl := putS_len cur ((more.getD k []).getD 0 0) ((more.getD k []).getD 1 0)
          rw [hd, putAll] at g4
          clear hd
          change (if 0 < (putS cur ((more.getD k []).getD 0 0) ((more.getD k []).getD 1 0)).2 then none else putAll (putS cur ((more.getD k []).getD 0 0) ((more.getD k []).getD 1 0)).1 _) = _ at g4
          have q0 := congrFun (congrFun (congrFun (congrFun (congrFun (congrFun alR l) more) c) d) cur) k
          have q1 := congrFun (congrFun (congrFun (congrFun (congrFun (congrFun alX0 l) more) c) d) cur) k
          obtain ⟨w1, w2, w3⟩ := hrow
          change 0 ≤ (more.getD k []).getD 0 0 ∧ (more.getD k []).getD 0 0 < 256 at w2
          change _ ≤ (more.getD k []).getD 1 0 ∧ (more.getD k []).getD 1 0 ≤ _ at w3
          have hpw := putS_wf (n := (more.getD k []).getD 1 0) g3 w2
          generalize (more.getD k []).getD 0 0 = a at *
          generalize (more.getD k []).getD 1 0 = b at *
          by_cases hleft : 0 < (putS cur a b).2
          · rw [if_pos hleft] at g4
            have hp : allS l more = (l, 104) := by unfold allS; rw [if_neg hnb, ← g4]
            rw [hp]
            refine .stop [true, true] [] _ _ [5] _ _ _ q1 ?_ (by exact ndA 5 (by omega)) (fv 5 _) ?_
            · simp only [allP]; simp [g3, w2, w3, hleft, i64, hk]; omega
            · simp [leBs, leB, leCells, ro, ow, ks2]
          · rw [if_neg hleft] at g4
            refine .round [true, false] [] _ _ [0, 6, 21, 22, 23] [4] _ _ _ ((putS cur a b).1, k + 1) q0 ?_ ⟨by exact ndA 4 (by omega), ?_, ?_⟩ ⟨hk, by simp only; omega, hpw, g4⟩ (by simp only; omega)
            · simp only [allP]; simp [g3, w2, w3, i64, hk]; omega
            · simp [TA, leSlots, leV, leV1, leC, si, sl, N.v, List.range, List.range.loop, hc, hdd, hpl]
            · simp [TA, leBs, leB, leCells, ro, ow, ks2]
        · have : k = more.length := by omega
          subst this
          rw [List.drop_length, putAll] at g4
          have hp : allS l more = (cur, 0) := by unfold allS; rw [if_neg hnb, ← g4]
          rw [hp]
          refine .stop [false] [] _ _ [2] _ _ _ (congrFun (congrFun (congrFun (congrFun (congrFun (congrFun alX1 l) more) c) d) cur) more.length) ?_ (by exact ndA 2 (by omega)) ?_ ?_
          · simp [allP]
          · rw [← g2]
            simp [tup2, leV, leL1, leV1, leC, N.v, List.range, List.range.loop]
          · simp [leBs, leB, leCells, ro, ow, ks2]
    · have h2' : more.all okR = false := by simpa using h2
      have hp : allS l more = (l, 103) := by unfold allS; rw [if_pos (.inr h2')]
      rw [hp]
      refine works_of (r := [2]) tab3_ok (congrFun (congrFun (congrFun (congrFun alB l) more) c) d) ?_ (by exact ndA 2 (by omega)) (fv 2 _) (fin l)
      simp only [allP, h1, h2']; simp [hw, hm]; omega
  · have h1' : l.all okR = false := by simpa using h1
    have hp : allS l more = (l, 103) := by unfold allS; rw [if_pos (.inl h1')]
    rw [hp]
    refine works_of (r := [2]) tab3_ok (congrFun (congrFun (congrFun (congrFun alA l) more) c) d) ?_ (by exact ndA 2 (by omega)) (fv 2 _) (fin l)
    simp only [allP, h1']; simp [hw]; omega
theorem all_tab : TabOk Try.prog 20 (loc w2 (two2 gAll)) := two2_ok fun l k c d v bs ob hg hob hl hk => by
  unfold gAll at hg
  injection hg with hg; injection hg with e1 e2; injection e2 with e2 e3
  subst e1; subst e2; subst e3
  exact all_works l k c d hl hk
theorem tab4_ok : ∀ f g, tab4 f = some g → TabOk Try.prog f g := tabs_ok fun x hx => by
  simp only [List.mem_cons, List.not_mem_nil, or_false] at hx
  subst hx
  exact all_tab
theorem fits_tab : TabOk Try.prog 21 (loc w2 (two2 gFits)) := two2_ok fun l k c d v bs ob hg hob hl hk => by
  unfold gFits at hg
  injection hg with hg; injection hg with e1 e2; injection e2 with e2 e3
  subst e1; subst e2; subst e3
  refine works_of (r := []) tab4_ok (congrFun (congrFun (congrFun (congrFun fiA l) k) c) d) ⟨rfl, rfl, hl, hk, trivial⟩ (by exact nd2) rfl ?_
  simp [leBs, leB, leCells, ro]
end Go.Proofs.Ytoonapmpckeceaa
