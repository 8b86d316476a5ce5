/- A net's contracts: two rows; a net laid out. -/
import Derived.Test.YtjnnfehepbicfaaNtI
namespace Go.Proofs.Ytjnnfehepbicfaa
open Go.ChangeShapes Go.WideShapes Go.ChangeAt Go.RowKit Go.Sx
theorem awake_tab : TabOk Try.prog 19 yes := yes_ok no_tabs awake_run
theorem tabX_ok : ∀ f g, tabX f = some g → TabOk Try.prog f g := tabs_ok fun x hx => by
  simp only [List.mem_cons, List.not_mem_nil, or_false] at hx
  rcases hx with rfl | rfl | rfl | rfl | rfl | rfl | rfl | rfl | rfl | rfl | rfl
  · exact awake_tab
  · exact new_tab
  · exact look_tab
  · exact send_tab
  · exact copy_tab
  · exact drop_tab
  · exact forget_tab
  · exact take_tab
  · exact eq_tab
  · exact all_tab
  · exact pick_tab
theorem callX_ok (d : Nat) : CallOk Try.prog (callX d) := callN_sound tabX_ok d
/-! ### two rows, that are the same -/
theorem funR : Try.prog.funcs[32]? = some FR := by kernel_rfl
theorem bodR : FR.body = some (body 32) := by kernel_rfl
theorem tmpR : 2 ≤ FR.ntmps := Nat.le_of_ble_eq_true (by kernel_rfl)
theorem rows_works (a : Rws) (c e : Nat) (hl : a.length ≤ 1000000000) (hc : a.length ≤ c) (he : a.length ≤ e) : Works Try.prog 32 [rsl 0 a.length c, rsl 1 a.length e] [rr a, rr a] yesV [rr a, rr a] := by
  refine works_loop (I := Nat) (Inv := fun i h => TR a a a.length c a.length e i h) (good := fun i => i ≤ a.length) (μ := fun i => a.length - i) (i := 0) (r := []) (callX_ok 4) funR bodR (by exact tmpR) (fun _ _ => ⟨rfl, rfl⟩)
    (congrFun (congrFun (congrFun (congrFun (congrFun (congrFun roE a) a) a.length) c) a.length) e) ?_ ⟨nd2, ?_, ?_⟩ (Nat.zero_le _) ?_
  · simp [allP]
  · simp [TR, leSlots, leV, leV1, leC, si, rsl, N.v, List.range, List.range.loop, hc, he]
  · simp [TR, leBs, leB, leCells, rr]
  · intro i hi
    by_cases hlt : i < a.length
    · refine .round [true] [] _ _ _ [] _ _ _ (i + 1) (congrFun (congrFun (congrFun (congrFun (congrFun (congrFun (congrFun roR a) a) a.length) c) a.length) e) i) ?_ ⟨nd2, ?_, ?_⟩ hlt (by omega)
      · simp [allP, hlt]; omega
      · simp [TR, leSlots, leV, leV1, leC, si, rsl, N.v, List.range, List.range.loop, hc, he]
      · simp [TR, leBs, leB, leCells, rr]
    · refine .stop [false] [] _ _ [] _ _ _ (congrFun (congrFun (congrFun (congrFun (congrFun (congrFun (congrFun roX a) a) a.length) c) a.length) e) i) ?_ nd2 ?_ ?_
      · simp [allP]; omega
      · simp [leV, leV1, leC, yesV]
      · simp [leBs, leB, leCells, rr]
def gRows : Sx.Loc := fun args bs => match args, bs with
  | [.v (.one (.slice 0 (.c 0) 3 (.s n) (.s c))), .v (.one (.slice 1 (.c 0) 3 (.s m) (.s e)))], [⟨false, .recB k a⟩, ⟨false, .recB k' b⟩] => match decide (k = k2), decide (k' = k2) with
    | true, true => some (yesV, [rr a, rr b], [n = a.length, m = b.length, a = b, a.length ≤ 1000000000, a.length ≤ c ∧ a.length ≤ e])
    | _, _ => none
  | _, _ => none
def wantRR : List V → List Want := fun _ => [(false, .recB k2), (false, .recB k2)]
theorem rows_tab : TabOk Try.prog 32 (loc wantRR gRows) := loc_ok fun xs bs v bs' ob hg hob hokb => by
  unfold gRows at hg
  split at hg
  · split at hg
    · rename_i h1 h2
      injection hg with hg; injection hg with e1 e2; injection e2 with e2 e3
      subst e1; subst e2; subst e3
      have h1 := of_decide_eq_true h1; subst h1
      have h2 := of_decide_eq_true h2; subst h2
      have hn := hob _ m2; subst hn
      have hn := hob _ m0; subst hn
      have hn := hob _ m1; subst hn
      have h4 := hob _ m4
      exact rows_works _ _ _ (hob _ m3) h4.1 h4.2
    · cases hg
  · cases hg
/-! ### a net laid out -/
def laidR (r : Rw) : Rw := ([pickS (r.1.getD 0 0) 3, pickS (r.1.getD 1 0) 3], r.2)
def laidG (l : Rws) : Rws := (l.filter fun r => decide (r.2.length ≤ 40)).map laidR
def laidS (l : Rws) : Rws := laidG (l.take 30)
theorem laidG_round {l : Rws} {i : Nat} (h : i < l.length) : laidG (l.take (i + 1)) = match decide ((l.getD i ([], [])).2.length ≤ 40) with
  | true => laidG (l.take i) ++ [laidR (l.getD i ([], []))]
  | false => laidG (l.take i) := by
  rw [take_row h]
  unfold laidG
  rw [List.filter_append, List.map_append]
  cases hd : decide ((l.getD i ([], [])).2.length ≤ 40) with
  | true => simp only [List.filter_cons, hd]; rfl
  | false => simp only [List.filter_cons, hd]; simp
theorem laidG_len (l : Rws) : (laidG l).length ≤ l.length := by
  unfold laidG; rw [List.length_map]; exact List.length_filter_le ..
theorem laidG_mem {l : Rws} {r : Rw} (h : r ∈ laidG l) : r.1.length = 2 ∧ r.2.length ≤ 40 ∧ (0 ≤ r.1.getD 0 0 ∧ r.1.getD 0 0 < 3) ∧ (0 ≤ r.1.getD 1 0 ∧ r.1.getD 1 0 < 3) := by
  unfold laidG at h
  obtain ⟨r0, h0, rfl⟩ := List.mem_map.1 h
  have h1 := of_decide_eq_true (List.mem_filter.1 h0).2
  exact ⟨rfl, h1, pickS_bd (by omega), pickS_bd (by omega)⟩
theorem laid_wf (l : Rws) (h : l.length ≤ 30) : okN 3 (laidG l) := by
  refine ⟨by omega, fun r hr => ?_, ?_⟩
  · obtain ⟨h1, h2, _⟩ := laidG_mem hr
    exact ⟨h1, by omega⟩
  · have := laidG_len l; omega
theorem funD : Try.prog.funcs[31]? = some FD := by kernel_rfl
theorem bodD : FD.body = some (body 31) := by kernel_rfl
theorem tmpD : 1 ≤ FD.ntmps := Nat.le_of_ble_eq_true (by kernel_rfl)
def laidV : V := .tup [.one (.ptr 1 (.c 0) 1 0), .one (.bool true)]
theorem nd1k (k j : Nat) (h : 1 ≤ k) (h' : k < j) : (List.range 1 ++ [k, j]).Nodup := by simp [List.range, List.range.loop]; omega
theorem send_ok3 {f t : Int} {k n : Nat} (hf : 0 ≤ f ∧ f < 3) (ht : 0 ≤ t ∧ t < 3) (hk : k ≤ 1048576) (hn : n < 4096) : sendE 3 f t k n = 0 := by
  unfold sendE
  rw [if_neg (by omega), if_neg (by omega), if_neg (by omega)]
theorem laid_works (l : Rws) (c : Nat) (hc : l.length ≤ c) : Works Try.prog 31 [rsl 0 l.length c] [rr l] laidV [rr l, nb true 3 2 (laidS l).length (laidS l).length, orr (laidS l)] := by
  refine works_loop (I := Nat) (Inv := fun i h => TD l (laidG (l.take i)) l.length c i h) (good := fun i => i ≤ l.length ∧ i ≤ 30) (μ := fun i => l.length - i) (i := 0) (r := [1, 2]) (callX_ok 4) funD bodD (by exact tmpD) (fun _ _ => ⟨rfl, rfl⟩)
    (congrFun (congrFun (congrFun ldE l) l.length) c) ?_ ⟨nd1k 1 2 (by omega) (by omega), ?_, ?_⟩ ⟨Nat.zero_le _, Nat.zero_le _⟩ ?_
  · simp [allP]
  · simp [TD, leSlots, leV, leV1, leC, si, rsl, np, N.v, List.range, List.range.loop, hc]
  · simp [TD, leBs, leB, leCells, leL, leC, nb, rr, orr, N.v, List.range, List.range.loop, laidG]
  · intro i ⟨hi, hi30⟩
    have hlen := laidG_len (l.take i)
    rw [List.length_take] at hlen
    by_cases hlt : i < l.length
    · by_cases h30 : i < 30
      · have hr := laidG_round hlt
        by_cases hd : (l.getD i ([], [])).2.length ≤ 40
        · rw [decide_eq_true hd] at hr
          have hwf : okN 3 (laidG (l.take i)) := laid_wf _ (by rw [List.length_take]; omega)
          have hse := send_ok3 (k := (l.getD i ([], [])).2.length) (n := (laidG (l.take i)).length) (pickS_bd (x := (l.getD i ([], [])).1.getD 0 0) (n := 3) (by omega)) (pickS_bd (x := (l.getD i ([], [])).1.getD 1 0) (n := 3) (by omega)) (by omega) (by omega)
          refine .round [true, true, true, true, true] [] _ _ _ [1, 5] _ _ _ (i + 1) (congrFun (congrFun (congrFun (congrFun (congrFun ldR1 l) (laidG (l.take i))) l.length) c) i) ?_ ⟨nd1k 1 5 (by omega) (by omega), ?_, ?_⟩ ⟨hlt, by omega⟩ (by omega)
          · simp only [allP, hse]
            generalize l.getD i ([], []) = R at *
            simp [hlt, hwf]; omega
          · rw [hr]
            simp [TD, leSlots, leV, leV1, leC, si, rsl, np, N.v, List.range, List.range.loop, hc]
          · rw [hr]
            simp [TD, leBs, leB, leCells, leL, leC, nb, rr, orr, N.v, List.range, List.range.loop, laidR]
        · rw [decide_eq_false hd] at hr
          refine .round [true, true, true, false] [] _ _ _ [1, 2] _ _ _ (i + 1) (congrFun (congrFun (congrFun (congrFun (congrFun ldR0 l) (laidG (l.take i))) l.length) c) i) ?_ ⟨nd1k 1 2 (by omega) (by omega), ?_, ?_⟩ ⟨hlt, by omega⟩ (by omega)
          · simp only [allP]
            generalize l.getD i ([], []) = R at *
            simp [hlt]; omega
          · rw [hr]
            simp [TD, leSlots, leV, leV1, leC, si, rsl, np, N.v, List.range, List.range.loop, hc]
          · rw [hr]
            simp [TD, leBs, leB, leCells, leL, leC, nb, rr, orr, N.v, List.range, List.range.loop]
      · have e30 : i = 30 := by omega
        subst e30
        refine .stop [true, false] [] _ _ [1, 2] _ _ _ (congrFun (congrFun (congrFun (congrFun (congrFun ldX1 l) (laidG (l.take 30))) l.length) c) 30) ?_ (nd1k 1 2 (by omega) (by omega)) ?_ ?_
        · simp [allP]; omega
        · simp [leV, leL1, leV1, leC, laidV, N.v, List.range, List.range.loop]
        · simp [leBs, leB, leCells, leL, leC, nb, rr, orr, N.v, List.range, List.range.loop, laidS]
    · have hil : i = l.length := by omega
      have e : laidG (l.take i) = laidS l := by unfold laidS; rw [List.take_of_length_le (by omega), List.take_of_length_le (by omega)]
      refine .stop [false] [] _ _ [1, 2] _ _ _ (congrFun (congrFun (congrFun (congrFun (congrFun ldX0 l) (laidG (l.take i))) l.length) c) i) ?_ (nd1k 1 2 (by omega) (by omega)) ?_ ?_
      · simp [allP]; omega
      · simp [leV, leL1, leV1, leC, laidV, N.v, List.range, List.range.loop]
      · rw [e]; simp [leBs, leB, leCells, leL, leC, nb, rr, orr, N.v, List.range, List.range.loop]
def gLaid : Sx.Loc := fun args bs => match args, bs with
  | [.v (.one (.slice 0 (.c 0) 3 (.s n) (.s c)))], [⟨false, .recB k l⟩] => match decide (k = k2) with
    | true => some (laidV, [rr l, nb true 3 2 (laidS l).length (laidS l).length, orr (laidS l)], [n = l.length, l.length ≤ c])
    | _ => none
  | _, _ => none
theorem laid_tab : TabOk Try.prog 31 (loc wantRR gLaid) := loc_ok fun xs bs v bs' ob hg hob hokb => by
  unfold gLaid at hg
  split at hg
  · split at hg
    · rename_i h1
      injection hg with hg; injection hg with e1 e2; injection e2 with e2 e3
      subst e1; subst e2; subst e3
      have h1 := of_decide_eq_true h1; subst h1
      have hn := hob _ m0; subst hn
      exact laid_works _ _ (hob _ m1)
    · cases hg
  · cases hg
noncomputable def tabY := tabs [(19, yes), (11, gNew), (25, locH wantN gLook), (12, locH wantS gSend), (15, locH wantC gCopy), (14, loc wantC gDrop), (18, loc wantC gForget), (13, locH wantC gTake), (27, loc wantE gEq), (29, loc wantN gAll), (30, numTab [.i64, .i64] gPick), (32, loc wantRR gRows), (31, loc wantRR gLaid)]
theorem tabY_ok : ∀ f g, tabY f = some g → TabOk Try.prog f g := tabs_ok fun x hx => by
  simp only [List.mem_cons, List.not_mem_nil, or_false] at hx
  rcases hx with rfl | rfl | rfl | rfl | rfl | rfl | rfl | rfl | rfl | rfl | rfl | rfl | rfl
  · exact awake_tab
  · exact new_tab
  · exact look_tab
  · exact send_tab
  · exact copy_tab
  · exact drop_tab
  · exact forget_tab
  · exact take_tab
  · exact eq_tab
  · exact all_tab
  · exact pick_tab
  · exact rows_tab
  · exact laid_tab
noncomputable def callY (d : Nat) := callN Try.prog tabY efN 100000 d
theorem callY_ok (d : Nat) : CallOk Try.prog (callY d) := callN_sound tabY_ok d
end Go.Proofs.Ytjnnfehepbicfaa
