/- The bag's contracts: copies, what is right, counts, what is the same, filling. -/
import Derived.Test.YtibknlliackohaaBagA
namespace Go.Proofs.Ytibknlliackohaa
open Go.ChangeShapes Go.WideShapes Go.ChangeAt Go.RowKit Go.Sx
theorem c10a : allF (fun n => okV (gS n) (callN Try.prog (fun _ => none) (fun _ => false) 100000 5 35 [.v (.one (.int .u8 n))] [] [])) 0 64 = true := by kernel_rfl
theorem c10b : allF (fun n => okV (gS n) (callN Try.prog (fun _ => none) (fun _ => false) 100000 5 35 [.v (.one (.int .u8 n))] [] [])) 64 64 = true := by kernel_rfl
theorem c10c : allF (fun n => okV (gS n) (callN Try.prog (fun _ => none) (fun _ => false) 100000 5 35 [.v (.one (.int .u8 n))] [] [])) 128 64 = true := by kernel_rfl
theorem c10d : allF (fun n => okV (gS n) (callN Try.prog (fun _ => none) (fun _ => false) 100000 5 35 [.v (.one (.int .u8 n))] [] [])) 192 64 = true := by kernel_rfl
theorem stack_tab : TabOk Try.prog 35 (byteTab gS) := byteTab_ok no_tabs (allF_four c10a c10b c10c c10d)
theorem tab0_ok : ∀ f g, tab0 f = some g → TabOk Try.prog f g := tabs_ok fun x hx => by
  simp only [List.mem_cons, List.not_mem_nil, or_false] at hx
  subst hx
  exact stack_tab
theorem call0_ok (d : Nat) : CallOk Try.prog (call0 d) := callN_sound tab0_ok d
theorem allP_app : ∀ {l r : List Prop}, allP l → allP r → allP (l ++ r)
  | [], _, _, h => h
  | _ :: _, _, h, h' => ⟨h.1, allP_app h.2 h'⟩
theorem stackT_bd (x : Int) : 0 ≤ stackT x ∧ stackT x ≤ 16 := by
  unfold stackT
  generalize x.toNat = k
  match k with
  | 0 | 1 | 2 | 3 | 4 | 5 | 6 | 7 | 8 | 9 | 10 | 11 | 12 => decide
  | k + 13 => simp
theorem drop_row {l : Rows2} {i : Nat} (h : i < l.length) : l.drop i = l.getD i [] :: l.drop (i + 1) := by
  rw [List.drop_eq_getElem_cons h]
  simp [List.getD, h]
theorem row_mem {l : Rows2} {i : Nat} (h : i < l.length) : l.getD i [] ∈ l := by
  simp [List.getD, h]
theorem okR_bd {r : List Int} (h : okR r = true) : 0 ≤ nn r ∧ nn r ≤ stackT (it r) ∧ nn r ≤ 16 := by
  have := stackT_bd (it r)
  simp only [okR, Bool.or_eq_true, Bool.and_eq_true, decide_eq_true_eq] at h
  rcases h with ⟨h1, h2⟩ | ⟨h1, h2⟩
  · rw [h1] at this ⊢; omega
  · omega
theorem okR_iff (r : List Int) : okR r = true ↔ (r.getD 0 0 = 0 ∧ r.getD 1 0 = 0) ∨ (1 ≤ r.getD 1 0 ∧ r.getD 1 0 ≤ stackT (r.getD 0 0)) := by
  show ((decide (r.getD 0 0 = 0) && decide (r.getD 1 0 = 0)) || (decide (1 ≤ r.getD 1 0) && decide (r.getD 1 0 ≤ stackT (r.getD 0 0)))) = true ↔ _
  simp only [Bool.or_eq_true, Bool.and_eq_true, decide_eq_true_eq]
theorem nd2 : (List.range 2 ++ []).Nodup := by decide
theorem cntR_val (x : Int) (r : List Int) : cntR x r = if x = 0 then 0 else if r.getD 0 0 = x then (if r.getD 1 0 < 0 then 0 else r.getD 1 0) else 0 := rfl
theorem all_row {l : Rows2} (h : l.all okR = true) {r : List Int} (hr : r ∈ l) : okR r = true := List.all_eq_true.1 h r hr
/-! ### copies -/
theorem clone_tab : TabOk Try.prog cloneN (loc (wantR ks2) (gClone ks2)) := clone_ok fun l c hl =>
  clone_works (ks := ks2) (by8 := 16) tab0_ok (by omega) (fun l n c => congrFun (congrFun (congrFun cloneA l) n) c) (fun l => congrFun cloneB l) (fun l a c => congrFun (congrFun (congrFun cloneC l) a) c) l c hl
/-! ### what is right -/
theorem funI : Try.prog.funcs[ixN]? = some FI := by kernel_rfl
theorem bodI : FI.body = some (body ixN) := by kernel_rfl
theorem tmpI : 2 ≤ FI.ntmps := Nat.le_of_ble_eq_true (by kernel_rfl)
theorem badI_le : ∀ (l : Rows2) (i : Int), 0 ≤ i → (badI l i = -1 ∧ l.all okR = true) ∨ (i ≤ badI l i ∧ l.all okR = false)
  | [], i, _ => .inl ⟨rfl, rfl⟩
  | r :: t, i, hi => by
    unfold badI
    by_cases h : okR r = true
    · rw [if_pos h]
      rcases badI_le t (i + 1) (by omega) with ⟨h1, h2⟩ | ⟨h1, h2⟩
      · exact .inl ⟨h1, by simp [h]; simpa using h2⟩
      · exact .inr ⟨by omega, by rw [List.all_cons, h2, Bool.and_false]⟩
    · rw [if_neg h]
      exact .inr ⟨Int.le_refl _, by simp [h]⟩
theorem works_cap {f : FuncId} {l : Rows2} {b c : Nat} {args : List V} {bs bs' : List SB} {v : V} (h : l.length ≤ c → Works Try.prog f (sl b l.length c :: args) bs v bs') : Works Try.prog f (sl b l.length c :: args) bs v bs' := by
  intro ρ K w us hm hu
  have hc : l.length ≤ c := by
    obtain ⟨u, s, _, ⟨⟨e, _, hu⟩, _⟩, _⟩ := hu
    rcases hu with ⟨h0, _⟩ | ⟨_, _, _, h1, _⟩
    · simp only [N.v] at h0; omega
    · exact h1
  exact h hc ρ K w us hm hu
theorem ix_works (l : Rows2) (c : Nat) (hw : wfL l) : Works Try.prog ixN [sl 0 l.length c, cl 42 []] [ro l] (si .i64 (badI l 0)) [ro l] := works_cap fun hc => by
  have hlen := hw.2
  refine works_loop (I := Nat) (Inv := fun i h => TI l c i h) (good := fun i => i ≤ l.length ∧ badI (l.drop i) i = badI l 0) (μ := fun i => l.length - i) (i := 0) (r := []) (call0_ok 3) funI bodI (by exact tmpI) (fun _ _ => ⟨rfl, rfl⟩)
    (congrFun (congrFun ixE l) c) trivial ⟨by simp, ?_, ?_⟩ ⟨Nat.zero_le _, rfl⟩ ?_
  · simp [TI, leSlots, leV, leV1, leC, si, sl, cl, N.v, hc]
  · simp [TI, leBs, leB, leCells, ro]
  · intro i ⟨h1, h2⟩
    by_cases hi : i < l.length
    · have hd := drop_row hi
      obtain ⟨w1, w2, w3⟩ := hw.1 _ (row_mem hi)
      have q0 := congrFun (congrFun (congrFun ixR0 l) c) i
      have q1 := congrFun (congrFun (congrFun ixR1 l) c) i
      have q2 := congrFun (congrFun (congrFun ixX0 l) c) i
      have q3 := congrFun (congrFun (congrFun ixX1 l) c) i
      rw [hd, badI] at h2
      clear hd
      have hok := okR_iff (l.getD i [])
      change 0 ≤ (l.getD i []).getD 0 0 ∧ (l.getD i []).getD 0 0 < 256 at w2
      change _ ≤ (l.getD i []).getD 1 0 ∧ (l.getD i []).getD 1 0 ≤ _ at w3
      generalize l.getD i [] = R at *
      generalize R.getD 0 0 = a at *
      generalize R.getD 1 0 = b at *
      by_cases he : a = 0 ∧ b = 0
      · rw [if_pos (hok.2 (.inl he))] at h2
        refine .round [true, false] [] _ _ [0, 1, 7, 8] [] _ _ _ (i + 1) q0 ?_ ⟨by simp, ?_, ?_⟩ ⟨hi, by push_cast; exact h2⟩ (by omega)
        · simp [allP]; omega
        · simp [TI, leSlots, leV, leV1, leC, si, sl, cl, N.v, hc]
        · simp [TI, leBs, leB, leCells, ro]
      · by_cases hn : b < 1
        · rw [if_neg (fun h => by have := hok.1 h; omega)] at h2
          refine .stop [true, true, true] [] _ _ [] _ _ _ q2 ?_ (by simp) ⟨rfl, h2⟩ ?_
          · simp [allP]; omega
          · simp [leBs, leB, leCells, ro]
        · by_cases hs : b ≤ stackT a
          · rw [if_pos (hok.2 (.inr ⟨by omega, hs⟩))] at h2
            refine .round [true, true, false, false] [] _ _ [0, 1, 7, 8] [] _ _ _ (i + 1) q1 ?_ ⟨by simp, ?_, ?_⟩ ⟨hi, by push_cast; exact h2⟩ (by omega)
            · simp [allP]; omega
            · simp [TI, leSlots, leV, leV1, leC, si, sl, cl, N.v, hc]
            · simp [TI, leBs, leB, leCells, ro]
          · rw [if_neg (fun h => by have := hok.1 h; omega)] at h2
            refine .stop [true, true, false, true] [] _ _ [] _ _ _ q3 ?_ (by simp) ⟨rfl, h2⟩ ?_
            · simp [allP]; omega
            · simp [leBs, leB, leCells, ro]
    · have : i = l.length := by omega
      subst this
      refine .stop [false] [] _ _ [] _ _ _ (congrFun (congrFun (congrFun ixX2 l) c) l.length) ?_ (by simp) ?_ ?_
      · simp [allP]
      · rw [List.drop_length, badI] at h2
        exact ⟨rfl, h2⟩
      · simp [leBs, leB, leCells, ro]
theorem isK2_eq {ks : List IntKind} (h : isK2 ks = true) : ks = [.u8, .i64] := of_decide_eq_true h
theorem idx_tab : TabOk Try.prog ixN (loc w1 gIdx) := loc_ok fun xs bs v bs' ob hg hob hok => by
  clear hok
  unfold gIdx at hg
  split at hg
  · rename_i n c f ks l
    split at hg
    · rename_i hk
      simp only [Bool.and_eq_true] at hk
      have hks := isK2_eq hk.1
      have hf := Nat.eq_of_beq_eq_true hk.2
      subst hks; subst hf
      injection hg with hg; injection hg with e1 e2; injection e2 with e2 e3
      subst e1; subst e2; subst e3
      have hn := hob _ (List.Mem.head _)
      subst hn
      exact ix_works l c (hob _ (List.Mem.tail _ (List.Mem.head _)))
    · cases hg
  · cases hg
theorem one2_ok {f : FuncId} {g : Rows2 → Option (V × List SB × List Prop)} (h : ∀ l c v bs ob, g l = some (v, bs, ob) → (∀ p ∈ ob, p) → wfL l → Works Try.prog f [sl 0 l.length c] [ro l] v (ro l :: bs)) : TabOk Try.prog f (loc w1 (one2 g)) := loc_ok fun xs bs v bs' ob hg hob hok => by
  clear hok
  unfold one2 at hg
  split at hg
  · split at hg
    · rename_i hk hgl
      have hks := isK2_eq hk
      subst hks
      injection hg with hg; injection hg with e1 e2; injection e2 with e2 e3
      subst e1; subst e2; subst e3
      have hn := hob _ (List.Mem.head _)
      subst hn
      exact h _ _ _ _ _ hgl (fun p hp => hob p (by simp [hp])) (hob _ (by simp))
    · cases hg
  · cases hg
theorem one2i_ok {f : FuncId} {g : Rows2 → Int → Option (V × List SB × List Prop)} (h : ∀ l c i v bs ob, g l i = some (v, bs, ob) → (∀ p ∈ ob, p) → wfL l → (0 ≤ i ∧ i < 256) → Works Try.prog f [sl 0 l.length c, si .u8 i] [ro l] v (ro l :: bs)) : TabOk Try.prog f (loc w1 (one2i g)) := loc_ok fun xs bs v bs' ob hg hob hok => by
  clear hok
  unfold one2i at hg
  split at hg
  · split at hg
    · rename_i hk hgl
      have hks := isK2_eq hk
      subst hks
      injection hg with hg; injection hg with e1 e2; injection e2 with e2 e3
      subst e1; subst e2; subst e3
      have hn := hob _ (List.Mem.head _)
      subst hn
      exact h _ _ _ _ _ _ hgl (fun p hp => hob p (by simp [hp])) (hob _ (by simp)) (hob _ (by simp))
    · cases hg
  · cases hg
theorem one2ii_ok {f : FuncId} {g : Rows2 → Int → Int → Option (V × List SB × List Prop)} (h : ∀ l c i a v bs ob, g l i a = some (v, bs, ob) → (∀ p ∈ ob, p) → wfL l → (0 ≤ i ∧ i < 256) → i64 a → Works Try.prog f [sl 0 l.length c, si .u8 i, si .i64 a] [ro l] v (ro l :: bs)) : TabOk Try.prog f (loc w1 (one2ii g)) := loc_ok fun xs bs v bs' ob hg hob hok => by
  clear hok
  unfold one2ii at hg
  split at hg
  · split at hg
    · rename_i hk hgl
      have hks := isK2_eq hk
      subst hks
      injection hg with hg; injection hg with e1 e2; injection e2 with e2 e3
      subst e1; subst e2; subst e3
      have hn := hob _ (List.Mem.head _)
      subst hn
      exact h _ _ _ _ _ _ _ hgl (fun p hp => hob p (by simp [hp])) (hob _ (by simp)) (hob _ (by simp)) (hob _ (by simp))
    · cases hg
  · cases hg
theorem one2nn_ok {f : FuncId} {g : Rows2 → Int → Int → Option (V × List SB × List Prop)} (h : ∀ l c i a v bs ob, g l i a = some (v, bs, ob) → (∀ p ∈ ob, p) → wfL l → i64 i → i64 a → Works Try.prog f [sl 0 l.length c, si .i64 i, si .i64 a] [ro l] v (ro l :: bs)) : TabOk Try.prog f (loc w1 (one2nn g)) := loc_ok fun xs bs v bs' ob hg hob hok => by
  clear hok
  unfold one2nn at hg
  split at hg
  · split at hg
    · rename_i hk hgl
      have hks := isK2_eq hk
      subst hks
      injection hg with hg; injection hg with e1 e2; injection e2 with e2 e3
      subst e1; subst e2; subst e3
      have hn := hob _ (List.Mem.head _)
      subst hn
      exact h _ _ _ _ _ _ _ hgl (fun p hp => hob p (by simp [hp])) (hob _ (by simp)) (hob _ (by simp)) (hob _ (by simp))
    · cases hg
  · cases hg
theorem two2_ok {f : FuncId} {g : Rows2 → Rows2 → Option (V × List SB × List Prop)} (h : ∀ l k c d v bs ob, g l k = some (v, bs, ob) → (∀ p ∈ ob, p) → wfL l → wfL k → Works Try.prog f [sl 0 l.length c, sl 1 k.length d] [ro l, ro k] v (ro l :: ro k :: bs)) : TabOk Try.prog f (loc w2 (two2 g)) := loc_ok fun xs bs v bs' ob hg hob hok => by
  clear hok
  unfold two2 at hg
  split at hg
  · split at hg
    · rename_i hk hk' hgl
      have hks := isK2_eq hk
      have hks' := isK2_eq hk'
      subst hks; subst hks'
      injection hg with hg; injection hg with e1 e2; injection e2 with e2 e3
      subst e1; subst e2; subst e3
      have hn := hob _ (List.Mem.head _)
      have hm := hob _ (List.Mem.tail _ (List.Mem.head _))
      subst hn; subst hm
      exact h _ _ _ _ _ _ _ hgl (fun p hp => hob p (by simp [hp])) (hob _ (by simp)) (hob _ (by simp))
    · cases hg
  · cases hg
theorem tab1_ok : ∀ f g, tab1 f = some g → TabOk Try.prog f g := tabs_ok fun x hx => by
  simp only [List.mem_cons, List.not_mem_nil, or_false] at hx
  rcases hx with rfl | rfl | rfl
  · exact stack_tab
  · exact idx_tab
  · exact clone_tab
theorem right_tab : TabOk Try.prog 32 (loc w1 (one2 gRight)) := one2_ok fun l c v bs ob hg hob hw => by
  unfold gRight at hg
  injection hg with hg; injection hg with e1 e2; injection e2 with e2 e3
  subst e1; subst e2; subst e3
  refine works_of (r := []) tab1_ok (congrFun (congrFun (congrFun riA l) l.length) c) ⟨rfl, hw, trivial⟩ (by simp) ?_ ?_
  · show (!decide (0 ≤ badI l 0)) = l.all okR
    rcases badI_le l 0 (Int.le_refl _) with ⟨h1, h2⟩ | ⟨h1, h2⟩
    · rw [h1, h2]; rfl
    · rw [h2]; simp [h1]
  · simp [leBs, leB, leCells, ro]
/-! ### counts -/
theorem funC : Try.prog.funcs[18]? = some FC := by kernel_rfl
theorem bodC : FC.body = some (body 18) := by kernel_rfl
theorem tmpC : 2 ≤ FC.ntmps := Nat.le_of_ble_eq_true (by kernel_rfl)
theorem count_works (l : Rows2) (c : Nat) (x : Int) (hw : wfL l) (hr : l.all okR = true) : Works Try.prog 18 [sl 0 l.length c, si .u8 x] [ro l] (si .i64 (cnt x l)) [ro l] := works_cap fun hc => by
  have hlen := hw.2
  refine works_loop (I := Int × Nat) (Inv := fun s h => TC l c x s.1 s.2 h) (good := fun s => s.2 ≤ l.length ∧ s.1 + cnt x (l.drop s.2) = cnt x l ∧ 0 ≤ s.1 ∧ s.1 ≤ 16 * s.2) (μ := fun s => l.length - s.2) (i := (0, 0)) (r := []) (call0_ok 3) funC bodC (by exact tmpC) (fun _ _ => ⟨rfl, rfl⟩)
    (congrFun (congrFun (congrFun coE l) c) x) trivial ⟨by simp, ?_, ?_⟩ ⟨Nat.zero_le _, by simp, by simp, by simp⟩ ?_
  · simp [TC, leSlots, leV, leV1, leC, si, sl, N.v, hc]
  · simp [TC, leBs, leB, leCells, ro]
  · intro ⟨acc, i⟩ ⟨h1, h2, h3, h4⟩
    simp only at h1 h2 h3 h4
    by_cases hi : i < l.length
    · have hd := drop_row hi
      have hb := okR_bd (all_row hr (row_mem hi))
      have q0 := congrFun (congrFun (congrFun (congrFun (congrFun coR0 l) c) x) acc) i
      have q1 := congrFun (congrFun (congrFun (congrFun (congrFun coR1 l) c) x) acc) i
      have q2 := congrFun (congrFun (congrFun (congrFun (congrFun coR2 l) c) x) acc) i
      rw [hd, cnt] at h2
      clear hd
      rw [cntR_val] at h2
      change 0 ≤ (l.getD i []).getD 1 0 ∧ (l.getD i []).getD 1 0 ≤ stackT ((l.getD i []).getD 0 0) ∧ (l.getD i []).getD 1 0 ≤ 16 at hb
      generalize l.getD i [] = R at *
      generalize R.getD 0 0 = a at *
      generalize R.getD 1 0 = b at *
      have hneg : ¬ b < 0 := by omega
      rw [if_neg hneg] at h2
      simp only [if_neg hneg] at q2
      by_cases hx : x = 0
      · rw [if_pos hx] at h2
        refine .round [true, false] [] _ _ [1, 5, 8, 9, 10] [] _ _ _ (acc, i + 1) q0 ?_ ⟨by simp, ?_, ?_⟩ ⟨hi, by simp only; omega, h3, by simp only; omega⟩ (by simp only; omega)
        · simp [allP]; omega
        · simp [TC, leSlots, leV, leV1, leC, si, sl, N.v, hc]
        · simp [TC, leBs, leB, leCells, ro]
      · rw [if_neg hx] at h2
        by_cases hit : a = x
        · rw [if_pos hit] at h2
          refine .round [true, true, true] [] _ _ [1, 5, 8, 9, 10] [] _ _ _ (acc + b, i + 1) q2 ?_ ⟨by simp, ?_, ?_⟩ ⟨hi, by simp only; omega, by simp only; omega, by simp only; omega⟩ (by simp only; omega)
          · simp [allP]; omega
          · simp [TC, leSlots, leV, leV1, leC, si, sl, N.v, hc]
          · simp [TC, leBs, leB, leCells, ro]
        · rw [if_neg hit] at h2
          refine .round [true, true, false] [] _ _ [1, 5, 8, 9, 10] [] _ _ _ (acc, i + 1) q1 ?_ ⟨by simp, ?_, ?_⟩ ⟨hi, by simp only; omega, h3, by simp only; omega⟩ (by simp only; omega)
          · simp [allP]; omega
          · simp [TC, leSlots, leV, leV1, leC, si, sl, N.v, hc]
          · simp [TC, leBs, leB, leCells, ro]
    · have : i = l.length := by omega
      subst this
      refine .stop [false] [] _ _ [] _ _ _ (congrFun (congrFun (congrFun (congrFun (congrFun coX l) c) x) acc) l.length) ?_ (by simp) ?_ ?_
      · simp [allP]
      · rw [List.drop_length, cnt] at h2
        exact ⟨rfl, by omega⟩
      · simp [leBs, leB, leCells, ro]
theorem count_tab : TabOk Try.prog 18 (loc w1 (one2i gCount)) := one2i_ok fun l c i v bs ob hg hob hw hi => by
  unfold gCount at hg
  injection hg with hg; injection hg with e1 e2; injection e2 with e2 e3
  subst e1; subst e2; subst e3
  exact count_works l c i hw (hob _ (by simp))
/-! ### what is the same -/
theorem funS : Try.prog.funcs[12]? = some FnS := by kernel_rfl
theorem bodS : FnS.body = some (body 12) := by kernel_rfl
theorem tmpS : 2 ≤ FnS.ntmps := Nat.le_of_ble_eq_true (by kernel_rfl)
theorem row_eq {r s : List Int} (hr : r.length = 2) (hs : s.length = 2) (h0 : it r = it s) (h1 : nn r = nn s) : r = s := by
  match r, s, hr, hs with
  | [a, b], [a', b'], _, _ =>
    simp [it, nn] at h0 h1
    rw [h0, h1]
theorem works_cap2 {f : FuncId} {l k : Rows2} {b b' c d : Nat} {args : List V} {bs bs' : List SB} {v : V} (h : l.length ≤ c → k.length ≤ d → Works Try.prog f (sl b l.length c :: sl b' k.length d :: args) bs v bs') : Works Try.prog f (sl b l.length c :: sl b' k.length d :: args) bs v bs' := works_cap fun hc => by
  intro ρ K w us hm hu
  have hd : k.length ≤ d := by
    obtain ⟨_, s, _, _, u, s', _, ⟨⟨e, _, hu⟩, _⟩, _⟩ := hu
    rcases hu with ⟨h0, _⟩ | ⟨_, _, _, h1, _⟩
    · simp only [N.v] at h0; omega
    · exact h1
  exact h hc hd ρ K w us hm hu
theorem same_works (l k : Rows2) (c d : Nat) (hl : wfL l) (hk : wfL k) : Works Try.prog 12 [sl 0 l.length c, sl 1 k.length d] [ro l, ro k] (.v (.one (.sbool (decide (l = k))))) [ro l, ro k] := works_cap2 fun hc hdd => by
  have hlen := hl.2
  by_cases hlk : l.length = k.length
  · refine works_loop (I := Nat) (Inv := fun i h => TS l k c d i h) (good := fun i => i ≤ l.length ∧ (l.drop i = k.drop i ↔ l = k)) (μ := fun i => l.length - i) (i := 0) (r := []) (call0_ok 3) funS bodS (by exact tmpS) (fun _ _ => ⟨rfl, rfl⟩)
      (congrFun (congrFun (congrFun (congrFun saE l) k) c) d) ?_ ⟨by exact nd2, ?_, ?_⟩ ⟨Nat.zero_le _, by simp⟩ ?_
    · simp [allP, hlk]
    · simp [TS, leSlots, leV, leV1, leC, si, sl, N.v, List.range, List.range.loop, hc, hdd, ro]
    · simp [TS, leBs, leB, leCells, ro]
    · intro i ⟨h1, h2⟩
      by_cases hi : i < l.length
      · have hik : i < k.length := by omega
        have hd := drop_row hi
        have hd' := drop_row hik
        have hwl := (hl.1 _ (row_mem hi)).1
        have hwk := (hk.1 _ (row_mem hik)).1
        have hne : l.getD i [] ≠ k.getD i [] → l ≠ k := fun h e => h (by rw [e])
        have q0 := congrFun (congrFun (congrFun (congrFun (congrFun saR l) k) c) d) i
        have q1 := congrFun (congrFun (congrFun (congrFun (congrFun saX0 l) k) c) d) i
        rw [hd, hd'] at h2
        clear hd hd'
        generalize l.getD i [] = R at *
        generalize k.getD i [] = S at *
        by_cases hRS : R = S
        · subst hRS
          refine .round [true, false] [] _ _ [0, 1, 12, 13] [] _ _ _ (i + 1) q0 ?_ ⟨by exact nd2, ?_, ?_⟩ ⟨hi, by rw [← h2]; simp⟩ (by omega)
          · simp [allP]; omega
          · simp [TS, leSlots, leV, leV1, leC, si, sl, N.v, List.range, List.range.loop, hc, hdd, ro]
          · simp [TS, leBs, leB, leCells, ro]
        · have hcell : ¬ (R.getD 0 0 = S.getD 0 0 ∧ R.getD 1 0 = S.getD 1 0) := fun h => hRS (row_eq hwl hwk h.1 h.2)
          refine .stop [true, true] [] _ _ [] _ _ _ q1 ?_ (by exact nd2) ?_ ?_
          · generalize R.getD 0 0 = a at *
            generalize R.getD 1 0 = b at *
            generalize S.getD 0 0 = a' at *
            generalize S.getD 1 0 = b' at *
            simp [allP]; omega
          · show false = decide (l = k)
            simp [hne hRS]
          · simp [leBs, leB, leCells, ro]
      · have : i = l.length := by omega
        subst this
        refine .stop [false] [] _ _ [] _ _ _ (congrFun (congrFun (congrFun (congrFun (congrFun saX1 l) k) c) d) l.length) ?_ (by exact nd2) ?_ ?_
        · simp [allP]
        · have : l = k := h2.1 (by rw [List.drop_length, hlk, List.drop_length])
          show true = decide (l = k)
          simp [this]
        · simp [leBs, leB, leCells, ro]
  · refine works_of (r := []) tab0_ok (congrFun (congrFun (congrFun (congrFun saN l) k) c) d) ?_ (by exact nd2) ?_ ?_
    · simp [allP]; omega
    · have : l ≠ k := fun e => hlk (by rw [e])
      show false = decide (l = k)
      simp [this]
    · simp [leBs, leB, leCells, ro]
theorem same_tab : TabOk Try.prog 12 (loc w2 (two2 gSame)) := two2_ok fun l k c d v bs ob hg hob hl hk => by
  unfold gSame at hg
  injection hg with hg; injection hg with e1 e2; injection e2 with e2 e3
  subst e1; subst e2; subst e3
  exact same_works l k c d hl hk
end Go.Proofs.Ytibknlliackohaa
