/- A net's contracts: a copy of bytes; those that have to leave. -/
import Derived.Test.YtjnnfehepbicfaaNtA
namespace Go.Proofs.Ytjnnfehepbicfaa
open Go.ChangeShapes Go.WideShapes Go.ChangeAt Go.RowKit Go.Sx
theorem no_tabs : ∀ f g, (fun _ : FuncId => (none : Option (List V → List SB → List Bool → Option CallR))) f = some g → TabOk Try.prog f g := fun _ _ h => by cases h
theorem call0_ok (d : Nat) : CallOk Try.prog (call0 d) := callN_sound no_tabs d
theorem nd12 : (List.range 1 ++ [2]).Nodup := by decide
theorem nd1z : (List.range 1 ++ ([] : List Nat)).Nodup := by decide
theorem clone_works (l : List Int) (n c : Nat) (hn : n = l.length) (hx : n ≤ 1000000000) : Works Try.prog 42 [bsl 0 n c] [ri l] (bsl 1 n n) [ri l, oi l] := by
  by_cases h0 : n = 0
  · subst h0
    have hl : l = [] := List.eq_nil_of_length_eq_zero hn.symm
    subst hl
    intro ρ K w us hm hu
    obtain ⟨u, s, rfl, ⟨⟨e, he, hu⟩, h1c⟩, hs⟩ := hu
    simp only [relVs] at hs; subst hs
    rcases hu with ⟨_, _, rfl⟩ | ⟨o, sp, cap, rfl, _⟩
    · refine (works_of (r := []) (bs := [ri []]) (args := [.v (.one .nils)]) (v := .v (.one .nils)) (bs' := [ri []]) no_tabs (congrFun cl2 []) trivial nd1z trivial ⟨⟨fun h => h, rfl, rfl⟩, trivial⟩ ρ K w [.slice none 0 0] hm ⟨_, _, rfl, ⟨rfl, rfl⟩, rfl⟩).mono fun e w' ⟨u, ρ', he, hv, hm'⟩ => ?_
      have hg := hm'.beside (ghost_rel w' (.ints .u8 []) (fun ρ g i r h => by simp at h) rfl) rfl
      have hl := hm'.len
      refine ⟨u, ρ' ++ [⟨0, 0, 0⟩], he, ?_, ?_⟩
      · obtain ⟨hv1, hv2⟩ := hv
        simp only [C.rel] at hv1
        refine ⟨⟨⟨0, 0, 0⟩, ?_, .inl ⟨rfl, rfl, hv1⟩⟩, hv2⟩
        rw [← List.append_assoc, List.getElem?_append_right (by rw [hl]; simp)]
        rw [hl]; rfl
      · rw [← List.append_assoc]; exact hg
    · refine (works_of (r := [2]) (bs := [ri []]) (v := bsl 1 0 0) (bs' := [ri [], oi []]) no_tabs (congrFun (congrFun (congrFun cl3 []) ⟨e.blk, o, sp⟩) cap) trivial nd12 ⟨rfl, rfl, rfl, rfl, Nat.le_refl _, Nat.le_refl _⟩ ⟨⟨fun h => h, rfl, rfl⟩, ⟨fun h => h, trivial⟩, trivial⟩ ρ K w _ hm ⟨_, _, rfl, ⟨rfl, h1c⟩, rfl⟩)
  · refine works_of (r := [2]) no_tabs (congrFun (congrFun (congrFun cl1 l) n) c) ⟨rfl, hn, by omega, by omega, by omega, trivial⟩ nd12 ⟨rfl, rfl, rfl, rfl, Nat.le_refl _, Nat.le_refl _⟩ ⟨⟨fun h => h, rfl, rfl⟩, ⟨fun h => h, rfl, rfl⟩, trivial⟩
theorem clone_none : Works Try.prog 42 [nl] [] nl [] :=
  works_of (r := []) (bs := []) no_tabs (congrFun cl0 0) trivial (by decide) trivial trivial
def wantB : List V → List Want := fun _ => [(false, .ints .u8)]
def gClone : Sx.Loc := fun args bs => match args, bs with
  | [.v (.one (.slice 0 (.c 0) 1 (.s n) (.s _)))], [⟨false, .ints k l⟩] => match decide (k = .u8) with
    | true => some (bsl 1 n n, [ri l, oi l], [n = l.length, n ≤ 1000000000])
    | false => none
  | [.v (.one .nils)], [] => some (nl, [], [])
  | _, _ => none
theorem clone_tab : TabOk Try.prog 42 (loc wantB gClone) := loc_ok fun xs bs v bs' ob hg hob hokb => by
  unfold gClone at hg
  split at hg
  · rename_i n c k l
    split at hg
    · rename_i hk
      injection hg with hg; injection hg with e1 e2; injection e2 with e2 e3
      subst e1; subst e2; subst e3
      have hk' : k = .u8 := of_decide_eq_true hk
      subst hk'
      exact clone_works l n c (hob _ (by simp)) (hob (n ≤ 1000000000) (by simp))
    · cases hg
  · injection hg with hg; injection hg with e1 e2; injection e2 with e2 e3
    subst e1; subst e2; subst e3
    exact clone_none
  · cases hg
/-! ### those that have to leave -/
def leaveS (has : Nat → Rw → Bool) : Nat → Rws → Rws
  | _, [] => []
  | i, r :: t => match has i r with
    | true => leaveS has (i + 1) t
    | false => r :: leaveS has (i + 1) t
theorem leaveS_app (has : Nat → Rw → Bool) : ∀ (i : Nat) (a b : Rws), leaveS has i (a ++ b) = leaveS has i a ++ leaveS has (i + a.length) b
  | i, [], b => by simp [leaveS]
  | i, r :: t, b => by
    simp only [List.cons_append, leaveS, leaveS_app has (i + 1) t b, List.length_cons]
    have : i + 1 + t.length = i + (t.length + 1) := by omega
    rw [this]
    split <;> rfl
theorem leaveS_len (has : Nat → Rw → Bool) : ∀ (i : Nat) (a : Rws), (leaveS has i a).length ≤ a.length
  | i, [] => Nat.le_refl _
  | i, r :: t => by
    have := leaveS_len has (i + 1) t
    simp only [leaveS]
    split <;> simp <;> omega
def wfL (l : Rws) : Prop := (∀ r ∈ l, r.1.length = 2 ∧ r.2.length ≤ 1048576) ∧ l.length ≤ 4096
theorem row2 {r : Rw} (h : r.1.length = 2) : ([r.1.getD 0 0, r.1.getD 1 0], r.2) = r := by
  obtain ⟨a, b⟩ := r
  match a, h with
  | [x, y], _ => rfl
theorem row_at {l : Rws} {i : Nat} (h : i < l.length) : l.getD i ([], []) = l[i] := by simp [List.getD, h]
theorem take_row {l : Rws} {i : Nat} (h : i < l.length) : l.take (i + 1) = l.take i ++ [l.getD i ([], [])] := by
  rw [List.take_add_one, row_at h]; simp [h]
theorem leave_round {has : Nat → Rw → Bool} {l : Rws} {i : Nat} (h : i < l.length) : leaveS has 0 (l.take (i + 1)) = match has i (l.getD i ([], [])) with
  | true => leaveS has 0 (l.take i)
  | false => leaveS has 0 (l.take i) ++ [l.getD i ([], [])] := by
  rw [take_row h, leaveS_app, List.length_take, Nat.min_eq_left (by omega), Nat.zero_add]
  simp only [leaveS]
  split <;> simp
theorem funL : Try.prog.funcs[36]? = some FL := by kernel_rfl
theorem bodL : FL.body = some (body 36) := by kernel_rfl
theorem tmpL : 2 ≤ FL.ntmps := Nat.le_of_ble_eq_true (by kernel_rfl)
theorem nd3 : (List.range 3 ++ [3]).Nodup := by decide
theorem nd37 : (List.range 3 ++ [7]).Nodup := by decide
theorem leave_works (f : Nat) (q : Int) (has : Nat → Rw → Bool)
    (h0 : ∀ (z : Int) (l st : Rws) (n c i : Nat), stopV [0, 1, 5, 12, 13, 14] [0, 1, 2, 3] (rndL f (LL.2.length + 1) [true, false] z q l st n c i) = some (KL, [(0, fl 0), (1, cw f), (5, rsl 3 st.length st.length), (12, rsl 2 n c), (13, si .i64 n), (14, si .i64 ((i : Int) + 1))], [nb true z 2 n c, bx q, rr l, orr st],
      [(-9223372036854775808 : Int) ≤ (i : Int) + 1 ∧ (i : Int) + 1 ≤ 9223372036854775807, (!has i (l.getD i ([], []))) = false, i < l.length, (0 : Int) ≤ i, (i : Int) < n, decide ((i : Int) < n) = true]))
    (h1 : ∀ (z : Int) (l st : Rws) (n c i : Nat), stopV [0, 1, 5, 12, 13, 14] [0, 1, 2, 7] (rndL f (LL.2.length + 1) [true, true, true, true, true] z q l st n c i) = some (KL, [(0, fl 0), (1, cw f), (5, rsl 7 (st.length + 1) (st.length + 1)), (12, rsl 2 n c), (13, si .i64 n), (14, si .i64 ((i : Int) + 1))],
      [nb true z 2 n c, bx q, rr l, orr (st ++ [([(l.getD i ([], [])).1.getD 0 0, (l.getD i ([], [])).1.getD 1 0], (l.getD i ([], [])).2)])],
      [(-9223372036854775808 : Int) ≤ (i : Int) + 1 ∧ (i : Int) + 1 ≤ 9223372036854775807, (l.getD i ([], [])).2.length = (l.getD i ([], [])).2.length, (0 : Nat) = 0, st.length = st.length, (0 : Nat) = 0, (1 : Nat) = [([(l.getD i ([], [])).1.getD 0 0, (l.getD i ([], [])).1.getD 1 0], (l.getD i ([], [])).2)].length,
        (st.length + 1) * 40 ≤ 140737488355328, st.length + 1 ≤ 9223372036854775807, (!has i (l.getD i ([], []))) = true, i < l.length, (0 : Int) ≤ i, (i : Int) < n, decide ((i : Int) < n) = true]))
    (z : Int) (l : Rws) (c : Nat) (hw : wfL l) (hc : l.length ≤ c) : Works Try.prog 36 [fl 0, cw f] [nb true z 2 l.length c, bx q, rr l] (si .i64 (l.length - (leaveS has 0 l).length))
      [nb true z 3 (leaveS has 0 l).length (leaveS has 0 l).length, bx q, rr l, orr (leaveS has 0 l)] := by
  obtain ⟨hw1, hw2⟩ := hw
  refine works_loopG (I := Nat) (Inv := fun i h => TL f z q l (leaveS has 0 (l.take i)) l.length c i h) (good := fun i => i ≤ l.length) (μ := fun i => l.length - i) (i := 0) (r := [3]) (call0_ok 4) funL bodL (by exact tmpL) k2 (fun _ _ => ⟨rfl, rfl⟩)
    (congrFun (congrFun (congrFun (congrFun (congrFun leE f) z) q) l) l.length |> fun h => congrFun h c) trivial ⟨nd3, ?_, ?_⟩ (Nat.zero_le _) ?_
  · simp [TL, leSlots, leV, leV1, leC, si, rsl, fl, cw, N.v, List.range, List.range.loop, leaveS, hc]
  · simp [TL, leBs, leB, leCells, leL, leC, nb, bx, rr, orr, N.v, List.range, List.range.loop, leaveS, hc]
  · intro i hi
    by_cases hlt : i < l.length
    · have hr := leave_round (has := has) hlt
      have hwr := hw1 _ (row_at hlt ▸ List.getElem_mem hlt)
      have hst := leaveS_len has 0 (l.take i)
      rw [List.length_take] at hst
      cases hh : has i (l.getD i ([], [])) with
      | true =>
        rw [hh] at hr
        refine .round _ [] _ _ _ [3] _ _ _ (i + 1) (h0 z l _ l.length c i) ?_ ⟨nd3, ?_, ?_⟩ hlt (by omega)
        · simp only [allP, hh]; simp; omega
        · rw [hr]; simp [TL, leSlots, leV, leV1, leC, si, rsl, fl, cw, N.v, List.range, List.range.loop, hc]
        · rw [hr]; simp [TL, leBs, leB, leCells, leL, leC, nb, bx, rr, orr, N.v, List.range, List.range.loop, hc]
      | false =>
        rw [hh] at hr
        refine .round _ [] _ _ _ [7] _ _ _ (i + 1) (h1 z l _ l.length c i) ?_ ⟨nd37, ?_, ?_⟩ hlt (by omega)
        · simp only [allP, hh]; simp; omega
        · rw [hr]; simp [TL, leSlots, leV, leV1, leC, si, rsl, fl, cw, N.v, List.range, List.range.loop, hc]
        · rw [hr, row2 hwr.1]; simp [TL, leBs, leB, leCells, leL, leC, nb, bx, rr, orr, N.v, List.range, List.range.loop, hc]
    · have hil : i = l.length := by omega
      subst hil
      have hst := leaveS_len has 0 l
      refine .stop [false] [] _ _ [3] _ _ _ (congrFun (congrFun (congrFun (congrFun (congrFun (congrFun (congrFun (congrFun leX f) z) q) l) _) _) _) _) ?_ nd3 ?_ ?_
      · simp only [allP, List.take_length]; simp; omega
      · rw [List.take_length]; simp [leV, leV1, leC, si]
      · rw [List.take_length]; simp [leBs, leB, leCells, leL, leC, nb, bx, rr, orr, N.v, List.range, List.range.loop, hc]
def hasD (q : Int) (i : Nat) (_ : Rw) : Bool := decide ((i : Int) = q)
def hasF (q : Int) (_ : Nat) (r : Rw) : Bool := decide (r.1.getD 1 0 = q)
def gLeave : Sx.Loc := fun args bs => match args, bs with
  | [.v (.one (.ptr 0 (.c 0) 1 1)), .v (.one (.clos f [1]))], [⟨true, .exp [.sint .i64 z, .slice 2 (.c 0) 3 (.s n) (.s c)]⟩, ⟨false, .exp [.sint .i64 q]⟩, ⟨false, .recB ks l⟩] => match decide (ks = k2), Nat.beq f 37, Nat.beq f 39 with
    | true, true, _ => some (si .i64 (l.length - (leaveS (hasD q) 0 l).length), [nb true z 3 (leaveS (hasD q) 0 l).length (leaveS (hasD q) 0 l).length, bx q, rr l, orr (leaveS (hasD q) 0 l)], [n = l.length, wfL l, l.length ≤ c])
    | true, false, true => some (si .i64 (l.length - (leaveS (hasF q) 0 l).length), [nb true z 3 (leaveS (hasF q) 0 l).length (leaveS (hasF q) 0 l).length, bx q, rr l, orr (leaveS (hasF q) 0 l)], [n = l.length, wfL l, l.length ≤ c])
    | _, _, _ => none
  | _, _ => none
def wantL : List V → List Want := fun _ => [(true, .can), (false, .can), (false, .recB k2)]
theorem leave_tab : TabOk Try.prog 36 (loc wantL gLeave) := loc_ok fun xs bs v bs' ob hg hob hokb => by
  unfold gLeave at hg
  split at hg
  · rename_i f z n c q ks l
    split at hg
    · rename_i hk hf
      injection hg with hg; injection hg with e1 e2; injection e2 with e2 e3
      subst e1; subst e2; subst e3
      have hk := of_decide_eq_true hk; subst hk
      have hf := Nat.eq_of_beq_eq_true hf; subst hf
      have hn : n = l.length := hob _ (by simp)
      subst hn
      exact leave_works _ q (hasD q) (fun z l st n c i => congrFun (congrFun (congrFun (congrFun (congrFun (congrFun (congrFun leA0 z) q) l) st) n) c) i) (fun z l st n c i => congrFun (congrFun (congrFun (congrFun (congrFun (congrFun (congrFun leA1 z) q) l) st) n) c) i) z l c (hob (wfL l) (by simp)) (hob (l.length ≤ c) (by simp))
    · rename_i hk _ hf
      injection hg with hg; injection hg with e1 e2; injection e2 with e2 e3
      subst e1; subst e2; subst e3
      have hk := of_decide_eq_true hk; subst hk
      have hf := Nat.eq_of_beq_eq_true hf; subst hf
      have hn : n = l.length := hob _ (by simp)
      subst hn
      exact leave_works _ q (hasF q) (fun z l st n c i => congrFun (congrFun (congrFun (congrFun (congrFun (congrFun (congrFun leB0 z) q) l) st) n) c) i) (fun z l st n c i => congrFun (congrFun (congrFun (congrFun (congrFun (congrFun (congrFun leB1 z) q) l) st) n) c) i) z l c (hob (wfL l) (by simp)) (hob (l.length ≤ c) (by simp))
    · cases hg
  · cases hg
end Go.Proofs.Ytjnnfehepbicfaa
