/- The reference's contracts: how many are ahead, where one is, a net that is new, who stays. -/
import Derived.Test.YtjnnfehepbicfaaNrA
namespace Go.Proofs.Ytjnnfehepbicfaa
open Go.ChangeShapes Go.WideShapes Go.ChangeAt Go.RowKit Go.Sx
theorem nd1n : (List.range 1 ++ ([] : List Nat)).Nodup := by decide
theorem nd11 : (List.range 1 ++ [1]).Nodup := by decide
theorem nd1_123 : (List.range 1 ++ [1, 2, 3]).Nodup := by decide
theorem nd1_126 : (List.range 1 ++ [1, 2, 6]).Nodup := by decide
theorem nd1_3 : (List.range 1 ++ [3]).Nodup := by decide
theorem aheadS_round {h : Rws} {w : Int} {i : Nat} (hi : i < h.length) : aheadS (h.take (i + 1)) w = if (h.getD i ([], [])).1.getD 0 0 < w then aheadS (h.take i) w + 1 else aheadS (h.take i) w := by
  rw [take_row hi]
  unfold aheadS
  rw [List.filter_append, List.length_append]
  by_cases hd : (h.getD i ([], [])).1.getD 0 0 < w
  · rw [if_pos hd, List.filter_cons, decide_eq_true hd]; rfl
  · rw [if_neg hd, List.filter_cons, decide_eq_false hd]; rfl
theorem aheadS_len (h : Rws) (w : Int) : aheadS h w ≤ h.length := List.length_filter_le ..
theorem funH : Try.prog.funcs[43]? = some FH := by kernel_rfl
theorem bodH : FH.body = some (body 43) := by kernel_rfl
theorem tmpH : 2 ≤ FH.ntmps := Nat.le_of_ble_eq_true (by kernel_rfl)
theorem ahead_works (N E w : Int) (h : Rws) (c : Nat) (hc : h.length ≤ c) (hm : h.length ≤ 1000000) : Works Try.prog 43 [nv N E 0 h.length c, si .i64 w] [r3 h] (si .i64 (aheadS h w)) [r3 h] := by
  refine works_loop (I := Nat) (Inv := fun i hs => TH N E w h h.length c (aheadS (h.take i) w) i hs) (good := fun i => i ≤ h.length) (μ := fun i => h.length - i) (i := 0) (r := [1]) (call0_ok 4) funH bodH (by exact tmpH) (fun _ _ => ⟨rfl, rfl⟩)
    (congrFun (congrFun (congrFun (congrFun (congrFun (congrFun ahE N) E) w) h) h.length) c) trivial ⟨nd11, ?_, ?_⟩ (Nat.zero_le _) ?_
  · simp [TH, leSlots, leV, leV1, leC, si, np, Sx.N.v, List.range, List.range.loop, aheadS]
  · simp [TH, leBs, leB, leCells, leL, leC, r3, nbx, Sx.N.v, List.range, List.range.loop, hc]
  · intro i hi
    have hk := aheadS_len (h.take i) w
    rw [List.length_take] at hk
    by_cases hlt : i < h.length
    · have hr := aheadS_round (w := w) hlt
      by_cases hd : (h.getD i ([], [])).1.getD 0 0 < w
      · rw [if_pos hd] at hr
        refine .round [true, true] [] _ _ _ [1] _ _ _ (i + 1) (congrFun (congrFun (congrFun (congrFun (congrFun (congrFun (congrFun (congrFun ahR1 N) E) w) h) h.length) c) _) i) ?_ ⟨nd11, ?_, ?_⟩ hlt (by omega)
        · simp only [allP, decide_eq_true hd]; simp [hlt]; omega
        · rw [hr]; simp [TH, leSlots, leV, leV1, leC, si, np, Sx.N.v, List.range, List.range.loop]
        · simp [TH, leBs, leB, leCells, leL, leC, r3, nbx, Sx.N.v, List.range, List.range.loop, hc]
      · rw [if_neg hd] at hr
        refine .round [true, false] [] _ _ _ [1] _ _ _ (i + 1) (congrFun (congrFun (congrFun (congrFun (congrFun (congrFun (congrFun (congrFun ahR0 N) E) w) h) h.length) c) _) i) ?_ ⟨nd11, ?_, ?_⟩ hlt (by omega)
        · simp only [allP, decide_eq_false hd]; simp [hlt]; omega
        · rw [hr]; simp [TH, leSlots, leV, leV1, leC, si, np, Sx.N.v, List.range, List.range.loop]
        · simp [TH, leBs, leB, leCells, leL, leC, r3, nbx, Sx.N.v, List.range, List.range.loop, hc]
    · have hil : i = h.length := by omega
      subst hil
      refine .stop [false] [] _ _ [] _ _ _ (congrFun (congrFun (congrFun (congrFun (congrFun (congrFun (congrFun (congrFun ahX N) E) w) h) _) _) _) _) ?_ nd1n ?_ ?_
      · simp only [allP]; simp
      · rw [List.take_length]; simp [leV, leV1, leC, si]
      · simp [leBs, leB, leCells, r3]
theorem ahead_tab : TabOk Try.prog 43 (loc want3 gAhead) := loc_ok fun xs bs v bs' ob hg hob hokb => by
  unfold gAhead at hg
  split at hg
  · split at hg
    · rename_i hk
      injection hg with hg; injection hg with e1 e2; injection e2 with e2 e3
      subst e1; subst e2; subst e3
      have hk := of_decide_eq_true hk; subst hk
      have hn := hob _ m0; subst hn
      exact ahead_works _ _ _ _ _ (hob _ m1) (hob _ m2)
    · cases hg
  · cases hg
theorem tabH_ok : ∀ f g, tabH f = some g → TabOk Try.prog f g := tabs_ok fun x hx => by
  simp only [List.mem_cons, List.not_mem_nil, or_false] at hx
  rcases hx with rfl
  exact ahead_tab
theorem callH_ok (d : Nat) : CallOk Try.prog (callH d) := callN_sound tabH_ok d
/-! ### a heap: the later ahead of the earlier -/
def wf3 (E : Int) (h : Rws) : Prop := (∀ r ∈ h, r.1.length = 3 ∧ r.2.length ≤ 1048576) ∧ h.length ≤ 4096 ∧ (0 ≤ E ∧ E ≤ 1000000) ∧ (∀ r ∈ h, r.1.getD 0 0 ≤ E) ∧ h.Pairwise (fun a b => b.1.getD 0 0 < a.1.getD 0 0)
theorem aheadS_all {E : Int} {h : Rws} (hw : wf3 E h) : aheadS h (E + 1) = h.length := by
  unfold aheadS
  rw [List.filter_eq_self.2]
  intro r hr
  have := hw.2.2.2.1 r hr
  exact decide_eq_true (by omega)
theorem aheadS_at {E : Int} {h : Rws} (hw : wf3 E h) {i : Nat} (hi : i < h.length) : aheadS h ((h.getD i ([], [])).1.getD 0 0) = h.length - 1 - i := by
  have hp := hw.2.2.2.2
  have hs : h = h.take i ++ (h.getD i ([], []) :: h.drop (i + 1)) := by
    rw [row_at hi, ← List.drop_eq_getElem_cons hi, List.take_append_drop]
  have hl : (h.drop (i + 1)).length = h.length - 1 - i := by rw [List.length_drop]; omega
  generalize h.getD i ([], []) = x at *
  rw [← hl]
  generalize h.drop (i + 1) = b at *
  generalize h.take i = a at *
  subst hs
  obtain ⟨_, h2, h3⟩ := List.pairwise_append.1 hp
  obtain ⟨h4, _⟩ := List.pairwise_cons.1 h2
  unfold aheadS
  rw [List.filter_append, List.filter_cons, decide_eq_false (Int.lt_irrefl _)]
  have ea : a.filter (fun r => decide (r.1.getD 0 0 < x.1.getD 0 0)) = [] := by
    rw [List.filter_eq_nil_iff]
    intro y hy
    have := h3 y hy x (by simp)
    simp only [decide_eq_true_eq]; omega
  have eb : b.filter (fun r => decide (r.1.getD 0 0 < x.1.getD 0 0)) = b := by
    rw [List.filter_eq_self]
    intro y hy
    exact decide_eq_true (h4 y hy)
  rw [ea, eb]; rfl
theorem flying_works (N E : Int) (h : Rws) (c : Nat) (hc : h.length ≤ c) (hw : wf3 E h) : Works Try.prog 28 [nv N E 0 h.length c] [r3 h] (si .i64 h.length) [r3 h] := by
  have q := congrFun (congrFun (congrFun (congrFun (congrFun fyR N) E) h) h.length) c
  rw [aheadS_all hw] at q
  obtain ⟨_, hw1, hw2, _⟩ := hw
  refine works_of (r := []) tabH_ok q ?_ nd1n ?_ ?_
  · simp [allP, hc]; omega
  · simp [leV, leV1, leC, si]
  · simp [leBs, leB, leCells, r3]
def gFly : Sx.Loc := fun args bs => match args, bs with
  | [.v (.agg [.sint .i64 _, .sint .i64 E, .slice 0 (.c 0) 4 (.s n) (.s c)])], [⟨false, .recB ks h⟩] => match decide (ks = k3) with
    | true => some (si .i64 h.length, [r3 h], [n = h.length, h.length ≤ c, wf3 E h])
    | _ => none
  | _, _ => none
theorem fly_tab : TabOk Try.prog 28 (loc want3 gFly) := loc_ok fun xs bs v bs' ob hg hob hokb => by
  unfold gFly at hg
  split at hg
  · split at hg
    · rename_i hk
      injection hg with hg; injection hg with e1 e2; injection e2 with e2 e3
      subst e1; subst e2; subst e3
      have hk := of_decide_eq_true hk; subst hk
      have hn := hob _ m0; subst hn
      exact flying_works _ _ _ _ (hob _ m1) (hob _ m2)
    · cases hg
  · cases hg
/-! ### where one is -/
def findS (h : Rws) (p : Int) : Int := if 0 ≤ p ∧ p < h.length then (h.length : Int) - 1 - p else -1
theorem funI : Try.prog.funcs[41]? = some FI := by kernel_rfl
theorem bodI : FI.body = some (body 41) := by kernel_rfl
theorem tmpI : 2 ≤ FI.ntmps := Nat.le_of_ble_eq_true (by kernel_rfl)
theorem find_works (N E p : Int) (h : Rws) (c : Nat) (hc : h.length ≤ c) (hw : wf3 E h) : Works Try.prog 41 [nv N E 0 h.length c, si .i64 p] [r3 h] (si .i64 (findS h p)) [r3 h] := by
  have hlen := hw.2.1
  refine works_loop (I := Nat) (Inv := fun i hs => TI N E p h h.length c i hs) (good := fun i => i ≤ h.length ∧ ∀ j : Nat, j < i → ((h.length - 1 - j : Nat) : Int) ≠ p) (μ := fun i => h.length - i) (i := 0) (r := [1]) (callH_ok 4) funI bodI (by exact tmpI) (fun _ _ => ⟨rfl, rfl⟩)
    (congrFun (congrFun (congrFun (congrFun (congrFun (congrFun fiE N) E) p) h) h.length) c) trivial ⟨nd11, ?_, ?_⟩ ⟨Nat.zero_le _, fun j hj => by omega⟩ ?_
  · simp [TI, leSlots, leV, leV1, leC, si, np, Sx.N.v, List.range, List.range.loop]
  · simp [TI, leBs, leB, leCells, leL, leC, r3, nbx, Sx.N.v, List.range, List.range.loop, hc]
  · intro i ⟨hi, hno⟩
    by_cases hlt : i < h.length
    · have ha := aheadS_at hw hlt
      by_cases hd : ((h.length - 1 - i : Nat) : Int) = p
      · have hf : findS h p = i := by unfold findS; rw [if_pos (by omega)]; omega
        have q := congrFun (congrFun (congrFun (congrFun (congrFun (congrFun (congrFun fiF N) E) p) h) h.length) c) i
        rw [ha] at q
        refine .stop [true, true] [] _ _ [] _ _ _ q ?_ nd1n ?_ ?_
        · simp only [allP, decide_eq_true hd]; simp [hlt, hc]; omega
        · rw [hf]; simp [leV, leV1, leC, si]
        · simp [leBs, leB, leCells, r3]
      · have q := congrFun (congrFun (congrFun (congrFun (congrFun (congrFun (congrFun fiR N) E) p) h) h.length) c) i
        rw [ha] at q
        refine .round [true, false] [] _ _ _ [1] _ _ _ (i + 1) q ?_ ⟨nd11, ?_, ?_⟩ ⟨hlt, fun j hj => ?_⟩ (by omega)
        · simp only [allP, decide_eq_false hd]; simp [hlt, hc]; omega
        · simp [TI, leSlots, leV, leV1, leC, si, np, Sx.N.v, List.range, List.range.loop]
        · simp [TI, leBs, leB, leCells, leL, leC, r3, nbx, Sx.N.v, List.range, List.range.loop, hc]
        · by_cases hji : j = i
          · rw [hji]; exact hd
          · exact hno j (by omega)
    · have hil : i = h.length := by omega
      subst hil
      have hf : findS h p = -1 := by
        unfold findS
        rw [if_neg]
        intro ⟨h0, h1⟩
        exact hno (h.length - 1 - p.toNat) (by omega) (by omega)
      refine .stop [false] [] _ _ [] _ _ _ (congrFun (congrFun (congrFun (congrFun (congrFun (congrFun (congrFun fiX N) E) p) h) _) _) _) ?_ nd1n ?_ ?_
      · simp only [allP]; simp
      · rw [hf]; simp [leV, leV1, leC, si]
      · simp [leBs, leB, leCells, r3]
def gFind : Sx.Loc := fun args bs => match args, bs with
  | [.v (.agg [.sint .i64 _, .sint .i64 E, .slice 0 (.c 0) 4 (.s n) (.s c)]), .v (.one (.sint .i64 p))], [⟨false, .recB ks h⟩] => match decide (ks = k3) with
    | true => some (si .i64 (findS h p), [r3 h], [n = h.length, h.length ≤ c, wf3 E h])
    | _ => none
  | _, _ => none
theorem find_tab : TabOk Try.prog 41 (loc want3 gFind) := loc_ok fun xs bs v bs' ob hg hob hokb => by
  unfold gFind at hg
  split at hg
  · split at hg
    · rename_i hk
      injection hg with hg; injection hg with e1 e2; injection e2 with e2 e3
      subst e1; subst e2; subst e3
      have hk := of_decide_eq_true hk; subst hk
      have hn := hob _ m0; subst hn
      exact find_works _ _ _ _ _ (hob _ m1) (hob _ m2)
    · cases hg
  · cases hg
/-! ### a net that is new -/
def rnewV (z : Int) : V := .tup [.agg [.sint .i64 z, .sint .i64 0, .slice 0 (.c 0) 4 (.s 0) (.s 0)], .one (.sint .i64 0)]
def rnewN : V := .tup [.agg [.int .i64 0, .int .i64 0, .nils], .one (.sint .i64 2)]
theorem rnew_makes (z : Int) (h : 1 ≤ z ∧ z ≤ 64) : Makes Try.prog 20 [.int .i64 z] (rnewV z) [o3 []] := by
  refine makes_ofG tabH_ok k3 (congrFun rnC z) ?_ (by decide) ?_ ?_ ⟨_, _, rfl, ⟨rfl, rfl⟩, rfl⟩
  · simp only [allP]; simp; omega
  · simp [rnewV, leV, leL1, leV1, leL, leC, Sx.N.v]
  · simp [leBs, leB, leCells, o3]
theorem rnew_none (z : Int) (h : ¬ (1 ≤ z ∧ z ≤ 64)) : Makes Try.prog 20 [.int .i64 z] rnewN [] := by
  by_cases h1 : z < 1
  · refine makes_of (bs := []) tabH_ok (congrFun rnA z) ?_ List.nodup_nil ?_ trivial ⟨_, _, rfl, ⟨rfl, rfl⟩, rfl⟩
    · simp only [allP]; simp; omega
    · simp [rnewN, leV, leL1, leV1, leL, leC]
  · refine makes_of (bs := []) tabH_ok (congrFun rnB z) ?_ List.nodup_nil ?_ trivial ⟨_, _, rfl, ⟨rfl, rfl⟩, rfl⟩
    · simp only [allP]; simp; omega
    · simp [rnewN, leV, leL1, leV1, leL, leC]
/-- hint: is it one? -/
def gRNew : List V → List SB → List Bool → Option CallR := fresh fun args h => match ivs [.i64] args, h with
  | some [z], true :: h' => some (rnewV z, [o3 []], h', [1 ≤ z ∧ z ≤ 64])
  | some [z], false :: h' => some (rnewN, [], h', [¬ (1 ≤ z ∧ z ≤ 64)])
  | _, _ => none
theorem rnew_tab : TabOk Try.prog 20 gRNew := fresh_ok fun args h v bs h' ob hg hob => by
  split at hg
  · rename_i z h1 hv
    injection hg with hg; injection hg with e1 e2; injection e2 with e2 e3; injection e3 with e3 e4
    subst e1; subst e2; subst e3; subst e4
    refine ⟨rfl, fun ρ us hu => ?_⟩
    obtain ⟨rfl, _⟩ := ivs_rel hv hu
    exact rnew_makes z (hob _ m0)
  · rename_i z h1 hv
    injection hg with hg; injection hg with e1 e2; injection e2 with e2 e3; injection e3 with e3 e4
    subst e1; subst e2; subst e3; subst e4
    refine ⟨rfl, fun ρ us hu => ?_⟩
    obtain ⟨rfl, _⟩ := ivs_rel hv hu
    exact rnew_none z (hob _ m0)
  · cases hg
/-! ### who stays -/
def forget3 (h : Rws) (q : Int) : Rws := h.filter fun r => !decide (r.1.getD 2 0 = q)
theorem forget3_round {h : Rws} {q : Int} {i : Nat} (hi : i < h.length) : forget3 (h.take (i + 1)) q = match decide ((h.getD i ([], [])).1.getD 2 0 = q) with
  | true => forget3 (h.take i) q
  | false => forget3 (h.take i) q ++ [h.getD i ([], [])] := by
  rw [take_row hi]
  unfold forget3
  rw [List.filter_append]
  cases hd : decide ((h.getD i ([], [])).1.getD 2 0 = q) with
  | true => simp only [List.filter_cons, hd]; simp
  | false => simp only [List.filter_cons, hd]; rfl
theorem forget3_len (h : Rws) (q : Int) : (forget3 h q).length ≤ h.length := List.length_filter_le ..
theorem row3' {r : Rw} (h : r.1.length = 3) : ([r.1.getD 0 0, r.1.getD 1 0, r.1.getD 2 0], r.2) = r := by
  obtain ⟨a, b⟩ := r
  match a, h with
  | [x, y, z], _ => rfl
theorem funG : Try.prog.funcs[24]? = some FG := by kernel_rfl
theorem bodG : FG.body = some (body 24) := by kernel_rfl
theorem tmpG : 2 ≤ FG.ntmps := Nat.le_of_ble_eq_true (by kernel_rfl)
def forgetV (N E : Int) (h : Rws) (q : Int) : V := .tup [.agg [.sint .i64 N, .sint .i64 E, .slice 1 (.c 0) 4 (.s (forget3 h q).length) (.s (forget3 h q).length)], .one (.sint .i64 (h.length - (forget3 h q).length))]
theorem forget_works3 (N E q : Int) (h : Rws) (c : Nat) (hc : h.length ≤ c) (hw : wf3 E h) : Works Try.prog 24 [nv N E 0 h.length c, si .i64 q] [r3 h] (forgetV N E h q) [r3 h, o3 (forget3 h q)] := by
  obtain ⟨hw1, hw2, _⟩ := hw
  refine works_loopG (I := Nat) (Inv := fun i hs => TG N E q h (forget3 (h.take i) q) h.length c i hs) (good := fun i => i ≤ h.length) (μ := fun i => h.length - i) (i := 0) (r := [1, 2, 3]) (call0_ok 4) funG bodG (by exact tmpG) k3 (fun _ _ => ⟨rfl, rfl⟩)
    (congrFun (congrFun (congrFun (congrFun (congrFun (congrFun fgE N) E) q) h) h.length) c) trivial ⟨nd1_123, ?_, ?_⟩ (Nat.zero_le _) ?_
  · simp [TG, leSlots, leV, leV1, leC, si, np, hsl, Sx.N.v, List.range, List.range.loop, forget3]
  · simp [TG, leBs, leB, leCells, leL, leC, r3, o3, nbx, Sx.N.v, List.range, List.range.loop, hc, forget3]
  · intro i hi
    have hk := forget3_len (h.take i) q
    rw [List.length_take] at hk
    by_cases hlt : i < h.length
    · have hr := forget3_round (q := q) hlt
      have h2 := (hw1 _ (row_at hlt ▸ List.getElem_mem hlt)).1
      by_cases hd : (h.getD i ([], [])).1.getD 2 0 = q
      · rw [decide_eq_true hd] at hr
        refine .round [true, false] [] _ _ _ [1, 2, 3] _ _ _ (i + 1) (congrFun (congrFun (congrFun (congrFun (congrFun (congrFun (congrFun (congrFun fgR0 N) E) q) h) _) h.length) c) i) ?_ ⟨nd1_123, ?_, ?_⟩ hlt (by omega)
        · simp only [allP, decide_eq_true hd]; simp [hlt]; omega
        · rw [hr]; simp [TG, leSlots, leV, leV1, leC, si, np, hsl, Sx.N.v, List.range, List.range.loop]
        · rw [hr]; simp [TG, leBs, leB, leCells, leL, leC, r3, o3, nbx, Sx.N.v, List.range, List.range.loop, hc]
      · rw [decide_eq_false hd] at hr
        have q' := congrFun (congrFun (congrFun (congrFun (congrFun (congrFun (congrFun (congrFun fgR1 N) E) q) h) (forget3 (h.take i) q)) h.length) c) i
        simp only [row3' h2] at q'
        refine .round [true, true, true, true, true] [] _ _ _ [1, 2, 6] _ _ _ (i + 1) q' ?_ ⟨nd1_126, ?_, ?_⟩ hlt (by omega)
        · simp only [allP, decide_eq_false hd]; simp [hlt]; omega
        · rw [hr]; simp [TG, leSlots, leV, leV1, leC, si, np, hsl, Sx.N.v, List.range, List.range.loop]
        · rw [hr]; simp [TG, leBs, leB, leCells, leL, leC, r3, o3, nbx, Sx.N.v, List.range, List.range.loop, hc]
    · have hil : i = h.length := by omega
      subst hil
      have hk := forget3_len h q
      refine .stop [false] [] _ _ [3] _ _ _ (congrFun (congrFun (congrFun (congrFun (congrFun (congrFun (congrFun (congrFun fgX N) E) q) h) _) _) _) _) ?_ nd1_3 ?_ ?_
      · simp only [allP, List.take_length]; simp; omega
      · rw [List.take_length]; simp [forgetV, leV, leL1, leV1, leL, leC, Sx.N.v, List.range, List.range.loop]
      · rw [List.take_length]; simp [leBs, leB, leCells, r3, o3]
def gForget3 : Sx.Loc := fun args bs => match args, bs with
  | [.v (.agg [.sint .i64 N, .sint .i64 E, .slice 0 (.c 0) 4 (.s n) (.s c)]), .v (.one (.sint .i64 q))], [⟨false, .recB ks h⟩] => match decide (ks = k3) with
    | true => some (forgetV N E h q, [r3 h, o3 (forget3 h q)], [n = h.length, h.length ≤ c, wf3 E h])
    | _ => none
  | _, _ => none
theorem forget_tab3 : TabOk Try.prog 24 (loc want3 gForget3) := loc_ok fun xs bs v bs' ob hg hob hokb => by
  unfold gForget3 at hg
  split at hg
  · split at hg
    · rename_i hk
      injection hg with hg; injection hg with e1 e2; injection e2 with e2 e3
      subst e1; subst e2; subst e3
      have hk := of_decide_eq_true hk; subst hk
      have hn := hob _ m0; subst hn
      exact forget_works3 _ _ _ _ _ (hob _ m1) (hob _ m2)
    · cases hg
  · cases hg
end Go.Proofs.Ytjnnfehepbicfaa
