/- A net's contracts: Take; two datagrams; the row; a number as one of some. -/
import Derived.Test.YtjnnfehepbicfaaNtG
namespace Go.Proofs.Ytjnnfehepbicfaa
open Go.ChangeShapes Go.WideShapes Go.ChangeAt Go.RowKit Go.Sx
theorem tabW_ok : ∀ f g, tabW f = some g → TabOk Try.prog f g := tabs_ok fun x hx => by
  simp only [List.mem_cons, List.not_mem_nil, or_false] at hx
  rcases hx with rfl | rfl | rfl | rfl | rfl | rfl
  · exact new_tab
  · exact look_tab
  · exact send_tab
  · exact copy_tab
  · exact drop_tab
  · exact forget_tab
theorem callW_ok (d : Nat) : CallOk Try.prog (callW d) := callN_sound tabW_ok d
/-! ### Take -/
theorem nd253 : (List.range 2 ++ [5, 3]).Nodup := by decide
theorem take_works (z i : Int) (l : Rws) (c : Nat) (hw : okN z l) (hc : l.length ≤ c) (h : 0 ≤ i ∧ i < l.length) :
    Works Try.prog 13 [np 0, si .i64 i] [nb true z 1 l.length c, orr l] (row3 l i 3) [nb true z 2 (dropS l i).length (dropS l i).length, dead, orr (dropS l i), oi (row l i).2] := by
  refine works_of (r := [5, 3]) tabW_ok (congrFun (congrFun (congrFun (congrFun (congrFun tkC z) i) l) l.length) c) ?_ (by exact nd253) ?_ ?_
  · simp only [allP]; simp [hw, hc, h]
  · simp [row3, leV, leL1, leV1, leL, leC, N.v, List.range, List.range.loop, h]
  · simp [leBs, leB, leCells, leL, leC, nb, orr, oi, dead, N.v, List.range, List.range.loop]
theorem take_none (z i : Int) (l : Rws) (c : Nat) (hw : okN z l) (hc : l.length ≤ c) (h : ¬ (0 ≤ i ∧ i < l.length)) :
    Works Try.prog 13 [np 0, si .i64 i] [nb true z 1 l.length c, orr l] none3 [nb true z 1 l.length c, orr l] := by
  refine works_of (r := []) tabW_ok (congrFun (congrFun (congrFun (congrFun (congrFun tkA z) i) l) l.length) c) ?_ nd2 ?_ ?_
  · exact ⟨rfl, hc, hw, h, trivial⟩
  · simp [none3, leV, leL1, leV1, leL, leC]
  · simp [leBs, leB, leCells, leL, leC, nb, orr, N.v, List.range, List.range.loop, hc]
def gTake : Bool → Sx.Loc := fun b args bs => match args, bs with
  | [.v (.one (.ptr 0 (.c 0) 1 0)), .v (.one (.sint .i64 i))], [⟨true, .exp [.sint .i64 z, .slice 1 (.c 0) 3 (.s n) (.s c)]⟩, ⟨true, .recB ks l⟩] => match decide (ks = k2), b with
    | true, true => some (row3 l i 3, [nb true z 2 (dropS l i).length (dropS l i).length, dead, orr (dropS l i), oi (row l i).2], [n = l.length, l.length ≤ c, okN z l, 0 ≤ i ∧ i < l.length])
    | true, false => some (none3, [nb true z 1 n c, orr l], [n = l.length, l.length ≤ c, okN z l, ¬ (0 ≤ i ∧ i < l.length)])
    | _, _ => none
  | _, _ => none
theorem take_tab : TabOk Try.prog 13 (locH wantC gTake) := by
  have key : ∀ b, TabOk Try.prog 13 (loc wantC (gTake b)) := fun b => loc_ok fun xs bs v bs' ob hg hob hokb => by
    unfold gTake at hg
    split at hg
    · split at hg
      · rename_i hk
        injection hg with hg; injection hg with e1 e2; injection e2 with e2 e3
        subst e1; subst e2; subst e3
        have hk := of_decide_eq_true hk; subst hk
        have hn := hob _ m0; subst hn
        exact take_works _ _ _ _ (hob _ m2) (hob _ m1) (hob _ m3)
      · rename_i hk
        injection hg with hg; injection hg with e1 e2; injection e2 with e2 e3
        subst e1; subst e2; subst e3
        have hk := of_decide_eq_true hk; subst hk
        have hn := hob _ m0; subst hn
        exact take_none _ _ _ _ (hob _ m2) (hob _ m1) (hob _ m3)
      · cases hg
    · cases hg
  exact locH_ok (key true) (key false)
/-! ### two datagrams, that are the same -/
def yesV : V := .v (.one (.bool true))
def gEq : Sx.Loc := fun args bs => match args, bs with
  | [.v (.agg [.sint .i64 f, .sint .i64 t, .slice 0 (.c 0) 1 (.s n) (.s c)]), .v (.agg [.sint .i64 f', .sint .i64 t', .slice 1 (.c 0) 1 (.s n') (.s c')])], [⟨false, .ints k d⟩, ⟨false, .ints k' d'⟩] => match decide (k = .u8), decide (k' = .u8) with
    | true, true => some (yesV, [ri d, ri d'], [f = f' ∧ t = t' ∧ d = d', n = d.length, n' = d'.length])
    | _, _ => none
  | [.v (.agg [.sint .i64 f, .sint .i64 t, .slice 0 (.c 0) 1 (.s n) (.s c)]), .v (.agg [.sint .i64 f', .sint .i64 t', .nils])], [⟨false, .ints k d⟩] => match decide (k = .u8) with
    | true => some (yesV, [ri d], [f = f' ∧ t = t' ∧ d = [], n = d.length])
    | _ => none
  | [.v (.agg [.sint .i64 f, .sint .i64 t, .nils]), .v (.agg [.sint .i64 f', .sint .i64 t', .slice 0 (.c 0) 1 (.s n) (.s c)])], [⟨false, .ints k d⟩] => match decide (k = .u8) with
    | true => some (yesV, [ri d], [f = f' ∧ t = t' ∧ d = [], n = d.length])
    | _ => none
  | [.v (.agg [.sint .i64 f, .sint .i64 t, .nils]), .v (.agg [.sint .i64 f', .sint .i64 t', .nils])], [] => some (yesV, [], [f = f' ∧ t = t'])
  | _, _ => none
def wantE : List V → List Want := fun _ => [(false, .ints .u8), (false, .ints .u8)]
theorem eq_tab : TabOk Try.prog 27 (loc wantE gEq) := loc_ok fun xs bs v bs' ob hg hob hokb => by
  unfold gEq at hg
  split at hg
  · rename_i f t n c f' t' n' c' k d k' d'
    split at hg
    · rename_i h1 h2
      injection hg with hg; injection hg with e1 e2; injection e2 with e2 e3
      subst e1; subst e2; subst e3
      have h1 := of_decide_eq_true h1; subst h1
      have h2 := of_decide_eq_true h2; subst h2
      obtain ⟨rfl, rfl, rfl⟩ := hob _ m0
      have hn := hob _ m1; subst hn
      have hn := hob _ m2; subst hn
      refine works_of (r := []) no_tabs (congrFun (congrFun (congrFun (congrFun (congrFun (congrFun (congrFun (congrFun (congrFun (congrFun eq2 f) t) f) t) d) d) d.length) c) d.length) c') ?_ nd2 ?_ ?_
      · simp [allP]
      · simp [leV, leV1, leC, yesV]
      · simp [leBs, leB, leCells, ri, List.range, List.range.loop]
    · cases hg
  · rename_i f t n c f' t' k d
    split at hg
    · rename_i h1
      injection hg with hg; injection hg with e1 e2; injection e2 with e2 e3
      subst e1; subst e2; subst e3
      have h1 := of_decide_eq_true h1; subst h1
      obtain ⟨rfl, rfl, rfl⟩ := hob _ m0
      have hn := hob _ m1; subst hn
      refine works_of (r := []) no_tabs (congrFun (congrFun (congrFun (congrFun (congrFun (congrFun (congrFun er2 f) t) f) t) []) (([] : List Int).length)) c) ?_ nd1z ?_ ?_
      · simp [allP]
      · simp [leV, leV1, leC, yesV]
      · simp [leBs, leB, leCells, ri, List.range, List.range.loop]
    · cases hg
  · rename_i f t f' t' n c k d
    split at hg
    · rename_i h1
      injection hg with hg; injection hg with e1 e2; injection e2 with e2 e3
      subst e1; subst e2; subst e3
      have h1 := of_decide_eq_true h1; subst h1
      obtain ⟨rfl, rfl, rfl⟩ := hob _ m0
      have hn := hob _ m1; subst hn
      refine works_of (r := []) no_tabs (congrFun (congrFun (congrFun (congrFun (congrFun (congrFun (congrFun es2 f) t) f) t) []) (([] : List Int).length)) c) ?_ nd1z ?_ ?_
      · simp [allP]
      · simp [leV, leV1, leC, yesV]
      · simp [leBs, leB, leCells, ri, List.range, List.range.loop]
    · cases hg
  · rename_i f t f' t'
    injection hg with hg; injection hg with e1 e2; injection e2 with e2 e3
    subst e1; subst e2; subst e3
    obtain ⟨rfl, rfl⟩ := hob _ m0
    refine works_of (r := []) (bs := []) no_tabs (congrFun (congrFun (congrFun (congrFun en2 f) t) f) t) ?_ List.nodup_nil ?_ trivial
    · simp [allP]
    · simp [leV, leV1, leC, yesV]
  · cases hg
/-! ### the row -/
theorem funA : Try.prog.funcs[29]? = some FA := by kernel_rfl
theorem bodA : FA.body = some (body 29) := by kernel_rfl
theorem tmpA : 1 ≤ FA.ntmps := Nat.le_of_ble_eq_true (by kernel_rfl)
theorem row_nat (l : Rws) (i : Nat) : row l (i : Int) = l.getD i ([], []) := by simp [row]
theorem all_works (z : Int) (l : Rws) (c : Nat) (hw : okN z l) (hc : l.length ≤ c) : Works Try.prog 29 [np 0] [nb false z 1 l.length c, rr l] (rsl 2 l.length l.length) [nb false z 1 l.length c, rr l, orr l] := by
  obtain ⟨hz, hw1, hw2⟩ := hw
  refine works_loopG (I := Nat) (Inv := fun i h => TA z l (l.take i) l.length c i h) (good := fun i => i ≤ l.length) (μ := fun i => l.length - i) (i := 0) (r := [2]) (callW_ok 4) funA bodA (by exact tmpA) k2 (fun _ _ => ⟨rfl, rfl⟩)
    (congrFun (congrFun (congrFun (congrFun alE z) l) l.length) c) trivial ⟨nd2' 2 (by omega), ?_, ?_⟩ (Nat.zero_le _) ?_
  · simp [TA, leSlots, leV, leV1, leC, si, rsl, np, N.v, List.range, List.range.loop]
  · simp [TA, leBs, leB, leCells, leL, leC, nb, rr, orr, N.v, List.range, List.range.loop, hc]
  · intro i hi
    by_cases hlt : i < l.length
    · have hr := take_row hlt
      have hwr := hw1 _ (row_at hlt ▸ List.getElem_mem hlt)
      have q := congrFun (congrFun (congrFun (congrFun (congrFun (congrFun alR z) l) (l.take i)) l.length) c) i
      rw [row_nat, row2 hwr.1, ← hr] at q
      refine .round _ [] _ _ _ [6] _ _ _ (i + 1) q ?_ ⟨nd2' 6 (by omega), ?_, ?_⟩ hlt (by omega)
      · simp only [allP, row_nat]
        have hok : okN z l := ⟨hz, hw1, hw2⟩
        have e : (l.take i).length = i := by rw [List.length_take]; omega
        simp [hok, hc, e]; omega
      · have e : (l.take i).length = i := by rw [List.length_take]; omega
        have e' : (l.take (i + 1)).length = i + 1 := by rw [List.length_take]; omega
        simp only [e, TA, e']
        simp [leSlots, leV, leV1, leC, si, rsl, np, N.v, List.range, List.range.loop]
      · simp [TA, leBs, leB, leCells, leL, leC, nb, rr, orr, N.v, List.range, List.range.loop, hc]
    · have hil : i = l.length := by omega
      subst hil
      refine .stop [false, false] [] _ _ [2] _ _ _ (congrFun (congrFun (congrFun (congrFun (congrFun (congrFun alX z) l) _) _) _) _) ?_ (nd2' 2 (by omega)) ?_ ?_
      · simp only [allP]; simp; omega
      · simp [leV, leV1, leC, rsl, N.v, List.range, List.range.loop]
      · simp [leBs, leB, leCells, leL, leC, nb, rr, orr, N.v, List.range, List.range.loop, hc]
def gAll : Sx.Loc := fun args bs => match args, bs with
  | [.v (.one (.ptr 0 (.c 0) 1 0))], [⟨false, .exp [.sint .i64 z, .slice 1 (.c 0) 3 (.s n) (.s c)]⟩, ⟨false, .recB ks l⟩] => match decide (ks = k2) with
    | true => some (rsl 2 n n, [nb false z 1 n c, rr l, orr l], [n = l.length, l.length ≤ c, okN z l])
    | _ => none
  | _, _ => none
theorem all_tab : TabOk Try.prog 29 (loc wantN gAll) := loc_ok fun xs bs v bs' ob hg hob hokb => by
  unfold gAll at hg
  split at hg
  · split at hg
    · rename_i hk
      injection hg with hg; injection hg with e1 e2; injection e2 with e2 e3
      subst e1; subst e2; subst e3
      have hk := of_decide_eq_true hk; subst hk
      have hn := hob _ m0; subst hn
      exact all_works _ _ _ (hob _ m2) (hob _ m1)
    · cases hg
  · cases hg
/-! ### a number as one of some -/
theorem pick_ok (x n : Int) (hn : 1 ≤ n) (hn2 : n ≤ 1000000000) : Makes Try.prog 30 [.int .i64 x, .int .i64 n] (si .i64 (pickS x n)) [] := by
  have hb := Int.lt_tmod_of_pos x (show 0 < n by omega)
  have hb2 := Int.tmod_lt_of_pos x (show 0 < n by omega)
  by_cases hx : x.tmod n < 0
  · have e : pickS x n = x.tmod n + n := by unfold pickS; rw [if_pos hx]
    refine makes_of (bs := []) no_tabs (congrFun (congrFun piA x) n) ?_ List.nodup_nil ?_ trivial ⟨_, _, rfl, ⟨rfl, rfl⟩, _, _, rfl, ⟨rfl, rfl⟩, rfl⟩
    · simp only [allP]; simp; omega
    · simp [leV, leV1, leC, si, e]; omega
  · have e : pickS x n = x.tmod n := by unfold pickS; rw [if_neg hx]
    refine makes_of (bs := []) no_tabs (congrFun (congrFun piB x) n) ?_ List.nodup_nil ?_ trivial ⟨_, _, rfl, ⟨rfl, rfl⟩, _, _, rfl, ⟨rfl, rfl⟩, rfl⟩
    · simp only [allP]; simp; omega
    · simp [leV, leV1, leC, si, e]
theorem pickS_bd {x n : Int} (hn : 1 ≤ n) : 0 ≤ pickS x n ∧ pickS x n < n := by
  have hb := Int.lt_tmod_of_pos x (show 0 < n by omega)
  have hb2 := Int.tmod_lt_of_pos x (show 0 < n by omega)
  unfold pickS; split <;> omega
theorem pick_tab : TabOk Try.prog 30 (numTab [.i64, .i64] gPick) := numTab_ok fun ns hl hob => by
  match ns, hl with
  | [x, n], _ =>
    refine ⟨rfl, pick_ok x n ?_ ?_⟩
    · exact (hob (1 ≤ n ∧ n ≤ 1000000000) (by simp [gPick])).1
    · exact (hob (1 ≤ n ∧ n ≤ 1000000000) (by simp [gPick])).2
end Go.Proofs.Ytjnnfehepbicfaa
