/- SameOrders of a part: the contract. -/
import Derived.Test.YtgkhbhddmafakaaSamO
namespace Go.Proofs.Ytgkhbhddmafakaa
open Go.ChangeShapes Go.WideShapes Go.ChangeAt Go.RowKit Go.Sx
theorem capOo_works {f : FuncId} {b o n c b' n' c' : Nat} {args : List V} {bs bs' : List SB} {v : V} (h : n ≤ c → n' ≤ c' → Works Try.prog f (slOo b o n c :: slO b' n' c' :: args) bs v bs') : Works Try.prog f (slOo b o n c :: slO b' n' c' :: args) bs v bs' := by
  intro ρ K w us hm hu
  have hd : n ≤ c ∧ n' ≤ c' := by
    obtain ⟨_, s, _, ⟨⟨e, _, hv⟩, _⟩, u, s', _, ⟨⟨e', _, hu⟩, _⟩, _⟩ := hu
    constructor
    · rcases hv with ⟨h0, _⟩ | ⟨_, _, _, h1, _⟩
      · simp only [N.v] at h0; omega
      · exact h1
    · rcases hu with ⟨h0, _⟩ | ⟨_, _, _, h1, _⟩
      · simp only [N.v] at h0; omega
      · exact h1
  exact h hd.1 hd.2 ρ K w us hm hu
theorem takeRo_iff {l k : List (List Int)} {o n : Nat} (hl : o + n ≤ l.length) (hk : n ≤ k.length) : (l.drop o).take n = k.take n ↔ ∀ i, i < n → l.getD (o + i) [] = k.getD i [] := by
  rw [takeR_iff (by rw [List.length_drop]; omega) hk]
  refine ⟨fun h i hi => ?_, fun h i hi => ?_⟩
  · rw [← h i hi, List.getD_eq_getElem?_getD, List.getD_eq_getElem?_getD, List.getElem?_drop]
  · rw [← h i hi, List.getD_eq_getElem?_getD, List.getD_eq_getElem?_getD, List.getElem?_drop]
theorem sameo_works (l k : List (List Int)) (o n c m d : Nat) (hn : o + n ≤ l.length) (hk : m ≤ k.length) (hx : n ≤ 1000000000) (h7 : rows7 l) (h7' : rows7 k) : Works Try.prog 20 [slOo 0 o n c, slO 1 m d] [roO l, roO k] (.v (.one (.sbool (decide ((l.drop o).take n = k.take m))))) [roO l, roO k] := capOo_works fun hc hd => by
  by_cases hnm : n = m
  · subst hnm
    have hiff := takeRo_iff hn hk
    refine works_loop (I := Nat) (Inv := fun i h => TSo l k o n c d i h) (good := fun i => i ≤ n ∧ ∀ j, j < i → l.getD (o + j) [] = k.getD j []) (μ := fun i => n - i) (i := 0) (r := []) (call0G_ok 4) funS bodS (by exact tmpS) (fun _ _ => ⟨rfl, rfl⟩)
      (congrFun (congrFun (congrFun (congrFun (congrFun (congrFun (congrFun soE l) k) o) n) c) n) d) (by simp [allP]) ⟨nd2S, ?_, ?_⟩ ⟨Nat.zero_le _, fun j h => by omega⟩ ?_
    · simp [TSo, slO, slOo, leSlots, leV, leV1, leC, si, List.range, List.range.loop, N.v, hc, hd]
    · simp [TSo, leBs, leB, leCells, roO]
    · intro i ⟨hi, hall⟩
      by_cases hlt : i < n
      · have q0 := congrFun (congrFun (congrFun (congrFun (congrFun (congrFun (congrFun soR l) k) o) n) c) d) i
        have q1 := congrFun (congrFun (congrFun (congrFun (congrFun (congrFun (congrFun soX0 l) k) o) n) c) d) i
        have hq := eq7_iff (h7 _ (row_in (l := l) (i := o + i) (by omega))) (h7' _ (row_in (l := k) (i := i) (by omega)))
        unfold eq7 at hq
        have hadd : ∀ x y : Nat, Nat.add x y = x + y := fun _ _ => rfl
        simp only [hadd] at q0 q1
        rw [hq] at q0 q1
        have k10 : (i : Int) < (n : Int) := by omega
        by_cases he : l.getD (o + i) [] = k.getD i []
        · refine .round [true, false] [] _ _ [0, 1, 12, 13] [] _ _ _ (i + 1) q0 ?_ ⟨nd2S, ?_, ?_⟩ ⟨hlt, fun j hj => ?_⟩ (by omega)
          · refine ⟨by omega, by rw [decide_eq_true he]; rfl, by omega, by omega, by omega, by omega, by omega, by omega, decide_eq_true k10, trivial⟩
          · simp [TSo, slO, slOo, leSlots, leV, leV1, leC, si, List.range, List.range.loop, N.v, hc, hd]
          · simp [TSo, leBs, leB, leCells, roO]
          · by_cases hji : j = i
            · subst hji; exact he
            · exact hall j (by omega)
        · refine .stop [true, true] [] _ _ [] _ _ _ q1 ?_ nd2S ?_ ?_
          · refine ⟨by rw [decide_eq_false he]; rfl, by omega, by omega, by omega, by omega, by omega, by omega, decide_eq_true k10, trivial⟩
          · have : ¬ (l.drop o).take n = k.take n := fun h => he (hiff.1 h i hlt)
            simp [leV, leV1, leC, this]
          · simp [leBs, leB, leCells, roO]
      · have hin : i = n := by omega
        subst hin
        refine .stop [false] [] _ _ [] _ _ _ (congrFun (congrFun (congrFun (congrFun (congrFun (congrFun (congrFun soX1 l) k) o) i) c) d) i) ?_ nd2S ?_ ?_
        · simp [allP]
        · simp only [leV, leV1, leC, decide_eq_true (hiff.2 hall)]
        · simp [leBs, leB, leCells, roO]
  · refine works_of (r := []) no_tabs (congrFun (congrFun (congrFun (congrFun (congrFun (congrFun (congrFun soN l) k) o) n) c) m) d) ?_ nd2S ?_ ?_
    · have : ¬ (n : Int) = m := by omega
      exact ⟨by simp only [decide_eq_false this]; rfl, trivial⟩
    · have : ¬ (l.drop o).take n = k.take m := fun h => by
        have := congrArg List.length h
        rw [List.length_take, List.length_take, List.length_drop] at this
        omega
      simp [leV, leV1, leC, this]
    · simp [leBs, leB, leCells, roO]
def gSame2 : Sx.Loc := fun args bs => match args, bs with
  | [.v (.one (.slice 0 (.c 0) 7 (.s n) (.s _))), .v (.one (.slice 1 (.c 0) 7 (.s m) (.s _)))], [⟨false, .recs ks l⟩, ⟨false, .recs ks' k⟩] => match decide (ks = ksO) && decide (ks' = ksO) with
    | true => some (.v (.one (.sbool (decide (l.take n = k.take m)))), [roO l, roO k], [n ≤ l.length, m ≤ k.length, n ≤ 1000000000, rows7 l, rows7 k])
    | false => none
  | [.v (.one (.slice 0 (.s o) 7 (.s n) (.s _))), .v (.one (.slice 1 (.c 0) 7 (.s m) (.s _)))], [⟨false, .recs ks l⟩, ⟨false, .recs ks' k⟩] => match decide (ks = ksO) && decide (ks' = ksO) with
    | true => some (.v (.one (.sbool (decide ((l.drop o).take n = k.take m)))), [roO l, roO k], [o + n ≤ l.length, m ≤ k.length, n ≤ 1000000000, rows7 l, rows7 k])
    | false => none
  | _, _ => none
theorem same2_tab : TabOk Try.prog 20 (loc wantO2 gSame2) := loc_ok fun xs bs v bs' ob hg hob hokb => by
  unfold gSame2 at hg
  split at hg
  · rename_i n c m d ks l ks' k
    split at hg
    · rename_i hk
      rw [Bool.and_eq_true] at hk
      injection hg with hg; injection hg with e1 e2; injection e2 with e2 e3
      subst e1; subst e2; subst e3
      have h1 : ks = ksO := of_decide_eq_true hk.1
      have h2 : ks' = ksO := of_decide_eq_true hk.2
      subst h1; subst h2
      exact same_works l k n c m d (hob _ (by simp)) (hob (m ≤ k.length) (by simp)) (hob (n ≤ 1000000000) (by simp)) (hob (rows7 l) (by simp)) (hob (rows7 k) (by simp))
    · cases hg
  · rename_i o n c m d ks l ks' k
    split at hg
    · rename_i hk
      rw [Bool.and_eq_true] at hk
      injection hg with hg; injection hg with e1 e2; injection e2 with e2 e3
      subst e1; subst e2; subst e3
      have h1 : ks = ksO := of_decide_eq_true hk.1
      have h2 : ks' = ksO := of_decide_eq_true hk.2
      subst h1; subst h2
      exact sameo_works l k o n c m d (hob _ (by simp)) (hob (m ≤ k.length) (by simp)) (hob (n ≤ 1000000000) (by simp)) (hob (rows7 l) (by simp)) (hob (rows7 k) (by simp))
    · cases hg
  · cases hg
end Go.Proofs.Ytgkhbhddmafakaa
