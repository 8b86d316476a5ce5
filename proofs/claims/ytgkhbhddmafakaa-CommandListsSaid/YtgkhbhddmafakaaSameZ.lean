/- Several texts in one: SameA, SameB. -/
import Derived.Test.YtgkhbhddmafakaaListZ
namespace Go.Proofs.Ytgkhbhddmafakaa
section
/- SameOrders: its runs. -/
open Go.Sx
noncomputable def LS := loopN Try.prog 20 0
noncomputable def ES : List Item := .code (.loop LS.1) :: LS.2
noncomputable def KS : List Item := .inLoop LS.1 :: LS.2
noncomputable def FnS : Go.Func := match Try.prog.funcs[20]? with | some fn => fn | none => default
def TS (l k : List (List Int)) (n c d : Nat) (i : Nat) (h : List Bool) : St := ⟨[(0, slO 0 n c), (1, slO 1 n d), (12, si .i64 n), (13, si .i64 i)], [roO l, roO k], h, []⟩
noncomputable def rndS (lim : Nat) (h : List Bool) (l k : List (List Int)) (n c d : Nat) (i : Nat) := run Try.prog (call0 4) (fun _ => false) FnS lim 100000 [] (.code LS.1 :: .inLoop LS.1 :: LS.2) (TS l k n c d i h)
theorem smN : (fun (l k : List (List Int)) (n c m d : Nat) => retV [0, 1] (call0 4 20 [slO 0 n c, slO 1 m d] [roO l, roO k] [true])) = fun (l : List (List Int)) (k : List (List Int)) (n : Nat) (c : Nat) (m : Nat) (d : Nat) => some (((V.v (V1.one (C.bool (false)))), ([(SB.mk (false) (Cells.recs (ksO) (l))), (SB.mk (false) (Cells.recs (ksO) (k)))], [(!decide ((↑n : Int) = (↑m : Int))) = true]))) := by kernel_rfl
theorem smE : (fun (l k : List (List Int)) (n c m d : Nat) => stopV [0, 1, 12, 13] [0, 1] (run Try.prog (call0 4) (fun _ => false) FnS 0 100000 [false] [.code (bodyF 20)] ⟨argSlots 0 [slO 0 n c, slO 1 m d], [roO l, roO k], [false], []⟩)) = fun (l : List (List Int)) (k : List (List Int)) (n : Nat) (c : Nat) (m : Nat) (d : Nat) => some ((ES, ([(((0 : Nat)), (V.v (V1.one (C.slice ((0 : Nat)) (N.c ((0 : Nat))) ((7 : Nat)) (N.s (n)) (N.s (c)))))), (((1 : Nat)), (V.v (V1.one (C.slice ((1 : Nat)) (N.c ((0 : Nat))) ((7 : Nat)) (N.s (m)) (N.s (d)))))), (((12 : Nat)), (V.v (V1.one (C.sint (IntKind.i64) ((↑n : Int)))))), (((13 : Nat)), (V.v (V1.one (C.int (IntKind.i64) ((0 : Int))))))], ([(SB.mk (false) (Cells.recs (ksO) (l))), (SB.mk (false) (Cells.recs (ksO) (k)))], [(!decide ((↑n : Int) = (↑m : Int))) = false])))) := by kernel_rfl
theorem smR : (fun (l k : List (List Int)) (n c d : Nat) (i : Nat) => stopV [0, 1, 12, 13] [0, 1] (rndS (LS.2.length + 1) [true, false] l k n c d i)) = fun (l : List (List Int)) (k : List (List Int)) (n : Nat) (c : Nat) (d : Nat) (i : Nat) => some ((KS, ([(((0 : Nat)), (V.v (V1.one (C.slice ((0 : Nat)) (N.c ((0 : Nat))) ((7 : Nat)) (N.s (n)) (N.s (c)))))), (((1 : Nat)), (V.v (V1.one (C.slice ((1 : Nat)) (N.c ((0 : Nat))) ((7 : Nat)) (N.s (n)) (N.s (d)))))), (((12 : Nat)), (V.v (V1.one (C.sint (IntKind.i64) ((↑n : Int)))))), (((13 : Nat)), (V.v (V1.one (C.sint (IntKind.i64) ((↑i : Int) + (1 : Int))))))], ([(SB.mk (false) (Cells.recs (ksO) (l))), (SB.mk (false) (Cells.recs (ksO) (k)))], [(-9223372036854775808 : Int) ≤ (↑i : Int) + (1 : Int) ∧ (↑i : Int) + (1 : Int) ≤ (9223372036854775807 : Int), (!(decide (List.getD (List.getD l (i) []) (0 : Nat) (0 : Int) = List.getD (List.getD k (i) []) (0 : Nat) (0 : Int)) && (decide (List.getD (List.getD l (i) []) (1 : Nat) (0 : Int) = List.getD (List.getD k (i) []) (1 : Nat) (0 : Int)) && (decide (List.getD (List.getD l (i) []) (2 : Nat) (0 : Int) = List.getD (List.getD k (i) []) (2 : Nat) (0 : Int)) && (decide (List.getD (List.getD l (i) []) (3 : Nat) (0 : Int) = List.getD (List.getD k (i) []) (3 : Nat) (0 : Int)) && (decide (List.getD (List.getD l (i) []) (4 : Nat) (0 : Int) = List.getD (List.getD k (i) []) (4 : Nat) (0 : Int)) && (decide (List.getD (List.getD l (i) []) (5 : Nat) (0 : Int) = List.getD (List.getD k (i) []) (5 : Nat) (0 : Int)) && (decide (List.getD (List.getD l (i) []) (6 : Nat) (0 : Int) = List.getD (List.getD k (i) []) (6 : Nat) (0 : Int)) && true)))))))) = false, i < List.length k, (0 : Int) ≤ (↑i : Int), (↑i : Int) < (↑n : Int), i < List.length l, (0 : Int) ≤ (↑i : Int), (↑i : Int) < (↑n : Int), decide ((↑i : Int) < (↑n : Int)) = true])))) := by kernel_rfl
theorem smX0 : (fun (l k : List (List Int)) (n c d : Nat) (i : Nat) => endV [0, 1] (rndS 0 [true, true] l k n c d i)) = fun (l : List (List Int)) (k : List (List Int)) (n : Nat) (c : Nat) (d : Nat) (i : Nat) => some (((V.v (V1.one (C.bool (false)))), ([(SB.mk (false) (Cells.recs (ksO) (l))), (SB.mk (false) (Cells.recs (ksO) (k)))], [(!(decide (List.getD (List.getD l (i) []) (0 : Nat) (0 : Int) = List.getD (List.getD k (i) []) (0 : Nat) (0 : Int)) && (decide (List.getD (List.getD l (i) []) (1 : Nat) (0 : Int) = List.getD (List.getD k (i) []) (1 : Nat) (0 : Int)) && (decide (List.getD (List.getD l (i) []) (2 : Nat) (0 : Int) = List.getD (List.getD k (i) []) (2 : Nat) (0 : Int)) && (decide (List.getD (List.getD l (i) []) (3 : Nat) (0 : Int) = List.getD (List.getD k (i) []) (3 : Nat) (0 : Int)) && (decide (List.getD (List.getD l (i) []) (4 : Nat) (0 : Int) = List.getD (List.getD k (i) []) (4 : Nat) (0 : Int)) && (decide (List.getD (List.getD l (i) []) (5 : Nat) (0 : Int) = List.getD (List.getD k (i) []) (5 : Nat) (0 : Int)) && (decide (List.getD (List.getD l (i) []) (6 : Nat) (0 : Int) = List.getD (List.getD k (i) []) (6 : Nat) (0 : Int)) && true)))))))) = true, i < List.length k, (0 : Int) ≤ (↑i : Int), (↑i : Int) < (↑n : Int), i < List.length l, (0 : Int) ≤ (↑i : Int), (↑i : Int) < (↑n : Int), decide ((↑i : Int) < (↑n : Int)) = true]))) := by kernel_rfl
theorem smX1 : (fun (l k : List (List Int)) (n c d : Nat) (i : Nat) => endV [0, 1] (rndS 0 [false] l k n c d i)) = fun (l : List (List Int)) (k : List (List Int)) (n : Nat) (c : Nat) (d : Nat) (i : Nat) => some (((V.v (V1.one (C.bool (true)))), ([(SB.mk (false) (Cells.recs (ksO) (l))), (SB.mk (false) (Cells.recs (ksO) (k)))], [decide ((↑i : Int) < (↑n : Int)) = false]))) := by kernel_rfl
end
section
/- SameOrders: the contract. -/
open Go.ChangeShapes Go.WideShapes Go.ChangeAt Go.RowKit Go.Sx
theorem funS : Try.prog.funcs[20]? = some FnS := by kernel_rfl
theorem bodS : FnS.body = some (bodyF 20) := by kernel_rfl
theorem tmpS : 2 ≤ FnS.ntmps := Nat.le_of_ble_eq_true (by kernel_rfl)
theorem call0G_ok (d : Nat) : CallOk Try.prog (call0 d) := callN_sound no_tabs d
theorem capO2_works {f : FuncId} {b n c b' n' c' : Nat} {args : List V} {bs bs' : List SB} {v : V} (h : n ≤ c → n' ≤ c' → Works Try.prog f (slO b n c :: slO b' n' c' :: args) bs v bs') : Works Try.prog f (slO b n c :: slO b' n' c' :: args) bs v bs' := capO_works fun hc => by
  intro ρ K w us hm hu
  have hd : n' ≤ c' := by
    obtain ⟨_, s, _, _, u, s', _, ⟨⟨e, _, hu⟩, _⟩, _⟩ := hu
    rcases hu with ⟨h0, _⟩ | ⟨_, _, _, h1, _⟩
    · simp only [N.v] at h0; omega
    · exact h1
  exact h hc hd ρ K w us hm hu
def rows7 (l : List (List Int)) : Prop := ∀ r ∈ l, row7 r
/-- two rows are the same, cell by cell -/
def eq7 (r s : List Int) : Bool := decide (r.getD 0 0 = s.getD 0 0) && (decide (r.getD 1 0 = s.getD 1 0) && (decide (r.getD 2 0 = s.getD 2 0) && (decide (r.getD 3 0 = s.getD 3 0) && (decide (r.getD 4 0 = s.getD 4 0) && (decide (r.getD 5 0 = s.getD 5 0) && (decide (r.getD 6 0 = s.getD 6 0) && true))))))
theorem eq7_iff {r s : List Int} (hr : row7 r) (hs : row7 s) : eq7 r s = decide (r = s) := by
  obtain ⟨a, b, c, d, e, f, g, rfl⟩ := hr
  obtain ⟨a', b', c', d', e', f', g', rfl⟩ := hs
  unfold eq7
  simp [Bool.decide_and]
theorem takeR_iff {l k : List (List Int)} {n : Nat} (hl : n ≤ l.length) (hk : n ≤ k.length) : l.take n = k.take n ↔ ∀ i, i < n → l.getD i [] = k.getD i [] := by
  have gt : ∀ {l : List (List Int)} {i : Nat}, i < n → (l.take n).getD i [] = l.getD i [] := by
    intro l i h
    simp [List.getD_eq_getElem?_getD, List.getElem?_take, h]
  constructor
  · intro h i hi
    rw [← gt (l := l) hi, ← gt (l := k) hi, h]
  · intro h
    refine List.ext_getElem (by rw [List.length_take, List.length_take]; omega) fun i h1 h2 => ?_
    have hi : i < n := by rw [List.length_take] at h1; omega
    have := h i hi
    rw [List.getD_eq_getElem?_getD, List.getD_eq_getElem?_getD, List.getElem?_eq_getElem (by omega), List.getElem?_eq_getElem (by omega)] at this
    simpa using this
theorem nd2S : (List.range 2 ++ ([] : List Nat)).Nodup := by decide
theorem same_works (l k : List (List Int)) (n c m d : Nat) (hn : n ≤ l.length) (hk : m ≤ k.length) (hx : n ≤ 1000000000) (h7 : rows7 l) (h7' : rows7 k) : Works Try.prog 20 [slO 0 n c, slO 1 m d] [roO l, roO k] (.v (.one (.sbool (decide (l.take n = k.take m))))) [roO l, roO k] := capO2_works fun hc hd => by
  by_cases hnm : n = m
  · subst hnm
    have hiff := takeR_iff hn hk
    refine works_loop (I := Nat) (Inv := fun i h => TS l k n c d i h) (good := fun i => i ≤ n ∧ ∀ j, j < i → l.getD j [] = k.getD j []) (μ := fun i => n - i) (i := 0) (r := []) (call0G_ok 4) funS bodS (by exact tmpS) (fun _ _ => ⟨rfl, rfl⟩)
      (congrFun (congrFun (congrFun (congrFun (congrFun (congrFun smE l) k) n) c) n) d) (by simp [allP]) ⟨nd2S, ?_, ?_⟩ ⟨Nat.zero_le _, fun j h => by omega⟩ ?_
    · simp [TS, slO, leSlots, leV, leV1, leC, si, List.range, List.range.loop, N.v, hc, hd]
    · simp [TS, leBs, leB, leCells, roO]
    · intro i ⟨hi, hall⟩
      by_cases hlt : i < n
      · have q0 := congrFun (congrFun (congrFun (congrFun (congrFun (congrFun smR l) k) n) c) d) i
        have q1 := congrFun (congrFun (congrFun (congrFun (congrFun (congrFun smX0 l) k) n) c) d) i
        have hq := eq7_iff (h7 _ (row_in (l := l) (i := i) (by omega))) (h7' _ (row_in (l := k) (i := i) (by omega)))
        unfold eq7 at hq
        rw [hq] at q0 q1
        have k10 : (i : Int) < (n : Int) := by omega
        by_cases he : l.getD i [] = k.getD i []
        · refine .round [true, false] [] _ _ [0, 1, 12, 13] [] _ _ _ (i + 1) q0 ?_ ⟨nd2S, ?_, ?_⟩ ⟨hlt, fun j hj => ?_⟩ (by omega)
          · refine ⟨by omega, by rw [decide_eq_true he]; rfl, by omega, by omega, by omega, by omega, by omega, by omega, decide_eq_true k10, trivial⟩
          · simp [TS, slO, leSlots, leV, leV1, leC, si, List.range, List.range.loop, N.v, hc, hd]
          · simp [TS, leBs, leB, leCells, roO]
          · by_cases hji : j = i
            · subst hji; exact he
            · exact hall j (by omega)
        · refine .stop [true, true] [] _ _ [] _ _ _ q1 ?_ nd2S ?_ ?_
          · refine ⟨by rw [decide_eq_false he]; rfl, by omega, by omega, by omega, by omega, by omega, by omega, decide_eq_true k10, trivial⟩
          · have : ¬ l.take n = k.take n := fun h => he (hiff.1 h i hlt)
            simp [leV, leV1, leC, this]
          · simp [leBs, leB, leCells, roO]
      · have hin : i = n := by omega
        subst hin
        refine .stop [false] [] _ _ [] _ _ _ (congrFun (congrFun (congrFun (congrFun (congrFun (congrFun smX1 l) k) i) c) d) i) ?_ nd2S ?_ ?_
        · simp [allP]
        · simp only [leV, leV1, leC, decide_eq_true (hiff.2 hall)]
        · simp [leBs, leB, leCells, roO]
  · refine works_of (r := []) no_tabs (congrFun (congrFun (congrFun (congrFun (congrFun (congrFun smN l) k) n) c) m) d) ?_ nd2S ?_ ?_
    · have : ¬ (n : Int) = m := by omega
      exact ⟨by simp only [decide_eq_false this]; rfl, trivial⟩
    · have : ¬ l.take n = k.take m := fun h => by
        have := congrArg List.length h
        rw [List.length_take, List.length_take] at this
        omega
      simp [leV, leV1, leC, this]
    · simp [leBs, leB, leCells, roO]
def gSame : Sx.Loc := fun args bs => match args, bs with
  | [.v (.one (.slice 0 (.c 0) 7 (.s n) (.s _))), .v (.one (.slice 1 (.c 0) 7 (.s m) (.s _)))], [⟨false, .recs ks l⟩, ⟨false, .recs ks' k⟩] => match decide (ks = ksO) && decide (ks' = ksO) with
    | true => some (.v (.one (.sbool (decide (l.take n = k.take m)))), [roO l, roO k], [n ≤ l.length, m ≤ k.length, n ≤ 1000000000, rows7 l, rows7 k])
    | false => none
  | _, _ => none
def wantO2 : List V → List Want := fun _ => [(false, .recs ksO), (false, .recs ksO)]
theorem same_tab : TabOk Try.prog 20 (loc wantO2 gSame) := loc_ok fun xs bs v bs' ob hg hob hokb => by
  unfold gSame at hg
  split at hg
  · rename_i n c m d ks l ks' k
    split at hg
    · rename_i hk
      rw [Bool.and_eq_true] at hk
      injection hg with hg; injection hg with e1 e2; injection e2 with e2 e3
      subst e1; subst e2; subst e3
      have h1 : ks = ksO := of_decide_eq_true hk.1
      have h2 : ks' = ksO := of_decide_eq_true hk.2
      subst h1; subst h2
      exact same_works l k n c m d (hob _ (by simp)) (hob (m ≤ k.length) (by simp)) (hob (n ≤ 1000000000) (by simp)) (hob (rows7 l) (by simp)) (hob (rows7 k) (by simp))
    · cases hg
  · cases hg
end
end Go.Proofs.Ytgkhbhddmafakaa
