/- Seal, Equal, Clone: the contracts. -/
import Derived.Test.YtjjjpflnhagfcaaSealA
namespace Go.Proofs.Ytjjjpflnhagfcaa
open Go.ChangeShapes Go.WideShapes Go.ChangeAt Go.RowKit Go.Sx
theorem tabC_ok : ∀ f g, tabC f = some g → TabOk Try.prog f g := tabs_ok fun x hx => by
  simp only [List.mem_cons, List.not_mem_nil, or_false] at hx
  rcases hx with rfl
  exact crc_tab
theorem sum_high (a : List Int) (c : Nat) : a ++ [IntKind.wrap .u8 (Int.fdiv (c : Int) 16777216)] ++ [IntKind.wrap .u8 (Int.fdiv (c : Int) 65536)] ++ [IntKind.wrap .u8 (Int.fdiv (c : Int) 256)] ++ [IntKind.wrap .u8 (Int.fdiv (c : Int) 1)] = a ++ sumH c := by
  have w : ∀ n : Int, IntKind.wrap .u8 n = n % 256 := fun n => by simp [IntKind.wrap, IntKind.bits, IntKind.signed]
  simp only [w, sumH, Int.fdiv_eq_ediv_of_nonneg _ (show (0 : Int) ≤ 256 by decide), Int.fdiv_eq_ediv_of_nonneg _ (show (0 : Int) ≤ 65536 by decide), Int.fdiv_eq_ediv_of_nonneg _ (show (0 : Int) ≤ 16777216 by decide), Int.fdiv_eq_ediv_of_nonneg _ (show (0 : Int) ≤ 1 by decide), List.append_assoc, List.cons_append, List.nil_append]
  congr 1
  simp
theorem nd9 : (List.range 1 ++ [9]).Nodup := by decide
theorem seal_works (l : List Int) (n c : Nat) (hn : n ≤ l.length) (hm : n ≤ 1000000) (hw : wf8 l) : Works Try.prog 16 [bsl 0 n c] [ri l] (bsl 1 (n + 4) (n + 4)) [ri l, oi (sealS (l.take n))] := by
  have q := congrFun (congrFun (congrFun saS l) n) c
  have hbig : List.take n (List.drop 0 (List.take (if n ≤ n then n else n) (List.take n (List.drop 0 l)) ++ List.drop (if n ≤ n then n else n) (List.replicate (Int.toNat ((n : Int) + 4)) (0 : Int)))) = l.take n := by
    rw [if_pos (Nat.le_refl n), List.drop_zero, List.drop_zero, List.take_take, Nat.min_self]
    exact List.take_left' (by rw [List.length_take]; omega)
  have hl : (l.take n).length = n := by rw [List.length_take]; omega
  have hs : crcS (l.take n) = ((4294967295 ^^^ crcN 4294967295 (l.take n) : Nat) : Int) := rfl
  have hlen : ∀ a b : List Int, (List.take n l ++ a).length = n + a.length := fun a _ => by rw [List.length_append, hl]
  rw [hbig, hs, sum_high] at q
  refine works_of (r := [9]) tabC_ok q ?_ nd9 ?_ ?_
  · have hr : (List.take (if n ≤ n then n else n) (List.take n (List.drop 0 l)) ++ List.drop (if n ≤ n then n else n) (List.replicate (Int.toNat ((n : Int) + 4)) (0 : Int))).length = n + 4 := by
      rw [if_pos (Nat.le_refl n), List.drop_zero, List.take_take, Nat.min_self, List.length_append, hl, List.length_drop, List.length_replicate]; omega
    refine ⟨rfl, ?_, ?_, ?_, rfl, ?_, ?_, ?_, rfl, ?_, ?_, ?_, ?_, ?_, ?_, hn, hm, hw, ?_, ?_, ?_, ?_, ?_, ?_, ?_, trivial⟩
    · simp [hl]
    · omega
    · omega
    · simp [hl]
    · omega
    · omega
    · simp [hl]
    · omega
    · omega
    · rw [hr]; omega
    · omega
    · omega
    · omega
    · rw [List.length_replicate]; omega
    · omega
    · omega
    · omega
    · omega
    · omega
  · simp [bsl, leV, leV1, leC, N.v, List.range, List.range.loop]
  · simp [leBs, leB, leCells, ri, oi, sealS]
def gSeal : Sx.Loc := fun args bs => match args, bs with
  | [.v (.one (.slice 0 (.c 0) 1 (.s n) (.s _)))], [⟨false, .ints k l⟩] => match decide (k = .u8) with
    | true => some (bsl 1 (n + 4) (n + 4), [ri l, oi (sealS (l.take n))], [n ≤ l.length, n ≤ 1000000, wf8 l])
    | false => none
  | _, _ => none
theorem seal_tab : TabOk Try.prog 16 (loc frozen8 gSeal) := loc_ok fun xs bs v bs' ob hg hob hokb => by
  unfold gSeal at hg
  split at hg
  · rename_i n c k l
    split at hg
    · rename_i hk
      injection hg with hg; injection hg with e1 e2; injection e2 with e2 e3
      subst e1; subst e2; subst e3
      have hk' : k = .u8 := of_decide_eq_true hk
      subst hk'
      exact seal_works l n c (hob _ (by simp)) (hob (n ≤ 1000000) (by simp)) (hob (wf8 l) (by simp))
    · cases hg
  · cases hg
/-! ### two lists of bytes -/
theorem funE : Try.prog.funcs[37]? = some FE := by kernel_rfl
theorem bodE : FE.body = some (bodyF 37) := by kernel_rfl
theorem tmpE : 2 ≤ FE.ntmps := Nat.le_of_ble_eq_true (by kernel_rfl)
theorem nd2 : (List.range 2 ++ ([] : List Nat)).Nodup := by decide
theorem cap2_works {f : FuncId} {b n c b' n' c' : Nat} {args : List V} {bs bs' : List SB} {v : V} (h : n ≤ c → n' ≤ c' → Works Try.prog f (bsl b n c :: bsl b' n' c' :: args) bs v bs') : Works Try.prog f (bsl b n c :: bsl b' n' c' :: args) bs v bs' := cap_works fun hc => by
  intro ρ K w us hm hu
  have hd : n' ≤ c' := by
    obtain ⟨_, s, _, _, u, s', _, ⟨⟨e, _, hu⟩, _⟩, _⟩ := hu
    rcases hu with ⟨h0, _⟩ | ⟨_, _, _, h1, _⟩
    · simp only [N.v] at h0; omega
    · exact h1
  exact h hc hd ρ K w us hm hu
theorem take_eq_iff {l k : List Int} {n : Nat} (hl : n ≤ l.length) (hk : n ≤ k.length) : l.take n = k.take n ↔ ∀ i, i < n → l.getD i 0 = k.getD i 0 := by
  constructor
  · intro h i hi
    rw [← getD_take (l := l) hi, ← getD_take (l := k) hi, h]
  · intro h
    refine List.ext_getElem (by rw [List.length_take, List.length_take]; omega) fun i h1 h2 => ?_
    have hi : i < n := by rw [List.length_take] at h1; omega
    have := h i hi
    rw [List.getD_eq_getElem?_getD, List.getD_eq_getElem?_getD, List.getElem?_eq_getElem (by omega), List.getElem?_eq_getElem (by omega)] at this
    simpa using this
theorem equal_works (l k : List Int) (n c m d : Nat) (hn : n ≤ l.length) (hk : m ≤ k.length) (hx : n ≤ 1000000000) : Works Try.prog 37 [bsl 0 n c, bsl 1 m d] [ri l, ri k] (.v (.one (.sbool (decide (l.take n = k.take m))))) [ri l, ri k] := cap2_works fun hc hd => by
  by_cases hnm : n = m
  · subst hnm
    have hiff := take_eq_iff hn hk
    refine works_loop (I := Nat) (Inv := fun i h => TE l k n c d i h) (good := fun i => i ≤ n ∧ ∀ j, j < i → l.getD j 0 = k.getD j 0) (μ := fun i => n - i) (i := 0) (r := []) (call0_ok 4) funE bodE (by exact tmpE) (fun _ _ => ⟨rfl, rfl⟩)
      (congrFun (congrFun (congrFun (congrFun (congrFun (congrFun eqE l) k) n) c) n) d) (by simp [allP]) ⟨nd2, ?_, ?_⟩ ⟨Nat.zero_le _, fun j h => by omega⟩ ?_
    · simp [TE, bsl, leSlots, leV, leV1, leC, si, List.range, List.range.loop, N.v, hc, hd]
    · simp [TE, leBs, leB, leCells, ri]
    · intro i ⟨hi, hall⟩
      by_cases hlt : i < n
      · have q0 := congrFun (congrFun (congrFun (congrFun (congrFun (congrFun eqR l) k) n) c) d) i
        have q1 := congrFun (congrFun (congrFun (congrFun (congrFun (congrFun eqX0 l) k) n) c) d) i
        by_cases he : l.getD i 0 = k.getD i 0
        · refine .round [true, false] [] _ _ [0, 1, 12, 13] [] _ _ _ (i + 1) q0 ?_ ⟨nd2, ?_, ?_⟩ ⟨hlt, fun j hj => ?_⟩ (by omega)
          · refine ⟨by omega, by simp only [he, decide_true, Bool.not_true], by omega, by omega, by omega, by omega, by omega, by omega, decide_eq_true (by omega), trivial⟩
          · simp [TE, bsl, leSlots, leV, leV1, leC, si, List.range, List.range.loop, N.v, hc, hd]
          · simp [TE, leBs, leB, leCells, ri]
          · by_cases hji : j = i
            · subst hji; exact he
            · exact hall j (by omega)
        · refine .stop [true, true] [] _ _ [] _ _ _ q1 ?_ nd2 ?_ ?_
          · refine ⟨by simp only [decide_eq_false he]; rfl, by omega, by omega, by omega, by omega, by omega, by omega, decide_eq_true (by omega), trivial⟩
          · have : ¬ l.take n = k.take n := fun h => he (hiff.1 h i hlt)
            simp [leV, leV1, leC, this]
          · simp [leBs, leB, leCells, ri]
      · have hin : i = n := by omega
        subst hin
        refine .stop [false] [] _ _ [] _ _ _ (congrFun (congrFun (congrFun (congrFun (congrFun (congrFun eqX1 l) k) i) c) d) i) ?_ nd2 ?_ ?_
        · simp [allP]
        · simp only [leV, leV1, leC, decide_eq_true (hiff.2 hall)]
        · simp [leBs, leB, leCells, ri]
  · refine works_of (r := []) no_tabs (congrFun (congrFun (congrFun (congrFun (congrFun (congrFun eqN l) k) n) c) m) d) ?_ nd2 ?_ ?_
    · have : ¬ (n : Int) = m := by omega
      exact ⟨by simp only [decide_eq_false this]; rfl, trivial⟩
    · have : ¬ l.take n = k.take m := fun h => by
        have := congrArg List.length h
        rw [List.length_take, List.length_take] at this
        omega
      simp [leV, leV1, leC, this]
    · simp [leBs, leB, leCells, ri]
def gEq : Sx.Loc := fun args bs => match args, bs with
  | [.v (.one (.slice 0 (.c 0) 1 (.s n) (.s _))), .v (.one (.slice 1 (.c 0) 1 (.s m) (.s _)))], [⟨false, .ints k l⟩, ⟨false, .ints k' l'⟩] => match decide (k = .u8) && decide (k' = .u8) with
    | true => some (.v (.one (.sbool (decide (l.take n = l'.take m)))), [ri l, ri l'], [n ≤ l.length, m ≤ l'.length, n ≤ 1000000000])
    | false => none
  | _, _ => none
def frozen88 : List V → List Want := fun _ => [(false, .ints .u8), (false, .ints .u8)]
theorem equal_tab : TabOk Try.prog 37 (loc frozen88 gEq) := loc_ok fun xs bs v bs' ob hg hob hokb => by
  unfold gEq at hg
  split at hg
  · rename_i n c m d k l k' l'
    split at hg
    · rename_i hk
      rw [Bool.and_eq_true] at hk
      injection hg with hg; injection hg with e1 e2; injection e2 with e2 e3
      subst e1; subst e2; subst e3
      have h1 : k = .u8 := of_decide_eq_true hk.1
      have h2 : k' = .u8 := of_decide_eq_true hk.2
      subst h1; subst h2
      exact equal_works l l' n c m d (hob _ (by simp)) (hob (m ≤ l'.length) (by simp)) (hob (n ≤ 1000000000) (by simp))
    · cases hg
  · cases hg
/-! ### a copy -/
theorem nd12 : (List.range 1 ++ [2]).Nodup := by decide
theorem nd1z : (List.range 1 ++ ([] : List Nat)).Nodup := by decide
theorem cloneB_works (l : List Int) (n c : Nat) (hn : n ≤ l.length) (hx : n ≤ 1000000000) : Works Try.prog 38 [bsl 0 n c] [ri l] (bsl 1 n n) [ri l, oi (l.take n)] := by
  by_cases h0 : n = 0
  · subst h0
    intro ρ K w us hm hu
    obtain ⟨u, s, rfl, ⟨⟨e, he, hu⟩, h1c⟩, hs⟩ := hu
    simp only [relVs] at hs; subst hs
    rcases hu with ⟨_, _, rfl⟩ | ⟨o, cap, rfl, _⟩
    · refine (works_of (r := []) (bs := [ri l]) (args := [.v (.one .nils)]) (v := .v (.one .nils)) (bs' := [ri l]) no_tabs (congrFun cl2 l) trivial nd1z trivial ⟨⟨fun h => h, rfl, rfl⟩, trivial⟩ ρ K w [.slice none 0 0] hm ⟨_, _, rfl, ⟨rfl, rfl⟩, rfl⟩).mono fun e w' ⟨u, ρ', he, hv, hm'⟩ => ?_
      have hg := hm'.beside (ghost_rel w' (.ints .u8 []) (fun ρ g i r h => by simp at h) rfl) rfl
      have hl := hm'.len
      refine ⟨u, ρ' ++ [⟨0, 0, 0⟩], he, ?_, ?_⟩
      · obtain ⟨hv1, hv2⟩ := hv
        simp only [C.rel] at hv1
        refine ⟨⟨⟨0, 0, 0⟩, ?_, .inl ⟨rfl, rfl, hv1⟩⟩, hv2⟩
        rw [← List.append_assoc, List.getElem?_append_right (by rw [hl]; simp)]
        rw [hl]; rfl
      · rw [← List.append_assoc]; exact hg
    · refine (works_of (r := [2]) (bs := [ri l]) (v := bsl 1 0 0) (bs' := [ri l, oi []]) no_tabs (congrFun (congrFun (congrFun cl3 l) ⟨e.blk, o, none⟩) cap) trivial nd12 ⟨rfl, rfl, rfl, rfl, Nat.le_refl _, Nat.le_refl _⟩ ⟨⟨fun h => h, rfl, rfl⟩, ⟨fun h => h, trivial⟩, trivial⟩ ρ K w _ hm ⟨_, _, rfl, ⟨rfl, h1c⟩, rfl⟩)
  · refine works_of (r := [2]) no_tabs (congrFun (congrFun (congrFun cl1 l) n) c) ⟨by omega, by omega, by omega, by omega, trivial⟩ nd12 ⟨rfl, rfl, rfl, rfl, Nat.le_refl _, Nat.le_refl _⟩ ⟨⟨fun h => h, rfl, rfl⟩, ⟨fun h => h, rfl, rfl⟩, trivial⟩
def gCloneB : Sx.Loc := fun args bs => match args, bs with
  | [.v (.one (.slice 0 (.c 0) 1 (.s n) (.s _)))], [⟨false, .ints k l⟩] => match decide (k = .u8) with
    | true => some (bsl 1 n n, [ri l, oi (l.take n)], [n ≤ l.length, n ≤ 1000000000])
    | false => none
  | _, _ => none
theorem cloneB_tab : TabOk Try.prog 38 (loc frozen8 gCloneB) := loc_ok fun xs bs v bs' ob hg hob hokb => by
  unfold gCloneB at hg
  split at hg
  · rename_i n c k l
    split at hg
    · rename_i hk
      injection hg with hg; injection hg with e1 e2; injection e2 with e2 e3
      subst e1; subst e2; subst e3
      have hk' : k = .u8 := of_decide_eq_true hk
      subst hk'
      exact cloneB_works l n c (hob _ (by simp)) (hob (n ≤ 1000000000) (by simp))
    · cases hg
  · cases hg
end Go.Proofs.Ytjjjpflnhagfcaa
