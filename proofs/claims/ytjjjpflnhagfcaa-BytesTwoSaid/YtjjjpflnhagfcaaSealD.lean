/- Unseal: the contract. -/
import Derived.Test.YtjjjpflnhagfcaaSealC
namespace Go.Proofs.Ytjjjpflnhagfcaa
open Go.ChangeShapes Go.WideShapes Go.ChangeAt Go.RowKit Go.Sx
theorem tabUn_ok : ∀ f g, tabUn f = some g → TabOk Try.prog f g := tabs_ok fun x hx => by
  simp only [List.mem_cons, List.not_mem_nil, or_false] at hx
  rcases hx with rfl | rfl | rfl
  · exact seal_tab
  · exact equal_tab
  · exact cloneB_tab
def tupB (b n : Nat) (e : Int) : V := .tup [.one (.slice b (.c 0) 1 (.s n) (.s n)), .one (.sint .i64 e)]
theorem ghost_tup {f : FuncId} {args : List V} {l : List Int} {e : Int} (h : Works Try.prog f args [ri l] (.tup [.one .nils, .one (.sint .i64 e)]) [ri l]) : Works Try.prog f args [ri l] (tupB 1 0 e) [ri l, oi []] := by
  intro ρ K w us hm hu
  refine (h ρ K w us hm hu).mono fun en w' ⟨u, ρ', he, hv, hm'⟩ => ?_
  have hg := hm'.beside (ghost_rel w' (.ints .u8 []) (fun ρ g i r h => by simp at h) rfl) rfl
  have hl := hm'.len
  refine ⟨u, ρ' ++ [⟨0, 0, 0⟩], he, ?_, ?_⟩
  · obtain ⟨vs, hv1, hv2⟩ := hv
    refine ⟨vs, hv1, ?_⟩
    obtain ⟨v1, s1, rfl, ⟨h1, h1'⟩, h2⟩ := hv2
    simp only [C.rel] at h1
    refine ⟨v1, s1, rfl, ⟨⟨⟨0, 0, 0⟩, ?_, .inl ⟨rfl, rfl, h1⟩⟩, h1'⟩, ?_⟩
    · rw [← List.append_assoc, List.getElem?_append_right (by rw [hl]; simp)]
      rw [hl]; rfl
    · obtain ⟨v2, s2, rfl, ⟨h3, h3'⟩, h4⟩ := h2
      exact ⟨v2, s2, rfl, ⟨h3, h3'⟩, h4⟩
  · rw [← List.append_assoc]; exact hg
theorem unseal_works (l : List Int) (n c : Nat) (hn : n ≤ l.length) (hm : n ≤ 1000000) (hw : wf8 l) : Works Try.prog 17 [bsl 0 n c] [ri l] (tupB 1 (unsealS (l.take n)).1.length (unsealS (l.take n)).2) [ri l, oi (unsealS (l.take n)).1] := cap_works fun hc => by
  have hl : (l.take n).length = n := by rw [List.length_take]; omega
  have q0 := congrFun (congrFun (congrFun un0 l) n) c
  have q1 := congrFun (congrFun (congrFun un1 l) n) c
  have q2 := congrFun (congrFun (congrFun un2 l) n) c
  by_cases h4 : n < 4
  · have e : unsealS (l.take n) = ([], 11) := by unfold unsealS; rw [if_pos (by omega)]
    rw [e]
    refine ghost_tup (works_of (r := []) tabUn_ok q0 ⟨decide_eq_true (by omega), by omega, trivial⟩ nd1z ?_ ?_)
    · simp [leV, leL1, leV1, leC]
    · simp [leBs, leB, leCells, ri]
  · have e1 : Int.toNat ((n : Int) - 4) = n - 4 := by omega
    have e2 : (sealS (l.take (n - 4))).length = n := by rw [seal_len, List.length_take]; omega
    have e3 : Nat.add (n - 4) 4 = n := by show n - 4 + 4 = n; omega
    have e4 : List.take n (sealS (l.take (n - 4))) = sealS (l.take (n - 4)) := List.take_of_length_le (by omega)
    have e5 : (l.take n).take ((l.take n).length - 4) = l.take (n - 4) := by rw [hl, List.take_take, Nat.min_eq_left (by omega)]
    rw [e1, e3, e4] at q1 q2
    by_cases hs : sealS (l.take (n - 4)) = l.take n
    · have e : unsealS (l.take n) = (l.take (n - 4), 0) := by unfold unsealS; rw [if_neg (by omega), e5, if_pos hs]
      rw [e]
      have hl4 : (l.take (n - 4)).length = n - 4 := by rw [List.length_take]; omega
      refine works_of (r := [2]) tabUn_ok q2 ⟨by omega, by omega, by omega, by omega, by rw [decide_eq_true hs]; rfl, by omega, hn, by omega, by omega, by omega, hw, by omega, by omega, decide_eq_false (by omega), by omega, trivial⟩ nd12 ?_ ?_
      · simp [tupB, leV, leL1, leV1, leC, N.v, List.range, List.range.loop, hl4]
      · simp [leBs, leB, leCells, ri, oi]
    · have e : unsealS (l.take n) = ([], 12) := by unfold unsealS; rw [if_neg (by omega), e5, if_neg hs]
      rw [e]
      refine ghost_tup (works_of (r := []) tabUn_ok q1 ⟨by rw [decide_eq_false hs]; rfl, by omega, hn, by omega, by omega, by omega, hw, by omega, by omega, decide_eq_false (by omega), by omega, trivial⟩ nd1z ?_ ?_)
      · simp [leV, leL1, leV1, leC]
      · simp [leBs, leB, leCells, ri]
def gUnseal : Sx.Loc := fun args bs => match args, bs with
  | [.v (.one (.slice 0 (.c 0) 1 (.s n) (.s _)))], [⟨false, .ints k l⟩] => match decide (k = .u8) with
    | true => some (tupB 1 (unsealS (l.take n)).1.length (unsealS (l.take n)).2, [ri l, oi (unsealS (l.take n)).1], [n ≤ l.length, n ≤ 1000000, wf8 l])
    | false => none
  | _, _ => none
theorem unseal_tab : TabOk Try.prog 17 (loc frozen8 gUnseal) := loc_ok fun xs bs v bs' ob hg hob hokb => by
  unfold gUnseal at hg
  split at hg
  · rename_i n c k l
    split at hg
    · rename_i hk
      injection hg with hg; injection hg with e1 e2; injection e2 with e2 e3
      subst e1; subst e2; subst e3
      have hk' : k = .u8 := of_decide_eq_true hk
      subst hk'
      exact unseal_works l n c (hob _ (by simp)) (hob (n ≤ 1000000) (by simp)) (hob (wf8 l) (by simp))
    · cases hg
  · cases hg
end Go.Proofs.Ytjjjpflnhagfcaa
