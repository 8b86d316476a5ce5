/- The bag's contracts, further: putting, taking, spending, putting all. -/
import Derived.Test.YtibknlliackohaaBagF
namespace Go.Proofs.Ytibknlliackohaa
open Go.ChangeShapes Go.WideShapes Go.ChangeAt Go.RowKit Go.Sx
theorem tab2_ok : ∀ f g, tab2 f = some g → TabOk Try.prog f g := tabs_ok fun x hx => by
  simp only [List.mem_cons, List.not_mem_nil, or_false] at hx
  rcases hx with rfl | rfl | rfl | rfl | rfl
  · exact stack_tab
  · exact right_tab
  · exact clone_tab
  · exact count_tab
  · exact fill_tab
theorem call2_ok (d : Nat) : CallOk Try.prog (call2 d) := callN_sound tab2_ok d
theorem nd1 (k : Nat) (h : k ≠ 0) : (List.range 1 ++ [k]).Nodup := by simp [List.range, List.range.loop, Ne.symm h]
theorem fill_bd {p : List Int → Bool} {x size : Int} : ∀ {l : Rows2} {n : Int}, (∀ r ∈ l, 0 ≤ nn r ∧ nn r ≤ 16) → 0 ≤ n → size ≤ 16 → ∀ r ∈ (fill p x size l n).1, 0 ≤ nn r ∧ nn r ≤ 16
  | [], n, _, _, _ => fun r hr => by simp [fill] at hr
  | r :: t, n, h, h0, hs => by
    have hr := h r (by simp)
    have ha := amt_bd (p := p) (size := size) (r := r) h0
    have ih := fill_bd (p := p) (x := x) (l := t) (n := n - amt p size r n) (fun s hs => h s (by simp [hs])) (by omega) hs
    intro s hsm
    simp only [fill, List.mem_cons] at hsm
    rcases hsm with e | hsm
    · subst e
      unfold putR
      by_cases hz : amt p size r n = 0
      · rw [if_pos hz]; exact hr
      · rw [if_neg hz]
        have : amt p size r n ≤ size - nn r := by
          unfold amt at hz ⊢
          by_cases hc : p r = true ∧ 0 < (if n < size - nn r then n else size - nn r)
          · rw [if_pos hc]; split <;> omega
          · rw [if_neg hc] at hz; exact absurd rfl hz
        show 0 ≤ nn r + amt p size r n ∧ nn r + amt p size r n ≤ 16
        omega
    · exact ih s hsm
theorem okl_bd {l : Rows2} (h : l.all okR = true) : ∀ r ∈ l, 0 ≤ nn r ∧ nn r ≤ 16 := fun r hr => by
  have := okR_bd (all_row h hr)
  omega
theorem putS_len (l : Rows2) (i n : Int) : (putS l i n).1.length = l.length := by
  unfold putS
  split
  · rfl
  · split
    · rfl
    · simp [fill_len]
theorem put_works (l : Rows2) (c : Nat) (i n : Int) (hw : wfL l) (hi : 0 ≤ i ∧ i < 256) (hn : i64 n) :
    Works Try.prog 20 [sl 0 l.length c, si .u8 i, si .i64 n] [ro l] (tup2 1 l.length (putS l i n).2) [ro l, ow (putS l i n).1] := by
  have hlen := hw.2
  by_cases h1 : n < 1
  · have hp : putS l i n = (l, 0) := by unfold putS; rw [if_pos h1]
    rw [hp]
    refine works_of (r := [4]) tab2_ok (congrFun (congrFun (congrFun (congrFun (congrFun puA l) l.length) c) i) n) ?_ (by exact nd1 4 (by omega)) ?_ ?_
    · simp [allP]; omega
    · simp [tup2, leV, leL1, leV1, leC, N.v, List.range, List.range.loop]
    · simp [leBs, leB, leCells, ro, ow, ks2]
  · by_cases h2 : stackT i = 0
    · have hp : putS l i n = (l, n) := by unfold putS; rw [if_neg h1, if_pos (.inl h2)]
      rw [hp]
      refine works_of (r := [4]) tab2_ok (congrFun (congrFun (congrFun (congrFun (congrFun puB l) l.length) c) i) n) ?_ (by exact nd1 4 (by omega)) ?_ ?_
      · simp [allP, h2, hi]; omega
      · simp [tup2, leV, leL1, leV1, leC, N.v, List.range, List.range.loop]
      · simp [leBs, leB, leCells, ro, ow, ks2]
    · by_cases h3 : l.all okR = true
      · have hp : putS l i n = fill pB i (stackT i) (fill (pA i) i (stackT i) l n).1 (fill (pA i) i (stackT i) l n).2 := by
          unfold putS; rw [if_neg h1, if_neg]
          intro h; rcases h with h | h
          · exact h2 h
          · rw [h3] at h; cases h
        rw [hp]
        have hbd := okl_bd h3
        have hst := stackT_bd i
        have hf := fill_left (p := pA i) (x := i) (size := stackT i) (l := l) (n := n) (by omega)
        have hfb := fill_bd (p := pA i) (x := i) (size := stackT i) (l := l) (n := n) hbd (by omega) hst.2
        have hfl := fill_len (p := pA i) (x := i) (size := stackT i) (l := l) (n := n)
        unfold i64 at hn
        refine works_of (r := [4]) tab2_ok (congrFun (congrFun (congrFun (congrFun (congrFun puD l) l.length) c) i) n) ?_ (by exact nd1 4 (by omega)) ?_ ?_
        · generalize fill (pA i) i (stackT i) l n = F at *
          simp only [allP, i64]
          simp [hfl, h2, h3, hi, hw, hlen, hst]
          refine ⟨hf.1, ⟨by omega, by omega⟩, fun r hr => hfb r hr, by omega, by omega, fun r hr => hbd r hr, by omega, by omega⟩
        · simp [tup2, leV, leL1, leV1, leC, N.v, List.range, List.range.loop]
        · simp [leBs, leB, leCells, ro, ow, ks2]
      · have h3' : l.all okR = false := by simpa using h3
        have hp : putS l i n = (l, n) := by unfold putS; rw [if_neg h1, if_pos (.inr h3')]
        rw [hp]
        refine works_of (r := [4]) tab2_ok (congrFun (congrFun (congrFun (congrFun (congrFun puC l) l.length) c) i) n) ?_ (by exact nd1 4 (by omega)) ?_ ?_
        · simp only [allP, h3']; simp [h2, hi, hw]; omega
        · simp [tup2, leV, leL1, leV1, leC, N.v, List.range, List.range.loop]
        · simp [leBs, leB, leCells, ro, ow, ks2]
theorem put_tab : TabOk Try.prog 20 (loc w1 (one2ii gPut)) := one2ii_ok fun l c i a v bs ob hg hob hw hi ha => by
  unfold gPut at hg
  injection hg with hg; injection hg with e1 e2; injection e2 with e2 e3
  subst e1; subst e2; subst e3
  exact put_works l c i a hw hi ha
end Go.Proofs.Ytibknlliackohaa
