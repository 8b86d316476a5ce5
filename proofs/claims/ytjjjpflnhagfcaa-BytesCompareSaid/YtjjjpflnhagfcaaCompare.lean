/- BytesCompare is true of any two numbers, and leaves its arguments as they were. -/
import Derived.Test.YtjjjpflnhagfcaaLadder
namespace Go.Proofs.Ytjjjpflnhagfcaa
open Go.ChangeShapes Go.WideShapes Go.ChangeAt Go.RowKit Go.Sx
theorem callL_ok : CallOk Try.prog (callL 4) := callN_sound tabL_ok 4
theorem bodyC_eq : Try.f4.body = some bodyC := by kernel_rfl
abbrev EndC (W : World) : Ending → World → Prop := fun e w' => e = .returned (.bool true) ∧ Below W.heap.size W w'
/-- above a place all bytes are the same -/
def sameAbove (b c : List Int) (i : Int) : Prop := ∀ j : Nat, i < j → b[j]? = c[j]?
theorem minmax (n m : Int) : ((if m < n then m else n) = n ∧ (if n < m then m else n) = m ∧ n ≤ m) ∨ ((if m < n then m else n) = m ∧ (if n < m then m else n) = n ∧ m ≤ n) := by
  by_cases h : n < m
  · left; rw [if_neg (by omega), if_pos h]; omega
  · right
    rw [if_neg h]
    by_cases h' : m < n
    · rw [if_pos h']; omega
    · have : n = m := by omega
      subst this; simp
theorem cmp_loop {n m lo hi : Int} (hlo : 0 ≤ lo) (hlh : lo ≤ hi) (hnm : n ≠ m ↔ lo ≠ hi) (hlen : (vint lo).length = (vint hi).length) (hle : (vint lo).length ≤ 10) {W : World} {i0 : Int} (hi0 : i0 = (vint lo).length - 1)
    {ρ' : Env} {ac : Act} {w : World} (hr : Rel ([] ++ ρ') (upto W) W Try.f4.ntmps (TC n m (vint lo) (vint hi) i0 []) ac w) : Goes Try.prog 4 (EndC W) KC ac w := by
  have hsame : sameAbove (vint lo) (vint hi) i0 := fun j hj => by
    rw [List.getElem?_eq_none (by omega), List.getElem?_eq_none (by omega)]
  refine goes_loop (ρ0 := []) (fun i : Int => TC n m (vint lo) (vint hi) i []) (fun i => sameAbove (vint lo) (vint hi) i ∧ -1 ≤ i ∧ i < (vint lo).length) (fun i => (i + 1).toNat) ?_ ⟨hsame, by omega, by omega⟩ hr
  intro i hg ρ' ac w hri ih
  obtain ⟨hs, h1, h2⟩ := hg
  have h2' : i < (vint hi).length := by rw [← hlen]; exact h2
  by_cases hip : 0 ≤ i
  · by_cases hd : (vint lo).getD i.toNat 0 = (vint hi).getD i.toNat 0
    · refine goes_stop (ρ0 := []) (r := [0, 1]) (T := TC n m (vint lo) (vint hi) (i - 1) []) callL_ok Try.func4 (congrFun (congrFun (congrFun (congrFun (congrFun cmpGo n) m) (vint lo)) (vint hi)) i) ?_ ⟨by simp, ?_, ?_⟩
        (fun ρ' a w h => ih (i - 1) ⟨?_, by omega, by omega⟩ (by omega) ρ' a w h) (S := TC n m (vint lo) (vint hi) i [true, false]) ⟨hri.sl, hri.m⟩
      · simp only [allP, hd, and_true]
        simp
        omega
      · simp [TC, leSlots, leV, leV1, leC, si, bsl, N.v]
      · simp [TC, leBs, leB, leCells]
      · intro j hj
        by_cases hji : i < j
        · exact hs j hji
        · have : j = i.toNat := by omega
          subst this
          rw [List.getElem?_eq_getElem (by omega), List.getElem?_eq_getElem (by omega)]
          simpa [List.getD, List.getElem?_eq_getElem (show i.toNat < (vint lo).length by omega), List.getElem?_eq_getElem (show i.toNat < (vint hi).length by omega)] using hd
    · have hlt := vintN_top lo.toNat hi.toNat i.toNat (by omega) hlen (fun j hj => hs j (by omega)) hd
      have hne : n ≠ m := hnm.2 fun h => hd (by rw [h])
      refine goes_true callL_ok Try.func4 (S := TC n m (vint lo) (vint hi) i [true, true, true, true]) (congrFun (congrFun (congrFun (congrFun (congrFun cmpHit n) m) (vint lo)) (vint hi)) i) ?_ (fun w' h => ⟨rfl, h.toBelow⟩) (ρ0 := []) ⟨hri.sl, hri.m⟩
      have hlt' : (vint lo).getD i.toNat 0 < (vint hi).getD i.toNat 0 := hlt
      simp only [allP, and_true, decide_eq_true_eq, Bool.not_eq_true', decide_eq_false_iff_not]
      exact ⟨hne, hlt', by omega, hip, h2', by omega, hip, h2, hd, by omega, hip, h2', by omega, hip, h2, hip⟩
  · have he : vint lo = vint hi := by
      apply List.ext_getElem?
      intro j
      exact hs j (by omega)
    have hlh' : lo.toNat = hi.toNat := vintN_inj he
    have : n = m := by
      refine Classical.byContradiction fun h => ?_
      have := hnm.1 h
      omega
    refine goes_true callL_ok Try.func4 (S := TC n m (vint lo) (vint hi) i [false, true]) (congrFun (congrFun (congrFun (congrFun (congrFun cmpEnd n) m) (vint lo)) (vint hi)) i) ?_ (fun w' h => ⟨rfl, h.toBelow⟩) (ρ0 := []) ⟨hri.sl, hri.m⟩
    simp only [allP, and_true]
    simp [this]
    omega
theorem bytesCompare_calls (n m : Int) (wn : (Lit.int .u64 n).wf = true) (wm : (Lit.int .u64 m).wf = true) (W : World) :
    Calls Try.prog 4 #[.int .u64 n, .int .u64 m] W (EndC W) := by
  have hn := wf_u64 wn
  have hm := wf_u64 wm
  obtain ⟨lo, hi, e1, e2, hlh, hlo, hhi, hnm⟩ : ∃ lo hi, (if m < n then m else n) = lo ∧ (if n < m then m else n) = hi ∧ lo ≤ hi ∧ u64 lo ∧ u64 hi ∧ (n ≠ m ↔ lo ≠ hi) := by
    rcases minmax n m with ⟨a, b, c⟩ | ⟨a, b, c⟩
    · exact ⟨n, m, a, b, c, hn, hm, Iff.rfl⟩
    · exact ⟨m, n, a, b, c, hm, hn, ⟨Ne.symm, Ne.symm⟩⟩
  have hu : relVs [] [si .u64 n, si .u64 m] [.int .u64 n, .int .u64 m] := ⟨_, _, rfl, ⟨rfl, rfl⟩, _, _, rfl, ⟨rfl, rfl⟩, rfl⟩
  have hmono : (vint lo).length ≤ (vint hi).length := vintN_mono _ _ (by unfold u64 at hlo; omega)
  have hle := vint_le hlo
  by_cases hl : (vint lo).length = (vint hi).length
  · refine calls_goes (ρ0 := []) (us := [.int .u64 n, .int .u64 m]) (args := [si .u64 n, si .u64 m]) (m := []) (h := []) (ob := []) Try.func4 bodyC_eq (by rw [Try.ntmps4]; simp) (MemRel.nil W) hu ?_
    intro ac w hrel
    have hq := congrFun (congrFun cmpEq n) m
    simp only [e1, e2] at hq
    refine goes_stop (ρ0 := []) (r := [0, 1]) (T := TC n m (vint lo) (vint hi) (((vint lo).length : Int) - 1) []) (S := ⟨argSlots 0 [si .u64 n, si .u64 m], [], [false], []⟩) callL_ok Try.func4 hq ?_ ⟨by simp, ?_, ?_⟩ ?_ ⟨hrel.sl, hrel.m⟩
    · simp only [allP, hl, and_true]
      simp [hlo, hhi]
      omega
    · simp [TC, leSlots, leV, leV1, leC, si, bsl, N.v]
    · simp [TC, leBs, leB, leCells]
    · intro ρ' ac w hr
      exact cmp_loop hlo.1 hlh hnm hl hle rfl hr
  · have hne : n ≠ m := hnm.2 fun h => hl (by rw [h])
    refine calls_goes (ρ0 := []) (us := [.int .u64 n, .int .u64 m]) (args := [si .u64 n, si .u64 m]) (m := []) (h := []) (ob := []) Try.func4 bodyC_eq (by rw [Try.ntmps4]; simp) (MemRel.nil W) hu ?_
    intro ac w hrel
    have hq := congrFun (congrFun cmpNe n) m
    simp only [e1, e2] at hq
    refine goes_true callL_ok Try.func4 (S := ⟨argSlots 0 [si .u64 n, si .u64 m], [], [true, true, true], []⟩) hq ?_ (fun w' h => ⟨rfl, h.toBelow⟩) (ρ0 := []) ⟨hrel.sl, hrel.m⟩
    simp only [allP, and_true, decide_eq_true_eq, Bool.not_eq_true', decide_eq_false_iff_not]
    exact ⟨hne, by omega, by omega, hhi, hlo⟩

set_option maxRecDepth 100000 in
theorem bytesCompare_lifted (os : Os) (started : os.Started) (H : Type) (enc : TypeId × Value → H) :
    ReturnsInHanded {} Try.checked os 4 .any (Rows.bytesCompareSpec.pre6 enc Try.prog Try.f4 Rows.bytesCompareRow.domain false) (Rows.bytesCompareSpec.post enc Try.prog Try.f4 false true false false) := by
  refine returnsInHanded_of_change (C := Try.checked) own started (by kernel_rfl) Try.func4
    (ChangeSpec.witness6 (enc := enc) (C := Try.checked) false ⟨#[], #[.int .u64 0, .int .u64 0], []⟩ 8 (by kernel_rfl) (by kernel_rfl) (by kernel_rfl) (by kernel_rfl)) ?_
  intro W base args ds gs before hval0 hW hcnd _
  have hval : ∀ (j : Nat) t v, Try.f4.params[j]? = some t → args[j]? = some v → Value.okWide Try.prog W .any base t v := hval0
  have hW' := hW
  obtain ⟨p, q, hA0, hV, hbef, hfz, hnd⟩ := hW
  have hA : DataW.TrodAll enc Try.prog W 0 (fun _ => true) true Try.f4.params.toList args.toList ds p := hA0
  rw [Try.params4] at hA hval
  obtain ⟨v0, v1, d0, d1, p0, p1, rfl, rfl, hp, h0, h1⟩ := trodAll_two hA
  obtain ⟨a0, rfl, rfl, _, w0⟩ := open_int Try.underlying22 (hval 0 22 v0 rfl rfl) h0
  obtain ⟨a1, rfl, rfl, _, w1⟩ := open_int Try.underlying22 (hval 1 22 v1 rfl rfl) h1
  refine (bytesCompare_calls a0 a1 w0 w1 W).mono fun e W' ⟨he, hb⟩ => ?_
  subst he
  exact ⟨_, rfl, post_law laidOut (by rw [Try.params4]; decide +kernel) rfl rfl (by kernel_rfl) Try.underlying4 hW' hb⟩

theorem bytesCompare_holds : Rows.BytesCompareSaid :=
  OpenClaim.holds_of_wide 4 Try.f4 rfl rfl rfl rfl rfl rfl rfl ⟨rfl, rfl, rfl, rfl, rfl⟩ rfl rfl rfl rfl rfl (by kernel_rfl) Try.func4 (by kernel_rfl)
    (of_decide_eq_true (by kernel_rfl)) (by unfold Func.isWrapper; first | (rw [if_pos (by decide +kernel)]; kernel_rfl) | (rw [if_neg (by decide +kernel)]; exact ⟨rfl, rfl⟩))
    (fun os started H enc _ => bytesCompare_lifted os started H enc)
#print axioms bytesCompare_holds

end Go.Proofs.Ytjjjpflnhagfcaa
