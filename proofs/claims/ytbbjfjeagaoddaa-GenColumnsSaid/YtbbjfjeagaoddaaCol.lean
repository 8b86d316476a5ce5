/- GenColumns is true of any seed and any column, and leaves its arguments as they were. -/
import Derived.Test.YtbbjfjeagaoddaaColA
namespace Go.Proofs.Ytbbjfjeagaoddaa
open Go.ChangeShapes Go.WideShapes Go.ChangeAt Go.RowKit Go.Sx
theorem call3_ok : CallOk Try.prog (call3 4) := callN_sound tab3_ok 4
theorem body5_eq : Try.f5.body = some body5 := by kernel_rfl
abbrev EndG (W : World) : Ending → World → Prop := fun e w' => e = .returned (.bool true) ∧ Below W.heap.size W w'
theorem tmod_ne {m : Int} (h : 0 ≤ m) : m.tmod 11 = 0 → m.tmod 11 ≠ 1 := by omega
/-- what a column is -/
theorem column {s x : Int} (hx : 0 ≤ x ∧ x < 128) (y : Int) (hy : 0 ≤ y ∧ y < 128) :
    (y < hgt s x - 1 → cellF s x y = 0) ∧ (y = hgt s x - 1 → cellF s x y = 0 ∨ cellF s x y = 4 ∨ cellF s x y = 3) ∧ (hgt s x ≤ y → y ≤ hgt s x + 2 → cellF s x y = 1) ∧ (hgt s x + 2 < y → cellF s x y = 2 ∨ cellF s x y = 7) := by
  rw [cell_in ⟨hx.1, hx.2, hy.1, hy.2⟩]
  refine ⟨fun h => ?_, fun h => ?_, fun h h' => ?_, fun h => ?_⟩
  · rw [if_neg (by omega), if_neg (by omega), if_pos (by omega)]
  · by_cases h0 : (mixF s (IntKind.wrap .u64 (y * 128 + x))).tmod 11 = 0
    · rw [if_pos ⟨by omega, h0⟩]; simp
    · rw [if_neg (by omega)]
      by_cases h1 : (mixF s (IntKind.wrap .u64 (y * 128 + x))).tmod 11 = 1
      · rw [if_pos ⟨by omega, h1⟩]; simp
      · rw [if_neg (by omega), if_pos (by omega)]; simp
  · rw [if_neg (by omega), if_neg (by omega), if_neg (by omega), if_pos (by omega)]
  · rw [if_neg (by omega), if_neg (by omega), if_neg (by omega), if_neg (by omega)]
    by_cases h7 : (mixF s (IntKind.wrap .u64 (y * 128 + x))).tmod 7 = 0
    · rw [if_pos h7]; simp
    · rw [if_neg h7]; simp
theorem hgt_same {s x u : Int} (hx : 0 ≤ x) (h1 : x.tdiv 8 * 8 ≤ u) (h2 : u < x.tdiv 8 * 8 + 8) : hgt s u = hgt s x := by
  have e : u.tdiv 8 = x.tdiv 8 := by
    have hq : x.tdiv 8 = x / 8 := Int.tdiv_eq_ediv_of_nonneg hx
    rw [hq] at h1 h2 ⊢
    rw [Int.tdiv_eq_ediv_of_nonneg (by omega)]
    omega
  unfold hgt
  rw [e]
theorem col_end {s x t : Int} (hx : 0 ≤ x ∧ x < 128) (ht : hgt s x - 1 ≤ t) {W : World} {k : Int} (hk0 : hgt s x + 3 ≤ k) (hk1 : k ≤ 128)
    {ρ' : Env} {ac : Act} {w : World} (hr : Rel ([] ++ ρ') (upto W) W Try.f5.ntmps (T3 s x (hgt s x) t k []) ac w) : Goes Try.prog 5 (EndG W) KG3 ac w := by
  have hh := hgt_range s x
  refine goes_loop (ρ0 := []) (fun k : Int => T3 s x (hgt s x) t k []) (fun k => hgt s x + 3 ≤ k ∧ k ≤ 128) (fun k => (128 - k).toNat) ?_ ⟨hk0, hk1⟩ hr
  intro k hg ρ' ac w hri ih
  obtain ⟨h1, h2⟩ := hg
  by_cases hk : k < 128
  · have hc := (column (s := s) hx k ⟨by omega, hk⟩).2.2.2 (by omega)
    by_cases c2 : cellF s x k = 2
    · refine goes_stop (ρ0 := []) (r := []) (T := T3 s x (hgt s x) t (k + 1) []) call3_ok Try.func5 (congrFun (congrFun (congrFun (congrFun (congrFun col3 s) x) (hgt s x)) t) k) ?_ ⟨by simp, ?_, trivial⟩
        (fun ρ' a w h => ih (k + 1) ⟨by omega, by omega⟩ (by omega) ρ' a w h) (S := T3 s x (hgt s x) t k [true, false]) ⟨hri.sl, hri.m⟩
      · simp [allP, c2, hk]; omega
      · simp [T3, leSlots, leV, leV1, leC, si]
    · have c7 : cellF s x k = 7 := by rcases hc with h | h; exact absurd h c2; exact h
      refine goes_stop (ρ0 := []) (r := []) (T := T3 s x (hgt s x) t (k + 1) []) call3_ok Try.func5 (congrFun (congrFun (congrFun (congrFun (congrFun col3b s) x) (hgt s x)) t) k) ?_ ⟨by simp, ?_, trivial⟩
        (fun ρ' a w h => ih (k + 1) ⟨by omega, by omega⟩ (by omega) ρ' a w h) (S := T3 s x (hgt s x) t k [true, true, false]) ⟨hri.sl, hri.m⟩
      · simp [allP, c7, hk]; omega
      · simp [T3, leSlots, leV, leV1, leC, si]
  · have hq : 0 ≤ x.tdiv 8 ∧ x.tdiv 8 ≤ 15 := by rw [Int.tdiv_eq_ediv_of_nonneg hx.1]; omega
    have hcell : ∀ u, x.tdiv 8 * 8 ≤ u → u < x.tdiv 8 * 8 + 8 → cellF s u (hgt s x) = 1 ∧ cellF s u (hgt s x + 2) = 1 ∧ (cellF s u (hgt s x + 3) = 1 ↔ False) := by
      intro u hu1 hu2
      have hs := hgt_same (s := s) hx.1 hu1 hu2
      have hu : 0 ≤ u ∧ u < 128 := by omega
      have a := (column (s := s) hu (hgt s x) (by omega)).2.2.1 (by omega) (by omega)
      have b := (column (s := s) hu (hgt s x + 2) (by omega)).2.2.1 (by omega) (by omega)
      have c := (column (s := s) hu (hgt s x + 3) (by omega)).2.2.2 (by omega)
      exact ⟨a, b, by rw [iff_false]; rcases c with c | c <;> rw [c] <;> decide⟩
    have c0 := hcell (x.tdiv 8 * 8) (by omega) (by omega)
    have c1 := hcell (x.tdiv 8 * 8 + 1) (by omega) (by omega)
    have c2 := hcell (x.tdiv 8 * 8 + 1 + 1) (by omega) (by omega)
    have c3 := hcell (x.tdiv 8 * 8 + 1 + 1 + 1) (by omega) (by omega)
    have c4 := hcell (x.tdiv 8 * 8 + 1 + 1 + 1 + 1) (by omega) (by omega)
    have c5 := hcell (x.tdiv 8 * 8 + 1 + 1 + 1 + 1 + 1) (by omega) (by omega)
    have c6 := hcell (x.tdiv 8 * 8 + 1 + 1 + 1 + 1 + 1 + 1) (by omega) (by omega)
    have c7 := hcell (x.tdiv 8 * 8 + 1 + 1 + 1 + 1 + 1 + 1 + 1) (by omega) (by omega)
    refine goes_true call3_ok Try.func5 (S := T3 s x (hgt s x) t k ([false] ++ ((List.replicate 8 [true, false, false, false]).flatten) ++ [false, true, true, true])) (congrFun (congrFun (congrFun (congrFun (congrFun col4 s) x) (hgt s x)) t) k) ?_ (fun w' h => ⟨rfl, h.toBelow⟩) (ρ0 := []) ⟨hri.sl, hri.m⟩
    simp only [allP, c0.1, c0.2.1, c0.2.2, c1.1, c1.2.1, c1.2.2, c2.1, c2.2.1, c2.2.2, c3.1, c3.2.1, c3.2.2, c4.1, c4.2.1, c4.2.2, c5.1, c5.2.1, c5.2.2, c6.1, c6.2.1, c6.2.2, c7.1, c7.2.1, c7.2.2, and_true, decide_true, decide_false, Bool.not_true, decide_eq_true_eq, decide_eq_false_iff_not, true_and]
    generalize x.tdiv 8 = q at *
    omega
theorem col_up {s x : Int} (hx : 0 ≤ x ∧ x < 128) {W : World} {ρ' : Env} {ac : Act} {w : World} (hr : Rel ([] ++ ρ') (upto W) W Try.f5.ntmps (T1 s x 0 []) ac w) : Goes Try.prog 5 (EndG W) KG1 ac w := by
  have hh := hgt_range s x
  refine goes_loop (ρ0 := []) (fun y : Int => T1 s x y []) (fun y => 0 ≤ y ∧ y ≤ hgt s x) (fun y => (hgt s x - y).toNat) ?_ ⟨Int.le_refl _, by omega⟩ hr
  intro y hg ρ' ac w hri ih
  obtain ⟨h1, h2⟩ := hg
  obtain ⟨k1, k2, k3, k4⟩ := column (s := s) hx y ⟨h1, by omega⟩
  by_cases hz : cellF s x y = 0
  · have hne : y ≠ hgt s x := fun h => by
      have := k3 (by omega) (by omega)
      omega
    refine goes_stop (ρ0 := []) (r := []) (T := T1 s x (y + 1) []) call3_ok Try.func5 (congrFun (congrFun (congrFun col1 s) x) y) ?_ ⟨by simp, ?_, trivial⟩
      (fun ρ' a w h => ih (y + 1) ⟨by omega, by omega⟩ (by omega) ρ' a w h) (S := T1 s x y [true, true]) ⟨hri.sl, hri.m⟩
    · simp [allP, hz]; omega
    · simp [T1, leSlots, leV, leV1, leC, si]
  · have d0 := (column (s := s) hx (hgt s x) (by omega)).2.2.1 (by omega) (by omega)
    have d1 := (column (s := s) hx (hgt s x + 1) (by omega)).2.2.1 (by omega) (by omega)
    have d2 := (column (s := s) hx (hgt s x + 2) (by omega)).2.2.1 (by omega) (by omega)
    by_cases hy : y = hgt s x
    · subst hy
      have c1 := k3 (by omega) (by omega)
      refine goes_stop (ρ0 := []) (r := []) (T := T3 s x (hgt s x) (hgt s x) (hgt s x + 3) []) call3_ok Try.func5 (congrFun (congrFun (congrFun col2c s) x) (hgt s x)) ?_ ⟨by simp, ?_, trivial⟩
        (fun ρ' a w h => col_end hx (by omega) (by omega) (by omega) h) (S := T1 s x (hgt s x) [true, false, false, false, false, false, false]) ⟨hri.sl, hri.m⟩
      · simp [allP, d0, d1, d2]; omega
      · simp [T3, leSlots, leV, leV1, leC, si]
    · have hy1 : y = hgt s x - 1 := by
        rcases Int.lt_or_le y (hgt s x - 1) with h | h
        · exact absurd (k1 h) hz
        · omega
      have e0 : y + 1 + 0 = hgt s x := by omega
      have e1 : y + 1 + 1 = hgt s x + 1 := by omega
      have e2 : y + 1 + 2 = hgt s x + 2 := by omega
      have e3 : y + 1 + 3 = hgt s x + 3 := by omega
      have e4 : y + 1 = hgt s x := by omega
      rcases k2 hy1 with c | c | c
      · exact absurd c hz
      · refine goes_stop (ρ0 := []) (r := []) (T := T3 s x (hgt s x) y (hgt s x + 3) []) call3_ok Try.func5 (congrFun (congrFun (congrFun col2 s) x) y) ?_ ⟨by simp, ?_, trivial⟩
          (fun ρ' a w h => col_end hx (by omega) (by omega) (by omega) h) (S := T1 s x y [true, false, true, false, false, false]) ⟨hri.sl, hri.m⟩
        · simp only [allP, e0, e1, e2, e3, e4, d0, d1, d2, c]; simp; omega
        · simp [T3, leSlots, leV, leV1, leC, si, e3, e4]
      · refine goes_stop (ρ0 := []) (r := []) (T := T3 s x (hgt s x) y (hgt s x + 3) []) call3_ok Try.func5 (congrFun (congrFun (congrFun col2b s) x) y) ?_ ⟨by simp, ?_, trivial⟩
          (fun ρ' a w h => col_end hx (by omega) (by omega) (by omega) h) (S := T1 s x y [true, false, false, true, false, false, false]) ⟨hri.sl, hri.m⟩
        · simp only [allP, e0, e1, e2, e3, e4, d0, d1, d2, c]; simp; omega
        · simp [T3, leSlots, leV, leV1, leC, si, e3, e4]
theorem genColumns_calls (s c : Int) (_ : (Lit.int .u64 s).wf = true) (_ : (Lit.int .i64 c).wf = true) (W : World) : Calls Try.prog 5 #[.int .u64 s, .int .i64 c] W (EndG W) := by
  refine calls_goes (ρ0 := []) (us := [.int .u64 s, .int .i64 c]) (args := [si .u64 s, si .i64 c]) (m := []) (h := []) (ob := []) Try.func5 body5_eq (by rw [Try.ntmps5]; simp) (MemRel.nil W) ⟨_, _, rfl, ⟨rfl, rfl⟩, _, _, rfl, ⟨rfl, rfl⟩, rfl⟩ ?_
  intro ac w hrel
  have hm : -128 < c.tmod 128 ∧ c.tmod 128 < 128 := ⟨Int.lt_tmod_of_pos _ (by decide), Int.tmod_lt_of_pos _ (by decide)⟩
  by_cases h : c.tmod 128 < 0
  · refine goes_stop (ρ0 := []) (r := []) (T := T1 s (c.tmod 128 + 128) 0 []) (S := ⟨argSlots 0 [si .u64 s, si .i64 c], [], [true], []⟩) call3_ok Try.func5 (congrFun (congrFun col0 s) c) ?_ ⟨by simp, ?_, trivial⟩
      (fun ρ' a w hr => col_up ⟨by omega, by omega⟩ hr) ⟨hrel.sl, hrel.m⟩
    · simp [allP, h]; omega
    · simp [T1, leSlots, leV, leV1, leC, si]
  · refine goes_stop (ρ0 := []) (r := []) (T := T1 s (c.tmod 128) 0 []) (S := ⟨argSlots 0 [si .u64 s, si .i64 c], [], [false], []⟩) call3_ok Try.func5 (congrFun (congrFun col0b s) c) ?_ ⟨by simp, ?_, trivial⟩
      (fun ρ' a w hr => col_up ⟨by omega, by omega⟩ hr) ⟨hrel.sl, hrel.m⟩
    · simp [allP, h]
    · simp [T1, leSlots, leV, leV1, leC, si]

set_option maxRecDepth 100000 in
theorem genColumns_lifted (os : Os) (started : os.Started) (H : Type) (enc : TypeId × Value → H) :
    ReturnsInHanded {} Try.checked os 5 .any (Rows.genColumnsSpec.pre6 enc Try.prog Try.f5 Rows.genColumnsRow.domain false) (Rows.genColumnsSpec.post enc Try.prog Try.f5 false true false false) := by
  refine returnsInHanded_of_change (C := Try.checked) own started (by kernel_rfl) Try.func5
    (ChangeSpec.witness6 (enc := enc) (C := Try.checked) false ⟨#[], #[.int .u64 0, .int .i64 0], []⟩ 8 (by kernel_rfl) (by kernel_rfl) (by kernel_rfl) (by kernel_rfl)) ?_
  intro W base args ds gs before hval0 hW hcnd _
  have hval : ∀ (j : Nat) t v, Try.f5.params[j]? = some t → args[j]? = some v → Value.okWide Try.prog W .any base t v := hval0
  have hW' := hW
  obtain ⟨p, q, hA0, hV, hbef, hfz, hnd⟩ := hW
  have hA : DataW.TrodAll enc Try.prog W 0 (fun _ => true) true Try.f5.params.toList args.toList ds p := hA0
  rw [Try.params5] at hA hval
  obtain ⟨v0, v1, d0, d1, p0, p1, rfl, rfl, hp, h0, h1⟩ := trodAll_two hA
  obtain ⟨a0, rfl, rfl, _, w0⟩ := open_int Try.underlying22 (hval 0 22 v0 rfl rfl) h0
  obtain ⟨a1, rfl, rfl, _, w1⟩ := open_int Try.underlying3 (hval 1 3 v1 rfl rfl) h1
  refine (genColumns_calls a0 a1 w0 w1 W).mono fun e W' ⟨he, hb⟩ => ?_
  subst he
  exact ⟨_, rfl, post_law laidOut (by rw [Try.params5]; decide +kernel) rfl rfl (by kernel_rfl) Try.underlying4 hW' hb⟩

theorem genColumns_holds : Rows.GenColumnsSaid :=
  OpenClaim.holds_of_wide 5 Try.f5 rfl rfl rfl rfl rfl rfl rfl ⟨rfl, rfl, rfl, rfl, rfl⟩ rfl rfl rfl rfl rfl (by kernel_rfl) Try.func5 (by kernel_rfl)
    (of_decide_eq_true (by kernel_rfl)) (by unfold Func.isWrapper; first | (rw [if_pos (by decide +kernel)]; kernel_rfl) | (rw [if_neg (by decide +kernel)]; exact ⟨rfl, rfl⟩))
    (fun os started H enc _ => genColumns_lifted os started H enc)
#print axioms genColumns_holds

end Go.Proofs.Ytbbjfjeagaoddaa
