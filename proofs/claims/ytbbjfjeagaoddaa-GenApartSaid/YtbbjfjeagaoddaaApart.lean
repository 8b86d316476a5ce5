/- GenApart is true of any seed and any two places, and leaves its arguments as they were. -/
import Derived.Test.YtbbjfjeagaoddaaApartA
namespace Go.Proofs.Ytbbjfjeagaoddaa
open Go.ChangeShapes Go.WideShapes Go.ChangeAt Go.RowKit Go.Sx
theorem apart_of {s a b c d : Int} {h : List Bool} {ob : List Prop} (hr : apartR s a b c d h = some ob) (hob : allP ob) (W : World) :
    Calls Try.prog 6 #[.int .u64 s, .agg #[.int .i64 a, .int .i64 b], .agg #[.int .i64 c, .int .i64 d]] W fun e w' => e = .returned (.bool true) ∧ Below W.heap.size W w' :=
  law_obs (us := [.int .u64 s, .agg #[.int .i64 a, .int .i64 b], .agg #[.int .i64 c, .int .i64 d]]) tab3_ok hr hob (MemRel.nil W) ⟨_, _, rfl, ⟨rfl, rfl⟩, _, _, rfl, at2_rel _ _ _, _, _, rfl, at2_rel _ _ _, rfl⟩
theorem apart_all (s a b c d : Int) (W : World) : Calls Try.prog 6 #[.int .u64 s, .agg #[.int .i64 a, .int .i64 b], .agg #[.int .i64 c, .int .i64 d]] W fun e w' => e = .returned (.bool true) ∧ Below W.heap.size W w' := by
  have hA : inCh a b ∨ ¬ inCh a b ∧ (a < 0 ∨ 0 ≤ a ∧ 16 ≤ a ∨ 0 ≤ a ∧ a < 16 ∧ b < 0 ∨ 0 ≤ a ∧ a < 16 ∧ 0 ≤ b ∧ 16 ≤ b) := by unfold inCh; omega
  have hB : inCh c d ∧ 0 ≤ c ∧ 0 ≤ d ∨ ¬ inCh c d ∧ (c < 0 ∨ 0 ≤ c ∧ d < 0 ∨ 0 ≤ c ∧ 0 ≤ d) := by unfold inCh; omega
  have hz : c < 0 ∨ d < 0 → cellF s c d = 0 := fun h => by unfold cellF; rw [if_pos (by omega)]
  rcases hA with hA | ⟨hA, hA1 | hA1 | hA1 | hA1⟩
  · rcases hB with ⟨hB, hB1⟩ | ⟨hB, hB1 | hB1 | hB1⟩
    · exact apart_of (congrFun (congrFun (congrFun (congrFun (congrFun ap_i_i s) a) b) c) d) (by have hA2 := hA; unfold inCh at hA2; simp [allP, hA, hB]; omega) W
    · exact apart_of (congrFun (congrFun (congrFun (congrFun (congrFun ap_i_n0 s) a) b) c) d) (by have hA2 := hA; unfold inCh at hA2; have hz0 := hz (by omega); simp [allP, hA, hB, hz0]; omega) W
    · exact apart_of (congrFun (congrFun (congrFun (congrFun (congrFun ap_i_n1 s) a) b) c) d) (by have hA2 := hA; unfold inCh at hA2; have hz0 := hz (by omega); simp [allP, hA, hB, hz0]; omega) W
    · exact apart_of (congrFun (congrFun (congrFun (congrFun (congrFun ap_i_p s) a) b) c) d) (by have hA2 := hA; unfold inCh at hA2; simp [allP, hA, hB]; omega) W
  · rcases hB with ⟨hB, hB1⟩ | ⟨hB, hB1 | hB1 | hB1⟩
    · exact apart_of (congrFun (congrFun (congrFun (congrFun (congrFun ap_o1_i s) a) b) c) d) (by simp [allP, hA, hB]; omega) W
    · exact apart_of (congrFun (congrFun (congrFun (congrFun (congrFun ap_o1_n0 s) a) b) c) d) (by have hz0 := hz (by omega); simp [allP, hA, hB, hz0]; omega) W
    · exact apart_of (congrFun (congrFun (congrFun (congrFun (congrFun ap_o1_n1 s) a) b) c) d) (by have hz0 := hz (by omega); simp [allP, hA, hB, hz0]; omega) W
    · exact apart_of (congrFun (congrFun (congrFun (congrFun (congrFun ap_o1_p s) a) b) c) d) (by simp [allP, hA, hB]; omega) W
  · rcases hB with ⟨hB, hB1⟩ | ⟨hB, hB1 | hB1 | hB1⟩
    · exact apart_of (congrFun (congrFun (congrFun (congrFun (congrFun ap_o2_i s) a) b) c) d) (by simp [allP, hA, hB]; omega) W
    · exact apart_of (congrFun (congrFun (congrFun (congrFun (congrFun ap_o2_n0 s) a) b) c) d) (by have hz0 := hz (by omega); simp [allP, hA, hB, hz0]; omega) W
    · exact apart_of (congrFun (congrFun (congrFun (congrFun (congrFun ap_o2_n1 s) a) b) c) d) (by have hz0 := hz (by omega); simp [allP, hA, hB, hz0]; omega) W
    · exact apart_of (congrFun (congrFun (congrFun (congrFun (congrFun ap_o2_p s) a) b) c) d) (by simp [allP, hA, hB]; omega) W
  · rcases hB with ⟨hB, hB1⟩ | ⟨hB, hB1 | hB1 | hB1⟩
    · exact apart_of (congrFun (congrFun (congrFun (congrFun (congrFun ap_o3_i s) a) b) c) d) (by simp [allP, hA, hB]; omega) W
    · exact apart_of (congrFun (congrFun (congrFun (congrFun (congrFun ap_o3_n0 s) a) b) c) d) (by have hz0 := hz (by omega); simp [allP, hA, hB, hz0]; omega) W
    · exact apart_of (congrFun (congrFun (congrFun (congrFun (congrFun ap_o3_n1 s) a) b) c) d) (by have hz0 := hz (by omega); simp [allP, hA, hB, hz0]; omega) W
    · exact apart_of (congrFun (congrFun (congrFun (congrFun (congrFun ap_o3_p s) a) b) c) d) (by simp [allP, hA, hB]; omega) W
  · rcases hB with ⟨hB, hB1⟩ | ⟨hB, hB1 | hB1 | hB1⟩
    · exact apart_of (congrFun (congrFun (congrFun (congrFun (congrFun ap_o4_i s) a) b) c) d) (by simp [allP, hA, hB]; omega) W
    · exact apart_of (congrFun (congrFun (congrFun (congrFun (congrFun ap_o4_n0 s) a) b) c) d) (by have hz0 := hz (by omega); simp [allP, hA, hB, hz0]; omega) W
    · exact apart_of (congrFun (congrFun (congrFun (congrFun (congrFun ap_o4_n1 s) a) b) c) d) (by have hz0 := hz (by omega); simp [allP, hA, hB, hz0]; omega) W
    · exact apart_of (congrFun (congrFun (congrFun (congrFun (congrFun ap_o4_p s) a) b) c) d) (by simp [allP, hA, hB]; omega) W
theorem genApart_calls (s : Int) (l m : List Int) (_ : (Lit.int .u64 s).wf = true) (w1 : wfRow [.i64, .i64] l) (w2 : wfRow [.i64, .i64] m) (W : World) :
    Calls Try.prog 6 #[.int .u64 s, .agg (ivals [.i64, .i64] l).toArray, .agg (ivals [.i64, .i64] m).toArray] W fun e w' => e = .returned (.bool true) ∧ Below W.heap.size W w' := by
  obtain ⟨a, b, rfl, _, _⟩ := wf2 w1
  obtain ⟨c, d, rfl, _, _⟩ := wf2 w2
  exact apart_all s a b c d W

set_option maxRecDepth 100000 in
theorem genApart_lifted (os : Os) (started : os.Started) (H : Type) (enc : TypeId × Value → H) :
    ReturnsInHanded {} Try.checked os 6 .any (Rows.genApartSpec.pre6 enc Try.prog Try.f6 Rows.genApartRow.domain false) (Rows.genApartSpec.post enc Try.prog Try.f6 false true false false) := by
  refine returnsInHanded_of_change (C := Try.checked) own started (by kernel_rfl) Try.func6
    (ChangeSpec.witness6 (enc := enc) (C := Try.checked) false ⟨#[], #[.int .u64 0, .agg #[.int .i64 0, .int .i64 0], .agg #[.int .i64 0, .int .i64 0]], []⟩ 8 (by kernel_rfl) (by kernel_rfl) (by kernel_rfl) (by kernel_rfl)) ?_
  intro W base args ds gs before hval0 hW hcnd _
  have hval : ∀ (j : Nat) t v, Try.f6.params[j]? = some t → args[j]? = some v → Value.okWide Try.prog W .any base t v := hval0
  have hW' := hW
  obtain ⟨p, q, hA0, hV, hbef, hfz, hnd⟩ := hW
  have hA : DataW.TrodAll enc Try.prog W 0 (fun _ => true) true Try.f6.params.toList args.toList ds p := hA0
  rw [Try.params6] at hA hval
  obtain ⟨v0, v1, v2, d0, d1, d2, p0, p1, p2, rfl, rfl, hp, h0, h1, h2⟩ := trodAll_three hA
  obtain ⟨a0, rfl, rfl, _, w0⟩ := open_int Try.underlying22 (hval 0 22 v0 rfl rfl) h0
  obtain ⟨a1, w1, rfl⟩ := agg_ints (ks := [.i64, .i64]) (d := 20) (by kernel_rfl) (hval 1 23 v1 rfl rfl) h1
  obtain ⟨a2, w2, rfl⟩ := agg_ints (ks := [.i64, .i64]) (d := 20) (by kernel_rfl) (hval 2 23 v2 rfl rfl) h2
  refine (genApart_calls a0 a1 a2 w0 w1 w2 W).mono fun e W' ⟨he, hb⟩ => ?_
  subst he
  exact ⟨_, rfl, post_law laidOut (by rw [Try.params6]; decide +kernel) rfl rfl (by kernel_rfl) Try.underlying4 hW' hb⟩

theorem genApart_holds : Rows.GenApartSaid :=
  OpenClaim.holds_of_wide 6 Try.f6 rfl rfl rfl rfl rfl rfl rfl ⟨rfl, rfl, rfl, rfl, rfl⟩ rfl rfl rfl rfl rfl (by kernel_rfl) Try.func6 (by kernel_rfl)
    (of_decide_eq_true (by kernel_rfl)) (by unfold Func.isWrapper; first | (rw [if_pos (by decide +kernel)]; kernel_rfl) | (rw [if_neg (by decide +kernel)]; exact ⟨rfl, rfl⟩))
    (fun os started H enc _ => genApart_lifted os started H enc)
#print axioms genApart_holds

end Go.Proofs.Ytbbjfjeagaoddaa
