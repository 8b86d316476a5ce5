/- GenTells is true of any two numbers and any place, and leaves its arguments as they were. -/
import Derived.Test.YtbbjfjeagaoddaaTellA
namespace Go.Proofs.Ytbbjfjeagaoddaa
open Go.ChangeShapes Go.WideShapes Go.ChangeAt Go.RowKit Go.Sx
theorem at2_rel (ρ : Env) (a b : Int) : (at2 a b).rel ρ (.agg #[.int .i64 a, .int .i64 b]) := ⟨_, rfl, ⟨_, _, rfl, rfl, _, _, rfl, rfl, rfl⟩, by simp [Value.oneCell']⟩
theorem genTells_calls (s n : Int) (l : List Int) (_ : (Lit.int .u64 s).wf = true) (_ : (Lit.int .u64 n).wf = true) (w2 : wfRow [.i64, .i64] l) (W : World) :
    Calls Try.prog 3 #[.int .u64 s, .int .u64 n, .agg (ivals [.i64, .i64] l).toArray] W fun e w' => e = .returned (.bool true) ∧ Below W.heap.size W w' := by
  obtain ⟨a, b, rfl, wa, wb⟩ := wf2 w2
  have hu : relVs [] [si .u64 s, si .u64 n, at2 a b] [.int .u64 s, .int .u64 n, .agg #[.int .i64 a, .int .i64 b]] := ⟨_, _, rfl, ⟨rfl, rfl⟩, _, _, rfl, ⟨rfl, rfl⟩, _, _, rfl, at2_rel _ _ _, rfl⟩
  by_cases h : inCh a b
  · exact law_obs tab3_ok (congrFun (congrFun (congrFun (congrFun tellIn s) n) a) b) (by simp [allP, h]) (MemRel.nil W) hu
  · exact law_obs tab3_ok (congrFun (congrFun (congrFun (congrFun tellOut s) n) a) b) (by simp [allP, h]) (MemRel.nil W) hu

set_option maxRecDepth 100000 in
theorem genTells_lifted (os : Os) (started : os.Started) (H : Type) (enc : TypeId × Value → H) :
    ReturnsInHanded {} Try.checked os 3 .any (Rows.genTellsSpec.pre6 enc Try.prog Try.f3 Rows.genTellsRow.domain false) (Rows.genTellsSpec.post enc Try.prog Try.f3 false true false false) := by
  refine returnsInHanded_of_change (C := Try.checked) own started (by kernel_rfl) Try.func3
    (ChangeSpec.witness6 (enc := enc) (C := Try.checked) false ⟨#[], #[.int .u64 0, .int .u64 0, .agg #[.int .i64 0, .int .i64 0]], []⟩ 8 (by kernel_rfl) (by kernel_rfl) (by kernel_rfl) (by kernel_rfl)) ?_
  intro W base args ds gs before hval0 hW hcnd _
  have hval : ∀ (j : Nat) t v, Try.f3.params[j]? = some t → args[j]? = some v → Value.okWide Try.prog W .any base t v := hval0
  have hW' := hW
  obtain ⟨p, q, hA0, hV, hbef, hfz, hnd⟩ := hW
  have hA : DataW.TrodAll enc Try.prog W 0 (fun _ => true) true Try.f3.params.toList args.toList ds p := hA0
  rw [Try.params3] at hA hval
  obtain ⟨v0, v1, v2, d0, d1, d2, p0, p1, p2, rfl, rfl, hp, h0, h1, h2⟩ := trodAll_three hA
  obtain ⟨a0, rfl, rfl, _, w0⟩ := open_int Try.underlying22 (hval 0 22 v0 rfl rfl) h0
  obtain ⟨a1, rfl, rfl, _, w1⟩ := open_int Try.underlying22 (hval 1 22 v1 rfl rfl) h1
  obtain ⟨a2, w2, rfl⟩ := agg_ints (ks := [.i64, .i64]) (d := 20) (by kernel_rfl) (hval 2 23 v2 rfl rfl) h2
  refine (genTells_calls a0 a1 a2 w0 w1 w2 W).mono fun e W' ⟨he, hb⟩ => ?_
  subst he
  exact ⟨_, rfl, post_law laidOut (by rw [Try.params3]; decide +kernel) rfl rfl (by kernel_rfl) Try.underlying4 hW' hb⟩

theorem genTells_holds : Rows.GenTellsSaid :=
  OpenClaim.holds_of_wide 3 Try.f3 rfl rfl rfl rfl rfl rfl rfl ⟨rfl, rfl, rfl, rfl, rfl⟩ rfl rfl rfl rfl rfl (by kernel_rfl) Try.func3 (by kernel_rfl)
    (of_decide_eq_true (by kernel_rfl)) (by unfold Func.isWrapper; first | (rw [if_pos (by decide +kernel)]; kernel_rfl) | (rw [if_neg (by decide +kernel)]; exact ⟨rfl, rfl⟩))
    (fun os started H enc _ => genTells_lifted os started H enc)
#print axioms genTells_holds

end Go.Proofs.Ytbbjfjeagaoddaa
