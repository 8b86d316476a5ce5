/- NetOwn is true of any bytes, and leaves its argument as it was. -/
import Derived.Test.YtjnnfehepbicfaaNetNone
namespace Go.Proofs.Ytjnnfehepbicfaa
open Go.ChangeShapes Go.WideShapes Go.ChangeAt Go.RowKit Go.Sx
theorem allP_nil : allP [] := trivial
theorem allP_cons {p : Prop} {r : List Prop} (h : p) (h' : allP r) : allP (p :: r) := ⟨h, h'⟩
theorem beqf (x : List UInt8) : (!(x == x)) = false := by simp
set_option maxRecDepth 100000 in
theorem netOwn_calls (l : List Int) (e : E) (v : Value) {W0 : World} (r : readOnly W0 (e, rb l)) (_w : ∀ n ∈ l, (Lit.int .u8 n).wf = true) (_m : l.length ≤ maxLen)
    (u : ∀ (ρ : Env) (b : Nat), ρ[b]? = some e → (V.v (.one (.slice b (.c 0) 1 (.s l.length) (.s l.length)))).rel ρ v) (W : World) (hW : W0 = W := by rfl) : Calls Try.prog 10 #[v] W fun e w' => e = .returned (.bool true) ∧ Below W.heap.size W w' := by
  subst hW
  have hm := mem_args (W := W0) [(e, rb l)] (by intro y hy; simp at hy; subst hy; exact r)
  have hu : relVs ([(e, rb l)].map (·.1)) [bs l] [v] := ⟨_, _, rfl, u _ 0 rfl, rfl⟩
  by_cases h0 : (l.length : Int) = 0
  · refine law_obs tabN_ok (congrFun no0 l) ?_ hm hu
    simp only [allP, h0]; simp
  · by_cases h1 : (80 : Int) < l.length
    · refine law_obs tabN_ok (congrFun no1 l) ?_ hm hu
      simp only [allP, h0, h1]; simp
    · have p0 : 0 < l.length := by omega
      have p1 : (0 : Int) < l.length := by omega
      have p2 : (l.length : Int) - 1 < l.length := by omega
      have p3 : 0 ≤ (l.length : Int) - 1 := by omega
      have p4 : (-9223372036854775808 : Int) ≤ (l.length : Int) - 1 ∧ (l.length : Int) - 1 ≤ 9223372036854775807 := by omega
      have p5 : ((l.length : Int) - 1).toNat < l.length := by omega
      have p6 : l.length ≤ 9223372036854775807 := by omega
      have p7 : l.length * 1 ≤ 140737488355328 := by omega
      have p8 : ¬ (1048576 : Int) < l.length := by omega
      refine law_obs tabN_ok (congrFun no2 l) ?_ hm hu
      repeat' (first | exact allP_nil | refine allP_cons ?_ ?_)
      all_goals first | rfl | exact p0 | exact p1 | exact p2 | exact p3 | exact p4 | exact p5 | exact p6 | exact p7 | exact beqf _ | exact decide_eq_false p8 | exact decide_eq_false h0 | exact decide_eq_false h1

set_option maxRecDepth 100000 in
theorem netOwn_lifted (os : Os) (started : os.Started) (H : Type) (enc : TypeId × Value → H) :
    ReturnsInHanded {} Try.checked os 10 .any (Rows.netOwnSpec.pre6 enc Try.prog Try.f10 Rows.netOwnRow.domain false) (Rows.netOwnSpec.post enc Try.prog Try.f10 false true false false) := by
  refine returnsInHanded_of_change (C := Try.checked) own started (by kernel_rfl) Try.func10
    (ChangeSpec.witness6 (enc := enc) (C := Try.checked) false ⟨#[], #[.slice none 0 0], []⟩ 8 (by kernel_rfl) (by kernel_rfl) (by kernel_rfl) (by kernel_rfl)) ?_
  intro W base args ds gs before hval0 hW hcnd _
  have hval : ∀ (j : Nat) t v, Try.f10.params[j]? = some t → args[j]? = some v → Value.okWide Try.prog W .any base t v := hval0
  have hW' := hW
  obtain ⟨p, q, hA0, hV, hbef, hfz, hnd⟩ := hW
  have hA : DataW.TrodAll enc Try.prog W 0 (fun _ => true) true Try.f10.params.toList args.toList ds p := hA0
  rw [Try.params10] at hA hval
  obtain ⟨v0, d0, rfl, rfl, h0⟩ := trodAll_one hA
  obtain ⟨a0, e0, r0, w0, m0, u0⟩ := one_ints (k := .u8) (d := 20) (by kernel_rfl) (hval 0 28 v0 rfl rfl) h0
  refine (netOwn_calls a0 e0 v0 r0 w0 m0 u0 W).mono fun e W' ⟨he, hb⟩ => ?_
  subst he
  exact ⟨_, rfl, post_law laidOut (by rw [Try.params10]; decide +kernel) rfl rfl (by kernel_rfl) Try.underlying4 hW' hb⟩

theorem netOwn_holds : Rows.NetOwnSaid :=
  OpenClaim.holds_of_wide 10 Try.f10 rfl rfl rfl rfl rfl rfl rfl ⟨rfl, rfl, rfl, rfl, rfl⟩ rfl rfl rfl rfl rfl (by kernel_rfl) Try.func10 (by kernel_rfl)
    (of_decide_eq_true (by kernel_rfl)) (by unfold Func.isWrapper; first | (rw [if_pos (by decide +kernel)]; kernel_rfl) | (rw [if_neg (by decide +kernel)]; exact ⟨rfl, rfl⟩))
    (fun os started H enc _ => netOwn_lifted os started H enc)
#print axioms netOwn_holds

end Go.Proofs.Ytjnnfehepbicfaa
