/- BagAll is true of any two bags, and leaves its arguments as they were. -/
import Derived.Test.YtoonapmpckeceaaBagParts
namespace Go.Proofs.Ytoonapmpckeceaa
open Go.ChangeShapes Go.WideShapes Go.ChangeAt Go.RowKit Go.Sx
theorem zeros_wf {n : Nat} (h : n ≤ 300) : wfL (zeros n) := ⟨fun r hr => by
  rw [List.eq_of_mem_replicate hr]; exact ⟨rfl, by decide, by decide⟩, by rw [zeros, List.length_replicate]; omega⟩
theorem more_wf {l : Rows2} (h : wfL l) (hl : l.length ≤ 300) : wfL (l ++ [[0, 0]]) := ⟨fun r hr => by
  rcases List.mem_append.1 hr with h1 | h1
  · exact h.1 r h1
  · simp at h1; subst h1; exact ⟨rfl, by decide, by decide⟩, by simp; omega⟩
theorem bagAll_calls (l : Rows2) (e : E) (v : Value) (k : Rows2) (e' : E) (v' : Value) {W0 : World} (r : readOnly W0 (e, ro l)) (w : ∀ r ∈ l, wfRow [.u8, .i64] r) (_m : l.length ≤ maxLen) (u : ∀ (ρ : Env) (b : Nat), ρ[b]? = some e → (V.v (.one (.slice b (.c 0) 2 (.s l.length) (.s l.length)))).rel ρ v)
    (r' : readOnly W0 (e', ro k)) (w' : ∀ r ∈ k, wfRow [.u8, .i64] r) (_m' : k.length ≤ maxLen) (u' : ∀ (ρ : Env) (b : Nat), ρ[b]? = some e' → (V.v (.one (.slice b (.c 0) 2 (.s k.length) (.s k.length)))).rel ρ v')
    (W : World) (hW : W0 = W := by rfl) : Calls Try.prog 8 #[v, v'] W fun e w' => e = .returned (.bool true) ∧ Below W.heap.size W w' := by
  subst hW
  have hm := mem_args (W := W0) [(e, ro l), (e', ro k)] (by intro y hy; simp at hy; rcases hy with rfl | rfl; exact r; exact r')
  have hu : relVs ([(e, ro l), (e', ro k)].map (·.1)) [sl2 0 l, sl2 1 k] [v, v'] := ⟨_, _, rfl, u _ 0 rfl, _, _, rfl, u' _ 1 rfl, rfl⟩
  have app : ∀ {f g : Rows2 → Rows2 → Option (List Prop)}, f = g → f l k = g l k := fun h => by rw [h]
  by_cases hl : l.length ≤ 300
  · have hw := wfL_of w (by omega)
    by_cases hr : l.all okR = true
    · by_cases hkl : k.length ≤ 300
      · have hwk := wfL_of w' (by omega)
        by_cases hrk : k.all okR = true
        · obtain ⟨a1, a2, a3, a4, a5⟩ := allS_spec hr hw hrk hwk
          have hz : (allS l (List.replicate k.length [0, 0])).2 = 0 := allS_zeros hr k.length
          have hzw : wfL (List.replicate k.length [0, 0]) := zeros_wf hkl
          have hmw := more_wf hw hl
          by_cases h0 : (allS l k).2 = 0
          · have hmore := allS_more hr hrk h0
            refine law_obs tabL_ok (app la4) ?_ hm hu
            simp only [allP, hr, hrk, List.nil_append]
            simp [hw, hwk, hzw, hmw, h0, hz, hmore]
            omega
          · obtain ⟨h5, h6⟩ := a4 h0
            refine law_obs tabL_ok (app la5) ?_ hm hu
            simp only [allP, hr, hrk]
            simp [hw, hwk, hzw, h5, h6, hz]
            omega
        · have hrk' : k.all okR = false := by simpa using hrk
          refine law_obs tabL_ok (app la3) ?_ hm hu
          simp only [allP, hr, hrk']; simp [hw, hwk]; omega
      · refine law_obs tabL_ok (app la2) ?_ hm hu
        simp only [allP, hr]; simp [hw]; omega
    · have hr' : l.all okR = false := by simpa using hr
      refine law_obs tabL_ok (app la1) ?_ hm hu
      simp only [allP, hr']; simp [hw]; omega
  · refine law_obs tabL_ok (app la0) ?_ hm hu
    simp [allP]; omega

set_option maxRecDepth 100000 in
theorem bagAll_lifted (os : Os) (started : os.Started) (H : Type) (enc : TypeId × Value → H) :
    ReturnsInHanded {} Try.checked os 8 .any (Rows.bagAllSpec.pre6 enc Try.prog Try.f8 Rows.bagAllRow.domain false) (Rows.bagAllSpec.post enc Try.prog Try.f8 false true false false) := by
  refine returnsInHanded_of_change (C := Try.checked) own started (by kernel_rfl) Try.func8
    (ChangeSpec.witness6 (enc := enc) (C := Try.checked) false ⟨#[], #[.slice none 0 0, .slice none 0 0], []⟩ 8 (by kernel_rfl) (by kernel_rfl) (by kernel_rfl) (by kernel_rfl)) ?_
  intro W base args ds gs before hval0 hW hcnd _
  have hval : ∀ (j : Nat) t v, Try.f8.params[j]? = some t → args[j]? = some v → Value.okWide Try.prog W .any base t v := hval0
  have hW' := hW
  obtain ⟨p, q, hA0, hV, hbef, hfz, hnd⟩ := hW
  have hA : DataW.TrodAll enc Try.prog W 0 (fun _ => true) true Try.f8.params.toList args.toList ds p := hA0
  rw [Try.params8] at hA hval
  obtain ⟨v0, v1, d0, d1, p0, p1, rfl, rfl, hp, h0, h1⟩ := trodAll_two hA
  obtain ⟨a0, e0, r0, w0, m0, u0⟩ := one_rows (ks := [.u8, .i64]) (d := 20) (by kernel_rfl) (hval 0 22 v0 rfl rfl) h0
  obtain ⟨a1, e1, r1, w1, m1, u1⟩ := one_rows (ks := [.u8, .i64]) (d := 20) (by kernel_rfl) (hval 1 22 v1 rfl rfl) h1
  refine (bagAll_calls a0 e0 v0 a1 e1 v1 r0 w0 m0 u0 r1 w1 m1 u1 W).mono fun e W' ⟨he, hb⟩ => ?_
  subst he
  exact ⟨_, rfl, post_law laidOut (by rw [Try.params8]; decide +kernel) rfl rfl (by kernel_rfl) Try.underlying4 hW' hb⟩

theorem bagAll_holds : Rows.BagAllSaid :=
  OpenClaim.holds_of_wide 8 Try.f8 rfl rfl rfl rfl rfl rfl rfl ⟨rfl, rfl, rfl, rfl, rfl⟩ rfl rfl rfl rfl rfl (by kernel_rfl) Try.func8 (by kernel_rfl)
    (of_decide_eq_true (by kernel_rfl)) (by unfold Func.isWrapper; first | (rw [if_pos (by decide +kernel)]; kernel_rfl) | (rw [if_neg (by decide +kernel)]; exact ⟨rfl, rfl⟩))
    (fun os started H enc _ => bagAll_lifted os started H enc)
#print axioms bagAll_holds

end Go.Proofs.Ytoonapmpckeceaa
