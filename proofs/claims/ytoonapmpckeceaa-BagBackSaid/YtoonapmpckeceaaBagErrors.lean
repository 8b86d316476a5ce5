/- BagErrors is true of any bag, any place and any count, and leaves its arguments as they were. -/
import Derived.Test.YtoonapmpckeceaaBagRoom
namespace Go.Proofs.Ytoonapmpckeceaa
open Go.ChangeShapes Go.WideShapes Go.ChangeAt Go.RowKit Go.Sx
theorem takeS_ok {l : Rows2} {a n : Int} (h0 : 0 ≤ a) (h1 : a < l.length) (h2 : l.all okR = true) (h3 : 1 ≤ n) (h4 : n ≤ nn (l.getD a.toNat [])) : takeS l a n = (l.set a.toNat (lessR (l.getD a.toNat []) n), (it (l.getD a.toNat []), n), 0) := by
  unfold takeS
  rw [if_neg (by rw [h2]; simp; omega), if_neg (by omega), if_neg (by omega)]
theorem bagErrors_calls (l : Rows2) (e : E) (v : Value) (a n : Int) {W0 : World} (r : readOnly W0 (e, ro l)) (w : ∀ r ∈ l, wfRow [.u8, .i64] r) (_m : l.length ≤ maxLen) (u : ∀ (ρ : Env) (b : Nat), ρ[b]? = some e → (V.v (.one (.slice b (.c 0) 2 (.s l.length) (.s l.length)))).rel ρ v)
    (wa : (Lit.int .i64 a).wf = true) (wn : (Lit.int .i64 n).wf = true) (W : World) (hW : W0 = W := by rfl) : Calls Try.prog 7 #[v, .int .i64 a, .int .i64 n] W fun e w' => e = .returned (.bool true) ∧ Below W.heap.size W w' := by
  subst hW
  have hm := mem_args (W := W0) [(e, ro l)] (by intro y hy; simp at hy; subst hy; exact r)
  have ha := wf64 wa
  have hn := wf64 wn
  have hu : relVs ([(e, ro l)].map (·.1)) [sl2 0 l, si .i64 a, si .i64 n] [v, .int .i64 a, .int .i64 n] := ⟨_, _, rfl, rel1 u, _, _, rfl, ⟨rfl, rfl⟩, _, _, rfl, ⟨rfl, rfl⟩, rfl⟩
  have app : ∀ {f g : Rows2 → Int → Int → Option (List Prop)}, f = g → f l a n = g l a n := fun h => by rw [h]
  by_cases hl : l.length ≤ 300
  · have hw := wfL_of w (by omega)
    by_cases hr : l.all okR = true
    · by_cases h1 : a < 0
      · have hp : takeS l a n = (l, (0, 0), 103) := by unfold takeS; rw [if_pos (.inl h1)]
        refine law_obs tabL_ok (app le2) ?_ hm hu
        simp only [allP, hr, hp]; simp [hw, ha, hn, h1]; omega
      · by_cases h2 : (l.length : Int) ≤ a
        · have hp : takeS l a n = (l, (0, 0), 103) := by unfold takeS; rw [if_pos (.inr (.inl h2))]
          refine law_obs tabL_ok (app le3) ?_ hm hu
          simp only [allP, hr, hp]; simp [hw, ha, hn, h2]; omega
        · have hnb : ¬ (a < 0 ∨ (l.length : Int) ≤ a ∨ l.all okR = false) := by rw [hr]; simp; omega
          by_cases h3 : n < 1
          · have hp : takeS l a n = (l, (0, 0), 111) := by unfold takeS; rw [if_neg hnb, if_pos h3]
            refine law_obs tabL_ok (app le4) ?_ hm hu
            simp only [allP, hr, hp]; simp [hw, ha, hn]; omega
          · obtain ⟨j, rfl⟩ := Int.eq_ofNat_of_zero_le (show 0 ≤ a by omega)
            have hj : j < l.length := by omega
            by_cases h4 : (l.getD j []).getD 1 0 < n
            · have hp : takeS l j n = (l, (0, 0), 105) := by unfold takeS; rw [if_neg hnb, if_neg h3, if_pos (by exact h4)]
              refine law_obs tabL_ok (app le5) ?_ hm hu
              simp only [allP, hr, hp, Int.toNat_natCast, h4]; simp [hw, ha, hn, hj]; omega
            · have hp : (takeS l j n).2.2 = 0 := by unfold takeS; rw [if_neg hnb, if_neg h3, if_neg (by exact h4)]
              refine law_obs tabL_ok (app le6) ?_ hm hu
              simp only [allP, hr, hp, Int.toNat_natCast, h4]; simp [hw, ha, hn, hj]; omega
    · have hr' : l.all okR = false := by simpa using hr
      have hp : takeS l a n = (l, (0, 0), 103) := by unfold takeS; rw [if_pos (.inr (.inr hr'))]
      have hp2 : putS l 1 3 = (l, 3) := by unfold putS; rw [if_neg (by omega), if_pos (.inr hr')]
      have hp3 : spendS l 1 1 = (l, 103) := by unfold spendS; rw [if_pos hr']
      refine law_obs tabL_ok (app le1) ?_ hm hu
      unfold i64 at ha hn
      simp only [allP, hr', hp, hp2, hp3]; simp [hw, ha, hn, i64]; omega
  · refine law_obs tabL_ok (app le0) ?_ hm hu
    simp [allP]; omega

set_option maxRecDepth 100000 in
theorem bagErrors_lifted (os : Os) (started : os.Started) (H : Type) (enc : TypeId × Value → H) :
    ReturnsInHanded {} Try.checked os 7 .any (Rows.bagErrorsSpec.pre6 enc Try.prog Try.f7 Rows.bagErrorsRow.domain false) (Rows.bagErrorsSpec.post enc Try.prog Try.f7 false true false false) := by
  refine returnsInHanded_of_change (C := Try.checked) own started (by kernel_rfl) Try.func7
    (ChangeSpec.witness6 (enc := enc) (C := Try.checked) false ⟨#[], #[.slice none 0 0, .int .i64 0, .int .i64 0], []⟩ 8 (by kernel_rfl) (by kernel_rfl) (by kernel_rfl) (by kernel_rfl)) ?_
  intro W base args ds gs before hval0 hW hcnd _
  have hval : ∀ (j : Nat) t v, Try.f7.params[j]? = some t → args[j]? = some v → Value.okWide Try.prog W .any base t v := hval0
  have hW' := hW
  obtain ⟨p, q, hA0, hV, hbef, hfz, hnd⟩ := hW
  have hA : DataW.TrodAll enc Try.prog W 0 (fun _ => true) true Try.f7.params.toList args.toList ds p := hA0
  rw [Try.params7] at hA hval
  obtain ⟨v0, v1, v2, d0, d1, d2, p0, p1, p2, rfl, rfl, hp, h0, h1, h2⟩ := trodAll_three hA
  obtain ⟨a0, e0, r0, w0, m0, u0⟩ := one_rows (ks := [.u8, .i64]) (d := 20) (by kernel_rfl) (hval 0 22 v0 rfl rfl) h0
  obtain ⟨a1, rfl, rfl, _, w1⟩ := open_int Try.underlying3 (hval 1 3 v1 rfl rfl) h1
  obtain ⟨a2, rfl, rfl, _, w2⟩ := open_int Try.underlying3 (hval 2 3 v2 rfl rfl) h2
  refine (bagErrors_calls a0 e0 v0 a1 a2 r0 w0 m0 u0 w1 w2 W).mono fun e W' ⟨he, hb⟩ => ?_
  subst he
  exact ⟨_, rfl, post_law laidOut (by rw [Try.params7]; decide +kernel) rfl rfl (by kernel_rfl) Try.underlying4 hW' hb⟩

theorem bagErrors_holds : Rows.BagErrorsSaid :=
  OpenClaim.holds_of_wide 7 Try.f7 rfl rfl rfl rfl rfl rfl rfl ⟨rfl, rfl, rfl, rfl, rfl⟩ rfl rfl rfl rfl rfl (by kernel_rfl) Try.func7 (by kernel_rfl)
    (of_decide_eq_true (by kernel_rfl)) (by unfold Func.isWrapper; first | (rw [if_pos (by decide +kernel)]; kernel_rfl) | (rw [if_neg (by decide +kernel)]; exact ⟨rfl, rfl⟩))
    (fun os started H enc _ => bagErrors_lifted os started H enc)
#print axioms bagErrors_holds

end Go.Proofs.Ytoonapmpckeceaa
