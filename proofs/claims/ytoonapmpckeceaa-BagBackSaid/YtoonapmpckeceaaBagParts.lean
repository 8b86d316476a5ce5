/- BagParts is true of any bag, any item and any two counts, and leaves its arguments as they were. -/
import Derived.Test.YtoonapmpckeceaaBagErrors
import Derived.Test.YtoonapmpckeceaaBagS
namespace Go.Proofs.Ytoonapmpckeceaa
open Go.ChangeShapes Go.WideShapes Go.ChangeAt Go.RowKit Go.Sx
theorem agg2 {l : List Int} (h : wfRow [.i64, .i64] l) : ∃ y z, l = [y, z] ∧ i64 y ∧ i64 z := by
  match l, h with
  | [y, z], ⟨h1, h2, _⟩ => exact ⟨y, z, rfl, wf64 h1, wf64 h2⟩
theorem putS_left (l : Rows2) (x n : Int) : 0 ≤ (putS l x n).2 ∧ ((putS l x n).2 ≤ n ∨ (putS l x n).2 = 0) := by
  unfold putS
  by_cases h1 : n < 1
  · rw [if_pos h1]; exact ⟨Int.le_refl _, .inr rfl⟩
  · rw [if_neg h1]
    split
    · exact ⟨by simp only; omega, .inl (Int.le_refl _)⟩
    · have hA := fill_left (p := pA x) (x := x) (size := stackT x) (l := l) (n := n) (by omega)
      have hB := fill_left (p := pB) (x := x) (size := stackT x) (l := (fill (pA x) x (stackT x) l n).1) hA.1
      exact ⟨hB.1, .inl (Int.le_trans hB.2 hA.2)⟩
theorem bagParts_calls (l : Rows2) (e : E) (v : Value) (x : Int) (g : List Int) {W0 : World} (r : readOnly W0 (e, ro l)) (w : ∀ r ∈ l, wfRow [.u8, .i64] r) (_m : l.length ≤ maxLen) (u : ∀ (ρ : Env) (b : Nat), ρ[b]? = some e → (V.v (.one (.slice b (.c 0) 2 (.s l.length) (.s l.length)))).rel ρ v)
    (wx : (Lit.int .u8 x).wf = true) (wg : wfRow [.i64, .i64] g) (W : World) (hW : W0 = W := by rfl) : Calls Try.prog 4 #[v, .int .u8 x, .agg (ivals [.i64, .i64] g).toArray] W fun e w' => e = .returned (.bool true) ∧ Below W.heap.size W w' := by
  subst hW
  obtain ⟨y, z, rfl, _, _⟩ := agg2 wg
  have hm := mem_args (W := W0) [(e, ro l)] (by intro y hy; simp at hy; subst hy; exact r)
  have hx := wf8 wx
  have hu : relVs ([(e, ro l)].map (·.1)) [sl2 0 l, si .u8 x, ag [y, z]] [v, .int .u8 x, .agg (ivals [.i64, .i64] [y, z]).toArray] := ⟨_, _, rfl, rel1 u, _, _, rfl, ⟨rfl, rfl⟩, _, _, rfl, ⟨_, rfl, ⟨_, _, rfl, rfl, _, _, rfl, rfl, rfl⟩, by intro q hq; simp [ivals] at hq; rcases hq with rfl | rfl <;> rfl⟩, rfl⟩
  have app : ∀ {f g : Rows2 → Int → Int → Int → Option (List Prop)}, f = g → f l x y z = g l x y z := fun h => by rw [h]
  have py := pickS_bd (x := y) (n := 100000) (by omega)
  have pz := pickS_bd (x := z) (n := 100000) (by omega)
  by_cases hl : l.length ≤ 300
  · have hw := wfL_of w (by omega)
    by_cases hr : l.all okR = true
    · have q2 := app lp2
      have q3 := app lp3
      have q4 := app lp4
      obtain ⟨a, ha⟩ : ∃ a, a = 1 + pickS y 100000 := ⟨_, rfl⟩
      obtain ⟨b, hb⟩ : ∃ b, b = 1 + pickS z 100000 := ⟨_, rfl⟩
      simp only [← ha, ← hb] at q2 q3 q4
      obtain ⟨e1, e2⟩ := putS_parts (x := x) (a := a) (b := b) hr (by omega) (by omega)
      have p1 := putS_wf (n := a) hw hx
      have p2 := putS_wf (n := b) p1 hx
      have p3 := putS_wf (n := a + b) hw hx
      have l1 := putS_len l x a
      have l2 := putS_len (putS l x a).1 x b
      have l3 := putS_len l x (a + b)
      have n1 := putS_left l x a
      have n2 := putS_left (putS l x a).1 x b
      have w1 := spendS_wf (x := x) (n := a) hw
      have w2 := spendS_wf (x := x) (n := b) w1
      have w3 := spendS_wf (x := x) (n := a + b) hw
      have m1 := spendS_len l x a
      have m2 := spendS_len (spendS l x a).1 x b
      have m3 := spendS_len l x (a + b)
      obtain ⟨s1, _, s3, _, s5⟩ := spendS_spec (x := x) (n := a) hw hr
      obtain ⟨t1, _, t3, _, t5⟩ := spendS_spec (x := x) (n := b) w1 s1
      obtain ⟨_, _, r3, _, r5⟩ := spendS_spec (x := x) (n := a + b) hw hr
      have s3 := s3 (by omega)
      have t3 := t3 (by omega)
      have r3 := r3 (by omega)
      by_cases hf : (spendS l x a).2 = 0
      · obtain ⟨hx0, _, hle, hc⟩ := s5 hf
        have hcx := hc x
        rw [if_pos rfl] at hcx
        by_cases he : (spendS l x (a + b)).2 = 0
        · have hle2 := r3.1 he
          have hg : (spendS (spendS l x a).1 x b).2 = 0 := t3.2 (by omega)
          have hsame : (spendS l x (a + b)).1 = (spendS (spendS l x a).1 x b).1 := by
            have u1 : ∀ {l : Rows2} {n : Int}, l.all okR = true → 1 ≤ n → n ≤ cnt x l → spendS l x n = ((spend x l n).1, 0) := fun {l n} h h1 h2 => by
              unfold spendS; rw [if_neg (by rw [h]; simp), if_neg (by omega), if_neg (by omega)]
            rw [u1 s1 (by omega) (t3.1 hg), u1 hr (by omega) hle2, u1 hr (by omega) hle]
            simp only
            rw [spend_twice hx0 hr (fun r hr => (hw.1 r hr).1) (by omega) (by omega) hle]
          refine law_obs tabL_ok q4 ?_ hm hu
          simp only [allP, hr]
          simp [hw, hx, i64, e1, e2, p1, p2, l1, l2, w1, w2, m1, m2, hf, he, hg, hsame]
          rw [← hsame] at *
          omega
        · have hg : (spendS (spendS l x a).1 x b).2 ≠ 0 := fun hg => he (r3.2 (by have := t3.1 hg; omega))
          refine law_obs tabL_ok q3 ?_ hm hu
          simp only [allP, hr]
          simp [hw, hx, i64, e1, e2, p1, p2, l1, l2, w1, w2, m1, m2, hf, he, hg]
          omega
      · have he : (spendS l x (a + b)).2 ≠ 0 := fun he => hf (s3.2 (by have := r3.1 he; omega))
        refine law_obs tabL_ok q2 ?_ hm hu
        simp only [allP, hr]
        simp [hw, hx, i64, e1, e2, p1, p2, l1, l2, w1, w2, m1, m2, hf, he]
        omega
    · have hr' : l.all okR = false := by simpa using hr
      refine law_obs tabL_ok (app lp1) ?_ hm hu
      simp only [allP, hr']; simp [hw]; omega
  · refine law_obs tabL_ok (app lp0) ?_ hm hu
    simp [allP]; omega

set_option maxRecDepth 100000 in
theorem bagParts_lifted (os : Os) (started : os.Started) (H : Type) (enc : TypeId × Value → H) :
    ReturnsInHanded {} Try.checked os 4 .any (Rows.bagPartsSpec.pre6 enc Try.prog Try.f4 Rows.bagPartsRow.domain false) (Rows.bagPartsSpec.post enc Try.prog Try.f4 false true false false) := by
  refine returnsInHanded_of_change (C := Try.checked) own started (by kernel_rfl) Try.func4
    (ChangeSpec.witness6 (enc := enc) (C := Try.checked) false ⟨#[], #[.slice none 0 0, .int .u8 0, .agg #[.int .i64 0, .int .i64 0]], []⟩ 8 (by kernel_rfl) (by kernel_rfl) (by kernel_rfl) (by kernel_rfl)) ?_
  intro W base args ds gs before hval0 hW hcnd _
  have hval : ∀ (j : Nat) t v, Try.f4.params[j]? = some t → args[j]? = some v → Value.okWide Try.prog W .any base t v := hval0
  have hW' := hW
  obtain ⟨p, q, hA0, hV, hbef, hfz, hnd⟩ := hW
  have hA : DataW.TrodAll enc Try.prog W 0 (fun _ => true) true Try.f4.params.toList args.toList ds p := hA0
  rw [Try.params4] at hA hval
  obtain ⟨v0, v1, v2, d0, d1, d2, p0, p1, p2, rfl, rfl, hp, h0, h1, h2⟩ := trodAll_three hA
  obtain ⟨a0, e0, r0, w0, m0, u0⟩ := one_rows (ks := [.u8, .i64]) (d := 20) (by kernel_rfl) (hval 0 22 v0 rfl rfl) h0
  obtain ⟨a1, rfl, rfl, _, w1⟩ := open_int Try.underlying5 (hval 1 5 v1 rfl rfl) h1
  obtain ⟨a2, w2, rfl⟩ := agg_ints (ks := [.i64, .i64]) (d := 20) (by kernel_rfl) (hval 2 31 v2 rfl rfl) h2
  refine (bagParts_calls a0 e0 v0 a1 a2 r0 w0 m0 u0 w1 w2 W).mono fun e W' ⟨he, hb⟩ => ?_
  subst he
  exact ⟨_, rfl, post_law laidOut (by rw [Try.params4]; decide +kernel) rfl rfl (by kernel_rfl) Try.underlying4 hW' hb⟩

theorem bagParts_holds : Rows.BagPartsSaid :=
  OpenClaim.holds_of_wide 4 Try.f4 rfl rfl rfl rfl rfl rfl rfl ⟨rfl, rfl, rfl, rfl, rfl⟩ rfl rfl rfl rfl rfl (by kernel_rfl) Try.func4 (by kernel_rfl)
    (of_decide_eq_true (by kernel_rfl)) (by unfold Func.isWrapper; first | (rw [if_pos (by decide +kernel)]; kernel_rfl) | (rw [if_neg (by decide +kernel)]; exact ⟨rfl, rfl⟩))
    (fun os started H enc _ => bagParts_lifted os started H enc)
#print axioms bagParts_holds

end Go.Proofs.Ytoonapmpckeceaa
