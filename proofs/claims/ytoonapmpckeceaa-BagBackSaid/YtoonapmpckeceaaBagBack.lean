/- BagBack is true of any bag, any item and any three numbers, and leaves its arguments as they were. -/
import Derived.Test.YtoonapmpckeceaaBagParts
namespace Go.Proofs.Ytoonapmpckeceaa
open Go.ChangeShapes Go.WideShapes Go.ChangeAt Go.RowKit Go.Sx
theorem agg3 {l : List Int} (h : wfRow [.i64, .i64, .i64] l) : ∃ y z w, l = [y, z, w] ∧ i64 y ∧ i64 z ∧ i64 w := by
  match l, h with
  | [y, z, w], ⟨h1, h2, h3, _⟩ => exact ⟨y, z, w, rfl, wf64 h1, wf64 h2, wf64 h3⟩
/-- what was taken can be put back -/
theorem take_back {l : Rows2} {z w : Int} (hw : wfL l) (h : l.all okR = true) (h0 : (takeS l z w).2.2 = 0) :
    ∃ m X, takeS l z w = (m, (X, w), 0) ∧ List.getD (List.getD l z.toNat []) 0 0 = X ∧ 0 ≤ z ∧ z < l.length ∧ z.toNat < l.length ∧ wfL m ∧ m.length = l.length ∧ (0 ≤ X ∧ X < 256) ∧ (putS m X w).2 = 0 ∧ cnt X (putS m X w).1 = cnt X l ∧ (putS m X w).1.all okR = true ∧ wfL (putS m X w).1 := by
  obtain ⟨t1, t2, t3, t4, _, t6⟩ := takeS_spec (a := z) (n := w) hw h
  obtain ⟨a1, a2, a3, _, a5, a6, a7, a8, a9⟩ := t6 h0
  refine ⟨(takeS l z w).1, it (l.getD z.toNat []), ?_, rfl, a1, a2, by omega, t2, t3, ?_, ?_⟩
  · rw [← a5, ← h0]
  · rw [a5] at t4; exact t4
  · rw [a5] at t4
    have hc := a9 (it (l.getD z.toNat []))
    generalize it (l.getD z.toNat []) = X at *
    generalize (takeS l z w).1 = m at *
    obtain ⟨p1, p2, _, p4⟩ := putS_spec (x := X) (n := w) t1 a3 a7
    have p0 : (putS m X w).2 = 0 := by rw [p2]; split <;> omega
    refine ⟨p0, ?_, p1, putS_wf t2 t4⟩
    have := p4 X
    rw [p0, if_pos rfl] at this
    rw [if_pos ⟨rfl, a6⟩] at hc
    omega
theorem take_not {l : Rows2} {z w : Int} (hw : wfL l) (h : l.all okR = true) (h0 : (takeS l z w).2.2 ≠ 0) : ∃ e, takeS l z w = (l, (0, 0), e) ∧ e ≠ 0 := by
  obtain ⟨_, _, _, _, t5, _⟩ := takeS_spec (a := z) (n := w) hw h
  obtain ⟨h1, h2⟩ := t5 h0
  refine ⟨(takeS l z w).2.2, ?_, h0⟩
  generalize takeS l z w = T at *
  obtain ⟨a, b, c⟩ := T
  simp only at h1 h2
  rw [h1, h2]
theorem bagBack_calls (l : Rows2) (e : E) (v : Value) (x : Int) (g : List Int) {W0 : World} (r : readOnly W0 (e, ro l)) (w : ∀ r ∈ l, wfRow [.u8, .i64] r) (_m : l.length ≤ maxLen) (u : ∀ (ρ : Env) (b : Nat), ρ[b]? = some e → (V.v (.one (.slice b (.c 0) 2 (.s l.length) (.s l.length)))).rel ρ v)
    (wx : (Lit.int .u8 x).wf = true) (wg : wfRow [.i64, .i64, .i64] g) (W : World) (hW : W0 = W := by rfl) : Calls Try.prog 5 #[v, .int .u8 x, .agg (ivals [.i64, .i64, .i64] g).toArray] W fun e w' => e = .returned (.bool true) ∧ Below W.heap.size W w' := by
  subst hW
  obtain ⟨y, z, t, rfl, _, hz, ht⟩ := agg3 wg
  have hm := mem_args (W := W0) [(e, ro l)] (by intro y hy; simp at hy; subst hy; exact r)
  have hx := wf8 wx
  have hu : relVs ([(e, ro l)].map (·.1)) [sl2 0 l, si .u8 x, ag [y, z, t]] [v, .int .u8 x, .agg (ivals [.i64, .i64, .i64] [y, z, t]).toArray] := ⟨_, _, rfl, rel1 u, _, _, rfl, ⟨rfl, rfl⟩, _, _, rfl, ⟨_, rfl, ⟨_, _, rfl, rfl, _, _, rfl, rfl, _, _, rfl, rfl, rfl⟩, by intro q hq; simp [ivals] at hq; rcases hq with rfl | rfl | rfl <;> rfl⟩, rfl⟩
  have app : ∀ {f g : Rows2 → Int → Int → Int → Int → Option (List Prop)}, f = g → f l x y z t = g l x y z t := fun h => by rw [h]
  by_cases hl : l.length ≤ 300
  · have hw := wfL_of w (by omega)
    by_cases hr : l.all okR = true
    · have q8 := app lb8
      have q9 := app lb9
      obtain ⟨n, hn⟩ : ∃ n, n = 1 + pickS y (room x l) := ⟨_, rfl⟩
      simp only [← hn] at q8 q9
      by_cases hc : cnt x l = 0
      · by_cases hs : 0 < stackT x
        · by_cases hro : 0 < room x l
          · have py := pickS_bd (x := y) (n := room x l) hro
            have hrl := room_le x l hr
            obtain ⟨s1, s2⟩ := put_spend (n := n) hr hw hc (by omega) (by omega) (by omega)
            have p1 := putS_wf (n := n) hw hx
            have p2 := putS_len l x n
            by_cases h0 : (takeS l z t).2.2 = 0
            · obtain ⟨m, X, hT, hX, k1, k2, k3, k4, k5, k6, k7, k8, k9, k10⟩ := take_back hw hr h0
              have p3 := putS_len m X t
              refine law_obs tabL_ok q9 ?_ hm hu
              simp only [allP, hr, hT, hX]
              simp [hw, hx, hz, ht, k1, k2, k3, k4, k5, k6, k7, k8, k9, k10, p3, hc, hs, hro, s1, s2, p1, p2]
              simp only [i64]; omega
            · obtain ⟨e, hT, he⟩ := take_not hw hr h0
              refine law_obs tabL_ok q8 ?_ hm hu
              simp only [allP, hr, hT]
              simp [hw, hx, hz, ht, he, hc, hs, hro, s1, s2, p1, p2]
              simp only [i64]; omega
          · by_cases h0 : (takeS l z t).2.2 = 0
            · obtain ⟨m, X, hT, hX, k1, k2, k3, k4, k5, k6, k7, k8, k9, k10⟩ := take_back hw hr h0
              have p3 := putS_len m X t
              refine law_obs tabL_ok (app lb7) ?_ hm hu
              simp only [allP, hr, hT, hX]
              simp [hw, hx, hz, ht, k1, k2, k3, k4, k5, k6, k7, k8, k9, k10, p3, hc, hs]
              omega
            · obtain ⟨e, hT, he⟩ := take_not hw hr h0
              refine law_obs tabL_ok (app lb6) ?_ hm hu
              simp only [allP, hr, hT]
              simp [hw, hx, hz, ht, he, hc, hs]
              omega
        · by_cases h0 : (takeS l z t).2.2 = 0
          · obtain ⟨m, X, hT, hX, k1, k2, k3, k4, k5, k6, k7, k8, k9, k10⟩ := take_back hw hr h0
            have p3 := putS_len m X t
            refine law_obs tabL_ok (app lb5) ?_ hm hu
            simp only [allP, hr, hT, hX]
            simp [hw, hx, hz, ht, k1, k2, k3, k4, k5, k6, k7, k8, k9, k10, p3, hc]
            omega
          · obtain ⟨e, hT, he⟩ := take_not hw hr h0
            refine law_obs tabL_ok (app lb4) ?_ hm hu
            simp only [allP, hr, hT]
            simp [hw, hx, hz, ht, he, hc]
            omega
      · by_cases h0 : (takeS l z t).2.2 = 0
        · obtain ⟨m, X, hT, hX, k1, k2, k3, k4, k5, k6, k7, k8, k9, k10⟩ := take_back hw hr h0
          have p3 := putS_len m X t
          refine law_obs tabL_ok (app lb3) ?_ hm hu
          simp only [allP, hr, hT, hX]
          simp [hw, hx, hz, ht, k1, k2, k3, k4, k5, k6, k7, k8, k9, k10, p3, hc]
          omega
        · obtain ⟨e, hT, he⟩ := take_not hw hr h0
          refine law_obs tabL_ok (app lb2) ?_ hm hu
          simp only [allP, hr, hT]
          simp [hw, hx, hz, ht, he, hc]
          omega
    · have hr' : l.all okR = false := by simpa using hr
      refine law_obs tabL_ok (app lb1) ?_ hm hu
      simp only [allP, hr']; simp [hw]; omega
  · refine law_obs tabL_ok (app lb0) ?_ hm hu
    simp [allP]; omega

set_option maxRecDepth 100000 in
theorem bagBack_lifted (os : Os) (started : os.Started) (H : Type) (enc : TypeId × Value → H) :
    ReturnsInHanded {} Try.checked os 5 .any (Rows.bagBackSpec.pre6 enc Try.prog Try.f5 Rows.bagBackRow.domain false) (Rows.bagBackSpec.post enc Try.prog Try.f5 false true false false) := by
  refine returnsInHanded_of_change (C := Try.checked) own started (by kernel_rfl) Try.func5
    (ChangeSpec.witness6 (enc := enc) (C := Try.checked) false ⟨#[], #[.slice none 0 0, .int .u8 0, .agg #[.int .i64 0, .int .i64 0, .int .i64 0]], []⟩ 8 (by kernel_rfl) (by kernel_rfl) (by kernel_rfl) (by kernel_rfl)) ?_
  intro W base args ds gs before hval0 hW hcnd _
  have hval : ∀ (j : Nat) t v, Try.f5.params[j]? = some t → args[j]? = some v → Value.okWide Try.prog W .any base t v := hval0
  have hW' := hW
  obtain ⟨p, q, hA0, hV, hbef, hfz, hnd⟩ := hW
  have hA : DataW.TrodAll enc Try.prog W 0 (fun _ => true) true Try.f5.params.toList args.toList ds p := hA0
  rw [Try.params5] at hA hval
  obtain ⟨v0, v1, v2, d0, d1, d2, p0, p1, p2, rfl, rfl, hp, h0, h1, h2⟩ := trodAll_three hA
  obtain ⟨a0, e0, r0, w0, m0, u0⟩ := one_rows (ks := [.u8, .i64]) (d := 20) (by kernel_rfl) (hval 0 22 v0 rfl rfl) h0
  obtain ⟨a1, rfl, rfl, _, w1⟩ := open_int Try.underlying5 (hval 1 5 v1 rfl rfl) h1
  obtain ⟨a2, w2, rfl⟩ := agg_ints (ks := [.i64, .i64, .i64]) (d := 20) (by kernel_rfl) (hval 2 38 v2 rfl rfl) h2
  refine (bagBack_calls a0 e0 v0 a1 a2 r0 w0 m0 u0 w1 w2 W).mono fun e W' ⟨he, hb⟩ => ?_
  subst he
  exact ⟨_, rfl, post_law laidOut (by rw [Try.params5]; decide +kernel) rfl rfl (by kernel_rfl) Try.underlying4 hW' hb⟩

theorem bagBack_holds : Rows.BagBackSaid :=
  OpenClaim.holds_of_wide 5 Try.f5 rfl rfl rfl rfl rfl rfl rfl ⟨rfl, rfl, rfl, rfl, rfl⟩ rfl rfl rfl rfl rfl (by kernel_rfl) Try.func5 (by kernel_rfl)
    (of_decide_eq_true (by kernel_rfl)) (by unfold Func.isWrapper; first | (rw [if_pos (by decide +kernel)]; kernel_rfl) | (rw [if_neg (by decide +kernel)]; exact ⟨rfl, rfl⟩))
    (fun os started H enc _ => bagBack_lifted os started H enc)
#print axioms bagBack_holds

end Go.Proofs.Ytoonapmpckeceaa
