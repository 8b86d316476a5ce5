/- BagRoom is true of any bag, any item and any count, and leaves its arguments as they were. -/
import Derived.Test.YtoonapmpckeceaaBagLA
namespace Go.Proofs.Ytoonapmpckeceaa
open Go.ChangeShapes Go.WideShapes Go.ChangeAt Go.RowKit Go.Sx
theorem rel1 {v : Value} {l : Rows2} {e : E} (u : ∀ (ρ : Env) (b : Nat), ρ[b]? = some e → (V.v (.one (.slice b (.c 0) 2 (.s l.length) (.s l.length)))).rel ρ v) : (sl2 0 l).rel ([(e, ro l)].map (·.1)) v := u _ 0 rfl
theorem bagRoom_calls (l : Rows2) (e : E) (v : Value) (x n : Int) {W0 : World} (r : readOnly W0 (e, ro l)) (w : ∀ r ∈ l, wfRow [.u8, .i64] r) (_m : l.length ≤ maxLen) (u : ∀ (ρ : Env) (b : Nat), ρ[b]? = some e → (V.v (.one (.slice b (.c 0) 2 (.s l.length) (.s l.length)))).rel ρ v)
    (wx : (Lit.int .u8 x).wf = true) (wn : (Lit.int .i64 n).wf = true) (W : World) (hW : W0 = W := by rfl) : Calls Try.prog 3 #[v, .int .u8 x, .int .i64 n] W fun e w' => e = .returned (.bool true) ∧ Below W.heap.size W w' := by
  subst hW
  have hm := mem_args (W := W0) [(e, ro l)] (by intro y hy; simp at hy; subst hy; exact r)
  have hx := wf8 wx
  have hn := wf64 wn
  have hu : relVs ([(e, ro l)].map (·.1)) [sl2 0 l, si .u8 x, si .i64 n] [v, .int .u8 x, .int .i64 n] := ⟨_, _, rfl, rel1 u, _, _, rfl, ⟨rfl, rfl⟩, _, _, rfl, ⟨rfl, rfl⟩, rfl⟩
  have app : ∀ {f g : Rows2 → Int → Int → Option (List Prop)}, f = g → f l x n = g l x n := fun h => by rw [h]
  by_cases hl : l.length ≤ 300
  · have hw := wfL_of w (by omega)
    by_cases hr : l.all okR = true
    · by_cases hs : stackT x = 0
      · refine law_obs tabL_ok (app lr2) ?_ hm hu
        simp only [allP, hr]; simp [hs, hw, hx]; omega
      · by_cases h1 : n < 1
        · refine law_obs tabL_ok (app lr3) ?_ hm hu
          simp only [allP, hr]; simp [hs, hw, hx]; omega
        · refine law_obs tabL_ok (app lr4) ?_ hm hu
          have hx0 : x ≠ 0 := fun e => hs (by rw [e]; rfl)
          obtain ⟨p1, p2, p3, p4⟩ := putS_spec (x := x) (n := n) hr (by omega) hs
          have hpw := putS_wf (n := n) hw hx
          have hrn := room_nn hx0 hr
          have hrn2 := room_nn hx0 p1
          have hrb : room x l ≤ 16 * l.length := room_le x l hr
          have hpl := putS_len l x n
          unfold i64 at hn
          generalize putS l x n = F at *
          simp only [allP, hr, p1]
          simp [hs, hw, hx, hpw, hpl, i64]
          refine ⟨?_, by omega, ?_, by omega, by omega, by omega, by omega⟩
          · split <;> split at p2 <;> omega
          · rw [p2]; split <;> split <;> omega
    · have hr' : l.all okR = false := by simpa using hr
      refine law_obs tabL_ok (app lr1) ?_ hm hu
      simp only [allP, hr']; simp [hw]; omega
  · refine law_obs tabL_ok (app lr0) ?_ hm hu
    simp [allP]; omega

set_option maxRecDepth 100000 in
theorem bagRoom_lifted (os : Os) (started : os.Started) (H : Type) (enc : TypeId × Value → H) :
    ReturnsInHanded {} Try.checked os 3 .any (Rows.bagRoomSpec.pre6 enc Try.prog Try.f3 Rows.bagRoomRow.domain false) (Rows.bagRoomSpec.post enc Try.prog Try.f3 false true false false) := by
  refine returnsInHanded_of_change (C := Try.checked) own started (by kernel_rfl) Try.func3
    (ChangeSpec.witness6 (enc := enc) (C := Try.checked) false ⟨#[], #[.slice none 0 0, .int .u8 0, .int .i64 0], []⟩ 8 (by kernel_rfl) (by kernel_rfl) (by kernel_rfl) (by kernel_rfl)) ?_
  intro W base args ds gs before hval0 hW hcnd _
  have hval : ∀ (j : Nat) t v, Try.f3.params[j]? = some t → args[j]? = some v → Value.okWide Try.prog W .any base t v := hval0
  have hW' := hW
  obtain ⟨p, q, hA0, hV, hbef, hfz, hnd⟩ := hW
  have hA : DataW.TrodAll enc Try.prog W 0 (fun _ => true) true Try.f3.params.toList args.toList ds p := hA0
  rw [Try.params3] at hA hval
  obtain ⟨v0, v1, v2, d0, d1, d2, p0, p1, p2, rfl, rfl, hp, h0, h1, h2⟩ := trodAll_three hA
  obtain ⟨a0, e0, r0, w0, m0, u0⟩ := one_rows (ks := [.u8, .i64]) (d := 20) (by kernel_rfl) (hval 0 22 v0 rfl rfl) h0
  obtain ⟨a1, rfl, rfl, _, w1⟩ := open_int Try.underlying5 (hval 1 5 v1 rfl rfl) h1
  obtain ⟨a2, rfl, rfl, _, w2⟩ := open_int Try.underlying3 (hval 2 3 v2 rfl rfl) h2
  refine (bagRoom_calls a0 e0 v0 a1 a2 r0 w0 m0 u0 w1 w2 W).mono fun e W' ⟨he, hb⟩ => ?_
  subst he
  exact ⟨_, rfl, post_law laidOut (by rw [Try.params3]; decide +kernel) rfl rfl (by kernel_rfl) Try.underlying4 hW' hb⟩

theorem bagRoom_holds : Rows.BagRoomSaid :=
  OpenClaim.holds_of_wide 3 Try.f3 rfl rfl rfl rfl rfl rfl rfl ⟨rfl, rfl, rfl, rfl, rfl⟩ rfl rfl rfl rfl rfl (by kernel_rfl) Try.func3 (by kernel_rfl)
    (of_decide_eq_true (by kernel_rfl)) (by unfold Func.isWrapper; first | (rw [if_pos (by decide +kernel)]; kernel_rfl) | (rw [if_neg (by decide +kernel)]; exact ⟨rfl, rfl⟩))
    (fun os started H enc _ => bagRoom_lifted os started H enc)
#print axioms bagRoom_holds

end Go.Proofs.Ytoonapmpckeceaa
