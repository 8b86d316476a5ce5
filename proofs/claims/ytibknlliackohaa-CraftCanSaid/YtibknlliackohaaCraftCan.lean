/- CraftCan is true of any bag, and leaves its arguments as they were. -/
import Derived.Test.YtibknlliackohaaCrCa
namespace Go.Proofs.Ytibknlliackohaa
open Go.ChangeShapes Go.WideShapes Go.ChangeAt Go.RowKit Go.Sx
def vec (l : Rows2) (is : List Int) : List Bool := is.map fun i => decide ((makeS l i).2 = 0)
theorem canA_ok {l : Rows2} (hw : wfL l) : ∀ {is : List Int} {acc : List Prop}, allP acc → allP (canA l is (vec l is) acc)
  | [], _, h => h
  | i :: t, _, h => canA_ok hw (is := t) ⟨by simp, rfl, hw, h⟩
theorem canB_ok {l : Rows2} (hw : wfL l) : ∀ {is : List Int} {acc : List Prop}, allP acc → allP (canB l is (vec l is) acc)
  | [], _, h => h
  | i :: t, _, h => canB_ok hw (is := t) ⟨rfl, rfl, hw, h⟩
theorem craftCan_calls (l : Rows2) (e : E) (v : Value) {W0 : World} (r : readOnly W0 (e, ro l)) (w : ∀ r ∈ l, wfRow [.u8, .i64] r) (_m : l.length ≤ maxLen) (u : ∀ (ρ : Env) (b : Nat), ρ[b]? = some e → (V.v (.one (.slice b (.c 0) 2 (.s l.length) (.s l.length)))).rel ρ v)
    (W : World) (hW : W0 = W := by rfl) : Calls Try.prog 7 #[v] W fun e w' => e = .returned (.bool true) ∧ Below W.heap.size W w' := by
  subst hW
  have hm := mem_args (W := W0) [(e, ro l)] (by intro y hy; simp at hy; subst hy; exact r)
  have hu : relVs ([(e, ro l)].map (·.1)) [sl2 0 l] [v] := ⟨_, _, rfl, rel1 u (W0 := W0), rfl⟩
  by_cases hl : l.length ≤ 300
  · have hw := wfL_of w (by omega)
    have q := can_runs l (decide ((makeS l 0).2 = 0)) (decide ((makeS l 1).2 = 0)) (decide ((makeS l 2).2 = 0)) (decide ((makeS l 3).2 = 0)) (vec l [4, 5, 6]) rfl
    exact law_obs tabL_ok q (canA_ok hw (canB_ok hw ⟨decide_eq_false (by omega), trivial⟩)) hm hu
  · refine law_obs tabL_ok (congrFun can_long l) ?_ hm hu
    simp [allP]; omega

set_option maxRecDepth 100000 in
theorem craftCan_lifted (os : Os) (started : os.Started) (H : Type) (enc : TypeId × Value → H) :
    ReturnsInHanded {} Try.checked os 7 .any (Rows.craftCanSpec.pre6 enc Try.prog Try.f7 Rows.craftCanRow.domain false) (Rows.craftCanSpec.post enc Try.prog Try.f7 false true false false) := by
  refine returnsInHanded_of_change (C := Try.checked) own started (by kernel_rfl) Try.func7
    (ChangeSpec.witness6 (enc := enc) (C := Try.checked) false ⟨#[], #[.slice none 0 0], []⟩ 8 (by kernel_rfl) (by kernel_rfl) (by kernel_rfl) (by kernel_rfl)) ?_
  intro W base args ds gs before hval0 hW hcnd _
  have hval : ∀ (j : Nat) t v, Try.f7.params[j]? = some t → args[j]? = some v → Value.okWide Try.prog W .any base t v := hval0
  have hW' := hW
  obtain ⟨p, q, hA0, hV, hbef, hfz, hnd⟩ := hW
  have hA : DataW.TrodAll enc Try.prog W 0 (fun _ => true) true Try.f7.params.toList args.toList ds p := hA0
  rw [Try.params7] at hA hval
  obtain ⟨v0, d0, rfl, rfl, h0⟩ := trodAll_one hA
  obtain ⟨a0, e0, r0, w0, m0, u0⟩ := one_rows (ks := [.u8, .i64]) (d := 20) (by kernel_rfl) (hval 0 22 v0 rfl rfl) h0
  refine (craftCan_calls a0 e0 v0 r0 w0 m0 u0 W).mono fun e W' ⟨he, hb⟩ => ?_
  subst he
  exact ⟨_, rfl, post_law laidOut (by rw [Try.params7]; decide +kernel) rfl rfl (by kernel_rfl) Try.underlying4 hW' hb⟩

theorem craftCan_holds : Rows.CraftCanSaid :=
  OpenClaim.holds_of_wide 7 Try.f7 rfl rfl rfl rfl rfl rfl rfl ⟨rfl, rfl, rfl, rfl, rfl⟩ rfl rfl rfl rfl rfl (by kernel_rfl) Try.func7 (by kernel_rfl)
    (of_decide_eq_true (by kernel_rfl)) (by unfold Func.isWrapper; first | (rw [if_pos (by decide +kernel)]; kernel_rfl) | (rw [if_neg (by decide +kernel)]; exact ⟨rfl, rfl⟩))
    (fun os started H enc _ => craftCan_lifted os started H enc)
#print axioms craftCan_holds

end Go.Proofs.Ytibknlliackohaa
