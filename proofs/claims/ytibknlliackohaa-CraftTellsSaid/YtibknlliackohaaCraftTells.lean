/- CraftTells is true of any bag and any number, and leaves its arguments as they were. -/
import Derived.Test.YtibknlliackohaaCrTb
namespace Go.Proofs.Ytibknlliackohaa
open Go.ChangeShapes Go.WideShapes Go.ChangeAt Go.RowKit Go.Sx
theorem tabT_ok : ∀ f g, tabT f = some g → TabOk Try.prog f g := tabs_ok fun x hx => by
  simp only [List.mem_cons, List.not_mem_nil, or_false] at hx
  rcases hx with rfl | rfl | rfl | rfl
  · exact yes_ok no_tabs awake_run
  · exact same_tab
  · exact make_tab
  · exact makeR_tab
def vec (l : Rows2) (is : List Int) : List Bool := is.map fun i => decide ((makeS l i).2 = 0)
theorem telB_ok {l k : Rows2} (hw : wfL k) (hl : l.length = k.length) (hk : k = l) : ∀ {is : List Int} {acc : List Prop}, allP acc → allP (telB l k is (vec l is) acc)
  | [], _, h => h
  | i :: t, _, h => telB_ok hw hl hk (is := t) ⟨by rw [hk], hl, hw, h⟩
theorem craftTells_calls (l : Rows2) (e : E) (v : Value) (n : Int) {W0 : World} (r : readOnly W0 (e, ro l)) (w : ∀ r ∈ l, wfRow [.u8, .i64] r) (_m : l.length ≤ maxLen) (u : ∀ (ρ : Env) (b : Nat), ρ[b]? = some e → (V.v (.one (.slice b (.c 0) 2 (.s l.length) (.s l.length)))).rel ρ v)
    (_ : (Lit.int .i64 n).wf = true) (W : World) (hW : W0 = W := by rfl) : Calls Try.prog 3 #[v, .int .i64 n] W fun e w' => e = .returned (.bool true) ∧ Below W.heap.size W w' := by
  subst hW
  have hm := mem_args (W := W0) [(e, ro l)] (by intro y hy; simp at hy; subst hy; exact r)
  have hu : relVs ([(e, ro l)].map (·.1)) [sl2 0 l, si .i64 n] [v, .int .i64 n] := ⟨_, _, rfl, rel1 u (W0 := W0), _, _, rfl, ⟨rfl, rfl⟩, rfl⟩
  by_cases hl : l.length ≤ 300
  · have hw := wfL_of w (by omega)
    have e0 : [] ++ l = l := List.nil_append l
    have hw0 : wfL ([] ++ l) := by rw [e0]; exact hw
    have hl0 : l.length = ([] ++ l).length := by rw [e0]
    have q := tel_runs l n (decide ((makeS l 0).2 = 0)) (decide ((makeS l 1).2 = 0)) (decide ((makeS l 2).2 = 0)) (decide ((makeS l 3).2 = 0)) (vec l [4, 5, 6]) rfl
    have hmk : wfL (makeS l n).1 ∧ (makeS l n).1.length = l.length := by
      by_cases h1 : l.all okR = true
      · have := make_spec (n := n) hw h1; exact ⟨this.2.1, this.2.2.1⟩
      · have hb := makeS_bad (n := n) (show l.all okR = false by simpa using h1)
        rw [hb]; exact ⟨hw, rfl⟩
    refine law_obs tabT_ok q ⟨decide_eq_true e0, hl0, rfl, hw0, hw, telB_ok hw rfl rfl (telB_ok hw0 hl0 e0 ?_)⟩ hm hu
    refine ⟨decide_eq_true (by rw [e0]), decide_eq_true (by rw [e0]), ?_, hmk.2.symm, ?_, hmk.1, rfl, hw, hl0, hw0, rfl, rfl, by omega, by omega, decide_eq_false (by omega), trivial⟩
    · rw [e0]; exact hmk.2.symm
    · rw [e0]; exact hmk.1
  · refine law_obs tabT_ok (congrFun (congrFun tel_long l) n) ?_ hm hu
    simp [allP]; omega

set_option maxRecDepth 100000 in
theorem craftTells_lifted (os : Os) (started : os.Started) (H : Type) (enc : TypeId × Value → H) :
    ReturnsInHanded {} Try.checked os 3 .any (Rows.craftTellsSpec.pre6 enc Try.prog Try.f3 Rows.craftTellsRow.domain false) (Rows.craftTellsSpec.post enc Try.prog Try.f3 false true false false) := by
  refine returnsInHanded_of_change (C := Try.checked) own started (by kernel_rfl) Try.func3
    (ChangeSpec.witness6 (enc := enc) (C := Try.checked) false ⟨#[], #[.slice none 0 0, .int .i64 0], []⟩ 8 (by kernel_rfl) (by kernel_rfl) (by kernel_rfl) (by kernel_rfl)) ?_
  intro W base args ds gs before hval0 hW hcnd _
  have hval : ∀ (j : Nat) t v, Try.f3.params[j]? = some t → args[j]? = some v → Value.okWide Try.prog W .any base t v := hval0
  have hW' := hW
  obtain ⟨p, q, hA0, hV, hbef, hfz, hnd⟩ := hW
  have hA : DataW.TrodAll enc Try.prog W 0 (fun _ => true) true Try.f3.params.toList args.toList ds p := hA0
  rw [Try.params3] at hA hval
  obtain ⟨v0, v1, d0, d1, p0, p1, rfl, rfl, hp, h0, h1⟩ := trodAll_two hA
  obtain ⟨a0, e0, r0, w0, m0, u0⟩ := one_rows (ks := [.u8, .i64]) (d := 20) (by kernel_rfl) (hval 0 22 v0 rfl rfl) h0
  obtain ⟨a1, rfl, rfl, _, w1⟩ := open_int Try.underlying3 (hval 1 3 v1 rfl rfl) h1
  refine (craftTells_calls a0 e0 v0 a1 r0 w0 m0 u0 w1 W).mono fun e W' ⟨he, hb⟩ => ?_
  subst he
  exact ⟨_, rfl, post_law laidOut (by rw [Try.params3]; decide +kernel) rfl rfl (by kernel_rfl) Try.underlying4 hW' hb⟩

theorem craftTells_holds : Rows.CraftTellsSaid :=
  OpenClaim.holds_of_wide 3 Try.f3 rfl rfl rfl rfl rfl rfl rfl ⟨rfl, rfl, rfl, rfl, rfl⟩ rfl rfl rfl rfl rfl (by kernel_rfl) Try.func3 (by kernel_rfl)
    (of_decide_eq_true (by kernel_rfl)) (by unfold Func.isWrapper; first | (rw [if_pos (by decide +kernel)]; kernel_rfl) | (rw [if_neg (by decide +kernel)]; exact ⟨rfl, rfl⟩))
    (fun os started H enc _ => craftTells_lifted os started H enc)
#print axioms craftTells_holds

end Go.Proofs.Ytibknlliackohaa
