/- NetNone is true of any place, node and bytes, and leaves its arguments as they were. -/
import Derived.Test.YtjnnfehepbicfaaNetA
namespace Go.Proofs.Ytjnnfehepbicfaa
open Go.ChangeShapes Go.WideShapes Go.ChangeAt Go.RowKit Go.Sx
theorem no_tabs : ∀ f g, (fun _ : FuncId => (none : Option (List V → List SB → List Bool → Option CallR))) f = some g → TabOk Try.prog f g := fun _ _ h => by cases h
theorem tabN_ok : ∀ f g, tabN f = some g → TabOk Try.prog f g := tabs_ok fun x hx => by
  simp only [List.mem_cons, List.not_mem_nil, or_false] at hx
  subst hx
  exact yes_ok no_tabs awake_run
theorem netNone_calls (i n : Int) (l : List Int) (e : E) (v : Value) {W0 : World} (_ : (Lit.int .i64 i).wf = true) (_ : (Lit.int .i64 n).wf = true) (r : readOnly W0 (e, rb l)) (_w : ∀ n ∈ l, (Lit.int .u8 n).wf = true) (_m : l.length ≤ maxLen)
    (u : ∀ (ρ : Env) (b : Nat), ρ[b]? = some e → (V.v (.one (.slice b (.c 0) 1 (.s l.length) (.s l.length)))).rel ρ v) (W : World) (hW : W0 = W := by rfl) : Calls Try.prog 5 #[.int .i64 i, .int .i64 n, v] W fun e w' => e = .returned (.bool true) ∧ Below W.heap.size W w' := by
  subst hW
  have hm := mem_args (W := W0) [(e, rb l)] (by intro y hy; simp at hy; subst hy; exact r)
  have hu : relVs ([(e, rb l)].map (·.1)) [si .i64 i, si .i64 n, bs l] [.int .i64 i, .int .i64 n, v] := ⟨_, _, rfl, ⟨rfl, rfl⟩, _, _, rfl, ⟨rfl, rfl⟩, _, _, rfl, u _ 0 rfl, rfl⟩
  refine law_obs tabN_ok (congrFun (congrFun (congrFun nn0 l) i) n) ?_ hm hu
  simp [allP]

set_option maxRecDepth 100000 in
theorem netNone_lifted (os : Os) (started : os.Started) (H : Type) (enc : TypeId × Value → H) :
    ReturnsInHanded {} Try.checked os 5 .any (Rows.netNoneSpec.pre6 enc Try.prog Try.f5 Rows.netNoneRow.domain false) (Rows.netNoneSpec.post enc Try.prog Try.f5 false true false false) := by
  refine returnsInHanded_of_change (C := Try.checked) own started (by kernel_rfl) Try.func5
    (ChangeSpec.witness6 (enc := enc) (C := Try.checked) false ⟨#[], #[.int .i64 0, .int .i64 0, .slice none 0 0], []⟩ 8 (by kernel_rfl) (by kernel_rfl) (by kernel_rfl) (by kernel_rfl)) ?_
  intro W base args ds gs before hval0 hW hcnd _
  have hval : ∀ (j : Nat) t v, Try.f5.params[j]? = some t → args[j]? = some v → Value.okWide Try.prog W .any base t v := hval0
  have hW' := hW
  obtain ⟨p, q, hA0, hV, hbef, hfz, hnd⟩ := hW
  have hA : DataW.TrodAll enc Try.prog W 0 (fun _ => true) true Try.f5.params.toList args.toList ds p := hA0
  rw [Try.params5] at hA hval
  obtain ⟨v0, v1, v2, d0, d1, d2, p0, p1, p2, rfl, rfl, hp, h0, h1, h2⟩ := trodAll_three hA
  obtain ⟨a0, rfl, rfl, _, w0⟩ := open_int Try.underlying3 (hval 0 3 v0 rfl rfl) h0
  obtain ⟨a1, rfl, rfl, _, w1⟩ := open_int Try.underlying3 (hval 1 3 v1 rfl rfl) h1
  obtain ⟨a2, e2, r2, w2, m2, u2⟩ := one_ints (k := .u8) (d := 20) (by kernel_rfl) (hval 2 28 v2 rfl rfl) h2
  refine (netNone_calls a0 a1 a2 e2 v2 w0 w1 r2 w2 m2 u2 W).mono fun e W' ⟨he, hb⟩ => ?_
  subst he
  exact ⟨_, rfl, post_law laidOut (by rw [Try.params5]; decide +kernel) rfl rfl (by kernel_rfl) Try.underlying4 hW' hb⟩

theorem netNone_holds : Rows.NetNoneSaid :=
  OpenClaim.holds_of_wide 5 Try.f5 rfl rfl rfl rfl rfl rfl rfl ⟨rfl, rfl, rfl, rfl, rfl⟩ rfl rfl rfl rfl rfl (by kernel_rfl) Try.func5 (by kernel_rfl)
    (of_decide_eq_true (by kernel_rfl)) (by unfold Func.isWrapper; first | (rw [if_pos (by decide +kernel)]; kernel_rfl) | (rw [if_neg (by decide +kernel)]; exact ⟨rfl, rfl⟩))
    (fun os started H enc _ => netNone_lifted os started H enc)
#print axioms netNone_holds

end Go.Proofs.Ytjnnfehepbicfaa
