/- BytesFixed is true. -/
import Derived.Test.YtjjjpflnhagfcaaFxA
import Derived.Test.YtjjjpflnhagfcaaFxB
import Derived.Test.YtjjjpflnhagfcaaFxC
import Derived.Test.YtjjjpflnhagfcaaFxD
import Derived.Test.YtjjjpflnhagfcaaFxE
import Derived.Test.YtjjjpflnhagfcaaFxF
import Derived.Test.YtjjjpflnhagfcaaFxG
import Derived.Test.YtjjjpflnhagfcaaFxH
import Derived.Test.YtjjjpflnhagfcaaFixR
namespace Go.Proofs.Ytjjjpflnhagfcaa
open Go.ChangeShapes Go.WideShapes Go.ChangeAt Go.RowKit Go.Sx
theorem fx_all : ∀ n ∈ fxAll, fxOne n = true := by
  intro n hn
  unfold fxAll at hn
  obtain ⟨l, hl, h⟩ := List.mem_flatten.1 hn
  simp only [List.mem_cons, List.not_mem_nil, or_false] at hl
  rcases hl with rfl | rfl | rfl | rfl | rfl | rfl | rfl | rfl | rfl | rfl | rfl | rfl | rfl | rfl | rfl | rfl | rfl | rfl | rfl | rfl | rfl | rfl | rfl | rfl | rfl | rfl | rfl | rfl | rfl | rfl | rfl | rfl | rfl | rfl | rfl | rfl | rfl | rfl | rfl | rfl | rfl | rfl | rfl | rfl | rfl | rfl | rfl | rfl | rfl | rfl | rfl | rfl | rfl | rfl | rfl | rfl
  · exact List.all_eq_true.1 fxA0 n h
  · exact List.all_eq_true.1 fxA1 n h
  · exact List.all_eq_true.1 fxA2 n h
  · exact List.all_eq_true.1 fxA3 n h
  · exact List.all_eq_true.1 fxA4 n h
  · exact List.all_eq_true.1 fxA5 n h
  · exact List.all_eq_true.1 fxA6 n h
  · exact List.all_eq_true.1 fxB0 n h
  · exact List.all_eq_true.1 fxB1 n h
  · exact List.all_eq_true.1 fxB2 n h
  · exact List.all_eq_true.1 fxB3 n h
  · exact List.all_eq_true.1 fxB4 n h
  · exact List.all_eq_true.1 fxB5 n h
  · exact List.all_eq_true.1 fxB6 n h
  · exact List.all_eq_true.1 fxC0 n h
  · exact List.all_eq_true.1 fxC1 n h
  · exact List.all_eq_true.1 fxC2 n h
  · exact List.all_eq_true.1 fxC3 n h
  · exact List.all_eq_true.1 fxC4 n h
  · exact List.all_eq_true.1 fxC5 n h
  · exact List.all_eq_true.1 fxC6 n h
  · exact List.all_eq_true.1 fxD0 n h
  · exact List.all_eq_true.1 fxD1 n h
  · exact List.all_eq_true.1 fxD2 n h
  · exact List.all_eq_true.1 fxD3 n h
  · exact List.all_eq_true.1 fxD4 n h
  · exact List.all_eq_true.1 fxD5 n h
  · exact List.all_eq_true.1 fxD6 n h
  · exact List.all_eq_true.1 fxE0 n h
  · exact List.all_eq_true.1 fxE1 n h
  · exact List.all_eq_true.1 fxE2 n h
  · exact List.all_eq_true.1 fxE3 n h
  · exact List.all_eq_true.1 fxE4 n h
  · exact List.all_eq_true.1 fxE5 n h
  · exact List.all_eq_true.1 fxE6 n h
  · exact List.all_eq_true.1 fxF0 n h
  · exact List.all_eq_true.1 fxF1 n h
  · exact List.all_eq_true.1 fxF2 n h
  · exact List.all_eq_true.1 fxF3 n h
  · exact List.all_eq_true.1 fxF4 n h
  · exact List.all_eq_true.1 fxF5 n h
  · exact List.all_eq_true.1 fxF6 n h
  · exact List.all_eq_true.1 fxG0 n h
  · exact List.all_eq_true.1 fxG1 n h
  · exact List.all_eq_true.1 fxG2 n h
  · exact List.all_eq_true.1 fxG3 n h
  · exact List.all_eq_true.1 fxG4 n h
  · exact List.all_eq_true.1 fxG5 n h
  · exact List.all_eq_true.1 fxG6 n h
  · exact List.all_eq_true.1 fxH0 n h
  · exact List.all_eq_true.1 fxH1 n h
  · exact List.all_eq_true.1 fxH2 n h
  · exact List.all_eq_true.1 fxH3 n h
  · exact List.all_eq_true.1 fxH4 n h
  · exact List.all_eq_true.1 fxH5 n h
  · exact List.all_eq_true.1 fxH6 n h
theorem ends_makes {n : Int} (h : fxOne n = true) : Makes Try.prog 18 (ivals [.i64] [n]) vT [] := by
  obtain ⟨m, h', hr⟩ := isT_spec h
  exact makes_of (sel := []) (v := vT) (bs := []) no_tabs (show retV [] (callN Try.prog (fun _ => none) effU 100000 20 18 [.v (.one (.int .i64 n))] [] []) = some (vT, [], []) by rw [hr]; rfl) trivial (by decide) rfl trivial ⟨_, _, rfl, ⟨rfl, rfl⟩, rfl⟩
theorem ends_tab : TabOk Try.prog 18 (closedTab [.i64] (fxAll.map fun n => ([n], vT, []))) := closedTab_ok fun ns v bs h => by
  obtain ⟨n, hn, e⟩ := List.mem_map.1 h
  simp only [Prod.mk.injEq] at e
  obtain ⟨rfl, rfl, rfl⟩ := e
  exact ⟨rfl, ends_makes (fx_all n hn)⟩
theorem tabX_ok : ∀ f g, tabX f = some g → TabOk Try.prog f g := tabs_ok fun x hx => by
  simp only [List.mem_cons, List.not_mem_nil, or_false] at hx
  rcases hx with rfl | rfl | rfl
  · exact yes_ok no_tabs awake_run
  · exact ends_tab
  · exact unseal_tab
theorem un_a : unsealS [0, 0, 0] = ([], 11) := by decide +kernel
theorem un_b : unsealS [0, 0, 1, 0] = ([], 12) := by decide +kernel
theorem un_c : unsealS [0, 0, 0, 0] = ([], 0) := by decide +kernel
theorem wf_a : wf8 [0, 0, 0] ∧ wf8 [0, 0, 1, 0] ∧ wf8 [0, 0, 0, 0] := by
  refine ⟨?_, ?_, ?_⟩ <;> intro x hx <;> simp at hx <;> omega
theorem bytesFixed_calls (W : World) : Calls Try.prog 8 #[] W fun e w' => e = .returned (.bool true) ∧ Below W.heap.size W w' := by
  refine law_obs (args := []) (us := []) tabX_ok (congrFun fixRun 0) ?_ (MemRel.nil W) rfl
  simp [allP, un_a, un_b, un_c, wf_a]

set_option maxRecDepth 100000 in
theorem bytesFixed_lifted (os : Os) (started : os.Started) (H : Type) (enc : TypeId × Value → H) :
    ReturnsInHanded {} Try.checked os 8 .any (Rows.bytesFixedSpec.pre6 enc Try.prog Try.f8 Rows.bytesFixedRow.domain false) (Rows.bytesFixedSpec.post enc Try.prog Try.f8 false true false false) := by
  refine returnsInHanded_of_change (C := Try.checked) own started (by kernel_rfl) Try.func8
    (ChangeSpec.witness6 (enc := enc) (C := Try.checked) false ⟨#[], #[], []⟩ 8 (by kernel_rfl) (by kernel_rfl) (by kernel_rfl) (by kernel_rfl)) ?_
  intro W base args ds gs before hval0 hW hcnd _
  have hval : ∀ (j : Nat) t v, Try.f8.params[j]? = some t → args[j]? = some v → Value.okWide Try.prog W .any base t v := hval0
  have hW' := hW
  obtain ⟨p, q, hA0, hV, hbef, hfz, hnd⟩ := hW
  have hA : DataW.TrodAll enc Try.prog W 0 (fun _ => true) true Try.f8.params.toList args.toList ds p := hA0
  rw [Try.params8] at hA
  have hargs : args = #[] := by
    have : args.toList = [] := by
      cases h : args.toList with
      | nil => rfl
      | cons x r => rw [h] at hA; exact hA.elim
    simpa using this
  subst hargs
  have hds : ds = [] := by
    cases ds with
    | nil => rfl
    | cons _ _ => exact hA.elim
  subst hds
  refine (bytesFixed_calls W).mono fun e W' ⟨he, hb⟩ => ?_
  subst he
  exact ⟨_, rfl, post_law laidOut (by rw [Try.params8]; decide +kernel) rfl rfl (by kernel_rfl) Try.underlying4 hW' hb⟩

theorem bytesFixed_holds : Rows.BytesFixedSaid :=
  OpenClaim.holds_of_wide 8 Try.f8 rfl rfl rfl rfl rfl rfl rfl ⟨rfl, rfl, rfl, rfl, rfl⟩ rfl rfl rfl rfl rfl (by kernel_rfl) Try.func8 (by kernel_rfl)
    (of_decide_eq_true (by kernel_rfl)) (by unfold Func.isWrapper; first | (rw [if_pos (by decide +kernel)]; kernel_rfl) | (rw [if_neg (by decide +kernel)]; exact ⟨rfl, rfl⟩))
    (fun os started H enc _ => bytesFixed_lifted os started H enc)
#print axioms bytesFixed_holds

end Go.Proofs.Ytjjjpflnhagfcaa
