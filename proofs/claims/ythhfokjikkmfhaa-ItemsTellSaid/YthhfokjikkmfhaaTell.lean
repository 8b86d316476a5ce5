/- ItemsTell is true of every number as an item and of every number as a recipe, and leaves its arguments as they were. -/
import Derived.Test.YthhfokjikkmfhaaTabs
namespace Go.Proofs.Ythhfokjikkmfhaa
open Go.ChangeShapes Go.WideShapes Go.ChangeAt Go.RowKit Go.Sx

def hintsT : List Bool := [true, true, true, true, true, true]
def tellObs (x : Int) : List Prop := [(nameT x == nameT x) = true, 0 ≤ x ∧ x < 256, 0 ≤ x ∧ x < 256, decide (givesT x = givesT x) = true, 0 ≤ x ∧ x < 256, 0 ≤ x ∧ x < 256,
  (blockT x == blockT x) = true, 0 ≤ x ∧ x < 256, 0 ≤ x ∧ x < 256, decide (stackT x = stackT x) = true, 0 ≤ x ∧ x < 256, 0 ≤ x ∧ x < 256]
theorem tellObs_ok {x : Int} (hx : 0 ≤ x ∧ x < 256) : allP (tellObs x) := by
  simp [tellObs, allP, hx]
noncomputable def tellAt (x : Int) (n : C) (h : List Bool) : Option (List Prop) := obsOf (call 5 6 [.v (.one (.sint .u8 x)), .v (.one n)] [] h)
theorem tell0 : (fun x => tellAt x (.int .i64 0) hintsT) = fun x => some (tellObs x) := by kernel_rfl
theorem tell1 : (fun x => tellAt x (.int .i64 1) hintsT) = fun x => some (tellObs x) := by kernel_rfl
theorem tell2 : (fun x => tellAt x (.int .i64 2) hintsT) = fun x => some (tellObs x) := by kernel_rfl
theorem tell3 : (fun x => tellAt x (.int .i64 3) hintsT) = fun x => some (tellObs x) := by kernel_rfl
theorem tell4 : (fun x => tellAt x (.int .i64 4) hintsT) = fun x => some (tellObs x) := by kernel_rfl
theorem tell5 : (fun x => tellAt x (.int .i64 5) hintsT) = fun x => some (tellObs x) := by kernel_rfl
theorem tell6 : (fun x => tellAt x (.int .i64 6) hintsT) = fun x => some (tellObs x) := by kernel_rfl
theorem tellNeg : (fun x n : Int => tellAt x (.sint .i64 n) ([true, true] ++ hintsT)) = fun x n => some (tellObs x ++ [decide (n < 0) = true, decide (n < 0) = true]) := by kernel_rfl
theorem tellPos : (fun x n : Int => tellAt x (.sint .i64 n) ([false, true, false, true] ++ hintsT)) = fun x n => some (tellObs x ++ [decide (7 ≤ n) = true, decide (n < 0) = false, decide (7 ≤ n) = true, decide (n < 0) = false]) := by kernel_rfl
theorem allP_app : ∀ {l r : List Prop}, allP l → allP r → allP (l ++ r)
  | [], _, _, h => h
  | _ :: _, _, h, h' => ⟨h.1, allP_app h.2 h'⟩

theorem tell_of {x n : Int} {c : C} {h : List Bool} {l : List Prop} (hn : C.rel [] c (.int .i64 n)) (hr : tellAt x c h = some l) (hl : allP l) (W : World) :
    Calls Try.prog 6 #[.int .u8 x, .int .i64 n] W fun e w' => e = .returned (.bool true) ∧ Below W.heap.size W w' :=
  law_obs (us := [.int .u8 x, .int .i64 n]) tab_ok hr hl (MemRel.nil W) ⟨_, _, rfl, ⟨rfl, rfl⟩, _, _, rfl, ⟨hn, rfl⟩, rfl⟩

theorem tell_calls (x n : Int) (hx : 0 ≤ x ∧ x < 256) (W : World) : Calls Try.prog 6 #[.int .u8 x, .int .i64 n] W fun e w' => e = .returned (.bool true) ∧ Below W.heap.size W w' := by
  by_cases h0 : n < 0
  · exact tell_of (c := .sint .i64 n) rfl (congrFun (congrFun tellNeg x) n) (allP_app (tellObs_ok hx) (by simp [allP, h0])) W
  · by_cases h7 : 7 ≤ n
    · exact tell_of (c := .sint .i64 n) rfl (congrFun (congrFun tellPos x) n) (allP_app (tellObs_ok hx) (by simp [allP, h7]; omega)) W
    · have : n = 0 ∨ n = 1 ∨ n = 2 ∨ n = 3 ∨ n = 4 ∨ n = 5 ∨ n = 6 := by omega
      rcases this with rfl | rfl | rfl | rfl | rfl | rfl | rfl
      · exact tell_of (c := .int .i64 0) rfl (congrFun tell0 x) (tellObs_ok hx) W
      · exact tell_of (c := .int .i64 1) rfl (congrFun tell1 x) (tellObs_ok hx) W
      · exact tell_of (c := .int .i64 2) rfl (congrFun tell2 x) (tellObs_ok hx) W
      · exact tell_of (c := .int .i64 3) rfl (congrFun tell3 x) (tellObs_ok hx) W
      · exact tell_of (c := .int .i64 4) rfl (congrFun tell4 x) (tellObs_ok hx) W
      · exact tell_of (c := .int .i64 5) rfl (congrFun tell5 x) (tellObs_ok hx) W
      · exact tell_of (c := .int .i64 6) rfl (congrFun tell6 x) (tellObs_ok hx) W

set_option maxRecDepth 100000 in
theorem itemsTell_lifted (os : Os) (started : os.Started) (H : Type) (enc : TypeId × Value → H) :
    ReturnsInHanded {} Try.checked os 6 .any (Rows.itemsTellSpec.pre6 enc Try.prog Try.f6 Rows.itemsTellRow.domain false) (Rows.itemsTellSpec.post enc Try.prog Try.f6 false true false false) := by
  refine returnsInHanded_of_change (C := Try.checked) own started (by kernel_rfl) Try.func6
    (ChangeSpec.witness6 (enc := enc) (C := Try.checked) false ⟨#[], #[.int .u8 0, .int .i64 0], []⟩ 8 (by kernel_rfl) (by kernel_rfl) (by kernel_rfl) (by kernel_rfl)) ?_
  intro W base args ds gs before hval0 hW hcnd _
  have hval : ∀ (j : Nat) t v, Try.f6.params[j]? = some t → args[j]? = some v → Value.okWide Try.prog W .any base t v := hval0
  have hW' := hW
  obtain ⟨p, q, hA0, hV, hbef, hfz, hnd⟩ := hW
  have hA : DataW.TrodAll enc Try.prog W 0 (fun _ => true) true Try.f6.params.toList args.toList ds p := hA0
  rw [Try.params6] at hA hval
  obtain ⟨v0, v1, d0, d1, p0, p1, rfl, rfl, hp, h0, h1⟩ := trodAll_two hA
  obtain ⟨a, rfl, rfl, _, w0⟩ := open_int Try.underlying5 (hval 0 5 v0 rfl rfl) h0
  obtain ⟨b, rfl, rfl, _, _⟩ := open_int Try.underlying3 (hval 1 3 v1 rfl rfl) h1
  refine (tell_calls a b (u8_le w0) W).mono fun e W' ⟨he, hb⟩ => ?_
  subst he
  exact ⟨_, rfl, post_law laidOut (by rw [Try.params6]; decide +kernel) rfl rfl (by kernel_rfl) Try.underlying4 hW' hb⟩

theorem itemsTell_holds : Rows.ItemsTellSaid :=
  OpenClaim.holds_of_wide 6 Try.f6 rfl rfl rfl rfl rfl rfl rfl ⟨rfl, rfl, rfl, rfl, rfl⟩ rfl rfl rfl rfl rfl (by kernel_rfl) Try.func6 (by kernel_rfl)
    (of_decide_eq_true (by kernel_rfl)) (by unfold Func.isWrapper; first | (rw [if_pos (by decide +kernel)]; kernel_rfl) | (rw [if_neg (by decide +kernel)]; exact ⟨rfl, rfl⟩))
    (fun os started H enc _ => itemsTell_lifted os started H enc)
#print axioms itemsTell_holds
end Go.Proofs.Ythhfokjikkmfhaa
