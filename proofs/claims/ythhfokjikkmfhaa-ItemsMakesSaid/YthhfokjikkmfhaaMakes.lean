/- ItemsMakes is true of any two numbers as recipes and any number as a thing, and leaves its arguments as they were. -/
import Derived.Test.YthhfokjikkmfhaaMakesC
import Derived.Test.YthhfokjikkmfhaaMakesD
namespace Go.Proofs.Ythhfokjikkmfhaa
open Go.ChangeShapes Go.WideShapes Go.ChangeAt Go.RowKit Go.Sx
def foundN : List (Int × V1) := found0 ++ [(5, one1), (6, one1), (9, one1), (10, one1), (8, one1), (12, one1)]
def obs4 (x : Int) : List Prop := [decide (decide (assocI foundN x = 1) = decide (0 < stackT x)) = true, 0 ≤ x ∧ x < 256]
theorem makes_end : (fun x : Int => obsO (run Try.prog (callR 5) (fun _ => false) Try.f4 0 100000 [] K4 (T4 x [true]))) = fun x => some (obs4 x) := by kernel_rfl
theorem found_all : allF (fun n => decide (decide (assocI foundN (n : Int) = 1) = decide (0 < stackT (n : Int)))) 0 256 = true := by kernel_rfl
theorem obs4_ok {x : Int} (hx : 0 ≤ x ∧ x < 256) : allP (obs4 x) := by
  have := allF_spec found_all x.toNat (by omega) (by omega)
  rw [show ((x.toNat : Nat) : Int) = x by omega] at this
  exact ⟨this, hx, trivial⟩
theorem call_ok4 : CallOk Try.prog (callR 5) := callN_sound tabR_ok 5
abbrev End4 (W : World) : Ending → World → Prop := fun e w' => e = .returned (.bool true) ∧ Below W.heap.size W w'
theorem body4_eq : Try.f4.body = some body4 := by kernel_rfl
theorem makes_of4 {ca cb : C} {a b x : Int} {idx : Nat} {ob : List Prop} (ha : C.rel [] ca (.int .i64 a)) (hb : C.rel [] cb (.int .i64 b))
    (hs : stopV [2, 15, 66, 67] [idx] (runB [true, false] [] [.v (.one ca), .v (.one cb), iu x]) = some (K4, [(2, iu x), (15, .v (.one (.mapr idx))), (66, ic 7), (67, ic 0)], [⟨true, .imap .u8 found0⟩], ob))
    (hob : allP ob) (hx : 0 ≤ x ∧ x < 256) (W : World) : Calls Try.prog 4 #[.int .i64 a, .int .i64 b, .int .u8 x] W (End4 W) := by
  refine calls_goes (ρ0 := []) (us := [.int .i64 a, .int .i64 b, .int .u8 x]) (args := [.v (.one ca), .v (.one cb), iu x]) (m := []) (h := []) (ob := []) Try.func4 body4_eq (by rw [Try.ntmps4]; simp) (MemRel.nil W)
    ⟨_, _, rfl, ⟨ha, rfl⟩, _, _, rfl, ⟨hb, rfl⟩, _, _, rfl, ⟨rfl, rfl⟩, rfl⟩ ?_
  intro ac w hrel
  refine goes_stop (ρ0 := []) (r := [idx]) (T := T4 x []) call_ok4 Try.func4 hs hob ⟨by simp, ?_, ?_⟩ ?_ hrel
  · simp [T4, leSlots, leV, leV1, leC, iu, ic]
  · simp [T4, leBs, leB, leCells, leMp, found0, one1, leV1, leC]
  · intro ρ' ac w hr
    exact goes_true call_ok4 Try.func4 (S := T4 x [true]) (congrFun makes_end x) (obs4_ok hx) (fun w' h => ⟨rfl, h.toBelow⟩) (ρ0 := []) ⟨hr.sl, hr.m⟩
theorem split7 (a : Int) : (a < 0 ∨ 7 ≤ a) ∨ a = 0 ∨ a = 1 ∨ a = 2 ∨ a = 3 ∨ a = 4 ∨ a = 5 ∨ a = 6 := by omega
theorem makes_calls (a b x : Int) (hx : 0 ≤ x ∧ x < 256) (W : World) : Calls Try.prog 4 #[.int .i64 a, .int .i64 b, .int .u8 x] W (End4 W) := by
  rcases split7 a with ha | rfl | rfl | rfl | rfl | rfl | rfl | rfl
  · rcases split7 b with hb | rfl | rfl | rfl | rfl | rfl | rfl | rfl
    · exact makes_of4 (ca := .sint .i64 a) (cb := .sint .i64 b) rfl rfl (congrFun (congrFun (congrFun s_s_s a) b) x) ⟨hb, ha, trivial⟩ hx W
    · exact makes_of4 (ca := .sint .i64 a) (cb := .int .i64 0) rfl rfl (congrFun (congrFun (congrFun s_s_0 a) 0) x) ⟨ha, trivial⟩ hx W
    · exact makes_of4 (ca := .sint .i64 a) (cb := .int .i64 1) rfl rfl (congrFun (congrFun (congrFun s_s_1 a) 0) x) ⟨ha, trivial⟩ hx W
    · exact makes_of4 (ca := .sint .i64 a) (cb := .int .i64 2) rfl rfl (congrFun (congrFun (congrFun s_s_2 a) 0) x) ⟨ha, trivial⟩ hx W
    · exact makes_of4 (ca := .sint .i64 a) (cb := .int .i64 3) rfl rfl (congrFun (congrFun (congrFun s_s_3 a) 0) x) ⟨ha, trivial⟩ hx W
    · exact makes_of4 (ca := .sint .i64 a) (cb := .int .i64 4) rfl rfl (congrFun (congrFun (congrFun s_s_4 a) 0) x) ⟨ha, trivial⟩ hx W
    · exact makes_of4 (ca := .sint .i64 a) (cb := .int .i64 5) rfl rfl (congrFun (congrFun (congrFun s_s_5 a) 0) x) ⟨ha, trivial⟩ hx W
    · exact makes_of4 (ca := .sint .i64 a) (cb := .int .i64 6) rfl rfl (congrFun (congrFun (congrFun s_s_6 a) 0) x) ⟨ha, trivial⟩ hx W
  · rcases split7 b with hb | rfl | rfl | rfl | rfl | rfl | rfl | rfl
    · exact makes_of4 (ca := .int .i64 0) (cb := .sint .i64 b) rfl rfl (congrFun (congrFun (congrFun s_0_s 0) b) x) ⟨hb, trivial⟩ hx W
    · exact makes_of4 (ca := .int .i64 0) (cb := .int .i64 0) rfl rfl (congrFun (congrFun (congrFun s_0_0 0) 0) x) trivial hx W
    · exact makes_of4 (ca := .int .i64 0) (cb := .int .i64 1) rfl rfl (congrFun (congrFun (congrFun s_0_1 0) 0) x) trivial hx W
    · exact makes_of4 (ca := .int .i64 0) (cb := .int .i64 2) rfl rfl (congrFun (congrFun (congrFun s_0_2 0) 0) x) trivial hx W
    · exact makes_of4 (ca := .int .i64 0) (cb := .int .i64 3) rfl rfl (congrFun (congrFun (congrFun s_0_3 0) 0) x) trivial hx W
    · exact makes_of4 (ca := .int .i64 0) (cb := .int .i64 4) rfl rfl (congrFun (congrFun (congrFun s_0_4 0) 0) x) trivial hx W
    · exact makes_of4 (ca := .int .i64 0) (cb := .int .i64 5) rfl rfl (congrFun (congrFun (congrFun s_0_5 0) 0) x) trivial hx W
    · exact makes_of4 (ca := .int .i64 0) (cb := .int .i64 6) rfl rfl (congrFun (congrFun (congrFun s_0_6 0) 0) x) trivial hx W
  · rcases split7 b with hb | rfl | rfl | rfl | rfl | rfl | rfl | rfl
    · exact makes_of4 (ca := .int .i64 1) (cb := .sint .i64 b) rfl rfl (congrFun (congrFun (congrFun s_1_s 0) b) x) ⟨hb, trivial⟩ hx W
    · exact makes_of4 (ca := .int .i64 1) (cb := .int .i64 0) rfl rfl (congrFun (congrFun (congrFun s_1_0 0) 0) x) trivial hx W
    · exact makes_of4 (ca := .int .i64 1) (cb := .int .i64 1) rfl rfl (congrFun (congrFun (congrFun s_1_1 0) 0) x) trivial hx W
    · exact makes_of4 (ca := .int .i64 1) (cb := .int .i64 2) rfl rfl (congrFun (congrFun (congrFun s_1_2 0) 0) x) trivial hx W
    · exact makes_of4 (ca := .int .i64 1) (cb := .int .i64 3) rfl rfl (congrFun (congrFun (congrFun s_1_3 0) 0) x) trivial hx W
    · exact makes_of4 (ca := .int .i64 1) (cb := .int .i64 4) rfl rfl (congrFun (congrFun (congrFun s_1_4 0) 0) x) trivial hx W
    · exact makes_of4 (ca := .int .i64 1) (cb := .int .i64 5) rfl rfl (congrFun (congrFun (congrFun s_1_5 0) 0) x) trivial hx W
    · exact makes_of4 (ca := .int .i64 1) (cb := .int .i64 6) rfl rfl (congrFun (congrFun (congrFun s_1_6 0) 0) x) trivial hx W
  · rcases split7 b with hb | rfl | rfl | rfl | rfl | rfl | rfl | rfl
    · exact makes_of4 (ca := .int .i64 2) (cb := .sint .i64 b) rfl rfl (congrFun (congrFun (congrFun s_2_s 0) b) x) ⟨hb, trivial⟩ hx W
    · exact makes_of4 (ca := .int .i64 2) (cb := .int .i64 0) rfl rfl (congrFun (congrFun (congrFun s_2_0 0) 0) x) trivial hx W
    · exact makes_of4 (ca := .int .i64 2) (cb := .int .i64 1) rfl rfl (congrFun (congrFun (congrFun s_2_1 0) 0) x) trivial hx W
    · exact makes_of4 (ca := .int .i64 2) (cb := .int .i64 2) rfl rfl (congrFun (congrFun (congrFun s_2_2 0) 0) x) trivial hx W
    · exact makes_of4 (ca := .int .i64 2) (cb := .int .i64 3) rfl rfl (congrFun (congrFun (congrFun s_2_3 0) 0) x) trivial hx W
    · exact makes_of4 (ca := .int .i64 2) (cb := .int .i64 4) rfl rfl (congrFun (congrFun (congrFun s_2_4 0) 0) x) trivial hx W
    · exact makes_of4 (ca := .int .i64 2) (cb := .int .i64 5) rfl rfl (congrFun (congrFun (congrFun s_2_5 0) 0) x) trivial hx W
    · exact makes_of4 (ca := .int .i64 2) (cb := .int .i64 6) rfl rfl (congrFun (congrFun (congrFun s_2_6 0) 0) x) trivial hx W
  · rcases split7 b with hb | rfl | rfl | rfl | rfl | rfl | rfl | rfl
    · exact makes_of4 (ca := .int .i64 3) (cb := .sint .i64 b) rfl rfl (congrFun (congrFun (congrFun s_3_s 0) b) x) ⟨hb, trivial⟩ hx W
    · exact makes_of4 (ca := .int .i64 3) (cb := .int .i64 0) rfl rfl (congrFun (congrFun (congrFun s_3_0 0) 0) x) trivial hx W
    · exact makes_of4 (ca := .int .i64 3) (cb := .int .i64 1) rfl rfl (congrFun (congrFun (congrFun s_3_1 0) 0) x) trivial hx W
    · exact makes_of4 (ca := .int .i64 3) (cb := .int .i64 2) rfl rfl (congrFun (congrFun (congrFun s_3_2 0) 0) x) trivial hx W
    · exact makes_of4 (ca := .int .i64 3) (cb := .int .i64 3) rfl rfl (congrFun (congrFun (congrFun s_3_3 0) 0) x) trivial hx W
    · exact makes_of4 (ca := .int .i64 3) (cb := .int .i64 4) rfl rfl (congrFun (congrFun (congrFun s_3_4 0) 0) x) trivial hx W
    · exact makes_of4 (ca := .int .i64 3) (cb := .int .i64 5) rfl rfl (congrFun (congrFun (congrFun s_3_5 0) 0) x) trivial hx W
    · exact makes_of4 (ca := .int .i64 3) (cb := .int .i64 6) rfl rfl (congrFun (congrFun (congrFun s_3_6 0) 0) x) trivial hx W
  · rcases split7 b with hb | rfl | rfl | rfl | rfl | rfl | rfl | rfl
    · exact makes_of4 (ca := .int .i64 4) (cb := .sint .i64 b) rfl rfl (congrFun (congrFun (congrFun s_4_s 0) b) x) ⟨hb, trivial⟩ hx W
    · exact makes_of4 (ca := .int .i64 4) (cb := .int .i64 0) rfl rfl (congrFun (congrFun (congrFun s_4_0 0) 0) x) trivial hx W
    · exact makes_of4 (ca := .int .i64 4) (cb := .int .i64 1) rfl rfl (congrFun (congrFun (congrFun s_4_1 0) 0) x) trivial hx W
    · exact makes_of4 (ca := .int .i64 4) (cb := .int .i64 2) rfl rfl (congrFun (congrFun (congrFun s_4_2 0) 0) x) trivial hx W
    · exact makes_of4 (ca := .int .i64 4) (cb := .int .i64 3) rfl rfl (congrFun (congrFun (congrFun s_4_3 0) 0) x) trivial hx W
    · exact makes_of4 (ca := .int .i64 4) (cb := .int .i64 4) rfl rfl (congrFun (congrFun (congrFun s_4_4 0) 0) x) trivial hx W
    · exact makes_of4 (ca := .int .i64 4) (cb := .int .i64 5) rfl rfl (congrFun (congrFun (congrFun s_4_5 0) 0) x) trivial hx W
    · exact makes_of4 (ca := .int .i64 4) (cb := .int .i64 6) rfl rfl (congrFun (congrFun (congrFun s_4_6 0) 0) x) trivial hx W
  · rcases split7 b with hb | rfl | rfl | rfl | rfl | rfl | rfl | rfl
    · exact makes_of4 (ca := .int .i64 5) (cb := .sint .i64 b) rfl rfl (congrFun (congrFun (congrFun s_5_s 0) b) x) ⟨hb, trivial⟩ hx W
    · exact makes_of4 (ca := .int .i64 5) (cb := .int .i64 0) rfl rfl (congrFun (congrFun (congrFun s_5_0 0) 0) x) trivial hx W
    · exact makes_of4 (ca := .int .i64 5) (cb := .int .i64 1) rfl rfl (congrFun (congrFun (congrFun s_5_1 0) 0) x) trivial hx W
    · exact makes_of4 (ca := .int .i64 5) (cb := .int .i64 2) rfl rfl (congrFun (congrFun (congrFun s_5_2 0) 0) x) trivial hx W
    · exact makes_of4 (ca := .int .i64 5) (cb := .int .i64 3) rfl rfl (congrFun (congrFun (congrFun s_5_3 0) 0) x) trivial hx W
    · exact makes_of4 (ca := .int .i64 5) (cb := .int .i64 4) rfl rfl (congrFun (congrFun (congrFun s_5_4 0) 0) x) trivial hx W
    · exact makes_of4 (ca := .int .i64 5) (cb := .int .i64 5) rfl rfl (congrFun (congrFun (congrFun s_5_5 0) 0) x) trivial hx W
    · exact makes_of4 (ca := .int .i64 5) (cb := .int .i64 6) rfl rfl (congrFun (congrFun (congrFun s_5_6 0) 0) x) trivial hx W
  · rcases split7 b with hb | rfl | rfl | rfl | rfl | rfl | rfl | rfl
    · exact makes_of4 (ca := .int .i64 6) (cb := .sint .i64 b) rfl rfl (congrFun (congrFun (congrFun s_6_s 0) b) x) ⟨hb, trivial⟩ hx W
    · exact makes_of4 (ca := .int .i64 6) (cb := .int .i64 0) rfl rfl (congrFun (congrFun (congrFun s_6_0 0) 0) x) trivial hx W
    · exact makes_of4 (ca := .int .i64 6) (cb := .int .i64 1) rfl rfl (congrFun (congrFun (congrFun s_6_1 0) 0) x) trivial hx W
    · exact makes_of4 (ca := .int .i64 6) (cb := .int .i64 2) rfl rfl (congrFun (congrFun (congrFun s_6_2 0) 0) x) trivial hx W
    · exact makes_of4 (ca := .int .i64 6) (cb := .int .i64 3) rfl rfl (congrFun (congrFun (congrFun s_6_3 0) 0) x) trivial hx W
    · exact makes_of4 (ca := .int .i64 6) (cb := .int .i64 4) rfl rfl (congrFun (congrFun (congrFun s_6_4 0) 0) x) trivial hx W
    · exact makes_of4 (ca := .int .i64 6) (cb := .int .i64 5) rfl rfl (congrFun (congrFun (congrFun s_6_5 0) 0) x) trivial hx W
    · exact makes_of4 (ca := .int .i64 6) (cb := .int .i64 6) rfl rfl (congrFun (congrFun (congrFun s_6_6 0) 0) x) trivial hx W

set_option maxRecDepth 100000 in
theorem itemsMakes_lifted (os : Os) (started : os.Started) (H : Type) (enc : TypeId × Value → H) :
    ReturnsInHanded {} Try.checked os 4 .any (Rows.itemsMakesSpec.pre6 enc Try.prog Try.f4 Rows.itemsMakesRow.domain false) (Rows.itemsMakesSpec.post enc Try.prog Try.f4 false true false false) := by
  refine returnsInHanded_of_change (C := Try.checked) own started (by kernel_rfl) Try.func4
    (ChangeSpec.witness6 (enc := enc) (C := Try.checked) false ⟨#[], #[.int .i64 0, .int .i64 0, .int .u8 0], []⟩ 8 (by kernel_rfl) (by kernel_rfl) (by kernel_rfl) (by kernel_rfl)) ?_
  intro W base args ds gs before hval0 hW hcnd _
  have hval : ∀ (j : Nat) t v, Try.f4.params[j]? = some t → args[j]? = some v → Value.okWide Try.prog W .any base t v := hval0
  have hW' := hW
  obtain ⟨p, q, hA0, hV, hbef, hfz, hnd⟩ := hW
  have hA : DataW.TrodAll enc Try.prog W 0 (fun _ => true) true Try.f4.params.toList args.toList ds p := hA0
  rw [Try.params4] at hA hval
  obtain ⟨v0, v1, v2, d0, d1, d2, p0, p1, p2, rfl, rfl, hp, h0, h1, h2⟩ := trodAll_three hA
  obtain ⟨a, rfl, rfl, _, w0⟩ := open_int Try.underlying3 (hval 0 3 v0 rfl rfl) h0
  obtain ⟨b, rfl, rfl, _, _⟩ := open_int Try.underlying3 (hval 1 3 v1 rfl rfl) h1
  obtain ⟨c, rfl, rfl, _, w2⟩ := open_int Try.underlying5 (hval 2 5 v2 rfl rfl) h2
  refine (makes_calls a b c (u8_le w2) W).mono fun e W' ⟨he, hb⟩ => ?_
  subst he
  exact ⟨_, rfl, post_law laidOut (by rw [Try.params4]; decide +kernel) rfl rfl (by kernel_rfl) Try.underlying4 hW' hb⟩

theorem itemsMakes_holds : Rows.ItemsMakesSaid :=
  OpenClaim.holds_of_wide 4 Try.f4 rfl rfl rfl rfl rfl rfl rfl ⟨rfl, rfl, rfl, rfl, rfl⟩ rfl rfl rfl rfl rfl (by kernel_rfl) Try.func4 (by kernel_rfl)
    (of_decide_eq_true (by kernel_rfl)) (by unfold Func.isWrapper; first | (rw [if_pos (by decide +kernel)]; kernel_rfl) | (rw [if_neg (by decide +kernel)]; exact ⟨rfl, rfl⟩))
    (fun os started H enc _ => itemsMakes_lifted os started H enc)
#print axioms itemsMakes_holds
end Go.Proofs.Ythhfokjikkmfhaa
