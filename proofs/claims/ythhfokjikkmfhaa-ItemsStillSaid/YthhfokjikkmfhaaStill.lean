/- ItemsStill is true of every number as an item, of every number as a recipe, and however often it is asked; it leaves its arguments as they were. -/
import Derived.Test.YthhfokjikkmfhaaStillA
namespace Go.Proofs.Ythhfokjikkmfhaa
open Go.ChangeShapes Go.WideShapes Go.ChangeAt Go.RowKit Go.Sx

theorem leC_noRef {sel : List Nat} {c : C} (h : noRefC c = true) : leC sel c c := by
  cases c with
  | ptr b i st sub => cases h
  | slice b i st l cl => cases h
  | mapr b => cases h
  | clos f caps =>
    cases caps with
    | nil => exact ⟨rfl, rfl⟩
    | cons b r => cases h
  | raw v => exact rfl
  | int k n => exact ⟨rfl, rfl⟩
  | sint k n => exact ⟨rfl, rfl⟩
  | bool b => exact rfl
  | sbool b => exact rfl
  | str l => exact rfl
  | sstr l => exact rfl
  | nilp => exact trivial
  | nils => exact trivial
theorem leL_noRef {sel : List Nat} : ∀ {l : List C}, l.all noRefC = true → leL sel l l
  | [], _ => trivial
  | c :: r, h => by
    simp only [List.all_cons, Bool.and_eq_true] at h
    exact ⟨leC_noRef h.1, leL_noRef h.2⟩
theorem allP_app : ∀ {l r : List Prop}, allP l → allP r → allP (l ++ r)
  | [], _, _, h => h
  | _ :: _, _, h, h' => ⟨h.1, allP_app h.2 h'⟩

theorem body5_eq : Try.f5.body = some body5 := by kernel_rfl
def End (W : World) : Ending → World → Prop := fun e w' => e = .returned (.bool true) ∧ Below W.heap.size W w'
theorem call_ok : CallOk Try.prog (call 5) := callN_sound tab_ok 5

theorem tmod_le {t : Int} (ht : 0 ≤ t ∧ t < 256) : 0 ≤ t.tmod 20 ∧ t.tmod 20 < 20 :=
  ⟨Int.tmod_nonneg _ ht.1, Int.tmod_lt_of_pos _ (by omega)⟩
theorem obsI_ok {t : Int} (ht : 0 ≤ t ∧ t < 256) : allP (obsI t) := by
  have := tmod_le ht
  simp only [obsI, allP, inK, IntKind.min, IntKind.max, IntKind.signed, IntKind.bits]
  simp
  omega
theorem obsX_ok {x : Int} (hx : 0 ≤ x ∧ x < 256) : allP (obsX x) := by simp [obsX, allP, hx]
theorem obsA_ok {x i : Int} (hx : 0 ≤ x ∧ x < 256) (hi : 0 ≤ i ∧ i < 100) : allP (obsA x i) := by
  simp only [obsA, allP, inK, IntKind.min, IntKind.max, IntKind.signed, IntKind.bits]
  simp
  omega
theorem obsC_t {t i : Int} (h : i < 1 + t.tmod 20) : allP (obsC t i true) := by simp [obsC, allP, h]
theorem obsC_f {t i : Int} (h : ¬ i < 1 + t.tmod 20) : allP (obsC t i false) := by simp only [obsC, allP, h]; simp

theorem still_loop {t : Int} {W : World} (Inv : Int → List Bool → St) (hI : ∀ i h h' a w ρ', Rel ([] ++ ρ') W.heap.size W Try.f5.ntmps (Inv i h) a w → Rel ([] ++ ρ') W.heap.size W Try.f5.ntmps (Inv i h') a w)
    (hint : List Bool)
    (hround : ∀ i : Int, 0 ≤ i → i < 1 + t.tmod 20 → (∀ ρ' a w, Rel ([] ++ ρ') W.heap.size W Try.f5.ntmps (Inv (i + 1) []) a w → Goes Try.prog 5 (End W) (.inLoop L5.1 :: L5.2) a w) →
      ∀ ρ' a w, Rel ([] ++ ρ') W.heap.size W Try.f5.ntmps (Inv i hint) a w → Goes Try.prog 5 (End W) (.code L5.1 :: .inLoop L5.1 :: L5.2) a w)
    (hend : ∀ i : Int, obsO (round5 (Inv i [false])) = some (obsC t i false)) (ht : 0 ≤ t ∧ t < 256)
    {ρ' : Env} {a : Act} {w : World} (hr : Rel ([] ++ ρ') W.heap.size W Try.f5.ntmps (Inv 0 []) a w) : Goes Try.prog 5 (End W) (.code (.loop L5.1) :: L5.2) a w := by
  have htm := tmod_le ht
  refine goes_loop (ρ0 := []) (fun i => Inv i []) (fun i : Int => 0 ≤ i ∧ i ≤ 1 + t.tmod 20) (fun i => (1 + t.tmod 20 - i).toNat) ?_ (i := (0 : Int)) ⟨by omega, by omega⟩ hr
  intro i hi ρ' a w hr ih
  by_cases h : i < 1 + t.tmod 20
  · refine hround i hi.1 h (fun ρ' a w hr' => ih (i + 1) ⟨by omega, by omega⟩ (by omega) ρ' a w hr') ρ' a w (hI _ _ _ _ _ _ hr)
  · exact goes_true (ρ0 := []) call_ok Try.func5 (hend i) (obsC_f h) (fun w' hb => ⟨rfl, hb⟩) (hI _ _ _ _ _ _ hr)

theorem still_at {n' : Int} {l b0 b1 : Nat} {cs mk : List C} (hcs : cs.all noRefC = true) (hmk : mk.all noRefC = true)
    (h0 : [b0, 9, 11].Nodup) (h1 : [b1, 1, 2].Nodup)
    (hs : ∀ x t, stopV ks5 [b0, 9, 11] (start5 x t (.int .i64 n') []) = some (.code (.loop L5.1) :: L5.2, sl5 (.int .i64 n') (sli b0 l) 9 true (sli 11 l) x t (.int .i64 0), [⟨true, .exp cs⟩, ⟨true, .exp mk⟩, ⟨true, .exp cs⟩], obsI t ++ obsX x))
    (hr : ∀ x t i, stopV ks5 [b1, 1, 2] (round5 (T5 (.int .i64 n') l cs mk x t i [true, false, false])) = some (.inLoop L5.1 :: L5.2, sl5 (.int .i64 n') (sli b1 l) 1 true (sli 2 l) x t (.sint .i64 (i + 1)), [⟨true, .exp cs⟩, ⟨true, .exp mk⟩, ⟨true, .exp cs⟩], obsA x i ++ obsC t i true))
    (he : ∀ x t i, obsO (round5 (T5 (.int .i64 n') l cs mk x t i [false])) = some (obsC t i false))
    {x t : Int} (hx : 0 ≤ x ∧ x < 256) (ht : 0 ≤ t ∧ t < 256) (W : World) :
    Calls Try.prog 5 #[.int .u8 x, .int .i64 n', .int .u8 t] W (End W) := by
  have htm := tmod_le ht
  refine calls_goes (ρ0 := []) (us := [.int .u8 x, .int .i64 n', .int .u8 t]) (args := [.v (.one (.sint .u8 x)), .v (.one (.int .i64 n')), .v (.one (.sint .u8 t))]) (m := []) (h := []) (ob := []) Try.func5 body5_eq (by rw [Try.ntmps5]; simp) (MemRel.nil W)
    ⟨_, _, rfl, ⟨rfl, rfl⟩, _, _, rfl, ⟨rfl, rfl⟩, _, _, rfl, ⟨rfl, rfl⟩, rfl⟩ ?_
  intro a w hrel
  refine goes_stop (ρ0 := []) (r := [b0, 9, 11]) (T := T5 (.int .i64 n') l cs mk x t 0 []) call_ok Try.func5 (hs x t) (allP_app (obsI_ok ht) (obsX_ok hx)) ⟨h0, ?_, ?_⟩ ?_ hrel
  · simp [sl5, T5, leSlots, leV, leV1, leC, sli, gS, gN, N.v]
  · simp [T5, leBs, leB, leCells, leL_noRef hcs, leL_noRef hmk]
  · intro ρ' a w hr0
    refine still_loop (t := t) (fun i h => T5 (.int .i64 n') l cs mk x t i h) (fun i h h' a w ρ' hh => ⟨hh.sl, hh.m⟩) [true, false, false] ?_ (he x t) ht hr0
    intro i hi0 hi ih ρ' a w hri
    refine goes_stop (ρ0 := []) (r := [b1, 1, 2]) (T := T5 (.int .i64 n') l cs mk x t (i + 1) []) call_ok Try.func5 (hr x t i) (allP_app (obsA_ok hx ⟨hi0, by omega⟩) (obsC_t hi)) ⟨h1, ?_, ?_⟩ (fun ρ' a w h => ih ρ' a w h) hri
    · simp [sl5, T5, leSlots, leV, leV1, leC, sli, gS, gN, N.v]
    · simp [T5, leBs, leB, leCells, leL_noRef hcs, leL_noRef hmk]

theorem still_out {n : Int} {hh : List Bool} {ob : Int → List Prop} (hob : allP (ob n))
    (hs : (fun x t n => stopV ks5 [0, 2] (start5 x t (.sint .i64 n) hh)) = fun x t n => some (.code (.loop L5.1) :: L5.2, sl5 (.sint .i64 n) .nils 0 false (sli 2 0) x t (.int .i64 0), [⟨true, .exp [.int .u8 0, .int .i64 0]⟩, ⟨true, .exp []⟩], obsI t ++ (ob n ++ obsX x)))
    (hr : (fun x t n i => stopV ks5 [0, 1] (round5 (U5 n x t i ([true] ++ hh ++ [false, false])))) = fun x t n i => some (.inLoop L5.1 :: L5.2, sl5 (.sint .i64 n) .nils 0 false (sli 1 0) x t (.sint .i64 (i + 1)), [⟨true, .exp [.int .u8 0, .int .i64 0]⟩, ⟨true, .exp []⟩], obsA x i ++ (ob n ++ obsC t i true)))
    {x t : Int} (hx : 0 ≤ x ∧ x < 256) (ht : 0 ≤ t ∧ t < 256) (W : World) :
    Calls Try.prog 5 #[.int .u8 x, .int .i64 n, .int .u8 t] W (End W) := by
  have htm := tmod_le ht
  refine calls_goes (ρ0 := []) (us := [.int .u8 x, .int .i64 n, .int .u8 t]) (args := [.v (.one (.sint .u8 x)), .v (.one (.sint .i64 n)), .v (.one (.sint .u8 t))]) (m := []) (h := hh) (ob := []) Try.func5 body5_eq (by rw [Try.ntmps5]; simp) (MemRel.nil W)
    ⟨_, _, rfl, ⟨rfl, rfl⟩, _, _, rfl, ⟨rfl, rfl⟩, _, _, rfl, ⟨rfl, rfl⟩, rfl⟩ ?_
  intro a w hrel
  refine goes_stop (ρ0 := []) (r := [0, 2]) (T := U5 n x t 0 []) call_ok Try.func5 (congrFun (congrFun (congrFun hs x) t) n) (allP_app (obsI_ok ht) (allP_app hob (obsX_ok hx))) ⟨by decide, ?_, ?_⟩ ?_ hrel
  · simp [sl5, U5, leSlots, leV, leV1, leC, sli, gS, gN, N.v]
  · simp [U5, leBs, leB, leCells, leL, leC]
  · intro ρ' a w hr0
    refine still_loop (t := t) (fun i h => U5 n x t i h) (fun i h h' a w ρ' hh => ⟨hh.sl, hh.m⟩) ([true] ++ hh ++ [false, false]) ?_ (fun i => congrFun (congrFun (congrFun (congrFun end5U x) t) n) i) ht hr0
    intro i hi0 hi ih ρ' a w hri
    refine goes_stop (ρ0 := []) (r := [0, 1]) (T := U5 n x t (i + 1) []) call_ok Try.func5 (congrFun (congrFun (congrFun (congrFun hr x) t) n) i) (allP_app (obsA_ok hx ⟨hi0, by omega⟩) (allP_app hob (obsC_t hi))) ⟨by decide, ?_, ?_⟩ (fun ρ' a w h => ih ρ' a w h) hri
    · simp [sl5, U5, leSlots, leV, leV1, leC, sli, gS, gN, N.v]
    · simp [U5, leBs, leB, leCells, leL, leC]

theorem still_calls {x n t : Int} (hx : 0 ≤ x ∧ x < 256) (ht : 0 ≤ t ∧ t < 256) (W : World) : Calls Try.prog 5 #[.int .u8 x, .int .i64 n, .int .u8 t] W (End W) := by
  by_cases h0 : n < 0
  · exact still_out (ob := obNeg) (by simp [obNeg, allP, h0]) start5Neg round5Neg hx ht W
  · by_cases h7 : 7 ≤ n
    · exact still_out (ob := obPos) (by simp [obPos, allP, h7]; omega) start5Pos round5Pos hx ht W
    · have : n = 0 ∨ n = 1 ∨ n = 2 ∨ n = 3 ∨ n = 4 ∨ n = 5 ∨ n = 6 := by omega
      rcases this with rfl | rfl | rfl | rfl | rfl | rfl | rfl
      · exact still_at (n' := 0) (by decide) (by decide) (by decide) (by decide) (fun x t => congrFun (congrFun start5_0 x) t) (fun x t i => congrFun (congrFun (congrFun round5_0 x) t) i) (fun x t i => congrFun (congrFun (congrFun end5_0 x) t) i) hx ht W
      · exact still_at (n' := 1) (by decide) (by decide) (by decide) (by decide) (fun x t => congrFun (congrFun start5_1 x) t) (fun x t i => congrFun (congrFun (congrFun round5_1 x) t) i) (fun x t i => congrFun (congrFun (congrFun end5_1 x) t) i) hx ht W
      · exact still_at (n' := 2) (by decide) (by decide) (by decide) (by decide) (fun x t => congrFun (congrFun start5_2 x) t) (fun x t i => congrFun (congrFun (congrFun round5_2 x) t) i) (fun x t i => congrFun (congrFun (congrFun end5_2 x) t) i) hx ht W
      · exact still_at (n' := 3) (by decide) (by decide) (by decide) (by decide) (fun x t => congrFun (congrFun start5_3 x) t) (fun x t i => congrFun (congrFun (congrFun round5_3 x) t) i) (fun x t i => congrFun (congrFun (congrFun end5_3 x) t) i) hx ht W
      · exact still_at (n' := 4) (by decide) (by decide) (by decide) (by decide) (fun x t => congrFun (congrFun start5_4 x) t) (fun x t i => congrFun (congrFun (congrFun round5_4 x) t) i) (fun x t i => congrFun (congrFun (congrFun end5_4 x) t) i) hx ht W
      · exact still_at (n' := 5) (by decide) (by decide) (by decide) (by decide) (fun x t => congrFun (congrFun start5_5 x) t) (fun x t i => congrFun (congrFun (congrFun round5_5 x) t) i) (fun x t i => congrFun (congrFun (congrFun end5_5 x) t) i) hx ht W
      · exact still_at (n' := 6) (by decide) (by decide) (by decide) (by decide) (fun x t => congrFun (congrFun start5_6 x) t) (fun x t i => congrFun (congrFun (congrFun round5_6 x) t) i) (fun x t i => congrFun (congrFun (congrFun end5_6 x) t) i) hx ht W

set_option maxRecDepth 100000 in
theorem itemsStill_lifted (os : Os) (started : os.Started) (H : Type) (enc : TypeId × Value → H) :
    ReturnsInHanded {} Try.checked os 5 .any (Rows.itemsStillSpec.pre6 enc Try.prog Try.f5 Rows.itemsStillRow.domain false) (Rows.itemsStillSpec.post enc Try.prog Try.f5 false true false false) := by
  refine returnsInHanded_of_change (C := Try.checked) own started (by kernel_rfl) Try.func5
    (ChangeSpec.witness6 (enc := enc) (C := Try.checked) false ⟨#[], #[.int .u8 0, .int .i64 0, .int .u8 0], []⟩ 8 (by kernel_rfl) (by kernel_rfl) (by kernel_rfl) (by kernel_rfl)) ?_
  intro W base args ds gs before hval0 hW hcnd _
  have hval : ∀ (j : Nat) t v, Try.f5.params[j]? = some t → args[j]? = some v → Value.okWide Try.prog W .any base t v := hval0
  have hW' := hW
  obtain ⟨p, q, hA0, hV, hbef, hfz, hnd⟩ := hW
  have hA : DataW.TrodAll enc Try.prog W 0 (fun _ => true) true Try.f5.params.toList args.toList ds p := hA0
  rw [Try.params5] at hA hval
  obtain ⟨v0, v1, v2, d0, d1, d2, p0, p1, p2, rfl, rfl, hp, h0, h1, h2⟩ := trodAll_three hA
  obtain ⟨a, rfl, rfl, _, w0⟩ := open_int Try.underlying5 (hval 0 5 v0 rfl rfl) h0
  obtain ⟨b, rfl, rfl, _, _⟩ := open_int Try.underlying3 (hval 1 3 v1 rfl rfl) h1
  obtain ⟨c, rfl, rfl, _, w2⟩ := open_int Try.underlying5 (hval 2 5 v2 rfl rfl) h2
  refine (still_calls (u8_le w0) (u8_le w2) W).mono fun e W' ⟨he, hb⟩ => ?_
  subst he
  exact ⟨_, rfl, post_law laidOut (by rw [Try.params5]; decide +kernel) rfl rfl (by kernel_rfl) Try.underlying4 hW' hb⟩

theorem itemsStill_holds : Rows.ItemsStillSaid :=
  OpenClaim.holds_of_wide 5 Try.f5 rfl rfl rfl rfl rfl rfl rfl ⟨rfl, rfl, rfl, rfl, rfl⟩ rfl rfl rfl rfl rfl (by kernel_rfl) Try.func5 (by kernel_rfl)
    (of_decide_eq_true (by kernel_rfl)) (by unfold Func.isWrapper; first | (rw [if_pos (by decide +kernel)]; kernel_rfl) | (rw [if_neg (by decide +kernel)]; exact ⟨rfl, rfl⟩))
    (fun os started H enc _ => itemsStill_lifted os started H enc)
#print axioms itemsStill_holds
end Go.Proofs.Ythhfokjikkmfhaa
