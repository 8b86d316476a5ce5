/- ItemsHold is true of any two numbers as items and any number as a recipe, and leaves its arguments as they were. -/
import Derived.Test.YthhfokjikkmfhaaRec
namespace Go.Proofs.Ythhfokjikkmfhaa
open Go.ChangeShapes Go.WideShapes Go.ChangeAt Go.RowKit Go.Sx
noncomputable def holdO (x y : Int) (n : C) (h : List Bool) := obsOf (callR 5 7 [iu x, iu y, .v (.one n)] [] h)
abbrev R (x : Int) : Prop := 0 ≤ x ∧ x < 256
abbrev e1 (x : Int) : Prop := (!decide (decide (0 < stackT x) = decide (x ≤ 12))) = false
abbrev e0 (x : Int) : Prop := (!decide (decide (0 < stackT x) = false)) = false
abbrev e2 (x : Int) : Prop := (!decide ((!nameT x == []) = decide (0 < stackT x))) = false
abbrev e4 (x : Int) : Prop := (!decide (blockT x = !decide (givesT x = 0))) = false
abbrev e5 (x : Int) : Prop := decide (stackT (givesT x) = 0) = false
def oA (x : Int) : List Prop := [e2 x, R x, R x, e1 x, decide (1 ≤ x) = true, R x]
def oZ (x : Int) : List Prop := [e2 x, R x, R x, e0 x, decide (1 ≤ x) = false, R x]
def oS (x y : Int) : List Prop := [(!decide (x = y)) = false]
def oE (x y : Int) : List Prop := [(!List.beq (nameT x) []) = false, R x, (!decide (x = y)) = true]
def oN (x y : Int) : List Prop := [List.beq (nameT x) (nameT y) = false, R y, R x, (!List.beq (nameT x) []) = true, R x, (!decide (x = y)) = true]
def oF (x : Int) : List Prop := [blockT x = false, R x, e4 x, R x, R x]
def oT (x : Int) : List Prop := [e5 x, R (givesT x), R x, blockT x = true, R x, e4 x, R x, R x]
def paths : List (List Bool) := [[false, false, false, false, false, false], [false, false, false, true, false, false, false],
  [true, false, false, false, false, false], [true, false, false, false, false, true, false],
  [true, false, false, true, false, false, false], [true, false, false, true, false, false, true, false],
  [true, false, false, true, true, false, false, false], [true, false, false, true, true, false, false, true, false]]
def obsXY (x y : Int) : List (List Prop) := [oF x ++ (oS x y ++ oZ x), oF x ++ (oE x y ++ oZ x),
  oF x ++ (oS x y ++ oA x), oT x ++ (oS x y ++ oA x), oF x ++ (oE x y ++ oA x), oT x ++ (oE x y ++ oA x), oF x ++ (oN x y ++ oA x), oT x ++ (oN x y ++ oA x)]
def tl : List Int → List Prop
  | [] => []
  | a :: r => (false = false) :: R a :: tl r
def fs : List Bool := [false, false, false, false, false, false, false, false, false, false, false, false]
theorem hold0 : (fun x y : Int => paths.map fun h => holdO x y (.int .i64 0) (h ++ fs)) = fun x y => (obsXY x y).map fun o => some (tl [5, 3] ++ o) := by kernel_rfl
theorem hold1 : (fun x y : Int => paths.map fun h => holdO x y (.int .i64 1) (h ++ fs)) = fun x y => (obsXY x y).map fun o => some (tl [6, 5] ++ o) := by kernel_rfl
theorem hold2 : (fun x y : Int => paths.map fun h => holdO x y (.int .i64 2) (h ++ fs)) = fun x y => (obsXY x y).map fun o => some (tl [9, 5] ++ o) := by kernel_rfl
theorem hold3 : (fun x y : Int => paths.map fun h => holdO x y (.int .i64 3) (h ++ fs)) = fun x y => (obsXY x y).map fun o => some (tl [10, 7, 6] ++ o) := by kernel_rfl
theorem hold4 : (fun x y : Int => paths.map fun h => holdO x y (.int .i64 4) (h ++ fs)) = fun x y => (obsXY x y).map fun o => some (tl [8, 3, 7] ++ o) := by kernel_rfl
theorem hold5 : (fun x y : Int => paths.map fun h => holdO x y (.int .i64 5) (h ++ fs)) = fun x y => (obsXY x y).map fun o => some (tl [12, 8, 6] ++ o) := by kernel_rfl
theorem hold6 : (fun x y : Int => paths.map fun h => holdO x y (.int .i64 6) (h ++ fs)) = fun x y => (obsXY x y).map fun o => some (tl [7, 1, 2] ++ o) := by kernel_rfl
def tNeg (n : Int) : List Prop := [n < 0 ∨ 7 ≤ n, decide (0 ≤ n) = false, n < 0 ∨ 7 ≤ n]
def tPos (n : Int) : List Prop := [n < 0 ∨ 7 ≤ n, (!decide (false = decide (n < 7))) = false, decide (0 ≤ n) = true, n < 0 ∨ 7 ≤ n]
theorem holdNeg : (fun x y n : Int => paths.map fun h => holdO x y (.sint .i64 n) (h ++ [false])) = fun x y n => (obsXY x y).map fun o => some (tNeg n ++ o) := by kernel_rfl
theorem holdPos : (fun x y n : Int => paths.map fun h => holdO x y (.sint .i64 n) (h ++ [true, false])) = fun x y n => (obsXY x y).map fun o => some (tPos n ++ o) := by kernel_rfl
abbrev Fact (x : Int) : Prop := e2 x ∧ (1 ≤ x → e1 x) ∧ (¬ 1 ≤ x → e0 x ∧ blockT x = false ∧ List.beq (nameT x) [] = true) ∧ e4 x ∧ (blockT x = true → e5 x) ∧ R (givesT x) ∧ (List.beq (nameT x) [] = false → 1 ≤ x ∧ x ≤ 12)
theorem facts : allF (fun n => decide (Fact (n : Int))) 0 256 = true := by kernel_rfl
theorem names : allF (fun n => decide ((n / 13 : Nat) ≠ n % 13 → List.beq (nameT ((n / 13 : Nat) : Int)) [] = false → List.beq (nameT ((n / 13 : Nat) : Int)) (nameT ((n % 13 : Nat) : Int)) = false)) 0 169 = true := by kernel_rfl
theorem fact {x : Int} (hx : R x) : Fact x := by
  have := of_decide_eq_true (allF_spec facts x.toNat (by omega) (by have := hx.1; have := hx.2; omega))
  rwa [show ((x.toNat : Nat) : Int) = x by have := hx.1; omega] at this
theorem beq_nil {l : List UInt8} (h : List.beq l [] = true) : l = [] := by
  cases l with
  | nil => rfl
  | cons a r => simp [List.beq] at h
theorem apart {x y : Int} (hx : R x) (hy : R y) (hn : List.beq (nameT x) [] = false) (hxy : x ≠ y) : List.beq (nameT x) (nameT y) = false := by
  obtain ⟨h1, h2⟩ := (fact hx).2.2.2.2.2.2 hn
  cases hb : List.beq (nameT y) [] with
  | true => rw [beq_nil hb]; exact hn
  | false =>
    obtain ⟨h3, h4⟩ := (fact hy).2.2.2.2.2.2 hb
    have h := of_decide_eq_true (allF_spec names (x.toNat * 13 + y.toNat) (by omega) (by omega))
    rw [show (x.toNat * 13 + y.toNat) / 13 = x.toNat by omega, show (x.toNat * 13 + y.toNat) % 13 = y.toNat by omega,
      show ((x.toNat : Nat) : Int) = x by omega, show ((y.toNat : Nat) : Int) = y by omega] at h
    exact h (by omega) hn
theorem allP_app : ∀ {l r : List Prop}, allP l → allP r → allP (l ++ r)
  | [], _, _, h => h
  | _ :: _, _, h, h' => ⟨h.1, allP_app h.2 h'⟩
theorem xy_ok {x y : Int} (hx : R x) (hy : R y) : ∃ (i : Nat) (h : List Bool) (o : List Prop), paths[i]? = some h ∧ (obsXY x y)[i]? = some o ∧ allP o := by
  obtain ⟨f2, f1, f0, f4, f5, fg, fn⟩ := fact hx
  have pS : x = y → allP (oS x y) := fun h => ⟨by simp [h], trivial⟩
  have pE : x ≠ y → List.beq (nameT x) [] = true → allP (oE x y) := fun h h' => ⟨by rw [h']; rfl, hx, by simp [h], trivial⟩
  have pN : x ≠ y → List.beq (nameT x) [] = false → allP (oN x y) := fun h h' => ⟨apart hx hy h' h, hy, hx, by rw [h']; rfl, hx, by simp [h], trivial⟩
  have pF : blockT x = false → allP (oF x) := fun h => ⟨h, hx, f4, hx, hx, trivial⟩
  have pT : blockT x = true → allP (oT x) := fun h => ⟨f5 h, fg, hx, h, hx, f4, hx, hx, trivial⟩
  by_cases h1 : 1 ≤ x
  · have pA : allP (oA x) := ⟨f2, hx, hx, f1 h1, decide_eq_true h1, hx, trivial⟩
    by_cases hxy : x = y
    · cases hb : blockT x with
      | false => exact ⟨2, _, _, rfl, rfl, allP_app (pF hb) (allP_app (pS hxy) pA)⟩
      | true => exact ⟨3, _, _, rfl, rfl, allP_app (pT hb) (allP_app (pS hxy) pA)⟩
    · cases hn : List.beq (nameT x) [] with
      | true => cases hb : blockT x with
        | false => exact ⟨4, _, _, rfl, rfl, allP_app (pF hb) (allP_app (pE hxy hn) pA)⟩
        | true => exact ⟨5, _, _, rfl, rfl, allP_app (pT hb) (allP_app (pE hxy hn) pA)⟩
      | false => cases hb : blockT x with
        | false => exact ⟨6, _, _, rfl, rfl, allP_app (pF hb) (allP_app (pN hxy hn) pA)⟩
        | true => exact ⟨7, _, _, rfl, rfl, allP_app (pT hb) (allP_app (pN hxy hn) pA)⟩
  · obtain ⟨z0, zb, zn⟩ := f0 h1
    have pZ : allP (oZ x) := ⟨f2, hx, hx, z0, decide_eq_false h1, hx, trivial⟩
    by_cases hxy : x = y
    · exact ⟨0, _, _, rfl, rfl, allP_app (pF zb) (allP_app (pS hxy) pZ)⟩
    · exact ⟨1, _, _, rfl, rfl, allP_app (pF zb) (allP_app (pE hxy zn) pZ)⟩
theorem hold_of {x y n : Int} {c : C} {f : List Bool} {l : List Prop} (hn : C.rel [] c (.int .i64 n)) (hr : (paths.map fun h => holdO x y c (h ++ f)) = (obsXY x y).map fun o => some (l ++ o)) (hl : allP l) (hx : R x) (hy : R y) (W : World) :
    Calls Try.prog 7 #[.int .u8 x, .int .u8 y, .int .i64 n] W fun e w' => e = .returned (.bool true) ∧ Below W.heap.size W w' := by
  obtain ⟨i, h, o, hp, ho, ok⟩ := xy_ok hx hy
  have hi := congrArg (fun (q : List (Option (List Prop))) => q[i]?) hr
  simp only [List.getElem?_map, hp, ho, Option.map_some, Option.some.injEq] at hi
  exact law_obs (us := [.int .u8 x, .int .u8 y, .int .i64 n]) tabR_ok hi (allP_app hl ok) (MemRel.nil W) ⟨_, _, rfl, ⟨rfl, rfl⟩, _, _, rfl, ⟨rfl, rfl⟩, _, _, rfl, ⟨hn, rfl⟩, rfl⟩
theorem tl_ok : ∀ {l : List Int}, (∀ a ∈ l, R a) → allP (tl l)
  | [], _ => trivial
  | _ :: _, h => ⟨rfl, h _ (List.mem_cons_self ..), tl_ok fun b hb => h b (List.mem_cons_of_mem _ hb)⟩
theorem hold_calls (x y n : Int) (hx : R x) (hy : R y) (W : World) : Calls Try.prog 7 #[.int .u8 x, .int .u8 y, .int .i64 n] W fun e w' => e = .returned (.bool true) ∧ Below W.heap.size W w' := by
  by_cases h0 : n < 0
  · exact hold_of (c := .sint .i64 n) rfl (congrFun (congrFun (congrFun holdNeg x) y) n) ⟨.inl h0, decide_eq_false (by omega), .inl h0, trivial⟩ hx hy W
  · by_cases h7 : 7 ≤ n
    · exact hold_of (c := .sint .i64 n) rfl (congrFun (congrFun (congrFun holdPos x) y) n) ⟨.inr h7, by simp; omega, decide_eq_true (by omega), .inr h7, trivial⟩ hx hy W
    · have : n = 0 ∨ n = 1 ∨ n = 2 ∨ n = 3 ∨ n = 4 ∨ n = 5 ∨ n = 6 := by omega
      rcases this with rfl | rfl | rfl | rfl | rfl | rfl | rfl
      · exact hold_of (c := .int .i64 0) rfl (congrFun (congrFun hold0 x) y) (tl_ok (by decide)) hx hy W
      · exact hold_of (c := .int .i64 1) rfl (congrFun (congrFun hold1 x) y) (tl_ok (by decide)) hx hy W
      · exact hold_of (c := .int .i64 2) rfl (congrFun (congrFun hold2 x) y) (tl_ok (by decide)) hx hy W
      · exact hold_of (c := .int .i64 3) rfl (congrFun (congrFun hold3 x) y) (tl_ok (by decide)) hx hy W
      · exact hold_of (c := .int .i64 4) rfl (congrFun (congrFun hold4 x) y) (tl_ok (by decide)) hx hy W
      · exact hold_of (c := .int .i64 5) rfl (congrFun (congrFun hold5 x) y) (tl_ok (by decide)) hx hy W
      · exact hold_of (c := .int .i64 6) rfl (congrFun (congrFun hold6 x) y) (tl_ok (by decide)) hx hy W

set_option maxRecDepth 100000 in
theorem itemsHold_lifted (os : Os) (started : os.Started) (H : Type) (enc : TypeId × Value → H) :
    ReturnsInHanded {} Try.checked os 7 .any (Rows.itemsHoldSpec.pre6 enc Try.prog Try.f7 Rows.itemsHoldRow.domain false) (Rows.itemsHoldSpec.post enc Try.prog Try.f7 false true false false) := by
  refine returnsInHanded_of_change (C := Try.checked) own started (by kernel_rfl) Try.func7
    (ChangeSpec.witness6 (enc := enc) (C := Try.checked) false ⟨#[], #[.int .u8 0, .int .u8 0, .int .i64 0], []⟩ 8 (by kernel_rfl) (by kernel_rfl) (by kernel_rfl) (by kernel_rfl)) ?_
  intro W base args ds gs before hval0 hW hcnd _
  have hval : ∀ (j : Nat) t v, Try.f7.params[j]? = some t → args[j]? = some v → Value.okWide Try.prog W .any base t v := hval0
  have hW' := hW
  obtain ⟨p, q, hA0, hV, hbef, hfz, hnd⟩ := hW
  have hA : DataW.TrodAll enc Try.prog W 0 (fun _ => true) true Try.f7.params.toList args.toList ds p := hA0
  rw [Try.params7] at hA hval
  obtain ⟨v0, v1, v2, d0, d1, d2, p0, p1, p2, rfl, rfl, hp, h0, h1, h2⟩ := trodAll_three hA
  obtain ⟨a, rfl, rfl, _, w0⟩ := open_int Try.underlying5 (hval 0 5 v0 rfl rfl) h0
  obtain ⟨b, rfl, rfl, _, w1⟩ := open_int Try.underlying5 (hval 1 5 v1 rfl rfl) h1
  obtain ⟨c, rfl, rfl, _, _⟩ := open_int Try.underlying3 (hval 2 3 v2 rfl rfl) h2
  refine (hold_calls a b c (u8_le w0) (u8_le w1) W).mono fun e W' ⟨he, hb⟩ => ?_
  subst he
  exact ⟨_, rfl, post_law laidOut (by rw [Try.params7]; decide +kernel) rfl rfl (by kernel_rfl) Try.underlying4 hW' hb⟩

theorem itemsHold_holds : Rows.ItemsHoldSaid :=
  OpenClaim.holds_of_wide 7 Try.f7 rfl rfl rfl rfl rfl rfl rfl ⟨rfl, rfl, rfl, rfl, rfl⟩ rfl rfl rfl rfl rfl (by kernel_rfl) Try.func7 (by kernel_rfl)
    (of_decide_eq_true (by kernel_rfl)) (by unfold Func.isWrapper; first | (rw [if_pos (by decide +kernel)]; kernel_rfl) | (rw [if_neg (by decide +kernel)]; exact ⟨rfl, rfl⟩))
    (fun os started H enc _ => itemsHold_lifted os started H enc)
#print axioms itemsHold_holds
end Go.Proofs.Ythhfokjikkmfhaa
