/- CommandBounds is true of any three bytes, and leaves its arguments as they were. -/
import Derived.Test.YtgkhbhddmafakaaBoundsB
namespace Go.Proofs.Ytgkhbhddmafakaa
open Go.ChangeShapes Go.WideShapes Go.ChangeAt Go.RowKit Go.Sx
noncomputable def KB3 : List Item := stopK (runB 24 KB2 (TB2 1 0 0))
def loB (d k : Nat) : Int := match Nat.beq d 2 && Nat.blt k 2, cnt d && Nat.beq k 3 with
  | true, _ => -1
  | _, true => 1
  | _, _ => 0
def hiB (d k : Nat) : Int := match Nat.beq d 2 && Nat.blt k 2, Nat.beq d 11 && Nat.beq k 0, plc2 d && Nat.blt k 2, slt d && Nat.beq k 2, Nat.beq d 9 && Nat.beq k 2, cnt d && Nat.beq k 3 with
  | true, _, _, _, _, _ => 1
  | _, true, _, _, _, _ => 1073741824
  | _, _, true, _, _, _ => 127
  | _, _, _, true, _, _ => 7
  | _, _, _, _, true, _ => 1000
  | _, _, _, _, _, true => 1000
  | _, _, _, _, _, _ => 0
def nB (d k : Nat) : List Int := [-1, 0, 1, loB d k, hiB d k, loB d k - 1, hiB d k + 1]
def TB3 (d k : Nat) (n : Int) : St := ⟨[(6, icb false), (7, icu d), (8, ic (loB d k)), (9, ic (hiB d k)), (10, icb (cnt d)), (13, ic k), (14, ic n)], [], [], []⟩
def FB (d k : Nat) : Nat := [24, 24, 24, 24, 9, 9, 24, 24, 15, 15, 24, 24, 15, 15, 18, 24, 24, 24, 24, 24, 24, 24, 18, 24, 15, 15, 18, 24, 15, 15, 18, 24, 24, 24, 21, 24, 24, 24, 24, 24, 12, 24, 18, 24, 24, 24, 24, 24, 24, 24, 24, 24].getD ((d - 1) * 4 + k) 0
def OB3 (w : Int) : List Prop := [(w.tmod 7).toNat < 7, 0 ≤ w.tmod 7, w.tmod 7 < 7]
def sl1 (x f w : Int) : Slots := [(1, si .u8 f), (2, si .u8 w), (6, icb false), (7, si .u8 (IntKind.wrap .u8 (x.tmod 13 + 1))), (8, ic 0), (9, ic 0)]
def sl2 (d : Nat) (f w : Int) : Slots := [(2, si .u8 w), (6, icb false), (7, icu d), (8, ic 0), (9, ic 0), (10, icb (cnt d)), (11, icb (plc2 d)), (12, icb (slt d)), (13, si .i64 (f.tmod 4))]
def sl3 (d k : Nat) (w : Int) : Slots := [(6, icb false), (7, icu d), (8, ic (loB d k)), (9, ic (hiB d k)), (10, icb (cnt d)), (13, ic k), (14, si .i64 ((nB d k).getD (w.tmod 7).toNat 0))]
noncomputable def st2 (d : Nat) (f w : Int) := stopV [2, 6, 7, 8, 9, 10, 11, 12, 13] [] (runB 8 KB1 (TB1 d f w))
noncomputable def st3 (d k : Nat) (w : Int) := stopV [6, 7, 8, 9, 10, 13, 14] [] (runB (FB d k) KB2 (TB2 d k w))
def ob2 (f : Int) : List Prop := [inK .i64 (f.tmod 4)]
def isO (o : Out) : Bool := match obsO o with
  | some [] => true
  | _ => false
theorem isO_spec {o : Out} (h : isO o = true) : obsO o = some [] := by
  unfold isO at h
  split at h
  · assumption
  · cases h
noncomputable def fin4 (d i : Nat) : Bool := isO (runB 100000 KB3 (TB3 d (i / 7) ((nB d (i / 7)).getD (i % 7) 0)))
theorem b1 : (fun x f w : Int => stopV [1, 2, 6, 7, 8, 9] [] (runB1 6 x f w)) = fun x f w => some (KB1, sl1 x f w, [], []) := by kernel_rfl
theorem b2_1 : (fun f w => st2 1 f w) = fun f w => some (KB2, sl2 1 f w, [], ob2 f) := by kernel_rfl
theorem b2_2 : (fun f w => st2 2 f w) = fun f w => some (KB2, sl2 2 f w, [], ob2 f) := by kernel_rfl
theorem b2_3 : (fun f w => st2 3 f w) = fun f w => some (KB2, sl2 3 f w, [], ob2 f) := by kernel_rfl
theorem b2_4 : (fun f w => st2 4 f w) = fun f w => some (KB2, sl2 4 f w, [], ob2 f) := by kernel_rfl
theorem b2_5 : (fun f w => st2 5 f w) = fun f w => some (KB2, sl2 5 f w, [], ob2 f) := by kernel_rfl
theorem b2_6 : (fun f w => st2 6 f w) = fun f w => some (KB2, sl2 6 f w, [], ob2 f) := by kernel_rfl
theorem b2_7 : (fun f w => st2 7 f w) = fun f w => some (KB2, sl2 7 f w, [], ob2 f) := by kernel_rfl
theorem b2_8 : (fun f w => st2 8 f w) = fun f w => some (KB2, sl2 8 f w, [], ob2 f) := by kernel_rfl
theorem b2_9 : (fun f w => st2 9 f w) = fun f w => some (KB2, sl2 9 f w, [], ob2 f) := by kernel_rfl
theorem b2_10 : (fun f w => st2 10 f w) = fun f w => some (KB2, sl2 10 f w, [], ob2 f) := by kernel_rfl
theorem b2_11 : (fun f w => st2 11 f w) = fun f w => some (KB2, sl2 11 f w, [], ob2 f) := by kernel_rfl
theorem b2_12 : (fun f w => st2 12 f w) = fun f w => some (KB2, sl2 12 f w, [], ob2 f) := by kernel_rfl
theorem b2_13 : (fun f w => st2 13 f w) = fun f w => some (KB2, sl2 13 f w, [], ob2 f) := by kernel_rfl
theorem b3_1_0 : (fun w => st3 1 0 w) = fun w => some (KB3, sl3 1 0 w, [], OB3 w) := by kernel_rfl
theorem b3_1_1 : (fun w => st3 1 1 w) = fun w => some (KB3, sl3 1 1 w, [], OB3 w) := by kernel_rfl
theorem b3_1_2 : (fun w => st3 1 2 w) = fun w => some (KB3, sl3 1 2 w, [], OB3 w) := by kernel_rfl
theorem b3_1_3 : (fun w => st3 1 3 w) = fun w => some (KB3, sl3 1 3 w, [], OB3 w) := by kernel_rfl
theorem b3_2_0 : (fun w => st3 2 0 w) = fun w => some (KB3, sl3 2 0 w, [], OB3 w) := by kernel_rfl
theorem b3_2_1 : (fun w => st3 2 1 w) = fun w => some (KB3, sl3 2 1 w, [], OB3 w) := by kernel_rfl
theorem b3_2_2 : (fun w => st3 2 2 w) = fun w => some (KB3, sl3 2 2 w, [], OB3 w) := by kernel_rfl
theorem b3_2_3 : (fun w => st3 2 3 w) = fun w => some (KB3, sl3 2 3 w, [], OB3 w) := by kernel_rfl
theorem b3_3_0 : (fun w => st3 3 0 w) = fun w => some (KB3, sl3 3 0 w, [], OB3 w) := by kernel_rfl
theorem b3_3_1 : (fun w => st3 3 1 w) = fun w => some (KB3, sl3 3 1 w, [], OB3 w) := by kernel_rfl
theorem b3_3_2 : (fun w => st3 3 2 w) = fun w => some (KB3, sl3 3 2 w, [], OB3 w) := by kernel_rfl
theorem b3_3_3 : (fun w => st3 3 3 w) = fun w => some (KB3, sl3 3 3 w, [], OB3 w) := by kernel_rfl
theorem b3_4_0 : (fun w => st3 4 0 w) = fun w => some (KB3, sl3 4 0 w, [], OB3 w) := by kernel_rfl
theorem b3_4_1 : (fun w => st3 4 1 w) = fun w => some (KB3, sl3 4 1 w, [], OB3 w) := by kernel_rfl
theorem b3_4_2 : (fun w => st3 4 2 w) = fun w => some (KB3, sl3 4 2 w, [], OB3 w) := by kernel_rfl
theorem b3_4_3 : (fun w => st3 4 3 w) = fun w => some (KB3, sl3 4 3 w, [], OB3 w) := by kernel_rfl
theorem b3_5_0 : (fun w => st3 5 0 w) = fun w => some (KB3, sl3 5 0 w, [], OB3 w) := by kernel_rfl
theorem b3_5_1 : (fun w => st3 5 1 w) = fun w => some (KB3, sl3 5 1 w, [], OB3 w) := by kernel_rfl
theorem b3_5_2 : (fun w => st3 5 2 w) = fun w => some (KB3, sl3 5 2 w, [], OB3 w) := by kernel_rfl
theorem b3_5_3 : (fun w => st3 5 3 w) = fun w => some (KB3, sl3 5 3 w, [], OB3 w) := by kernel_rfl
theorem b3_6_0 : (fun w => st3 6 0 w) = fun w => some (KB3, sl3 6 0 w, [], OB3 w) := by kernel_rfl
theorem b3_6_1 : (fun w => st3 6 1 w) = fun w => some (KB3, sl3 6 1 w, [], OB3 w) := by kernel_rfl
theorem b3_6_2 : (fun w => st3 6 2 w) = fun w => some (KB3, sl3 6 2 w, [], OB3 w) := by kernel_rfl
theorem b3_6_3 : (fun w => st3 6 3 w) = fun w => some (KB3, sl3 6 3 w, [], OB3 w) := by kernel_rfl
theorem b3_7_0 : (fun w => st3 7 0 w) = fun w => some (KB3, sl3 7 0 w, [], OB3 w) := by kernel_rfl
theorem b3_7_1 : (fun w => st3 7 1 w) = fun w => some (KB3, sl3 7 1 w, [], OB3 w) := by kernel_rfl
theorem b3_7_2 : (fun w => st3 7 2 w) = fun w => some (KB3, sl3 7 2 w, [], OB3 w) := by kernel_rfl
theorem b3_7_3 : (fun w => st3 7 3 w) = fun w => some (KB3, sl3 7 3 w, [], OB3 w) := by kernel_rfl
theorem b3_8_0 : (fun w => st3 8 0 w) = fun w => some (KB3, sl3 8 0 w, [], OB3 w) := by kernel_rfl
theorem b3_8_1 : (fun w => st3 8 1 w) = fun w => some (KB3, sl3 8 1 w, [], OB3 w) := by kernel_rfl
theorem b3_8_2 : (fun w => st3 8 2 w) = fun w => some (KB3, sl3 8 2 w, [], OB3 w) := by kernel_rfl
theorem b3_8_3 : (fun w => st3 8 3 w) = fun w => some (KB3, sl3 8 3 w, [], OB3 w) := by kernel_rfl
theorem b3_9_0 : (fun w => st3 9 0 w) = fun w => some (KB3, sl3 9 0 w, [], OB3 w) := by kernel_rfl
theorem b3_9_1 : (fun w => st3 9 1 w) = fun w => some (KB3, sl3 9 1 w, [], OB3 w) := by kernel_rfl
theorem b3_9_2 : (fun w => st3 9 2 w) = fun w => some (KB3, sl3 9 2 w, [], OB3 w) := by kernel_rfl
theorem b3_9_3 : (fun w => st3 9 3 w) = fun w => some (KB3, sl3 9 3 w, [], OB3 w) := by kernel_rfl
theorem b3_10_0 : (fun w => st3 10 0 w) = fun w => some (KB3, sl3 10 0 w, [], OB3 w) := by kernel_rfl
theorem b3_10_1 : (fun w => st3 10 1 w) = fun w => some (KB3, sl3 10 1 w, [], OB3 w) := by kernel_rfl
theorem b3_10_2 : (fun w => st3 10 2 w) = fun w => some (KB3, sl3 10 2 w, [], OB3 w) := by kernel_rfl
theorem b3_10_3 : (fun w => st3 10 3 w) = fun w => some (KB3, sl3 10 3 w, [], OB3 w) := by kernel_rfl
theorem b3_11_0 : (fun w => st3 11 0 w) = fun w => some (KB3, sl3 11 0 w, [], OB3 w) := by kernel_rfl
theorem b3_11_1 : (fun w => st3 11 1 w) = fun w => some (KB3, sl3 11 1 w, [], OB3 w) := by kernel_rfl
theorem b3_11_2 : (fun w => st3 11 2 w) = fun w => some (KB3, sl3 11 2 w, [], OB3 w) := by kernel_rfl
theorem b3_11_3 : (fun w => st3 11 3 w) = fun w => some (KB3, sl3 11 3 w, [], OB3 w) := by kernel_rfl
theorem b3_12_0 : (fun w => st3 12 0 w) = fun w => some (KB3, sl3 12 0 w, [], OB3 w) := by kernel_rfl
theorem b3_12_1 : (fun w => st3 12 1 w) = fun w => some (KB3, sl3 12 1 w, [], OB3 w) := by kernel_rfl
theorem b3_12_2 : (fun w => st3 12 2 w) = fun w => some (KB3, sl3 12 2 w, [], OB3 w) := by kernel_rfl
theorem b3_12_3 : (fun w => st3 12 3 w) = fun w => some (KB3, sl3 12 3 w, [], OB3 w) := by kernel_rfl
theorem b3_13_0 : (fun w => st3 13 0 w) = fun w => some (KB3, sl3 13 0 w, [], OB3 w) := by kernel_rfl
theorem b3_13_1 : (fun w => st3 13 1 w) = fun w => some (KB3, sl3 13 1 w, [], OB3 w) := by kernel_rfl
theorem b3_13_2 : (fun w => st3 13 2 w) = fun w => some (KB3, sl3 13 2 w, [], OB3 w) := by kernel_rfl
theorem b3_13_3 : (fun w => st3 13 3 w) = fun w => some (KB3, sl3 13 3 w, [], OB3 w) := by kernel_rfl
theorem b4_1 : allF (fun i => fin4 1 i) 0 28 = true := by kernel_rfl
theorem b4_2 : allF (fun i => fin4 2 i) 0 28 = true := by kernel_rfl
theorem b4_3 : allF (fun i => fin4 3 i) 0 28 = true := by kernel_rfl
theorem b4_4 : allF (fun i => fin4 4 i) 0 28 = true := by kernel_rfl
theorem b4_5 : allF (fun i => fin4 5 i) 0 28 = true := by kernel_rfl
theorem b4_6 : allF (fun i => fin4 6 i) 0 28 = true := by kernel_rfl
theorem b4_7 : allF (fun i => fin4 7 i) 0 28 = true := by kernel_rfl
theorem b4_8 : allF (fun i => fin4 8 i) 0 28 = true := by kernel_rfl
theorem b4_9 : allF (fun i => fin4 9 i) 0 28 = true := by kernel_rfl
theorem b4_10 : allF (fun i => fin4 10 i) 0 28 = true := by kernel_rfl
theorem b4_11 : allF (fun i => fin4 11 i) 0 28 = true := by kernel_rfl
theorem b4_12 : allF (fun i => fin4 12 i) 0 28 = true := by kernel_rfl
theorem b4_13 : allF (fun i => fin4 13 i) 0 28 = true := by kernel_rfl
theorem b2_all (f w : Int) : ∀ d, 1 ≤ d → d ≤ 13 → st2 d f w = some (KB2, sl2 d f w, [], ob2 f)
  | 0, h, _ => absurd h (by omega)
  | 1, _, _ => congrFun (congrFun b2_1 f) w
  | 2, _, _ => congrFun (congrFun b2_2 f) w
  | 3, _, _ => congrFun (congrFun b2_3 f) w
  | 4, _, _ => congrFun (congrFun b2_4 f) w
  | 5, _, _ => congrFun (congrFun b2_5 f) w
  | 6, _, _ => congrFun (congrFun b2_6 f) w
  | 7, _, _ => congrFun (congrFun b2_7 f) w
  | 8, _, _ => congrFun (congrFun b2_8 f) w
  | 9, _, _ => congrFun (congrFun b2_9 f) w
  | 10, _, _ => congrFun (congrFun b2_10 f) w
  | 11, _, _ => congrFun (congrFun b2_11 f) w
  | 12, _, _ => congrFun (congrFun b2_12 f) w
  | 13, _, _ => congrFun (congrFun b2_13 f) w
  | _ + 14, _, h => absurd h (by omega)
theorem b3_all (w : Int) : ∀ d k, 1 ≤ d → d ≤ 13 → k < 4 → st3 d k w = some (KB3, sl3 d k w, [], OB3 w)
  | 0, _, h, _, _ => absurd h (by omega)
  | 1, 0, _, _, _ => congrFun b3_1_0 w
  | 1, 1, _, _, _ => congrFun b3_1_1 w
  | 1, 2, _, _, _ => congrFun b3_1_2 w
  | 1, 3, _, _, _ => congrFun b3_1_3 w
  | 2, 0, _, _, _ => congrFun b3_2_0 w
  | 2, 1, _, _, _ => congrFun b3_2_1 w
  | 2, 2, _, _, _ => congrFun b3_2_2 w
  | 2, 3, _, _, _ => congrFun b3_2_3 w
  | 3, 0, _, _, _ => congrFun b3_3_0 w
  | 3, 1, _, _, _ => congrFun b3_3_1 w
  | 3, 2, _, _, _ => congrFun b3_3_2 w
  | 3, 3, _, _, _ => congrFun b3_3_3 w
  | 4, 0, _, _, _ => congrFun b3_4_0 w
  | 4, 1, _, _, _ => congrFun b3_4_1 w
  | 4, 2, _, _, _ => congrFun b3_4_2 w
  | 4, 3, _, _, _ => congrFun b3_4_3 w
  | 5, 0, _, _, _ => congrFun b3_5_0 w
  | 5, 1, _, _, _ => congrFun b3_5_1 w
  | 5, 2, _, _, _ => congrFun b3_5_2 w
  | 5, 3, _, _, _ => congrFun b3_5_3 w
  | 6, 0, _, _, _ => congrFun b3_6_0 w
  | 6, 1, _, _, _ => congrFun b3_6_1 w
  | 6, 2, _, _, _ => congrFun b3_6_2 w
  | 6, 3, _, _, _ => congrFun b3_6_3 w
  | 7, 0, _, _, _ => congrFun b3_7_0 w
  | 7, 1, _, _, _ => congrFun b3_7_1 w
  | 7, 2, _, _, _ => congrFun b3_7_2 w
  | 7, 3, _, _, _ => congrFun b3_7_3 w
  | 8, 0, _, _, _ => congrFun b3_8_0 w
  | 8, 1, _, _, _ => congrFun b3_8_1 w
  | 8, 2, _, _, _ => congrFun b3_8_2 w
  | 8, 3, _, _, _ => congrFun b3_8_3 w
  | 9, 0, _, _, _ => congrFun b3_9_0 w
  | 9, 1, _, _, _ => congrFun b3_9_1 w
  | 9, 2, _, _, _ => congrFun b3_9_2 w
  | 9, 3, _, _, _ => congrFun b3_9_3 w
  | 10, 0, _, _, _ => congrFun b3_10_0 w
  | 10, 1, _, _, _ => congrFun b3_10_1 w
  | 10, 2, _, _, _ => congrFun b3_10_2 w
  | 10, 3, _, _, _ => congrFun b3_10_3 w
  | 11, 0, _, _, _ => congrFun b3_11_0 w
  | 11, 1, _, _, _ => congrFun b3_11_1 w
  | 11, 2, _, _, _ => congrFun b3_11_2 w
  | 11, 3, _, _, _ => congrFun b3_11_3 w
  | 12, 0, _, _, _ => congrFun b3_12_0 w
  | 12, 1, _, _, _ => congrFun b3_12_1 w
  | 12, 2, _, _, _ => congrFun b3_12_2 w
  | 12, 3, _, _, _ => congrFun b3_12_3 w
  | 13, 0, _, _, _ => congrFun b3_13_0 w
  | 13, 1, _, _, _ => congrFun b3_13_1 w
  | 13, 2, _, _, _ => congrFun b3_13_2 w
  | 13, 3, _, _, _ => congrFun b3_13_3 w
  | 1, _ + 4, _, _, h => absurd h (by omega)
  | 2, _ + 4, _, _, h => absurd h (by omega)
  | 3, _ + 4, _, _, h => absurd h (by omega)
  | 4, _ + 4, _, _, h => absurd h (by omega)
  | 5, _ + 4, _, _, h => absurd h (by omega)
  | 6, _ + 4, _, _, h => absurd h (by omega)
  | 7, _ + 4, _, _, h => absurd h (by omega)
  | 8, _ + 4, _, _, h => absurd h (by omega)
  | 9, _ + 4, _, _, h => absurd h (by omega)
  | 10, _ + 4, _, _, h => absurd h (by omega)
  | 11, _ + 4, _, _, h => absurd h (by omega)
  | 12, _ + 4, _, _, h => absurd h (by omega)
  | 13, _ + 4, _, _, h => absurd h (by omega)
  | _ + 14, _, _, h, _ => absurd h (by omega)
theorem b4_all : ∀ d, 1 ≤ d → d ≤ 13 → allF (fun i => fin4 d i) 0 28 = true
  | 0, h, _ => absurd h (by omega)
  | 1, _, _ => b4_1
  | 2, _, _ => b4_2
  | 3, _, _ => b4_3
  | 4, _, _ => b4_4
  | 5, _, _ => b4_5
  | 6, _, _ => b4_6
  | 7, _, _ => b4_7
  | 8, _, _ => b4_8
  | 9, _, _ => b4_9
  | 10, _, _ => b4_10
  | 11, _, _ => b4_11
  | 12, _, _ => b4_12
  | 13, _, _ => b4_13
  | _ + 14, _, h => absurd h (by omega)
theorem tabY_ok : ∀ f g, tabY f = some g → TabOk Try.prog f g := tabs_ok fun x hx => by
  simp only [List.mem_cons, List.not_mem_nil, or_false] at hx
  subst hx
  exact yes_ok no_tabs awake_run
theorem callY_ok : CallOk Try.prog (callY 8) := callN_sound tabY_ok 8
theorem bodyB_eq : Try.f4.body = some bodyB := by kernel_rfl
abbrev EndB (W : World) : Ending → World → Prop := fun e w' => e = .returned (.bool true) ∧ Below W.heap.size W w'
theorem tmod_lt {x n : Int} (h : 0 ≤ x) (hn : 0 < n) : 0 ≤ x.tmod n ∧ x.tmod n < n := ⟨Int.tmod_nonneg _ h, Int.tmod_lt_of_pos _ hn⟩
theorem commandBounds_calls (x f w : Int) (wx : (Lit.int .u8 x).wf = true) (wf : (Lit.int .u8 f).wf = true) (ww : (Lit.int .u8 w).wf = true) (W : World) :
    Calls Try.prog 4 #[.int .u8 x, .int .u8 f, .int .u8 w] W (EndB W) := by
  have hx := tmod_lt (x := x) (n := 13) (wf_u8 wx).1 (by decide)
  have hf := tmod_lt (x := f) (n := 4) (wf_u8 wf).1 (by decide)
  have hw := tmod_lt (x := w) (n := 7) (wf_u8 ww).1 (by decide)
  obtain ⟨d, hd, hd1, hd2⟩ : ∃ d : Nat, x.tmod 13 + 1 = d ∧ 1 ≤ d ∧ d ≤ 13 := ⟨(x.tmod 13 + 1).toNat, by omega, by omega, by omega⟩
  obtain ⟨k, hk, hk1⟩ : ∃ k : Nat, f.tmod 4 = k ∧ k < 4 := ⟨(f.tmod 4).toNat, by omega, by omega⟩
  obtain ⟨j, hj, hj1⟩ : ∃ j : Nat, w.tmod 7 = j ∧ j < 7 := ⟨(w.tmod 7).toNat, by omega, by omega⟩
  have e8 : IntKind.wrap .u8 (x.tmod 13 + 1) = d := by rw [hd]; exact w8 (by omega) (by omega)
  refine calls_goes (ρ0 := []) (us := [.int .u8 x, .int .u8 f, .int .u8 w]) (args := [si .u8 x, si .u8 f, si .u8 w]) (m := []) (h := []) (ob := []) Try.func4 bodyB_eq (by rw [Try.ntmps4]; simp) (MemRel.nil W)
    ⟨_, _, rfl, ⟨rfl, rfl⟩, _, _, rfl, ⟨rfl, rfl⟩, _, _, rfl, ⟨rfl, rfl⟩, rfl⟩ ?_
  intro ac w0 hrel
  refine goes_stop (ρ0 := []) (r := []) (T := TB1 d f w) callY_ok Try.func4 (congrFun (congrFun (congrFun b1 x) f) w) trivial ⟨by simp, ?_, trivial⟩ ?_ hrel
  · simp [sl1, TB1, leSlots, leV, leV1, leC, si, icb, icu, ic, e8]
  intro ρ' ac w1 hr1
  refine goes_stop (ρ0 := []) (r := []) (T := TB2 d k w) callY_ok Try.func4 (b2_all f w d hd1 hd2) ?_ ⟨by simp, ?_, trivial⟩ ?_ hr1
  · simp [allP, ob2, inK, IntKind.min, IntKind.max, IntKind.signed, IntKind.bits]; omega
  · simp [sl2, TB2, leSlots, leV, leV1, leC, si, icb, icu, ic, hk]
  intro ρ' ac w2 hr2
  refine goes_stop (ρ0 := []) (r := []) (T := TB3 d k ((nB d k).getD j 0)) callY_ok Try.func4 (b3_all w d k hd1 hd2 hk1) ?_ ⟨by simp, ?_, trivial⟩ ?_ hr2
  · simp [allP, OB3]; omega
  · simp [sl3, TB3, leSlots, leV, leV1, leC, si, icb, icu, ic, hj]
  intro ρ' ac w3 hr3
  have h4 := allF_spec (b4_all d hd1 hd2) (k * 7 + j) (by omega) (by omega)
  have e1 : (k * 7 + j) / 7 = k := by omega
  have e2 : (k * 7 + j) % 7 = j := by omega
  simp only [fin4, e1, e2] at h4
  exact goes_true callY_ok Try.func4 (isO_spec h4) trivial (fun w' h => ⟨rfl, h.toBelow⟩) (ρ0 := []) hr3

set_option maxRecDepth 100000 in
theorem commandBounds_lifted (os : Os) (started : os.Started) (H : Type) (enc : TypeId × Value → H) :
    ReturnsInHanded {} Try.checked os 4 .any (Rows.commandBoundsSpec.pre6 enc Try.prog Try.f4 Rows.commandBoundsRow.domain false) (Rows.commandBoundsSpec.post enc Try.prog Try.f4 false true false false) := by
  refine returnsInHanded_of_change (C := Try.checked) own started (by kernel_rfl) Try.func4
    (ChangeSpec.witness6 (enc := enc) (C := Try.checked) false ⟨#[], #[.int .u8 0, .int .u8 0, .int .u8 0], []⟩ 8 (by kernel_rfl) (by kernel_rfl) (by kernel_rfl) (by kernel_rfl)) ?_
  intro W base args ds gs before hval0 hW hcnd _
  have hval : ∀ (j : Nat) t v, Try.f4.params[j]? = some t → args[j]? = some v → Value.okWide Try.prog W .any base t v := hval0
  have hW' := hW
  obtain ⟨p, q, hA0, hV, hbef, hfz, hnd⟩ := hW
  have hA : DataW.TrodAll enc Try.prog W 0 (fun _ => true) true Try.f4.params.toList args.toList ds p := hA0
  rw [Try.params4] at hA hval
  obtain ⟨v0, v1, v2, d0, d1, d2, p0, p1, p2, rfl, rfl, hp, h0, h1, h2⟩ := trodAll_three hA
  obtain ⟨a0, rfl, rfl, _, w0⟩ := open_int Try.underlying5 (hval 0 5 v0 rfl rfl) h0
  obtain ⟨a1, rfl, rfl, _, w1⟩ := open_int Try.underlying5 (hval 1 5 v1 rfl rfl) h1
  obtain ⟨a2, rfl, rfl, _, w2⟩ := open_int Try.underlying5 (hval 2 5 v2 rfl rfl) h2
  refine (commandBounds_calls a0 a1 a2 w0 w1 w2 W).mono fun e W' ⟨he, hb⟩ => ?_
  subst he
  exact ⟨_, rfl, post_law laidOut (by rw [Try.params4]; decide +kernel) rfl rfl (by kernel_rfl) Try.underlying4 hW' hb⟩

theorem commandBounds_holds : Rows.CommandBoundsSaid :=
  OpenClaim.holds_of_wide 4 Try.f4 rfl rfl rfl rfl rfl rfl rfl ⟨rfl, rfl, rfl, rfl, rfl⟩ rfl rfl rfl rfl rfl (by kernel_rfl) Try.func4 (by kernel_rfl)
    (of_decide_eq_true (by kernel_rfl)) (by unfold Func.isWrapper; first | (rw [if_pos (by decide +kernel)]; kernel_rfl) | (rw [if_neg (by decide +kernel)]; exact ⟨rfl, rfl⟩))
    (fun os started H enc _ => commandBounds_lifted os started H enc)
#print axioms commandBounds_holds

end Go.Proofs.Ytgkhbhddmafakaa
