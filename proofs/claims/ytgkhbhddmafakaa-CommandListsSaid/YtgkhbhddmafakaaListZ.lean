/- Several texts in one: ListA, ListB, ListC, ListD, ListP. -/
import Derived.Test.YtgkhbhddmafakaaOrdZ
import Derived.Test.YtgkhbhddmafakaaGetZ
namespace Go.Proofs.Ytgkhbhddmafakaa
section
/- The reader's methods: their runs. -/
open Go.Sx
/-- a reader: bytes, a place in them, whether it has failed -/
def rdr (n c : Nat) (a : Int) (bad : Bool) : SB := ⟨true, .exp [.slice 1 (.c 0) 1 (.s n) (.s c), .sint .i64 a, .sbool bad]⟩
def ptR : V := .v (.one (.ptr 0 (.c 0) 1 0))
def gGetUF (F : GI) : Sx.Loc := fun args bs => match args, bs with
  | [.v (.one (.slice 0 (.c 0) 1 (.s n) (.s _))), .v (.one (.sint .i64 a))], [⟨false, .ints k l⟩] => match decide (k = .u8) with
    | true => some (tupG (F l n a).1 (F l n a).2.1 (F l n a).2.2, [roB l], [n ≤ l.length, n ≤ 1000000000, wfB l])
    | false => none
  | _, _ => none
def tabNm (F : GI) := tabs [(37, loc wantRo (gGetUF F))]
noncomputable def nm (F : GI) (m : Int) (l : List Int) (n c : Nat) (a : Int) (bad : Bool) (h : List Bool) := retV [0, 1] (callN Try.prog (tabNm F) (fun f => Nat.beq f 40) 100000 4 32 [ptR, si .u64 m] [rdr n c a bad, roB l] h)
theorem nm1 : (fun (F : GI) (m : Int) (l : List Int) (n c : Nat) (a : Int) (bad : Bool) => nm F m l n c a bad [false, true]) = fun (F : GI) (m : Int) (l : List Int) (n : Nat) (c : Nat) (a : Int) (bad : Bool) => some (((V.v (V1.one (C.int (IntKind.i64) ((0 : Int))))), ([(SB.mk (true) (Cells.exp [(C.slice ((1 : Nat)) (N.c ((0 : Nat))) ((1 : Nat)) (N.s (n)) (N.s (c))), (C.sint (IntKind.i64) (a)), (C.bool (true))])), (SB.mk (false) (Cells.ints (IntKind.u8) (l)))], [bad = true, decide (Prod.snd (Prod.snd (F l n a)) = (0 : Int)) = false, n ≤ List.length l, n ≤ (1000000000 : Nat), wfB l]))) := by kernel_rfl
theorem nm2 : (fun (F : GI) (m : Int) (l : List Int) (n c : Nat) (a : Int) (bad : Bool) => nm F m l n c a bad [false, false]) = fun (F : GI) (m : Int) (l : List Int) (n : Nat) (c : Nat) (a : Int) (bad : Bool) => some (((V.v (V1.one (C.int (IntKind.i64) ((0 : Int))))), ([(SB.mk (true) (Cells.exp [(C.slice ((1 : Nat)) (N.c ((0 : Nat))) ((1 : Nat)) (N.s (n)) (N.s (c))), (C.sint (IntKind.i64) (a)), (C.bool (true))])), (SB.mk (false) (Cells.ints (IntKind.u8) (l)))], [bad = false, decide (Prod.snd (Prod.snd (F l n a)) = (0 : Int)) = false, n ≤ List.length l, n ≤ (1000000000 : Nat), wfB l]))) := by kernel_rfl
theorem nm3 : (fun (F : GI) (m : Int) (l : List Int) (n c : Nat) (a : Int) (bad : Bool) => nm F m l n c a bad [true, true]) = fun (F : GI) (m : Int) (l : List Int) (n : Nat) (c : Nat) (a : Int) (bad : Bool) => some (((V.v (V1.one (C.int (IntKind.i64) ((0 : Int))))), ([(SB.mk (true) (Cells.exp [(C.slice ((1 : Nat)) (N.c ((0 : Nat))) ((1 : Nat)) (N.s (n)) (N.s (c))), (C.sint (IntKind.i64) (a)), (C.bool (true))])), (SB.mk (false) (Cells.ints (IntKind.u8) (l)))], [bad = true, decide (Prod.snd (Prod.snd (F l n a)) = (0 : Int)) = true, n ≤ List.length l, n ≤ (1000000000 : Nat), wfB l]))) := by kernel_rfl
theorem nm4 : (fun (F : GI) (m : Int) (l : List Int) (n c : Nat) (a : Int) (bad : Bool) => nm F m l n c a bad [true, false, false, true]) = fun (F : GI) (m : Int) (l : List Int) (n : Nat) (c : Nat) (a : Int) (bad : Bool) => some (((V.v (V1.one (C.int (IntKind.i64) ((0 : Int))))), ([(SB.mk (true) (Cells.exp [(C.slice ((1 : Nat)) (N.c ((0 : Nat))) ((1 : Nat)) (N.s (n)) (N.s (c))), (C.sint (IntKind.i64) (a)), (C.sbool (!decide (Prod.fst (F l n a) ≤ m)))])), (SB.mk (false) (Cells.ints (IntKind.u8) (l)))], [(!!!decide (Prod.fst (F l n a) ≤ m)) = true, (!!decide (Prod.fst (F l n a) ≤ m)) = false, bad = false, decide (Prod.snd (Prod.snd (F l n a)) = (0 : Int)) = true, n ≤ List.length l, n ≤ (1000000000 : Nat), wfB l]))) := by kernel_rfl
theorem nm5 : (fun (F : GI) (m : Int) (l : List Int) (n c : Nat) (a : Int) (bad : Bool) => nm F m l n c a bad [true, false, true, false]) = fun (F : GI) (m : Int) (l : List Int) (n : Nat) (c : Nat) (a : Int) (bad : Bool) => some (((V.v (V1.one (C.sint (IntKind.i64) (IntKind.wrap IntKind.i64 (Prod.fst (F l n a)))))), ([(SB.mk (true) (Cells.exp [(C.slice ((1 : Nat)) (N.c ((0 : Nat))) ((1 : Nat)) (N.s (n)) (N.s (c))), (C.sint (IntKind.i64) (Prod.fst (Prod.snd (F l n a)))), (C.sbool (!decide (Prod.fst (F l n a) ≤ m)))])), (SB.mk (false) (Cells.ints (IntKind.u8) (l)))], [(!!!decide (Prod.fst (F l n a) ≤ m)) = false, (!!decide (Prod.fst (F l n a) ≤ m)) = true, bad = false, decide (Prod.snd (Prod.snd (F l n a)) = (0 : Int)) = true, n ≤ List.length l, n ≤ (1000000000 : Nat), wfB l]))) := by kernel_rfl
abbrev GB := List Int → Nat → Int → Int → List Int × Int × Int
abbrev GR := List Int → Nat → Cmd5 × Int
def gGetBF (F : GB) : Sx.Loc := fun args bs => match args, bs with
  | [.v (.one (.slice 0 (.c 0) 1 (.s n) (.s _))), .v (.one (.sint .i64 a)), .v (.one (.sint .i64 m))], [⟨false, .ints k l⟩] => match decide (k = .u8) with
    | true => some (tup3 1 (F l n a m).1.length (F l n a m).2.1 (F l n a m).2.2, [roB l, owB (F l n a m).1], [n ≤ l.length, n ≤ 1000000000, wfB l, i64 m])
    | false => none
  | _, _ => none
def gReadF (F : GR) : Sx.Loc := fun args bs => match args, bs with
  | [.v (.one (.slice 0 (.c 0) 1 (.s n) (.s _)))], [⟨false, .ints k l⟩] => match decide (k = .u8) with
    | true => some (tupC (F l n).1 (F l n).2, [roB l], [n ≤ l.length, n ≤ 1000000000, wfB l])
    | false => none
  | _, _ => none
def tabCm (F : GB) (G : GR) := tabs [(41, loc wantRo (gGetBF F)), (13, loc wantRo (gReadF G))]
noncomputable def cm (F : GB) (G : GR) (l : List Int) (n c : Nat) (a : Int) (bad : Bool) (h : List Bool) := retV [0, 1] (callN Try.prog (tabCm F G) (fun f => Nat.beq f 40) 100000 4 33 [ptR] [rdr n c a bad, roB l] h)
theorem cm1 : (fun (F : GB) (G : GR) (l : List Int) (n c : Nat) (a : Int) (bad : Bool) => cm F G l n c a bad [false, true]) = fun (F : GB) (G : GR) (l : List Int) (n : Nat) (c : Nat) (a : Int) (bad : Bool) => some (((V.v (V1.agg [(C.sint (IntKind.u8) (Cmd5.d (Prod.fst (G (Prod.fst (F l n a (100 : Int))) (List.length (Prod.fst (F l n a (100 : Int)))))))), (C.sint (IntKind.i64) (Cmd5.A (Prod.fst (G (Prod.fst (F l n a (100 : Int))) (List.length (Prod.fst (F l n a (100 : Int)))))))), (C.sint (IntKind.i64) (Cmd5.B (Prod.fst (G (Prod.fst (F l n a (100 : Int))) (List.length (Prod.fst (F l n a (100 : Int)))))))), (C.sint (IntKind.i64) (Cmd5.C (Prod.fst (G (Prod.fst (F l n a (100 : Int))) (List.length (Prod.fst (F l n a (100 : Int)))))))), (C.sint (IntKind.i64) (Cmd5.N (Prod.fst (G (Prod.fst (F l n a (100 : Int))) (List.length (Prod.fst (F l n a (100 : Int))))))))])), ([(SB.mk (true) (Cells.exp [(C.slice ((1 : Nat)) (N.c ((0 : Nat))) ((1 : Nat)) (N.s (n)) (N.s (c))), (C.sint (IntKind.i64) (a)), (C.bool (true))])), (SB.mk (false) (Cells.ints (IntKind.u8) (l)))], [bad = true, decide (Prod.snd (Prod.snd (F l n a (100 : Int))) = (0 : Int)) = false, List.length (Prod.fst (F l n a (100 : Int))) ≤ List.length (Prod.fst (F l n a (100 : Int))), List.length (Prod.fst (F l n a (100 : Int))) ≤ (1000000000 : Nat), wfB (Prod.fst (F l n a (100 : Int))), n ≤ List.length l, n ≤ (1000000000 : Nat), wfB l, i64 (100 : Int)]))) := by kernel_rfl
theorem cm2 : (fun (F : GB) (G : GR) (l : List Int) (n c : Nat) (a : Int) (bad : Bool) => cm F G l n c a bad [false, false]) = fun (F : GB) (G : GR) (l : List Int) (n : Nat) (c : Nat) (a : Int) (bad : Bool) => some (((V.v (V1.agg [(C.sint (IntKind.u8) (Cmd5.d (Prod.fst (G (Prod.fst (F l n a (100 : Int))) (List.length (Prod.fst (F l n a (100 : Int)))))))), (C.sint (IntKind.i64) (Cmd5.A (Prod.fst (G (Prod.fst (F l n a (100 : Int))) (List.length (Prod.fst (F l n a (100 : Int)))))))), (C.sint (IntKind.i64) (Cmd5.B (Prod.fst (G (Prod.fst (F l n a (100 : Int))) (List.length (Prod.fst (F l n a (100 : Int)))))))), (C.sint (IntKind.i64) (Cmd5.C (Prod.fst (G (Prod.fst (F l n a (100 : Int))) (List.length (Prod.fst (F l n a (100 : Int)))))))), (C.sint (IntKind.i64) (Cmd5.N (Prod.fst (G (Prod.fst (F l n a (100 : Int))) (List.length (Prod.fst (F l n a (100 : Int))))))))])), ([(SB.mk (true) (Cells.exp [(C.slice ((1 : Nat)) (N.c ((0 : Nat))) ((1 : Nat)) (N.s (n)) (N.s (c))), (C.sint (IntKind.i64) (a)), (C.bool (true))])), (SB.mk (false) (Cells.ints (IntKind.u8) (l)))], [bad = false, decide (Prod.snd (Prod.snd (F l n a (100 : Int))) = (0 : Int)) = false, List.length (Prod.fst (F l n a (100 : Int))) ≤ List.length (Prod.fst (F l n a (100 : Int))), List.length (Prod.fst (F l n a (100 : Int))) ≤ (1000000000 : Nat), wfB (Prod.fst (F l n a (100 : Int))), n ≤ List.length l, n ≤ (1000000000 : Nat), wfB l, i64 (100 : Int)]))) := by kernel_rfl
theorem cm3 : (fun (F : GB) (G : GR) (l : List Int) (n c : Nat) (a : Int) (bad : Bool) => cm F G l n c a bad [true, true]) = fun (F : GB) (G : GR) (l : List Int) (n : Nat) (c : Nat) (a : Int) (bad : Bool) => some (((V.v (V1.agg [(C.sint (IntKind.u8) (Cmd5.d (Prod.fst (G (Prod.fst (F l n a (100 : Int))) (List.length (Prod.fst (F l n a (100 : Int)))))))), (C.sint (IntKind.i64) (Cmd5.A (Prod.fst (G (Prod.fst (F l n a (100 : Int))) (List.length (Prod.fst (F l n a (100 : Int)))))))), (C.sint (IntKind.i64) (Cmd5.B (Prod.fst (G (Prod.fst (F l n a (100 : Int))) (List.length (Prod.fst (F l n a (100 : Int)))))))), (C.sint (IntKind.i64) (Cmd5.C (Prod.fst (G (Prod.fst (F l n a (100 : Int))) (List.length (Prod.fst (F l n a (100 : Int)))))))), (C.sint (IntKind.i64) (Cmd5.N (Prod.fst (G (Prod.fst (F l n a (100 : Int))) (List.length (Prod.fst (F l n a (100 : Int))))))))])), ([(SB.mk (true) (Cells.exp [(C.slice ((1 : Nat)) (N.c ((0 : Nat))) ((1 : Nat)) (N.s (n)) (N.s (c))), (C.sint (IntKind.i64) (a)), (C.bool (true))])), (SB.mk (false) (Cells.ints (IntKind.u8) (l)))], [bad = true, decide (Prod.snd (Prod.snd (F l n a (100 : Int))) = (0 : Int)) = true, List.length (Prod.fst (F l n a (100 : Int))) ≤ List.length (Prod.fst (F l n a (100 : Int))), List.length (Prod.fst (F l n a (100 : Int))) ≤ (1000000000 : Nat), wfB (Prod.fst (F l n a (100 : Int))), n ≤ List.length l, n ≤ (1000000000 : Nat), wfB l, i64 (100 : Int)]))) := by kernel_rfl
theorem cm4 : (fun (F : GB) (G : GR) (l : List Int) (n c : Nat) (a : Int) (bad : Bool) => cm F G l n c a bad [true, false, false]) = fun (F : GB) (G : GR) (l : List Int) (n : Nat) (c : Nat) (a : Int) (bad : Bool) => some (((V.v (V1.agg [(C.sint (IntKind.u8) (Cmd5.d (Prod.fst (G (Prod.fst (F l n a (100 : Int))) (List.length (Prod.fst (F l n a (100 : Int)))))))), (C.sint (IntKind.i64) (Cmd5.A (Prod.fst (G (Prod.fst (F l n a (100 : Int))) (List.length (Prod.fst (F l n a (100 : Int)))))))), (C.sint (IntKind.i64) (Cmd5.B (Prod.fst (G (Prod.fst (F l n a (100 : Int))) (List.length (Prod.fst (F l n a (100 : Int)))))))), (C.sint (IntKind.i64) (Cmd5.C (Prod.fst (G (Prod.fst (F l n a (100 : Int))) (List.length (Prod.fst (F l n a (100 : Int)))))))), (C.sint (IntKind.i64) (Cmd5.N (Prod.fst (G (Prod.fst (F l n a (100 : Int))) (List.length (Prod.fst (F l n a (100 : Int))))))))])), ([(SB.mk (true) (Cells.exp [(C.slice ((1 : Nat)) (N.c ((0 : Nat))) ((1 : Nat)) (N.s (n)) (N.s (c))), (C.sint (IntKind.i64) (a)), (C.sbool (!decide (Prod.snd (G (Prod.fst (F l n a (100 : Int))) (List.length (Prod.fst (F l n a (100 : Int))))) = (0 : Int))))])), (SB.mk (false) (Cells.ints (IntKind.u8) (l)))], [(!!decide (Prod.snd (G (Prod.fst (F l n a (100 : Int))) (List.length (Prod.fst (F l n a (100 : Int))))) = (0 : Int))) = false, bad = false, decide (Prod.snd (Prod.snd (F l n a (100 : Int))) = (0 : Int)) = true, List.length (Prod.fst (F l n a (100 : Int))) ≤ List.length (Prod.fst (F l n a (100 : Int))), List.length (Prod.fst (F l n a (100 : Int))) ≤ (1000000000 : Nat), wfB (Prod.fst (F l n a (100 : Int))), n ≤ List.length l, n ≤ (1000000000 : Nat), wfB l, i64 (100 : Int)]))) := by kernel_rfl
theorem cm5 : (fun (F : GB) (G : GR) (l : List Int) (n c : Nat) (a : Int) (bad : Bool) => cm F G l n c a bad [true, false, true]) = fun (F : GB) (G : GR) (l : List Int) (n : Nat) (c : Nat) (a : Int) (bad : Bool) => some (((V.v (V1.agg [(C.sint (IntKind.u8) (Cmd5.d (Prod.fst (G (Prod.fst (F l n a (100 : Int))) (List.length (Prod.fst (F l n a (100 : Int)))))))), (C.sint (IntKind.i64) (Cmd5.A (Prod.fst (G (Prod.fst (F l n a (100 : Int))) (List.length (Prod.fst (F l n a (100 : Int)))))))), (C.sint (IntKind.i64) (Cmd5.B (Prod.fst (G (Prod.fst (F l n a (100 : Int))) (List.length (Prod.fst (F l n a (100 : Int)))))))), (C.sint (IntKind.i64) (Cmd5.C (Prod.fst (G (Prod.fst (F l n a (100 : Int))) (List.length (Prod.fst (F l n a (100 : Int)))))))), (C.sint (IntKind.i64) (Cmd5.N (Prod.fst (G (Prod.fst (F l n a (100 : Int))) (List.length (Prod.fst (F l n a (100 : Int))))))))])), ([(SB.mk (true) (Cells.exp [(C.slice ((1 : Nat)) (N.c ((0 : Nat))) ((1 : Nat)) (N.s (n)) (N.s (c))), (C.sint (IntKind.i64) (Prod.fst (Prod.snd (F l n a (100 : Int))))), (C.sbool (!decide (Prod.snd (G (Prod.fst (F l n a (100 : Int))) (List.length (Prod.fst (F l n a (100 : Int))))) = (0 : Int))))])), (SB.mk (false) (Cells.ints (IntKind.u8) (l)))], [(!!decide (Prod.snd (G (Prod.fst (F l n a (100 : Int))) (List.length (Prod.fst (F l n a (100 : Int))))) = (0 : Int))) = true, bad = false, decide (Prod.snd (Prod.snd (F l n a (100 : Int))) = (0 : Int)) = true, List.length (Prod.fst (F l n a (100 : Int))) ≤ List.length (Prod.fst (F l n a (100 : Int))), List.length (Prod.fst (F l n a (100 : Int))) ≤ (1000000000 : Nat), wfB (Prod.fst (F l n a (100 : Int))), n ≤ List.length l, n ≤ (1000000000 : Nat), wfB l, i64 (100 : Int)]))) := by kernel_rfl
end
section
/- The reader's methods: the contracts. -/
open Go.ChangeShapes Go.WideShapes Go.ChangeAt Go.RowKit Go.Sx
theorem works_le2 {f : FuncId} {args : List V} {s0 t0 s1 : SB} {v : V} {bs' : List SB} (h : Works Try.prog f args [t0, s1] v bs') (h0 : leB [0, 1] s0 t0) (h1 : leB [0, 1] s1 s1) : Works Try.prog f args [s0, s1] v bs' := by
  intro ρ K w us hm hu
  have hl := hm.len
  have hrel : Rel ρ K w 0 ⟨[], [s0, s1], [], []⟩ { tmps := #[], defers := [] } w := ⟨⟨rfl, rfl, fun t v h => by cases h⟩, hm⟩
  obtain ⟨ρ2, hs, hr2⟩ := hrel.le (sel := [0, 1]) (T := ⟨[], [t0, s1], [], []⟩) ⟨by decide, trivial, ⟨⟨s0, rfl, h0⟩, ⟨s1, rfl, h1⟩, trivial⟩⟩
  have e : ρ2 = ρ := by
    have l2 := hs.len
    refine List.ext_getElem? fun i => ?_
    by_cases hi : i < 2
    · exact hs.get i i (by have : i = 0 ∨ i = 1 := by omega
                           rcases this with rfl | rfl <;> rfl)
    · rw [List.getElem?_eq_none (by rw [l2]; simp; omega), List.getElem?_eq_none (by rw [hl]; simp; omega)]
  subst e
  exact h ρ2 K w us hr2.m hu
/-- a number is read: the number, the place, whether it has failed -/
def numS (l : List Int) (n : Nat) (a : Int) (bad : Bool) (m : Int) : Int × Int × Bool :=
  let ok := decide ((getU l n a).2.2 = 0) && decide ((getU l n a).1 ≤ m)
  (if bad || !ok then 0 else (getU l n a).1, if bad || !ok then a else (getU l n a).2.1, bad || !ok)
def read2 (l : List Int) (n : Nat) : Cmd5 × Int := (readC l n, readE l n)
def blobC (l : List Int) (n : Nat) (a : Int) : Cmd5 × Int := read2 (getB l n a 100).1 (getB l n a 100).1.length
/-- a command is read -/
def comS (l : List Int) (n : Nat) (a : Int) (bad : Bool) : Cmd5 × Int × Bool :=
  let ok := decide ((getB l n a 100).2.2 = 0) && decide ((blobC l n a).2 = 0)
  ((blobC l n a).1, if bad || !ok then a else (getB l n a 100).2.1, bad || !ok)
theorem getUF_tab : TabOk Try.prog 37 (loc wantRo (gGetUF getU)) := loc_ok fun xs bs v bs' ob hg hob hokb => by
  unfold gGetUF at hg
  split at hg
  · rename_i n c a k l
    split at hg
    · rename_i hk
      injection hg with hg; injection hg with e1 e2; injection e2 with e2 e3
      subst e1; subst e2; subst e3
      have hk' : k = .u8 := of_decide_eq_true hk
      subst hk'
      exact get_works l n c a (hob _ (by simp)) (hob (n ≤ 1000000000) (by simp)) (hob (wfB l) (by simp))
    · cases hg
  · cases hg
theorem getBF_tab : TabOk Try.prog 41 (loc wantRo (gGetBF getB)) := loc_ok fun xs bs v bs' ob hg hob hokb => by
  unfold gGetBF at hg
  split at hg
  · rename_i n c a m k l
    split at hg
    · rename_i hk
      injection hg with hg; injection hg with e1 e2; injection e2 with e2 e3
      subst e1; subst e2; subst e3
      have hk' : k = .u8 := of_decide_eq_true hk
      subst hk'
      exact getb_works l n c a m (hob _ (by simp)) (hob (n ≤ 1000000000) (by simp)) (hob (wfB l) (by simp)) (hob (i64 m) (by simp))
    · cases hg
  · cases hg
theorem readF_tab : TabOk Try.prog 13 (loc wantRo (gReadF read2)) := loc_ok fun xs bs v bs' ob hg hob hokb => by
  unfold gReadF at hg
  split at hg
  · rename_i n c k l
    split at hg
    · rename_i hk
      injection hg with hg; injection hg with e1 e2; injection e2 with e2 e3
      subst e1; subst e2; subst e3
      have hk' : k = .u8 := of_decide_eq_true hk
      subst hk'
      exact read_works l n c (hob _ (by simp)) (hob (n ≤ 1000000000) (by simp)) (hob (wfB l) (by simp))
    · cases hg
  · cases hg
theorem tabNm_ok : ∀ f g, tabNm getU f = some g → TabOk Try.prog f g := tabs_ok fun x hx => by
  simp only [List.mem_cons, List.not_mem_nil, or_false] at hx
  rcases hx with rfl
  exact getUF_tab
theorem tabCm_ok : ∀ f g, tabCm getB read2 f = some g → TabOk Try.prog f g := tabs_ok fun x hx => by
  simp only [List.mem_cons, List.not_mem_nil, or_false] at hx
  rcases hx with rfl | rfl
  · exact getBF_tab
  · exact readF_tab
theorem nd2L : (List.range 2 ++ ([] : List Nat)).Nodup := by decide
theorem rdr_le {n c : Nat} {a : Int} {b b' : Bool} {l : List Int} (hc : n ≤ c) {y : Sx.C} (hy : leC [0, 1] y (.sbool b')) : leBs [0, 1] [⟨true, .exp [.slice 1 (.c 0) 1 (.s n) (.s c), .sint .i64 a, y]⟩, ⟨false, .ints .u8 l⟩] [rdr n c a b', roB l] :=
  ⟨⟨fun h => h, ⟨rfl, rfl, rfl, rfl, Nat.le_refl _, hc⟩, ⟨rfl, rfl⟩, hy, trivial⟩, ⟨fun h => h, rfl, rfl⟩, trivial⟩
theorem number_works (l : List Int) (n c : Nat) (a m : Int) (bad : Bool) (hc : n ≤ c) (hn : n ≤ l.length) (hx : n ≤ 1000000000) (hw : wfB l) (hm : m ≤ 9223372036854775807) :
    Works Try.prog 32 [ptR, si .u64 m] [rdr n c a bad, roB l] (si .i64 (numS l n a bad m).1) [rdr n c (numS l n a bad m).2.1 (numS l n a bad m).2.2, roB l] := by
  have hr := getU_range hw n a
  have app : ∀ {A : Type} {f g : GI → Int → List Int → Nat → Nat → Int → Bool → A}, f = g → f getU m l n c a bad = g getU m l n c a bad := fun hh => by rw [hh]
  by_cases he : (getU l n a).2.2 = 0
  · have d1 : decide ((getU l n a).2.2 = 0) = true := decide_eq_true he
    cases bad with
    | true =>
      have e : numS l n a true m = (0, a, true) := by simp [numS]
      rw [e]
      exact works_of (r := []) tabNm_ok (app nm3) ⟨rfl, d1, hn, hx, hw, trivial⟩ nd2L ⟨rfl, rfl⟩ (rdr_le hc (b := true) rfl)
    | false =>
      by_cases hv : (getU l n a).1 ≤ m
      · have e : numS l n a false m = ((getU l n a).1, (getU l n a).2.1, false) := by simp [numS, he, hv]
        rw [e]
        have q := app nm5
        rw [decide_eq_true hv, wi64 (n := (getU l n a).1) (by omega) (by omega)] at q
        exact works_of (r := []) tabNm_ok q ⟨rfl, rfl, rfl, d1, hn, hx, hw, trivial⟩ nd2L ⟨rfl, rfl⟩ (rdr_le hc (b := true) rfl)
      · have e : numS l n a false m = (0, a, true) := by simp [numS, he, hv]
        rw [e]
        have q := app nm4
        rw [decide_eq_false hv] at q
        exact works_of (r := []) tabNm_ok q ⟨rfl, rfl, rfl, d1, hn, hx, hw, trivial⟩ nd2L ⟨rfl, rfl⟩ (rdr_le hc (b := true) rfl)
  · have d1 : decide ((getU l n a).2.2 = 0) = false := decide_eq_false he
    have e : numS l n a bad m = (0, a, true) := by simp [numS, he]
    rw [e]
    cases bad with
    | true => exact works_of (r := []) tabNm_ok (app nm1) ⟨rfl, d1, hn, hx, hw, trivial⟩ nd2L ⟨rfl, rfl⟩ (rdr_le hc (b := true) rfl)
    | false => exact works_of (r := []) tabNm_ok (app nm2) ⟨rfl, d1, hn, hx, hw, trivial⟩ nd2L ⟨rfl, rfl⟩ (rdr_le hc (b := true) rfl)
def aggC (x : Cmd5) : V := .v (.agg [.sint .u8 x.d, .sint .i64 x.A, .sint .i64 x.B, .sint .i64 x.C, .sint .i64 x.N])
theorem getB_wf {l : List Int} (hw : wfB l) (n : Nat) (a m : Int) : wfB (getB l n a m).1 := by
  unfold getB
  split
  · exact fun x hx => by simp at hx
  · split
    · exact fun x hx => by simp at hx
    · split
      · exact fun x hx => by simp at hx
      · exact fun x hx => hw x (List.mem_of_mem_drop (List.mem_of_mem_take hx))
theorem getB_len {l : List Int} (n : Nat) (a m : Int) (hl : l.length ≤ 1000000000) : (getB l n a m).1.length ≤ 1000000000 := by
  unfold getB
  split
  · simp
  · split
    · simp
    · split
      · simp
      · simp only [List.length_take, List.length_drop]; omega
theorem command_works (l : List Int) (n c : Nat) (a : Int) (bad : Bool) (hc : n ≤ c) (hn : n ≤ l.length) (hx : n ≤ 1000000000) (hl : l.length ≤ 1000000000) (hw : wfB l) :
    Works Try.prog 33 [ptR] [rdr n c a bad, roB l] (aggC (comS l n a bad).1) [rdr n c (comS l n a bad).2.1 (comS l n a bad).2.2, roB l] := by
  have app : ∀ {A : Type} {f g : GB → GR → List Int → Nat → Nat → Int → Bool → A}, f = g → f getB read2 l n c a bad = g getB read2 l n c a bad := fun hh => by rw [hh]
  have hi : i64 100 := ⟨by decide, by decide⟩
  have hbw := getB_wf hw n a 100
  have hbl := getB_len (l := l) n a 100 hl
  have hle : leV (List.range 2 ++ []) (aggC (read2 (getB l n a 100).1 (getB l n a 100).1.length).1) (aggC (comS l n a bad).1) := ⟨⟨rfl, rfl⟩, ⟨rfl, rfl⟩, ⟨rfl, rfl⟩, ⟨rfl, rfl⟩, ⟨rfl, rfl⟩, trivial⟩
  by_cases he : (getB l n a 100).2.2 = 0
  · have d1 : decide ((getB l n a 100).2.2 = 0) = true := decide_eq_true he
    cases bad with
    | true =>
      have e1 : (comS l n a true).2.1 = a := by simp [comS]
      have e2 : (comS l n a true).2.2 = true := by simp [comS]
      rw [e1, e2]
      exact works_of (r := []) tabCm_ok (app cm3) ⟨rfl, d1, Nat.le_refl _, hbl, hbw, hn, hx, hw, hi, trivial⟩ nd2L hle (rdr_le hc (b := true) rfl)
    | false =>
      by_cases hv : (blobC l n a).2 = 0
      · have e1 : (comS l n a false).2.1 = (getB l n a 100).2.1 := by simp [comS, he, hv]
        have e2 : (comS l n a false).2.2 = false := by simp [comS, he, hv]
        rw [e1, e2]
        have q := app cm5
        have hv' : decide ((read2 (getB l n a 100).1 (getB l n a 100).1.length).2 = 0) = true := decide_eq_true hv
        rw [hv'] at q
        exact works_of (r := []) tabCm_ok q ⟨rfl, rfl, d1, Nat.le_refl _, hbl, hbw, hn, hx, hw, hi, trivial⟩ nd2L hle (rdr_le hc (b := true) rfl)
      · have e1 : (comS l n a false).2.1 = a := by simp [comS, he, hv]
        have e2 : (comS l n a false).2.2 = true := by simp [comS, he, hv]
        rw [e1, e2]
        have q := app cm4
        have hv' : decide ((read2 (getB l n a 100).1 (getB l n a 100).1.length).2 = 0) = false := decide_eq_false hv
        rw [hv'] at q
        exact works_of (r := []) tabCm_ok q ⟨rfl, rfl, d1, Nat.le_refl _, hbl, hbw, hn, hx, hw, hi, trivial⟩ nd2L hle (rdr_le hc (b := true) rfl)
  · have d1 : decide ((getB l n a 100).2.2 = 0) = false := decide_eq_false he
    have e1 : (comS l n a bad).2.1 = a := by simp [comS, he]
    have e2 : (comS l n a bad).2.2 = true := by simp [comS, he]
    rw [e1, e2]
    cases bad with
    | true => exact works_of (r := []) tabCm_ok (app cm1) ⟨rfl, d1, Nat.le_refl _, hbl, hbw, hn, hx, hw, hi, trivial⟩ nd2L hle (rdr_le hc (b := true) rfl)
    | false => exact works_of (r := []) tabCm_ok (app cm2) ⟨rfl, d1, Nat.le_refl _, hbl, hbw, hn, hx, hw, hi, trivial⟩ nd2L hle (rdr_le hc (b := true) rfl)
def cI : Sx.C → Option Int
  | .int .i64 n => some n
  | .sint .i64 n => some n
  | _ => none
def cB : Sx.C → Option Bool
  | .bool b => some b
  | .sbool b => some b
  | _ => none
theorem cI_le {x : Sx.C} {a : Int} (h : cI x = some a) : leC [0, 1] x (.sint .i64 a) := by
  unfold cI at h
  split at h
  · injection h with h; exact ⟨rfl, h⟩
  · injection h with h; exact ⟨rfl, h⟩
  · cases h
theorem cB_le {x : Sx.C} {b : Bool} (h : cB x = some b) : leC [0, 1] x (.sbool b) := by
  unfold cB at h
  split at h
  · cases h; rfl
  · cases h; rfl
  · cases h
abbrev NumF := List Int → Nat → Int → Bool → Int → Int × Int × Bool
abbrev ComF := List Int → Nat → Int → Bool → Cmd5 × Int × Bool
def gNum (F : NumF) : Sx.Loc := fun args bs => match args, bs with
  | [.v (.one (.ptr 0 (.c 0) 1 0)), .v (.one (.sint .u64 m))], [⟨true, .exp [.slice 1 (.c 0) 1 nn cc, x, y]⟩, ⟨false, .ints k l⟩] => match decide (k = .u8), cI x, cB y with
    | true, some a, some bad => some (si .i64 (F l nn.v a bad m).1, [rdr nn.v cc.v (F l nn.v a bad m).2.1 (F l nn.v a bad m).2.2, roB l], [nn.v ≤ cc.v, nn.v ≤ l.length, nn.v ≤ 1000000000, wfB l, m ≤ 9223372036854775807])
    | _, _, _ => none
  | _, _ => none
def gCom (F : ComF) : Sx.Loc := fun args bs => match args, bs with
  | [.v (.one (.ptr 0 (.c 0) 1 0))], [⟨true, .exp [.slice 1 (.c 0) 1 nn cc, x, y]⟩, ⟨false, .ints k l⟩] => match decide (k = .u8), cI x, cB y with
    | true, some a, some bad => some (aggC (F l nn.v a bad).1, [rdr nn.v cc.v (F l nn.v a bad).2.1 (F l nn.v a bad).2.2, roB l], [nn.v ≤ cc.v, nn.v ≤ l.length, nn.v ≤ 1000000000, l.length ≤ 1000000000, wfB l])
    | _, _, _ => none
  | _, _ => none
def wantRd : List V → List Want := fun _ => [(true, .any), (false, .ints .u8)]
theorem num_tab : TabOk Try.prog 32 (loc wantRd (gNum numS)) := loc_ok fun xs bs v bs' ob hg hob hokb => by
  unfold gNum at hg
  split at hg
  · rename_i m nn cc x y k l
    split at hg
    · rename_i a bad hk ha hb
      injection hg with hg; injection hg with e1 e2; injection e2 with e2 e3
      subst e1; subst e2; subst e3
      have hk' : k = .u8 := of_decide_eq_true hk
      subst hk'
      have hc := hob (nn.v ≤ cc.v) (by simp)
      exact works_le2 (number_works l nn.v cc.v a m bad hc (hob (nn.v ≤ l.length) (by simp)) (hob (nn.v ≤ 1000000000) (by simp)) (hob (wfB l) (by simp)) (hob (m ≤ 9223372036854775807) (by simp)))
        ⟨fun h => h, ⟨rfl, rfl, rfl, rfl, Nat.le_refl _, hc⟩, cI_le ha, cB_le hb, trivial⟩ ⟨fun h => h, rfl, rfl⟩
    · cases hg
  · cases hg
theorem com_tab : TabOk Try.prog 33 (loc wantRd (gCom comS)) := loc_ok fun xs bs v bs' ob hg hob hokb => by
  unfold gCom at hg
  split at hg
  · rename_i nn cc x y k l
    split at hg
    · rename_i a bad hk ha hb
      injection hg with hg; injection hg with e1 e2; injection e2 with e2 e3
      subst e1; subst e2; subst e3
      have hk' : k = .u8 := of_decide_eq_true hk
      subst hk'
      have hc := hob (nn.v ≤ cc.v) (by simp)
      exact works_le2 (command_works l nn.v cc.v a bad hc (hob (nn.v ≤ l.length) (by simp)) (hob (nn.v ≤ 1000000000) (by simp)) (hob (l.length ≤ 1000000000) (by simp)) (hob (wfB l) (by simp)))
        ⟨fun h => h, ⟨rfl, rfl, rfl, rfl, Nat.le_refl _, hc⟩, cI_le ha, cB_le hb, trivial⟩ ⟨fun h => h, rfl, rfl⟩
    · cases hg
  · cases hg
end
section
/- command.Listed: its runs. -/
open Go.Sx
def effL : FuncId → Bool := fun f => Nat.beq f 32 || Nat.beq f 33
def tabLi (F : NumF) (G : ComF) := tabs [(32, loc wantRd (gNum F)), (33, loc wantRd (gCom G))]
noncomputable def callLi (F : NumF) (G : ComF) (d : Nat) := callN Try.prog (tabLi F G) effL 100000 d
noncomputable def LL := loopN Try.prog 17 0
noncomputable def EL : List Item := .code (.loop LL.1) :: LL.2
noncomputable def KL : List Item := .inLoop LL.1 :: LL.2
noncomputable def FL : Go.Func := match Try.prog.funcs[17]? with | some fn => fn | none => default
def rdL (n c : Nat) (a : Int) (bad : Bool) : SB := ⟨true, .exp [.slice 0 (.c 0) 1 (.s n) (.s c), .sint .i64 a, .sbool bad]⟩
def rwL (l : List (List Int)) : SB := ⟨true, .recs ksO l⟩
def T0L (l : List Int) (n c : Nat) (a : Int) (bad : Bool) (k : Int) (h : List Bool) : St := ⟨[(0, bsl 0 n c), (4, .v (.one (.ptr 1 (.c 0) 1 0))), (5, .v (.one .nils)), (6, si .i64 k)], [roB l, rdL n c a bad], h, []⟩
def T1L (l : List Int) (n c : Nat) (a : Int) (bad : Bool) (k : Int) (out : List (List Int)) (h : List Bool) : St := ⟨[(0, bsl 0 n c), (4, .v (.one (.ptr 1 (.c 0) 1 0))), (5, slO 2 out.length out.length), (6, si .i64 k)], [roB l, rdL n c a bad, rwL out], h, []⟩
noncomputable def rnd0L (F : NumF) (G : ComF) (lim : Nat) (h : List Bool) (l : List Int) (n c : Nat) (a : Int) (bad : Bool) (k : Int) := run Try.prog (callLi F G 4) effL FL lim 100000 [] (.code LL.1 :: .inLoop LL.1 :: LL.2) (T0L l n c a bad k h)
noncomputable def rnd1L (F : NumF) (G : ComF) (lim : Nat) (h : List Bool) (l : List Int) (n c : Nat) (a : Int) (bad : Bool) (k : Int) (out : List (List Int)) := run Try.prog (callLi F G 4) effL FL lim 100000 [] (.code LL.1 :: .inLoop LL.1 :: LL.2) (T1L l n c a bad k out h)
theorem liE : (fun (F : NumF) (G : ComF) (l : List Int) (n c : Nat) => stopV [0, 4, 5, 6] [0, 1] (run Try.prog (callLi F G 4) effL FL 0 100000 [false] [.code (bodyF 17)] ⟨argSlots 0 [bsl 0 n c], [roB l], [], []⟩)) = fun (F : NumF) (G : ComF) (l : List Int) (n : Nat) (c : Nat) => some ((EL, ([(((0 : Nat)), (V.v (V1.one (C.slice ((0 : Nat)) (N.c ((0 : Nat))) ((1 : Nat)) (N.s (n)) (N.s (c)))))), (((4 : Nat)), (V.v (V1.one (C.ptr ((1 : Nat)) (N.c ((0 : Nat))) ((1 : Nat)) ((0 : Nat)))))), (((5 : Nat)), (V.v (V1.one (C.nils)))), (((6 : Nat)), (V.v (V1.one (C.sint (IntKind.i64) (Prod.fst (F l n (0 : Int) false (1000 : Int)))))))], ([(SB.mk (false) (Cells.ints (IntKind.u8) (l))), (SB.mk (true) (Cells.exp [(C.slice ((0 : Nat)) (N.c ((0 : Nat))) ((1 : Nat)) (N.s (n)) (N.s (c))), (C.sint (IntKind.i64) (Prod.fst (Prod.snd (F l n (0 : Int) false (1000 : Int))))), (C.sbool (Prod.snd (Prod.snd (F l n (0 : Int) false (1000 : Int)))))]))], [n ≤ c, n ≤ List.length l, n ≤ (1000000000 : Nat), wfB l, (1000 : Int) ≤ (9223372036854775807 : Int)])))) := by kernel_rfl
theorem li0R : (fun (F : NumF) (G : ComF) (l : List Int) (n c : Nat) (a : Int) (bad : Bool) (k : Int) => stopV [0, 4, 5, 6] [0, 1, 4] (rnd0L F G (LL.2.length + 1) [true, true] l n c a bad k)) = fun (F : NumF) (G : ComF) (l : List Int) (n : Nat) (c : Nat) (a : Int) (bad : Bool) (k : Int) => some ((KL, ([(((0 : Nat)), (V.v (V1.one (C.slice ((0 : Nat)) (N.c ((0 : Nat))) ((1 : Nat)) (N.s (n)) (N.s (c)))))), (((4 : Nat)), (V.v (V1.one (C.ptr ((1 : Nat)) (N.c ((0 : Nat))) ((1 : Nat)) ((0 : Nat)))))), (((5 : Nat)), (V.v (V1.one (C.slice ((4 : Nat)) (N.c ((0 : Nat))) ((7 : Nat)) (N.c ((1 : Nat))) (N.c ((1 : Nat))))))), (((6 : Nat)), (V.v (V1.one (C.sint (IntKind.i64) (k - (1 : Int))))))], ([(SB.mk (false) (Cells.ints (IntKind.u8) (l))), (SB.mk (true) (Cells.exp [(C.slice ((0 : Nat)) (N.c ((0 : Nat))) ((1 : Nat)) (N.s (n)) (N.s (c))), (C.sint (IntKind.i64) (Prod.fst (Prod.snd (G l n (Prod.fst (Prod.snd (F l n (Prod.fst (Prod.snd (F l n a bad (1073741824 : Int)))) (Prod.snd (Prod.snd (F l n a bad (1073741824 : Int)))) (1099511627776 : Int)))) (Prod.snd (Prod.snd (F l n (Prod.fst (Prod.snd (F l n a bad (1073741824 : Int)))) (Prod.snd (Prod.snd (F l n a bad (1073741824 : Int)))) (1099511627776 : Int)))))))), (C.sbool (Prod.snd (Prod.snd (G l n (Prod.fst (Prod.snd (F l n (Prod.fst (Prod.snd (F l n a bad (1073741824 : Int)))) (Prod.snd (Prod.snd (F l n a bad (1073741824 : Int)))) (1099511627776 : Int)))) (Prod.snd (Prod.snd (F l n (Prod.fst (Prod.snd (F l n a bad (1073741824 : Int)))) (Prod.snd (Prod.snd (F l n a bad (1073741824 : Int)))) (1099511627776 : Int))))))))])), (SB.mk (true) (Cells.exp [(C.sint (IntKind.i64) (Prod.fst (F l n a bad (1073741824 : Int)))), (C.sint (IntKind.i64) (Prod.fst (F l n (Prod.fst (Prod.snd (F l n a bad (1073741824 : Int)))) (Prod.snd (Prod.snd (F l n a bad (1073741824 : Int)))) (1099511627776 : Int)))), (C.sint (IntKind.u8) (Cmd5.d (Prod.fst (G l n (Prod.fst (Prod.snd (F l n (Prod.fst (Prod.snd (F l n a bad (1073741824 : Int)))) (Prod.snd (Prod.snd (F l n a bad (1073741824 : Int)))) (1099511627776 : Int)))) (Prod.snd (Prod.snd (F l n (Prod.fst (Prod.snd (F l n a bad (1073741824 : Int)))) (Prod.snd (Prod.snd (F l n a bad (1073741824 : Int)))) (1099511627776 : Int)))))))), (C.sint (IntKind.i64) (Cmd5.A (Prod.fst (G l n (Prod.fst (Prod.snd (F l n (Prod.fst (Prod.snd (F l n a bad (1073741824 : Int)))) (Prod.snd (Prod.snd (F l n a bad (1073741824 : Int)))) (1099511627776 : Int)))) (Prod.snd (Prod.snd (F l n (Prod.fst (Prod.snd (F l n a bad (1073741824 : Int)))) (Prod.snd (Prod.snd (F l n a bad (1073741824 : Int)))) (1099511627776 : Int)))))))), (C.sint (IntKind.i64) (Cmd5.B (Prod.fst (G l n (Prod.fst (Prod.snd (F l n (Prod.fst (Prod.snd (F l n a bad (1073741824 : Int)))) (Prod.snd (Prod.snd (F l n a bad (1073741824 : Int)))) (1099511627776 : Int)))) (Prod.snd (Prod.snd (F l n (Prod.fst (Prod.snd (F l n a bad (1073741824 : Int)))) (Prod.snd (Prod.snd (F l n a bad (1073741824 : Int)))) (1099511627776 : Int)))))))), (C.sint (IntKind.i64) (Cmd5.C (Prod.fst (G l n (Prod.fst (Prod.snd (F l n (Prod.fst (Prod.snd (F l n a bad (1073741824 : Int)))) (Prod.snd (Prod.snd (F l n a bad (1073741824 : Int)))) (1099511627776 : Int)))) (Prod.snd (Prod.snd (F l n (Prod.fst (Prod.snd (F l n a bad (1073741824 : Int)))) (Prod.snd (Prod.snd (F l n a bad (1073741824 : Int)))) (1099511627776 : Int)))))))), (C.sint (IntKind.i64) (Cmd5.N (Prod.fst (G l n (Prod.fst (Prod.snd (F l n (Prod.fst (Prod.snd (F l n a bad (1073741824 : Int)))) (Prod.snd (Prod.snd (F l n a bad (1073741824 : Int)))) (1099511627776 : Int)))) (Prod.snd (Prod.snd (F l n (Prod.fst (Prod.snd (F l n a bad (1073741824 : Int)))) (Prod.snd (Prod.snd (F l n a bad (1073741824 : Int)))) (1099511627776 : Int))))))))]))], [(-9223372036854775808 : Int) ≤ k - (1 : Int) ∧ k - (1 : Int) ≤ (9223372036854775807 : Int), n ≤ c, n ≤ List.length l, n ≤ (1000000000 : Nat), List.length l ≤ (1000000000 : Nat), wfB l, n ≤ c, n ≤ List.length l, n ≤ (1000000000 : Nat), wfB l, (1099511627776 : Int) ≤ (9223372036854775807 : Int), n ≤ c, n ≤ List.length l, n ≤ (1000000000 : Nat), wfB l, (1073741824 : Int) ≤ (9223372036854775807 : Int), (!bad) = true, decide ((0 : Int) < k) = true])))) := by kernel_rfl
theorem li0A : (fun (F : NumF) (G : ComF) (l : List Int) (n c : Nat) (a : Int) (bad : Bool) (k : Int) => endV [0, 1] (rnd0L F G 0 [false, true] l n c a bad k)) = fun (F : NumF) (G : ComF) (l : List Int) (n : Nat) (c : Nat) (a : Int) (bad : Bool) (k : Int) => some (((V.tup [(V1.one (C.nils)), (V1.one (C.int (IntKind.i64) ((109 : Int))))]), ([(SB.mk (false) (Cells.ints (IntKind.u8) (l))), (SB.mk (true) (Cells.exp [(C.slice ((0 : Nat)) (N.c ((0 : Nat))) ((1 : Nat)) (N.s (n)) (N.s (c))), (C.sint (IntKind.i64) (a)), (C.sbool (bad))]))], [bad = true, decide ((0 : Int) < k) = false]))) := by kernel_rfl
theorem li0B : (fun (F : NumF) (G : ComF) (l : List Int) (n c : Nat) (a : Int) (bad : Bool) (k : Int) => endV [0, 1] (rnd0L F G 0 [false, false, true] l n c a bad k)) = fun (F : NumF) (G : ComF) (l : List Int) (n : Nat) (c : Nat) (a : Int) (bad : Bool) (k : Int) => some (((V.tup [(V1.one (C.nils)), (V1.one (C.int (IntKind.i64) ((109 : Int))))]), ([(SB.mk (false) (Cells.ints (IntKind.u8) (l))), (SB.mk (true) (Cells.exp [(C.slice ((0 : Nat)) (N.c ((0 : Nat))) ((1 : Nat)) (N.s (n)) (N.s (c))), (C.sint (IntKind.i64) (a)), (C.sbool (bad))]))], [(!decide (a = (↑n : Int))) = true, bad = false, decide ((0 : Int) < k) = false]))) := by kernel_rfl
theorem li0C : (fun (F : NumF) (G : ComF) (l : List Int) (n c : Nat) (a : Int) (bad : Bool) (k : Int) => endV [0, 1] (rnd0L F G 0 [false, false, false] l n c a bad k)) = fun (F : NumF) (G : ComF) (l : List Int) (n : Nat) (c : Nat) (a : Int) (bad : Bool) (k : Int) => some (((V.tup [(V1.one (C.nils)), (V1.one (C.int (IntKind.i64) ((0 : Int))))]), ([(SB.mk (false) (Cells.ints (IntKind.u8) (l))), (SB.mk (true) (Cells.exp [(C.slice ((0 : Nat)) (N.c ((0 : Nat))) ((1 : Nat)) (N.s (n)) (N.s (c))), (C.sint (IntKind.i64) (a)), (C.sbool (bad))]))], [(!decide (a = (↑n : Int))) = false, bad = false, decide ((0 : Int) < k) = false]))) := by kernel_rfl
theorem li0D : (fun (F : NumF) (G : ComF) (l : List Int) (n c : Nat) (a : Int) (bad : Bool) (k : Int) => endV [0, 1] (rnd0L F G 0 [true, false, true] l n c a bad k)) = fun (F : NumF) (G : ComF) (l : List Int) (n : Nat) (c : Nat) (a : Int) (bad : Bool) (k : Int) => some (((V.tup [(V1.one (C.nils)), (V1.one (C.int (IntKind.i64) ((109 : Int))))]), ([(SB.mk (false) (Cells.ints (IntKind.u8) (l))), (SB.mk (true) (Cells.exp [(C.slice ((0 : Nat)) (N.c ((0 : Nat))) ((1 : Nat)) (N.s (n)) (N.s (c))), (C.sint (IntKind.i64) (a)), (C.sbool (bad))]))], [bad = true, (!bad) = false, decide ((0 : Int) < k) = true]))) := by kernel_rfl
theorem li1R : (fun (F : NumF) (G : ComF) (l : List Int) (n c : Nat) (a : Int) (bad : Bool) (k : Int) (out : List (List Int)) => stopV [0, 4, 5, 6] [0, 1, 5] (rnd1L F G (LL.2.length + 1) [true, true, true] l n c a bad k out)) = fun (F : NumF) (G : ComF) (l : List Int) (n : Nat) (c : Nat) (a : Int) (bad : Bool) (k : Int) (out : List (List Int)) => some ((KL, ([(((0 : Nat)), (V.v (V1.one (C.slice ((0 : Nat)) (N.c ((0 : Nat))) ((1 : Nat)) (N.s (n)) (N.s (c)))))), (((4 : Nat)), (V.v (V1.one (C.ptr ((1 : Nat)) (N.c ((0 : Nat))) ((1 : Nat)) ((0 : Nat)))))), (((5 : Nat)), (V.v (V1.one (C.slice ((5 : Nat)) (N.c ((0 : Nat))) ((7 : Nat)) (N.s (List.length out + (1 : Nat))) (N.s (List.length out + (1 : Nat))))))), (((6 : Nat)), (V.v (V1.one (C.sint (IntKind.i64) (k - (1 : Int))))))], ([(SB.mk (false) (Cells.ints (IntKind.u8) (l))), (SB.mk (true) (Cells.exp [(C.slice ((0 : Nat)) (N.c ((0 : Nat))) ((1 : Nat)) (N.s (n)) (N.s (c))), (C.sint (IntKind.i64) (Prod.fst (Prod.snd (G l n (Prod.fst (Prod.snd (F l n (Prod.fst (Prod.snd (F l n a bad (1073741824 : Int)))) (Prod.snd (Prod.snd (F l n a bad (1073741824 : Int)))) (1099511627776 : Int)))) (Prod.snd (Prod.snd (F l n (Prod.fst (Prod.snd (F l n a bad (1073741824 : Int)))) (Prod.snd (Prod.snd (F l n a bad (1073741824 : Int)))) (1099511627776 : Int)))))))), (C.sbool (Prod.snd (Prod.snd (G l n (Prod.fst (Prod.snd (F l n (Prod.fst (Prod.snd (F l n a bad (1073741824 : Int)))) (Prod.snd (Prod.snd (F l n a bad (1073741824 : Int)))) (1099511627776 : Int)))) (Prod.snd (Prod.snd (F l n (Prod.fst (Prod.snd (F l n a bad (1073741824 : Int)))) (Prod.snd (Prod.snd (F l n a bad (1073741824 : Int)))) (1099511627776 : Int))))))))])), (SB.mk (true) (Cells.recs (ksO) (out ++ [[Prod.fst (F l n a bad (1073741824 : Int)), Prod.fst (F l n (Prod.fst (Prod.snd (F l n a bad (1073741824 : Int)))) (Prod.snd (Prod.snd (F l n a bad (1073741824 : Int)))) (1099511627776 : Int)), Cmd5.d (Prod.fst (G l n (Prod.fst (Prod.snd (F l n (Prod.fst (Prod.snd (F l n a bad (1073741824 : Int)))) (Prod.snd (Prod.snd (F l n a bad (1073741824 : Int)))) (1099511627776 : Int)))) (Prod.snd (Prod.snd (F l n (Prod.fst (Prod.snd (F l n a bad (1073741824 : Int)))) (Prod.snd (Prod.snd (F l n a bad (1073741824 : Int)))) (1099511627776 : Int)))))), Cmd5.A (Prod.fst (G l n (Prod.fst (Prod.snd (F l n (Prod.fst (Prod.snd (F l n a bad (1073741824 : Int)))) (Prod.snd (Prod.snd (F l n a bad (1073741824 : Int)))) (1099511627776 : Int)))) (Prod.snd (Prod.snd (F l n (Prod.fst (Prod.snd (F l n a bad (1073741824 : Int)))) (Prod.snd (Prod.snd (F l n a bad (1073741824 : Int)))) (1099511627776 : Int)))))), Cmd5.B (Prod.fst (G l n (Prod.fst (Prod.snd (F l n (Prod.fst (Prod.snd (F l n a bad (1073741824 : Int)))) (Prod.snd (Prod.snd (F l n a bad (1073741824 : Int)))) (1099511627776 : Int)))) (Prod.snd (Prod.snd (F l n (Prod.fst (Prod.snd (F l n a bad (1073741824 : Int)))) (Prod.snd (Prod.snd (F l n a bad (1073741824 : Int)))) (1099511627776 : Int)))))), Cmd5.C (Prod.fst (G l n (Prod.fst (Prod.snd (F l n (Prod.fst (Prod.snd (F l n a bad (1073741824 : Int)))) (Prod.snd (Prod.snd (F l n a bad (1073741824 : Int)))) (1099511627776 : Int)))) (Prod.snd (Prod.snd (F l n (Prod.fst (Prod.snd (F l n a bad (1073741824 : Int)))) (Prod.snd (Prod.snd (F l n a bad (1073741824 : Int)))) (1099511627776 : Int)))))), Cmd5.N (Prod.fst (G l n (Prod.fst (Prod.snd (F l n (Prod.fst (Prod.snd (F l n a bad (1073741824 : Int)))) (Prod.snd (Prod.snd (F l n a bad (1073741824 : Int)))) (1099511627776 : Int)))) (Prod.snd (Prod.snd (F l n (Prod.fst (Prod.snd (F l n a bad (1073741824 : Int)))) (Prod.snd (Prod.snd (F l n a bad (1073741824 : Int)))) (1099511627776 : Int))))))]])))], [(-9223372036854775808 : Int) ≤ k - (1 : Int) ∧ k - (1 : Int) ≤ (9223372036854775807 : Int), (0 : Nat) = (0 : Nat), List.length out = List.length out, (List.length out + (1 : Nat)) * (56 : Nat) ≤ (140737488355328 : Nat), List.length out + (1 : Nat) ≤ (9223372036854775807 : Nat), n ≤ c, n ≤ List.length l, n ≤ (1000000000 : Nat), List.length l ≤ (1000000000 : Nat), wfB l, n ≤ c, n ≤ List.length l, n ≤ (1000000000 : Nat), wfB l, (1099511627776 : Int) ≤ (9223372036854775807 : Int), n ≤ c, n ≤ List.length l, n ≤ (1000000000 : Nat), wfB l, (1073741824 : Int) ≤ (9223372036854775807 : Int), (!bad) = true, decide ((0 : Int) < k) = true])))) := by kernel_rfl
theorem li1A : (fun (F : NumF) (G : ComF) (l : List Int) (n c : Nat) (a : Int) (bad : Bool) (k : Int) (out : List (List Int)) => endV [0, 1] (rnd1L F G 0 [false, true] l n c a bad k out)) = fun (F : NumF) (G : ComF) (l : List Int) (n : Nat) (c : Nat) (a : Int) (bad : Bool) (k : Int) (out : List (List Int)) => some (((V.tup [(V1.one (C.nils)), (V1.one (C.int (IntKind.i64) ((109 : Int))))]), ([(SB.mk (false) (Cells.ints (IntKind.u8) (l))), (SB.mk (true) (Cells.exp [(C.slice ((0 : Nat)) (N.c ((0 : Nat))) ((1 : Nat)) (N.s (n)) (N.s (c))), (C.sint (IntKind.i64) (a)), (C.sbool (bad))]))], [bad = true, decide ((0 : Int) < k) = false]))) := by kernel_rfl
theorem li1B : (fun (F : NumF) (G : ComF) (l : List Int) (n c : Nat) (a : Int) (bad : Bool) (k : Int) (out : List (List Int)) => endV [0, 1] (rnd1L F G 0 [false, false, true] l n c a bad k out)) = fun (F : NumF) (G : ComF) (l : List Int) (n : Nat) (c : Nat) (a : Int) (bad : Bool) (k : Int) (out : List (List Int)) => some (((V.tup [(V1.one (C.nils)), (V1.one (C.int (IntKind.i64) ((109 : Int))))]), ([(SB.mk (false) (Cells.ints (IntKind.u8) (l))), (SB.mk (true) (Cells.exp [(C.slice ((0 : Nat)) (N.c ((0 : Nat))) ((1 : Nat)) (N.s (n)) (N.s (c))), (C.sint (IntKind.i64) (a)), (C.sbool (bad))]))], [(!decide (a = (↑n : Int))) = true, bad = false, decide ((0 : Int) < k) = false]))) := by kernel_rfl
theorem li1C : (fun (F : NumF) (G : ComF) (l : List Int) (n c : Nat) (a : Int) (bad : Bool) (k : Int) (out : List (List Int)) => endV [0, 2] (rnd1L F G 0 [false, false, false] l n c a bad k out)) = fun (F : NumF) (G : ComF) (l : List Int) (n : Nat) (c : Nat) (a : Int) (bad : Bool) (k : Int) (out : List (List Int)) => some (((V.tup [(V1.one (C.slice ((2 : Nat)) (N.c ((0 : Nat))) ((7 : Nat)) (N.s (List.length out)) (N.s (List.length out)))), (V1.one (C.int (IntKind.i64) ((0 : Int))))]), ([(SB.mk (false) (Cells.ints (IntKind.u8) (l))), (SB.mk (true) (Cells.recs (ksO) (out)))], [(!decide (a = (↑n : Int))) = false, bad = false, decide ((0 : Int) < k) = false]))) := by kernel_rfl
theorem li1D : (fun (F : NumF) (G : ComF) (l : List Int) (n c : Nat) (a : Int) (bad : Bool) (k : Int) (out : List (List Int)) => endV [0, 1] (rnd1L F G 0 [true, false, true] l n c a bad k out)) = fun (F : NumF) (G : ComF) (l : List Int) (n : Nat) (c : Nat) (a : Int) (bad : Bool) (k : Int) (out : List (List Int)) => some (((V.tup [(V1.one (C.nils)), (V1.one (C.int (IntKind.i64) ((109 : Int))))]), ([(SB.mk (false) (Cells.ints (IntKind.u8) (l))), (SB.mk (true) (Cells.exp [(C.slice ((0 : Nat)) (N.c ((0 : Nat))) ((1 : Nat)) (N.s (n)) (N.s (c))), (C.sint (IntKind.i64) (a)), (C.sbool (bad))]))], [bad = true, (!bad) = false, decide ((0 : Int) < k) = true]))) := by kernel_rfl
end
section
/- command.Listed: the contract. -/
open Go.ChangeShapes Go.WideShapes Go.ChangeAt Go.RowKit Go.Sx
theorem tabLi_ok : ∀ f g, tabLi numS comS f = some g → TabOk Try.prog f g := tabs_ok fun x hx => by
  simp only [List.mem_cons, List.not_mem_nil, or_false] at hx
  rcases hx with rfl | rfl
  · exact num_tab
  · exact com_tab
theorem callLi_ok (d : Nat) : CallOk Try.prog (callLi numS comS d) := callN_sound tabLi_ok d
/-- one order is read -/
def stepL (l : List Int) (n : Nat) (a : Int) (bad : Bool) : List Int × Int × Bool :=
  let p := numS l n a bad 1073741824
  let q := numS l n p.2.1 p.2.2 1099511627776
  let r := comS l n q.2.1 q.2.2
  ([p.1, q.1, r.1.d, r.1.A, r.1.B, r.1.C, r.1.N], r.2.1, r.2.2)
def loopS (l : List Int) (n : Nat) : Nat → Int → Bool → List (List Int) → List (List Int) × Int × Bool
  | 0, a, bad, out => (out, a, bad)
  | k + 1, a, bad, out => if bad = true then (out, a, bad) else loopS l n k (stepL l n a bad).2.1 (stepL l n a bad).2.2 (out ++ [(stepL l n a bad).1])
def finS (n : Nat) (x : List (List Int) × Int × Bool) : List (List Int) × Int := if x.2.2 = true ∨ x.2.1 ≠ (n : Int) then ([], 109) else (x.1, 0)
def listS (l : List Int) (n : Nat) : List (List Int) × Int := finS n (loopS l n (numS l n 0 false 1000).1.toNat (numS l n 0 false 1000).2.1 (numS l n 0 false 1000).2.2 [])
theorem numS_range {l : List Int} (hw : wfB l) (n : Nat) (a : Int) (bad : Bool) {m : Int} (hm : 0 ≤ m) : 0 ≤ (numS l n a bad m).1 ∧ (numS l n a bad m).1 ≤ m := by
  have hr := getU_range hw n a
  unfold numS
  simp only
  split
  · exact ⟨Int.le_refl _, hm⟩
  · rename_i h
    simp only [Bool.or_eq_true, Bool.not_eq_true', Bool.and_eq_false_iff, decide_eq_false_iff_not, not_or] at h
    exact ⟨hr.1, by omega⟩
theorem funL : Try.prog.funcs[17]? = some FL := by kernel_rfl
theorem bodL : FL.body = some (bodyF 17) := by kernel_rfl
theorem tmpL : 1 ≤ FL.ntmps := Nat.le_of_ble_eq_true (by kernel_rfl)
def TL (l : List Int) (n c : Nat) (a : Int) (bad : Bool) (k : Int) (out : List (List Int)) (h : List Bool) : St := match out with
  | [] => T0L l n c a bad k h
  | _ :: _ => T1L l n c a bad k out h
def tup7 (b n : Nat) (e : Int) : V := .tup [.one (.slice b (.c 0) 7 (.s n) (.s n)), .one (.sint .i64 e)]
theorem nd01 : (List.range 1 ++ [1]).Nodup := by decide
theorem nd02 : (List.range 1 ++ [2]).Nodup := by decide
theorem nd014 : (List.range 1 ++ [1, 4]).Nodup := by decide
theorem nd015 : (List.range 1 ++ [1, 5]).Nodup := by decide
theorem nilL_le (e : Int) : leV (List.range 1 ++ [1]) (.tup [.one .nils, .one (.int .i64 e)]) (tup7 1 0 e) := ⟨⟨by decide, rfl, rfl⟩, ⟨rfl, rfl⟩, trivial⟩
theorem nilL_bs (l : List Int) (cs : List Sx.C) : leBs (List.range 1 ++ [1]) [roB l, ⟨true, .exp cs⟩] [roB l, rwL []] := ⟨⟨fun h => h, rfl, rfl⟩, ⟨fun h => h, .inl rfl⟩, trivial⟩
theorem listed_works (l : List Int) (n c : Nat) (hn : n ≤ l.length) (hx : l.length ≤ 1000000000) (hw : wfB l) : Works Try.prog 17 [bsl 0 n c] [roB l] (tup7 1 (listS l n).1.length (listS l n).2) [roB l, rwL (listS l n).1] := capG_works fun hc => by
  have h0 := numS_range hw n 0 false (m := 1000) (by decide)
  refine works_loop (I := Int × Bool × Int × List (List Int)) (Inv := fun s h => TL l n c s.1 s.2.1 s.2.2.1 s.2.2.2 h)
    (good := fun s => 0 ≤ s.2.2.1 ∧ s.2.2.2.length + s.2.2.1 ≤ 1000 ∧ finS n (loopS l n s.2.2.1.toNat s.1 s.2.1 s.2.2.2) = listS l n) (μ := fun s => s.2.2.1.toNat)
    (i := ((numS l n 0 false 1000).2.1, (numS l n 0 false 1000).2.2, (numS l n 0 false 1000).1, [])) (r := [1]) (callLi_ok 4) funL bodL (by exact tmpL) (fun s _ => ?_)
    (congrFun (congrFun (congrFun (congrFun (congrFun liE numS) comS) l) n) c) ⟨hc, hn, by omega, hw, by decide, trivial⟩ ⟨nd01, ?_, ?_⟩ ⟨h0.1, by simp only [List.length_nil]; omega, rfl⟩ ?_
  · obtain ⟨a, bad, k, out⟩ := s
    cases out <;> exact ⟨rfl, rfl⟩
  · simp [TL, T0L, bsl, leSlots, leV, leV1, leC, si, List.range, List.range.loop, N.v, hc]
  · simp [TL, T0L, leBs, leB, leCells, leL, leC, roB, rdL, List.range, List.range.loop, N.v, hc]
  · rintro ⟨a, bad, k, out⟩ ⟨g1, g2, g3⟩
    simp only at g1 g2 g3
    have app0 : ∀ {A : Type} {f g : NumF → ComF → List Int → Nat → Nat → Int → Bool → Int → A}, f = g → f numS comS l n c a bad k = g numS comS l n c a bad k := fun hh => by rw [hh]
    have app1 : ∀ {A : Type} {f g : NumF → ComF → List Int → Nat → Nat → Int → Bool → Int → List (List Int) → A}, f = g → f numS comS l n c a bad k out = g numS comS l n c a bad k out := fun hh => by rw [hh]
    have errF : ∀ (h : (finS n (loopS l n k.toNat a bad out)) = ([], 109)), tup7 1 (listS l n).1.length (listS l n).2 = tup7 1 0 109 ∧ [roB l, rwL (listS l n).1] = [roB l, rwL []] := by
      intro h; rw [← g3, h]; exact ⟨rfl, rfl⟩
    by_cases hk : 0 < k
    · obtain ⟨m, hm⟩ : ∃ m : Nat, k.toNat = m + 1 := ⟨k.toNat - 1, by omega⟩
      cases bad with
      | true =>
        have he := errF (by rw [hm]; unfold loopS; rw [if_pos rfl]; unfold finS; rw [if_pos (.inl rfl)])
        rw [he.1, he.2]
        cases out with
        | nil => exact .stop [true, false, true] [] _ _ [1] _ _ _ (app0 li0D) ⟨rfl, rfl, decide_eq_true hk, trivial⟩ nd01 (nilL_le 109) (nilL_bs l _)
        | cons r t => exact .stop [true, false, true] [] _ _ [1] _ _ _ (app1 li1D) ⟨rfl, rfl, decide_eq_true hk, trivial⟩ nd01 (nilL_le 109) (nilL_bs l _)
      | false =>
        have hnext : finS n (loopS l n (k - 1).toNat (stepL l n a false).2.1 (stepL l n a false).2.2 (out ++ [(stepL l n a false).1])) = listS l n := by
          rw [← g3, hm, show (k - 1).toNat = m by omega]
          conv => rhs; unfold loopS
          rw [if_neg (by decide)]
        have hlen : (out ++ [(stepL l n a false).1]).length + (k - 1) ≤ 1000 := by rw [List.length_append, List.length_singleton]; omega
        cases out with
        | nil =>
          refine .round [true, true] [] _ _ [0, 4, 5, 6] [1, 4] _ _ _ ((stepL l n a false).2.1, (stepL l n a false).2.2, k - 1, [] ++ [(stepL l n a false).1]) (app0 li0R) ?_ ⟨nd014, ?_, ?_⟩ ⟨by simp only; omega, hlen, hnext⟩ (by simp only; omega)
          · exact ⟨by omega, hc, hn, by omega, hx, hw, hc, hn, by omega, hw, by decide, hc, hn, by omega, hw, by decide, rfl, decide_eq_true hk, trivial⟩
          · exact ⟨⟨rfl, rfl, rfl, rfl, rfl, Nat.le_refl _, hc⟩, ⟨rfl, rfl, rfl, rfl, rfl⟩, ⟨rfl, rfl, rfl, rfl, rfl, Nat.le_refl _, Nat.le_refl _⟩, ⟨rfl, rfl, rfl⟩, trivial⟩
          · exact ⟨⟨fun h => h, rfl, rfl⟩, ⟨fun h => h, ⟨rfl, rfl, rfl, rfl, Nat.le_refl _, hc⟩, ⟨rfl, rfl⟩, rfl, trivial⟩, ⟨fun h => h, .inr ⟨⟨⟨rfl, rfl⟩, ⟨rfl, rfl⟩, ⟨rfl, rfl⟩, ⟨rfl, rfl⟩, ⟨rfl, rfl⟩, ⟨rfl, rfl⟩, ⟨rfl, rfl⟩, trivial⟩, fun r hr => by
              simp only [List.nil_append, List.mem_singleton] at hr
              subst hr; rfl⟩⟩, trivial⟩
        | cons r t =>
          have e2 : TL l n c (stepL l n a false).2.1 (stepL l n a false).2.2 (k - 1) (r :: t ++ [(stepL l n a false).1]) [] = T1L l n c (stepL l n a false).2.1 (stepL l n a false).2.2 (k - 1) (r :: t ++ [(stepL l n a false).1]) [] := rfl
          refine .round [true, true, true] [] _ _ [0, 4, 5, 6] [1, 5] _ _ _ ((stepL l n a false).2.1, (stepL l n a false).2.2, k - 1, r :: t ++ [(stepL l n a false).1]) (app1 li1R) ?_ ⟨nd015, ?_, ?_⟩ ⟨by simp only; omega, hlen, hnext⟩ (by simp only; omega)
          · exact ⟨by omega, rfl, rfl, by omega, by omega, hc, hn, by omega, hx, hw, hc, hn, by omega, hw, by decide, hc, hn, by omega, hw, by decide, rfl, decide_eq_true hk, trivial⟩
          · show leSlots _ _ (TL l n c (stepL l n a false).2.1 (stepL l n a false).2.2 (k - 1) (r :: t ++ [(stepL l n a false).1]) []).sl
            rw [e2]
            have hl : (r :: t ++ [(stepL l n a false).1]).length = (r :: t).length + 1 := by rw [List.length_append]; rfl
            exact ⟨⟨rfl, rfl, rfl, rfl, rfl, Nat.le_refl _, hc⟩, ⟨rfl, rfl, rfl, rfl, rfl⟩, ⟨rfl, rfl, rfl, rfl, hl.symm, Nat.le_of_eq hl, Nat.le_of_eq hl.symm⟩, ⟨rfl, rfl, rfl⟩, trivial⟩
          · show leBs _ _ (TL l n c (stepL l n a false).2.1 (stepL l n a false).2.2 (k - 1) (r :: t ++ [(stepL l n a false).1]) []).m
            rw [e2]
            exact ⟨⟨fun h => h, rfl, rfl⟩, ⟨fun h => h, ⟨rfl, rfl, rfl, rfl, Nat.le_refl _, hc⟩, ⟨rfl, rfl⟩, rfl, trivial⟩, ⟨fun h => h, rfl, rfl⟩, trivial⟩
    · have hk0 : k.toNat = 0 := by omega
      have dk : decide (0 < k) = false := decide_eq_false hk
      rw [hk0] at g3 errF
      cases bad with
      | true =>
        have he := errF (by unfold loopS finS; rw [if_pos (.inl rfl)])
        rw [he.1, he.2]
        cases out with
        | nil => exact .stop [false, true] [] _ _ [1] _ _ _ (app0 li0A) ⟨rfl, dk, trivial⟩ nd01 (nilL_le 109) (nilL_bs l _)
        | cons r t => exact .stop [false, true] [] _ _ [1] _ _ _ (app1 li1A) ⟨rfl, dk, trivial⟩ nd01 (nilL_le 109) (nilL_bs l _)
      | false =>
        by_cases ha : a = (n : Int)
        · have da : (!decide (a = (n : Int))) = false := by rw [decide_eq_true ha]; rfl
          have e : listS l n = (out, 0) := by
            rw [← g3]; unfold loopS finS
            rw [if_neg (fun h => by rcases h with h | h; cases h; exact h ha)]
          rw [e]
          cases out with
          | nil => exact .stop [false, false, false] [] _ _ [1] _ _ _ (app0 li0C) ⟨da, rfl, dk, trivial⟩ nd01 (nilL_le 0) (nilL_bs l _)
          | cons r t => exact .stop [false, false, false] [] _ _ [2] _ _ _ (app1 li1C) ⟨da, rfl, dk, trivial⟩ nd02 ⟨⟨rfl, rfl, rfl, rfl, Nat.le_refl _, Nat.le_refl _⟩, ⟨rfl, rfl⟩, trivial⟩ ⟨⟨fun h => h, rfl, rfl⟩, ⟨fun h => h, rfl, rfl⟩, trivial⟩
        · have da : (!decide (a = (n : Int))) = true := by rw [decide_eq_false ha]; rfl
          have he := errF (by unfold loopS finS; rw [if_pos (.inr ha)])
          rw [he.1, he.2]
          cases out with
          | nil => exact .stop [false, false, true] [] _ _ [1] _ _ _ (app0 li0B) ⟨da, rfl, dk, trivial⟩ nd01 (nilL_le 109) (nilL_bs l _)
          | cons r t => exact .stop [false, false, true] [] _ _ [1] _ _ _ (app1 li1B) ⟨da, rfl, dk, trivial⟩ nd01 (nilL_le 109) (nilL_bs l _)
def gLst (F : List Int → Nat → List (List Int) × Int) : Sx.Loc := fun args bs => match args, bs with
  | [.v (.one (.slice 0 (.c 0) 1 (.s n) (.s _)))], [⟨false, .ints k l⟩] => match decide (k = .u8) with
    | true => some (tup7 1 (F l n).1.length (F l n).2, [roB l, rwL (F l n).1], [n ≤ l.length, l.length ≤ 1000000000, wfB l])
    | false => none
  | _, _ => none
theorem list_tab : TabOk Try.prog 17 (loc wantRo (gLst listS)) := loc_ok fun xs bs v bs' ob hg hob hokb => by
  unfold gLst at hg
  split at hg
  · rename_i n c k l
    split at hg
    · rename_i hk
      injection hg with hg; injection hg with e1 e2; injection e2 with e2 e3
      subst e1; subst e2; subst e3
      have hk' : k = .u8 := of_decide_eq_true hk
      subst hk'
      exact listed_works l n c (hob _ (by simp)) (hob (l.length ≤ 1000000000) (by simp)) (hob (wfB l) (by simp))
    · cases hg
  · cases hg
end
section
/- What is written of commands and orders is read again; what is read is written again. -/
open Go.ChangeShapes Go.WideShapes Go.ChangeAt Go.RowKit Go.Sx
theorem drop_app {l a r : List Int} {k : Nat} (h : l.drop k = a ++ r) : l.drop (k + a.length) = r := by rw [← List.drop_drop, h, List.drop_left]
/-- a command's bytes are read -/
theorem read_put {d A B C N : Int} (hr : rightF d A B C N = true) : readC (cmdB d A B C N) (cmdB d A B C N).length = ⟨d, A, B, C, N⟩ ∧ readE (cmdB d A B C N) (cmdB d A B C N).length = 0 := by
  obtain ⟨hA, hB, hC, hN⟩ := right_le hr
  have iA : i64 A := ⟨by omega, by omega⟩
  have iB : i64 B := ⟨by omega, by omega⟩
  have iC : i64 C := ⟨by omega, by omega⟩
  have iN : i64 N := ⟨by omega, by omega⟩
  have hl : (cmdB d A B C N).length = 1 + (svint A).length + (svint B).length + (svint C).length + (svint N).length := by simp [cmdB, List.length_append]; omega
  have e1 : (cmdB d A B C N).drop 1 = svint A ++ (svint B ++ (svint C ++ svint N)) := by simp [cmdB, List.append_assoc]
  have e2 := drop_app e1
  have e3 := drop_app e2
  have e4 := drop_app e3
  rw [← List.append_nil (svint N)] at e4
  have g1 := getI_put (n := (cmdB d A B C N).length) e1 iA (by omega)
  have g2 := getI_put (n := (cmdB d A B C N).length) e2 iB (by omega)
  have g3 := getI_put (n := (cmdB d A B C N).length) e3 iC (by omega)
  have g4 := getI_put (n := (cmdB d A B C N).length) e4 iN (by omega)
  have t0 : gR getI (cmdB d A B C N) (cmdB d A B C N).length 0 = (A, ((1 + (svint A).length : Nat) : Int), 0) := g1
  have t1 : gR getI (cmdB d A B C N) (cmdB d A B C N).length 1 = (B, ((1 + (svint A).length + (svint B).length : Nat) : Int), 0) := by
    show getI _ _ (gR getI (cmdB d A B C N) (cmdB d A B C N).length 0).2.1 = _
    rw [t0]; exact g2
  have t2 : gR getI (cmdB d A B C N) (cmdB d A B C N).length 2 = (C, ((1 + (svint A).length + (svint B).length + (svint C).length : Nat) : Int), 0) := by
    show getI _ _ (gR getI (cmdB d A B C N) (cmdB d A B C N).length 1).2.1 = _
    rw [t1]; exact g3
  have t3 : gR getI (cmdB d A B C N) (cmdB d A B C N).length 3 = (N, ((1 + (svint A).length + (svint B).length + (svint C).length + (svint N).length : Nat) : Int), 0) := by
    show getI _ _ (gR getI (cmdB d A B C N) (cmdB d A B C N).length 2).2.1 = _
    rw [t2]; exact g4
  have hd : (cmdB d A B C N).getD 0 0 = d := by simp [cmdB]
  have hrF : rF getI (cmdB d A B C N) (cmdB d A B C N).length = true := by unfold rF; rw [t0, t1, t2, t3, hd]; exact hr
  have hok : readOk (cmdB d A B C N) (cmdB d A B C N).length := by
    refine ⟨by omega, ?_, ?_, ?_, ?_, ?_, hrF⟩
    · unfold good; rw [t0]; exact ⟨rfl, hA.1, hA.2⟩
    · unfold good; rw [t1]; exact ⟨rfl, hB.1, hB.2⟩
    · unfold good; rw [t2]; exact ⟨rfl, hC.1, hC.2⟩
    · unfold good; rw [t3]; exact ⟨rfl, hN.1, hN.2⟩
    · show (gR getI (cmdB d A B C N) (cmdB d A B C N).length 3).2.1 = _
      rw [t3]; show ((_ : Nat) : Int) = _; rw [hl]
  unfold readC readE
  rw [if_pos hok, if_pos hok, t0, t1, t2, t3, hd]
  exact ⟨rfl, rfl⟩
/-- bytes that are read are a command's -/
theorem read_inv {l : List Int} (hw : wfB l) (h : readE l l.length = 0) : ∃ d A B C N, rightF d A B C N = true ∧ (0 ≤ d ∧ d < 256) ∧ readC l l.length = ⟨d, A, B, C, N⟩ ∧ l = cmdB d A B C N := by
  unfold readE at h
  by_cases hok : readOk l l.length
  · obtain ⟨hp, g0, g1, g2, g3, ht, hr⟩ := hok
    obtain ⟨A, iA, a1, a2, a3⟩ := getI_inv hw (Nat.le_refl l.length) (k := 1) g0.1
    have t0 : gR getI l l.length 0 = (A, ((1 + (svint A).length : Nat) : Int), 0) := a1
    have p1 : gR getI l l.length 1 = getI l l.length ((1 + (svint A).length : Nat) : Int) := by
      show getI _ _ (gR getI l l.length 0).2.1 = _
      rw [t0]
    unfold good at g1 g2 g3
    rw [p1] at g1
    obtain ⟨B, iB, b1, b2, b3⟩ := getI_inv hw (Nat.le_refl l.length) g1.1
    have t1 := p1.trans b1
    have p2 : gR getI l l.length 2 = getI l l.length ((1 + (svint A).length + (svint B).length : Nat) : Int) := by
      show getI _ _ (gR getI l l.length 1).2.1 = _
      rw [t1]
    rw [p2] at g2
    obtain ⟨C, iC, c1, c2, c3⟩ := getI_inv hw (Nat.le_refl l.length) g2.1
    have t2 := p2.trans c1
    have p3 : gR getI l l.length 3 = getI l l.length ((1 + (svint A).length + (svint B).length + (svint C).length : Nat) : Int) := by
      show getI _ _ (gR getI l l.length 2).2.1 = _
      rw [t2]
    rw [p3] at g3
    obtain ⟨N, iN, n1, n2, n3⟩ := getI_inv hw (Nat.le_refl l.length) g3.1
    have t3 := p3.trans n1
    have ht' : (gR getI l l.length 3).2.1 = (l.length : Int) := ht
    rw [t3] at ht'
    have hlen : 1 + (svint A).length + (svint B).length + (svint C).length + (svint N).length = l.length := by
      have : ((1 + (svint A).length + (svint B).length + (svint C).length + (svint N).length : Nat) : Int) = (l.length : Int) := ht'
      omega
    have hend : l.drop (1 + (svint A).length + (svint B).length + (svint C).length + (svint N).length) = [] := List.drop_eq_nil_of_le (by omega)
    have hrF := hr
    unfold rF at hrF
    rw [t0, t1, t2, t3] at hrF
    refine ⟨l.getD 0 0, A, B, C, N, hrF, wfB_get hw 0, ?_, ?_⟩
    · unfold readC
      rw [if_pos ⟨hp, g0, by unfold good; rw [p1]; exact g1, by unfold good; rw [p2]; exact g2, by unfold good; rw [p3]; exact g3, ht, hr⟩, t0, t1, t2, t3]
    · have h0 := drop_get (l := l) (k := 0) hp
      rw [List.drop_zero] at h0
      rw [h0]
      show _ :: l.drop 1 = _
      rw [a2, b2, c2, n2, hend]
      simp [cmdB, List.append_assoc]
  · rw [if_neg hok] at h; cases h
/-! ### orders -/
theorem numS_put {l : List Int} {n k : Nat} {m M : Int} {r : List Int} (h : l.drop k = vint m ++ r) (hm : u64 m) (hM : m ≤ M) (hn : k + (vint m).length ≤ n) : numS l n (k : Int) false M = (m, ((k + (vint m).length : Nat) : Int), false) := by
  unfold numS
  rw [getU_put h hm hn]
  simp [hM]
theorem numS_inv {l : List Int} (hw : wfB l) {n : Nat} (hn : n ≤ l.length) {k : Nat} {M : Int} (h : (numS l n (k : Int) false M).2.2 = false) : ∃ m : Int, u64 m ∧ m ≤ M ∧ numS l n (k : Int) false M = (m, ((k + (vint m).length : Nat) : Int), false) ∧ l.drop k = vint m ++ l.drop (k + (vint m).length) ∧ k + (vint m).length ≤ n := by
  unfold numS at h
  simp only [Bool.false_or, Bool.not_eq_false', Bool.and_eq_true, decide_eq_true_eq] at h
  obtain ⟨h1, h2⟩ := h
  obtain ⟨m, m1, m2, m3, m4⟩ := getU_inv hw hn h1
  rw [m2] at h2
  exact ⟨m, m1, h2, numS_put m3 m1 h2 m4, m3, m4⟩
theorem numS_bad (l : List Int) (n : Nat) (a M : Int) : (numS l n a true M).2.2 = true := by simp [numS]
theorem comS_bad (l : List Int) (n : Nat) (a : Int) : (comS l n a true).2.2 = true := by simp [comS]
theorem comS_put {l : List Int} {n k : Nat} {d A B C N : Int} {r : List Int} (hr : rightF d A B C N = true) (h : l.drop k = vint (((cmdB d A B C N).length : Nat) : Int) ++ (cmdB d A B C N ++ r)) (hn : k + (vint (((cmdB d A B C N).length : Nat) : Int)).length + (cmdB d A B C N).length ≤ n) :
    comS l n (k : Int) false = (⟨d, A, B, C, N⟩, ((k + (vint (((cmdB d A B C N).length : Nat) : Int)).length + (cmdB d A B C N).length : Nat) : Int), false) := by
  have hl := cmdB_len hr
  have g := getB_put (m := 100) h (by omega) (by omega) hn
  obtain ⟨r1, r2⟩ := read_put hr
  have hb : blobC l n (k : Int) = (⟨d, A, B, C, N⟩, 0) := by unfold blobC read2; rw [g]; simp only; rw [r1, r2]
  unfold comS
  rw [hb, g]
  simp
theorem comS_inv {l : List Int} (hw : wfB l) {n : Nat} (hn : n ≤ l.length) {k : Nat} (h : (comS l n (k : Int) false).2.2 = false) : ∃ d A B C N : Int, rightF d A B C N = true ∧ (0 ≤ d ∧ d < 256) ∧ l.drop k = vint (((cmdB d A B C N).length : Nat) : Int) ++ (cmdB d A B C N ++ l.drop (k + (vint (((cmdB d A B C N).length : Nat) : Int)).length + (cmdB d A B C N).length)) ∧
    k + (vint (((cmdB d A B C N).length : Nat) : Int)).length + (cmdB d A B C N).length ≤ n := by
  unfold comS at h
  simp only [Bool.false_or, Bool.not_eq_false', Bool.and_eq_true, decide_eq_true_eq] at h
  obtain ⟨h1, h2⟩ := h
  obtain ⟨b, b1, b2, b3, b4⟩ := getB_inv hw hn h1
  unfold blobC read2 at h2
  rw [b2] at h2
  have hwb : wfB b := by have := getB_wf hw n (k : Int) 100; rw [b2] at this; exact this
  obtain ⟨d, A, B, C, N, r1, r2, r3, r4⟩ := read_inv hwb h2
  subst r4
  exact ⟨d, A, B, C, N, r1, r2, b3, b4⟩
/-- a row of seven -/
def row7 (r : List Int) : Prop := ∃ p s d A B C N : Int, r = [p, s, d, A, B, C, N]
theorem stepL_put {l : List Int} {n k : Nat} {r rest : List Int} (h7 : row7 r) (hr : rowOk r = true) (h : l.drop k = rowB r ++ rest) (hn : k + (rowB r).length ≤ n) : stepL l n (k : Int) false = (r, ((k + (rowB r).length : Nat) : Int), false) := by
  obtain ⟨p, s, d, A, B, C, N, rfl⟩ := h7
  unfold rowOk at hr
  rw [Bool.and_eq_true] at hr
  obtain ⟨h1, h2⟩ := hr
  have h1 : rightF d A B C N = true := h1
  obtain ⟨p1, p2, p3, p4⟩ : 0 ≤ p ∧ 0 ≤ s ∧ p ≤ 1073741824 ∧ s ≤ 1099511627776 := of_decide_eq_true h2
  have eb : rowB [p, s, d, A, B, C, N] = vint p ++ (vint s ++ (vint (((cmdB d A B C N).length : Nat) : Int) ++ cmdB d A B C N)) := by
    show vint p ++ vint s ++ vint (((cmdB d A B C N).length : Nat) : Int) ++ cmdB d A B C N = _
    simp only [List.append_assoc]
  have hl : (rowB [p, s, d, A, B, C, N]).length = (vint p).length + (vint s).length + (vint (((cmdB d A B C N).length : Nat) : Int)).length + (cmdB d A B C N).length := by rw [eb]; simp only [List.length_append]; omega
  rw [eb] at h
  simp only [List.append_assoc] at h
  have e2 := drop_app h
  have e3 := drop_app e2
  have n1 := numS_put (n := n) (M := 1073741824) h ⟨p1, by omega⟩ p3 (by omega)
  have n2 := numS_put (n := n) (M := 1099511627776) e2 ⟨p2, by omega⟩ p4 (by omega)
  have n3 := comS_put (n := n) h1 e3 (by omega)
  unfold stepL
  rw [n1]
  simp only
  rw [n2]
  simp only
  rw [n3, hl]
  refine Prod.ext rfl (Prod.ext ?_ rfl)
  show ((_ : Nat) : Int) = ((_ : Nat) : Int)
  omega
theorem stepL_inv {l : List Int} (hw : wfB l) {n : Nat} (hn : n ≤ l.length) {k : Nat} (h : (stepL l n (k : Int) false).2.2 = false) : ∃ r : List Int, row7 r ∧ rowOk r = true ∧ (0 ≤ r.getD 2 0 ∧ r.getD 2 0 < 256) ∧ l.drop k = rowB r ++ l.drop (k + (rowB r).length) ∧ k + (rowB r).length ≤ n := by
  unfold stepL at h
  simp only at h
  have hp : (numS l n (k : Int) false 1073741824).2.2 = false := by
    cases hb : (numS l n (k : Int) false 1073741824).2.2 with
    | false => rfl
    | true => rw [hb, numS_bad, comS_bad] at h; cases h
  obtain ⟨p, p1, p2, p3, p4, p5⟩ := numS_inv hw hn hp
  rw [p3] at h
  simp only at h
  have hq : (numS l n ((k + (vint p).length : Nat) : Int) false 1099511627776).2.2 = false := by
    cases hb : (numS l n ((k + (vint p).length : Nat) : Int) false 1099511627776).2.2 with
    | false => rfl
    | true => rw [hb, comS_bad] at h; cases h
  obtain ⟨s, s1, s2, s3, s4, s5⟩ := numS_inv hw hn hq
  rw [s3] at h
  simp only at h
  obtain ⟨d, A, B, C, N, c1, c2, c3, c4⟩ := comS_inv hw hn h
  have eb : rowB [p, s, d, A, B, C, N] = vint p ++ (vint s ++ (vint (((cmdB d A B C N).length : Nat) : Int) ++ cmdB d A B C N)) := by
    show vint p ++ vint s ++ vint (((cmdB d A B C N).length : Nat) : Int) ++ cmdB d A B C N = _
    simp only [List.append_assoc]
  have hl : (rowB [p, s, d, A, B, C, N]).length = (vint p).length + (vint s).length + (vint (((cmdB d A B C N).length : Nat) : Int)).length + (cmdB d A B C N).length := by rw [eb]; simp only [List.length_append]; omega
  refine ⟨[p, s, d, A, B, C, N], ⟨p, s, d, A, B, C, N, rfl⟩, ?_, c2, ?_, by omega⟩
  · unfold rowOk
    rw [Bool.and_eq_true]
    exact ⟨c1, decide_eq_true ⟨p1.1, s1.1, p2, s2⟩⟩
  · rw [hl, show k + ((vint p).length + (vint s).length + (vint (((cmdB d A B C N).length : Nat) : Int)).length + (cmdB d A B C N).length) = k + (vint p).length + (vint s).length + (vint (((cmdB d A B C N).length : Nat) : Int)).length + (cmdB d A B C N).length by omega, eb]
    simp only [List.append_assoc]
    rw [← c3, ← s4, ← p4]
theorem loopS_put {l : List Int} {n : Nat} : ∀ {rows : List (List Int)} {k : Nat} {rest : List Int} {out : List (List Int)}, (∀ r ∈ rows, row7 r) → rows.all rowOk = true → l.drop k = bytesO rows ++ rest → k + (bytesO rows).length ≤ n → loopS l n rows.length (k : Int) false out = (out ++ rows, ((k + (bytesO rows).length : Nat) : Int), false)
  | [], k, rest, out, _, _, _, _ => by simp [loopS, bytesO]
  | r :: t, k, rest, out, h7, ha, h, hn => by
    rw [List.all_cons, Bool.and_eq_true] at ha
    have hb : bytesO (r :: t) = rowB r ++ bytesO t := rfl
    rw [hb, List.append_assoc] at h
    have hl : (bytesO (r :: t)).length = (rowB r).length + (bytesO t).length := by rw [hb, List.length_append]
    have hs := stepL_put (n := n) (h7 r (by simp)) ha.1 h (by omega)
    have ih := loopS_put (l := l) (n := n) (rows := t) (k := k + (rowB r).length) (rest := rest) (out := out ++ [r]) (fun x hx => h7 x (by simp [hx])) ha.2 (drop_app h) (by omega)
    show loopS l n (t.length + 1) (k : Int) false out = _
    conv => lhs; unfold loopS
    rw [if_neg (by decide), hs]
    simp only
    rw [ih, hl]
    refine Prod.ext (by simp) (Prod.ext ?_ rfl)
    show ((_ : Nat) : Int) = ((_ : Nat) : Int)
    omega
theorem loopS_bad {l : List Int} {n : Nat} : ∀ (c : Nat) (a : Int) (out : List (List Int)), (loopS l n c a true out).2.2 = true
  | 0, _, _ => rfl
  | c + 1, a, out => by unfold loopS; rw [if_pos rfl]
theorem loopS_inv {l : List Int} (hw : wfB l) {n : Nat} (hn : n ≤ l.length) : ∀ {c k : Nat} {out : List (List Int)}, k ≤ n → (loopS l n c (k : Int) false out).2.2 = false → ∃ rows : List (List Int), rows.length = c ∧ (∀ r ∈ rows, row7 r) ∧ rows.all rowOk = true ∧ wfO rows ∧ l.drop k = bytesO rows ++ l.drop (k + (bytesO rows).length) ∧ k + (bytesO rows).length ≤ n
  | 0, k, out, hk, _ => ⟨[], rfl, (fun r h => by simp at h), rfl, (fun r h => by simp at h), by simp [bytesO], by simpa [bytesO] using hk⟩
  | c + 1, k, out, hk, h => by
    unfold loopS at h
    rw [if_neg (by decide)] at h
    have hb : (stepL l n (k : Int) false).2.2 = false := by
      cases hs : (stepL l n (k : Int) false).2.2 with
      | false => rfl
      | true => rw [hs, loopS_bad] at h; cases h
    obtain ⟨r, r1, r2, r3, r4, r5⟩ := stepL_inv hw hn hb
    have hs := stepL_put r1 r2 r4 r5
    rw [hs] at h
    simp only at h
    obtain ⟨rows, q1, q2, q3, q4, q5, q6⟩ := loopS_inv hw hn r5 h
    have hl : (bytesO (r :: rows)).length = (rowB r).length + (bytesO rows).length := by
      show (rowB r ++ bytesO rows).length = _
      rw [List.length_append]
    refine ⟨r :: rows, by rw [List.length_cons, q1], ?_, by rw [List.all_cons, r2, q3]; rfl, ?_, ?_, by omega⟩
    · intro x hx
      rcases List.mem_cons.1 hx with rfl | hx
      · exact r1
      · exact q2 x hx
    · intro x hx
      rcases List.mem_cons.1 hx with rfl | hx
      · exact r3
      · exact q4 x hx
    · rw [hl, show k + ((rowB r).length + (bytesO rows).length) = k + (rowB r).length + (bytesO rows).length by omega]
      show _ = (rowB r ++ bytesO rows) ++ _
      rw [List.append_assoc, ← q5, ← r4]
/-- orders' bytes are read -/
theorem list_put {rows : List (List Int)} (h7 : ∀ r ∈ rows, row7 r) (ha : rows.all rowOk = true) (hc : rows.length ≤ 1000) : listS (vint ((rows.length : Nat) : Int) ++ bytesO rows) (vint ((rows.length : Nat) : Int) ++ bytesO rows).length = (rows, 0) := by
  have hu : u64 ((rows.length : Nat) : Int) := ⟨by omega, by omega⟩
  have hl : (vint ((rows.length : Nat) : Int) ++ bytesO rows).length = (vint ((rows.length : Nat) : Int)).length + (bytesO rows).length := List.length_append
  have n0 := numS_put (l := vint ((rows.length : Nat) : Int) ++ bytesO rows) (n := (vint ((rows.length : Nat) : Int) ++ bytesO rows).length) (k := 0) (M := 1000) (r := bytesO rows) rfl hu (by omega) (by omega)
  have e : (vint ((rows.length : Nat) : Int) ++ bytesO rows).drop (vint ((rows.length : Nat) : Int)).length = bytesO rows ++ [] := by rw [List.drop_left, List.append_nil]
  have hp := loopS_put (n := (vint ((rows.length : Nat) : Int) ++ bytesO rows).length) (out := []) h7 ha e (by omega)
  unfold listS
  have n0' : numS (vint ((rows.length : Nat) : Int) ++ bytesO rows) (vint ((rows.length : Nat) : Int) ++ bytesO rows).length 0 false 1000 = (((rows.length : Nat) : Int), ((0 + (vint ((rows.length : Nat) : Int)).length : Nat) : Int), false) := n0
  rw [n0']
  simp only [Nat.zero_add]
  rw [show (((rows.length : Nat) : Int)).toNat = rows.length by omega, hp]
  unfold finS
  rw [if_neg (fun h => by
    rcases h with h | h
    · cases h
    · exact h (by show ((_ : Nat) : Int) = ((_ : Nat) : Int); omega))]
  simp
/-- bytes that are read are orders' -/
theorem list_inv {l : List Int} (hw : wfB l) (h : (listS l l.length).2 = 0) : ∃ rows : List (List Int), rows.length ≤ 1000 ∧ (∀ r ∈ rows, row7 r) ∧ rows.all rowOk = true ∧ wfO rows ∧ l = vint ((rows.length : Nat) : Int) ++ bytesO rows ∧ (listS l l.length).1 = rows := by
  have hl2 : ∀ rows : List (List Int), (∀ r ∈ rows, row7 r) → rows.all rowOk = true → rows.length ≤ 1000 → l = vint ((rows.length : Nat) : Int) ++ bytesO rows → (listS l l.length).1 = rows := by
    intro rows h1 h2 h3 h4
    have := list_put h1 h2 h3
    rw [← h4] at this
    rw [this]
  unfold listS finS at h
  by_cases hb : (loopS l l.length (numS l l.length 0 false 1000).1.toNat (numS l l.length 0 false 1000).2.1 (numS l l.length 0 false 1000).2.2 []).2.2 = true ∨ (loopS l l.length (numS l l.length 0 false 1000).1.toNat (numS l l.length 0 false 1000).2.1 (numS l l.length 0 false 1000).2.2 []).2.1 ≠ (l.length : Int)
  · rw [if_pos hb] at h; cases h
  · have hb1 : (loopS l l.length (numS l l.length 0 false 1000).1.toNat (numS l l.length 0 false 1000).2.1 (numS l l.length 0 false 1000).2.2 []).2.2 = false := by
      cases hc : (loopS l l.length (numS l l.length 0 false 1000).1.toNat (numS l l.length 0 false 1000).2.1 (numS l l.length 0 false 1000).2.2 []).2.2 with
      | false => rfl
      | true => exact absurd (.inl hc) hb
    have hb2 : (loopS l l.length (numS l l.length 0 false 1000).1.toNat (numS l l.length 0 false 1000).2.1 (numS l l.length 0 false 1000).2.2 []).2.1 = (l.length : Int) := Classical.byContradiction fun hc => hb (.inr hc)
    have h0 : (numS l l.length ((0 : Nat) : Int) false 1000).2.2 = false := by
      cases hc : (numS l l.length ((0 : Nat) : Int) false 1000).2.2 with
      | false => rfl
      | true =>
        have hc' : (numS l l.length 0 false 1000).2.2 = true := hc
        rw [hc', loopS_bad] at hb1; cases hb1
    obtain ⟨m, m1, m2, m3, m4, m5⟩ := numS_inv hw (Nat.le_refl l.length) h0
    have m3' : numS l l.length 0 false 1000 = (m, ((0 + (vint m).length : Nat) : Int), false) := m3
    rw [m3'] at hb1 hb2
    simp only [Nat.zero_add] at hb1 hb2 m4 m5
    unfold u64 at m1
    obtain ⟨rows, q1, q2, q3, q4, q5, q6⟩ := loopS_inv hw (Nat.le_refl l.length) m5 hb1
    have hp := loopS_put (n := l.length) (out := []) q2 q3 q5 q6
    rw [← q1, hp] at hb2
    have hend : (vint m).length + (bytesO rows).length = l.length := by
      have : (((vint m).length + (bytesO rows).length : Nat) : Int) = (l.length : Int) := hb2
      omega
    have hl : l = vint ((rows.length : Nat) : Int) ++ bytesO rows := by
      have e : ((rows.length : Nat) : Int) = m := by omega
      rw [e]
      rw [List.drop_zero] at m4
      rw [hend, List.drop_length, List.append_nil] at q5
      rw [q5] at m4
      exact m4
    exact ⟨rows, by omega, q2, q3, q4, hl, hl2 rows q2 q3 (by omega) hl⟩
end
end Go.Proofs.Ytgkhbhddmafakaa
