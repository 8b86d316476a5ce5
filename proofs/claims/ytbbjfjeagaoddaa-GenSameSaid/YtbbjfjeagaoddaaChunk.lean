/- Each chunk at first: what the program and the document come to. -/
import Derived.Test.YtbbjfjeagaoddaaCell
namespace Go.Proofs.Ytbbjfjeagaoddaa
open Go.ChangeShapes Go.WideShapes Go.ChangeAt Go.RowKit Go.Sx
noncomputable def call2 (d : Nat) := callN Try.prog tab2 (fun f => Nat.beq f 22 || Nat.beq f 23) 100000 d
noncomputable def chunkR (f : Nat) (sel : List Nat) (h : List Bool) (s x y : Int) := retV sel (call2 6 f [si .u64 s, si .i64 x, si .i64 y] [] h)
def cellAt (s x y : Int) (i : Nat) : Int := cellF s (x * 8 + ((i % 8 : Nat) : Int)) (y * 8 + ((i / 8 : Nat) : Int))
def cellsAt (s x y : Int) : List C := (List.range 64).map fun i => .sint .u8 (cellAt s x y i)
def chunkV (x y : Int) (b : Nat) : V := .v (.agg [.sint .i64 x, .sint .i64 y, .slice b (.c 0) 1 (.c 64) (.c 64), .nils, .nils])
def noChunk : V := .v (.agg [.int .i64 0, .int .i64 0, .nils, .nils, .nils])
def obAt (x y : Int) (i : Nat) : List Prop := [inK .i64 (y * 8 + ((i / 8 : Nat) : Int)), inK .i64 (y * 8), inK .i64 (x * 8 + ((i % 8 : Nat) : Int)), inK .i64 (x * 8)]
def obsAt (x y : Int) : List Prop := ((List.range 64).reverse.map (obAt x y)).flatten
theorem c1 : (fun s x y => chunkR 13 [] [true] s x y) = fun s x y => some (noChunk, [], [decide (mmI false x y < 0) = true]) := by kernel_rfl
theorem c2 : (fun s x y => chunkR 13 [] [false, true] s x y) = fun s x y => some (noChunk, [], [decide (16 ≤ mmI true x y) = true, decide (mmI false x y < 0) = false]) := by kernel_rfl
theorem c3 : (fun s x y => chunkR 13 [130] [false, false] s x y) = fun s x y => some (chunkV x y 130, [⟨true, .exp (cellsAt s x y)⟩], obsAt x y ++ [decide (16 ≤ mmI true x y) = false, decide (mmI false x y < 0) = false]) := by kernel_rfl
theorem d1 : (fun s x y => chunkR 14 [] [true] s x y) = fun s x y => some (noChunk, [], [decide (x < 0) = true]) := by kernel_rfl
theorem d2 : (fun s x y => chunkR 14 [] [false, true] s x y) = fun s x y => some (noChunk, [], [decide (15 < x) = true, decide (x < 0) = false]) := by kernel_rfl
theorem d3 : (fun s x y => chunkR 14 [] [false, false, true] s x y) = fun s x y => some (noChunk, [], [decide (y < 0) = true, decide (15 < x) = false, decide (x < 0) = false]) := by kernel_rfl
theorem d4 : (fun s x y => chunkR 14 [] [false, false, false, true] s x y) = fun s x y => some (noChunk, [], [decide (15 < y) = true, decide (y < 0) = false, decide (15 < x) = false, decide (x < 0) = false]) := by kernel_rfl
theorem d5 : (fun s x y => chunkR 14 [129] [false, false, false, false] s x y) = fun s x y => some (chunkV x y 129, [⟨true, .exp (cellsAt s x y)⟩], obsAt x y ++ [decide (15 < y) = false, decide (y < 0) = false, decide (15 < x) = false, decide (x < 0) = false]) := by kernel_rfl
theorem allP_of : ∀ {l : List Prop}, (∀ p ∈ l, p) → allP l
  | [], _ => trivial
  | _ :: _, h => ⟨h _ (by simp), allP_of fun p hp => h p (by simp [hp])⟩
theorem allP_app : ∀ {l r : List Prop}, allP l → allP r → allP (l ++ r)
  | [], _, _, h => h
  | _ :: _, _, h, h' => ⟨h.1, allP_app h.2 h'⟩
def inCh (x y : Int) : Prop := 0 ≤ x ∧ x < 16 ∧ 0 ≤ y ∧ y < 16
theorem obsAt_ok {x y : Int} (h : inCh x y) : allP (obsAt x y) := allP_of fun p hp => by
  unfold inCh at h
  simp only [obsAt, List.mem_flatten, List.mem_map, List.mem_reverse, List.mem_range] at hp
  obtain ⟨l, ⟨i, hi, rfl⟩, hp⟩ := hp
  simp only [obAt, List.mem_cons, List.not_mem_nil, or_false] at hp
  rcases hp with rfl | rfl | rfl | rfl <;> unfold inK <;> rw [min64, max64] <;> omega
theorem leL_ints (sel : List Nat) (k : IntKind) : ∀ l : List Int, leL sel (l.map (C.sint k)) (l.map (C.sint k))
  | [] => trivial
  | _ :: r => ⟨⟨rfl, rfl⟩, leL_ints sel k r⟩
theorem cells_le (sel : List Nat) (s x y : Int) : leL sel (cellsAt s x y) (cellsAt s x y) := by
  have := leL_ints sel .u8 ((List.range 64).map (cellAt s x y))
  rw [List.map_map] at this
  exact this
def gChunk : List V → List Bool → Option Made := fun args h => match ivs [.u64, .i64, .i64] args, h with
  | some [s, x, y], true :: h' => some (chunkV x y 0, [⟨true, .exp (cellsAt s x y)⟩], h', [inCh x y])
  | some [_, x, y], false :: h' => some (noChunk, [], h', [¬ inCh x y])
  | _, _ => none
theorem gChunk_ok {f : FuncId} (h1 : ∀ s x y, inCh x y → Makes Try.prog f [.int .u64 s, .int .i64 x, .int .i64 y] (chunkV x y 0) [⟨true, .exp (cellsAt s x y)⟩])
    (h2 : ∀ s x y, ¬ inCh x y → Makes Try.prog f [.int .u64 s, .int .i64 x, .int .i64 y] noChunk []) : TabOk Try.prog f (fresh gChunk) := fresh_ok fun args h v bs h' ob hg hob => by
  unfold gChunk at hg
  split at hg
  · rename_i s x y h0 hns
    injection hg with hg; injection hg with e1 e2; injection e2 with e2 e3; injection e3 with e3 e4
    subst e1; subst e2; subst e3; subst e4
    refine ⟨rfl, fun ρ us hu => ?_⟩
    obtain ⟨rfl, _⟩ := ivs_rel hns hu
    exact h1 s x y (hob _ (by simp))
  · rename_i s x y h0 hns
    injection hg with hg; injection hg with e1 e2; injection e2 with e2 e3; injection e3 with e3 e4
    subst e1; subst e2; subst e3; subst e4
    refine ⟨rfl, fun ρ us hu => ?_⟩
    obtain ⟨rfl, _⟩ := ivs_rel hns hu
    exact h2 s x y (hob _ (by simp))
  · cases hg
theorem chunk_in {f : FuncId} {s x y : Int} {b : Nat} {h : List Bool} {ob : List Prop} (hr : chunkR f [b] h s x y = some (chunkV x y b, [⟨true, .exp (cellsAt s x y)⟩], ob)) (hob : allP ob) :
    Makes Try.prog f [.int .u64 s, .int .i64 x, .int .i64 y] (chunkV x y 0) [⟨true, .exp (cellsAt s x y)⟩] :=
  makes_of (v := chunkV x y 0) (bs := [⟨true, .exp (cellsAt s x y)⟩]) tab2_ok hr hob (by simp) ⟨⟨rfl, rfl⟩, ⟨rfl, rfl⟩, ⟨rfl, rfl, rfl, rfl, Nat.le_refl _, Nat.le_refl _⟩, trivial, trivial, trivial⟩ ⟨⟨fun h => h, cells_le _ _ _ _⟩, trivial⟩ (cell_args s x y)
theorem chunk_out {f : FuncId} {s x y : Int} {h : List Bool} {ob : List Prop} (hr : chunkR f [] h s x y = some (noChunk, [], ob)) (hob : allP ob) :
    Makes Try.prog f [.int .u64 s, .int .i64 x, .int .i64 y] noChunk [] :=
  makes_of (v := noChunk) (bs := []) tab2_ok hr hob (by simp) ⟨⟨rfl, rfl⟩, ⟨rfl, rfl⟩, trivial, trivial, trivial, trivial⟩ trivial (cell_args s x y)
theorem chunk_tab : TabOk Try.prog 13 (fresh gChunk) := gChunk_ok
  (fun s x y h => chunk_in (congrFun (congrFun (congrFun c3 s) x) y) (allP_app (obsAt_ok h) (by
    simp only [allP, mm_f, mm_t, decide_eq_false_iff_not, and_true]; unfold inCh at h; omega)))
  (fun s x y h => by
    by_cases h0 : x < 0 ∨ y < 0
    · exact chunk_out (congrFun (congrFun (congrFun c1 s) x) y) (by simp only [allP, mm_f, decide_eq_true_eq, and_true]; exact h0)
    · exact chunk_out (congrFun (congrFun (congrFun c2 s) x) y) (by simp only [allP, mm_f, mm_t, decide_eq_true_eq, decide_eq_false_iff_not, and_true]; unfold inCh at h; omega))
theorem refChunk_tab : TabOk Try.prog 14 (fresh gChunk) := gChunk_ok
  (fun s x y h => chunk_in (congrFun (congrFun (congrFun d5 s) x) y) (allP_app (obsAt_ok h) (by
    simp only [allP, decide_eq_false_iff_not, and_true]; unfold inCh at h; omega)))
  (fun s x y h => by
    by_cases h1 : x < 0
    · exact chunk_out (congrFun (congrFun (congrFun d1 s) x) y) (by simp only [allP, decide_eq_true_eq, and_true]; omega)
    by_cases h2 : 15 < x
    · exact chunk_out (congrFun (congrFun (congrFun d2 s) x) y) (by simp only [allP, decide_eq_true_eq, decide_eq_false_iff_not, and_true]; omega)
    by_cases h3 : y < 0
    · exact chunk_out (congrFun (congrFun (congrFun d3 s) x) y) (by simp only [allP, decide_eq_true_eq, decide_eq_false_iff_not, and_true]; omega)
    · exact chunk_out (congrFun (congrFun (congrFun d4 s) x) y) (by simp only [allP, decide_eq_true_eq, decide_eq_false_iff_not, and_true]; unfold inCh at h; omega))
theorem awake_run : isT (callN Try.prog (fun _ => none) (fun f => Nat.beq f 22 || Nat.beq f 23) 100000 9 15 [] [] []) = true := by kernel_rfl
def tab3 := tabs [(15, yes), (8, numTab [.u64, .u64] gMix), (9, numTab [.u64, .u64] gMix), (10, numTab [.u64, .i64, .i64] gCell), (11, numTab [.u64, .i64, .i64] gCell), (13, fresh gChunk), (14, fresh gChunk)]
noncomputable def call3 (d : Nat) := callN Try.prog tab3 (fun _ => false) 100000 d
theorem tab3_ok : ∀ f g, tab3 f = some g → TabOk Try.prog f g := tabs_ok fun x hx => by
  simp only [List.mem_cons, List.not_mem_nil, or_false] at hx
  rcases hx with rfl | rfl | rfl | rfl | rfl | rfl | rfl
  · exact yes_ok no_tabs awake_run
  · exact mix_tab
  · exact mixR_tab
  · exact cell_tab cell_makes
  · exact cell_tab ref_makes
  · exact chunk_tab
  · exact refChunk_tab
end Go.Proofs.Ytbbjfjeagaoddaa
