/- BytesBack: the loop that puts. -/
import Derived.Test.YtjjjpflnhagfcaaWbC
namespace Go.Proofs.Ytjjjpflnhagfcaa
open Go.ChangeShapes Go.WideShapes Go.ChangeAt Go.RowKit Go.Sx
def InvW (l : Rws) (a : List Int) (cut : Int) : Nat × Option (List Int × List Int × Rws) → St
  | (i, none) => TA l a cut [(a.length : Int)] i []
  | (i, some (B, E, R)) => TB l a cut B E R i []
def goodW (a : List Int) : Nat × Option (List Int × List Int × Rws) → Prop
  | (i, none) => i ≤ 25
  | (i, some (B, E, R)) => i ≤ 25 ∧ Chain a B E R ∧ R.length ≤ i
theorem ap5W {α β γ δ ε κ : Type} {f g : α → β → γ → δ → ε → κ} (h : f = g) (a : α) (b : β) (c : γ) (d : δ) (e : ε) : f a b c d e = g a b c d e := by rw [h]
theorem ap7W {α β γ δ ε ζ η κ : Type} {f g : α → β → γ → δ → ε → ζ → η → κ} (h : f = g) (a : α) (b : β) (c : γ) (d : δ) (e : ε) (x : ζ) (y : η) : f a b c d e x y = g a b c d e x y := by rw [h]
theorem seal4 (d : List Int) : (sealS (List.take d.length d)).length = d.length + 4 := by rw [List.take_length, sealS_len]
theorem haddW (x y : Nat) : Nat.add x y = x + y := rfl
section
variable {ρ0 : Env} {Wd : World} {l : Rws} {a : List Int} {cut : Int}
theorem strW {B : List Int} (h : B.take a.length = a) : (!List.map (fun (n : Int) => UInt8.ofNat (Int.toNat n)) (List.take (Int.toNat (a.length : Int)) (List.drop 0 B)) == List.map (fun (n : Int) => UInt8.ofNat (Int.toNat n)) a) = false := by
  rw [Int.toNat_natCast, List.drop_zero, h]; simp
theorem w1_exitA {i : Nat} (hρ : ρ0.length = 2) (ha : a.length ≤ 50) (hc : 0 ≤ cut ∧ cut < 65536) (hi : i ≤ 25) (hx : ¬ (i < l.length ∧ i < 25))
    {ρ' : Env} {ac : Act} {w : World} (hr : RelD [] (ρ0 ++ ρ') (uptoN Wd) Wd fnW.ntmps (TA l a cut [(a.length : Int)] i []) ac w) : Goes Try.prog 10 (EndW Wd) (.code LW.1 :: KW) ac w := by
  have hs := strW (a := a) (B := a) List.take_length
  have ht : Int.tmod cut ((a.length : Int) - (a.length : Int) + 1) = 0 := by rw [Int.sub_self]; exact Int.tmod_one _
  have hn := Int.toNat_natCast a.length
  by_cases h1 : i < l.length
  · have q := ap5W wbAxb l a cut [(a.length : Int)] i
    refine goes_true (callWb_ok 9) funW (S := TA l a cut [(a.length : Int)] i [true, false, false, false, true, false]) q ?_ (fun w' h => ⟨rfl, keptW h⟩) (ρ0 := ρ0) ⟨hr.sl, hr.m⟩
    simp only [allP, ht]
    ((repeat' (first | exact trivial | assumption | refine And.intro ?_ ?_)) <;> first | omega | exact decide_eq_true (by omega) | exact decide_eq_false (by omega) | simp | (simp; omega))
  · have q := ap5W wbAxa l a cut [(a.length : Int)] i
    refine goes_true (callWb_ok 9) funW (S := TA l a cut [(a.length : Int)] i [false, false, false, true, false]) q ?_ (fun w' h => ⟨rfl, keptW h⟩) (ρ0 := ρ0) ⟨hr.sl, hr.m⟩
    simp only [allP, ht]
    ((repeat' (first | exact trivial | assumption | refine And.intro ?_ ?_)) <;> first | omega | exact decide_eq_true (by omega) | exact decide_eq_false (by omega) | simp | (simp; omega))
theorem w1_exitB {i : Nat} {B E : List Int} {R : Rws} (hρ : ρ0.length = 2) (c : Chain a B E R) (hR : R.length ≤ i) (ha : a.length ≤ 50) (hc : 0 ≤ cut ∧ cut < 65536) (hi : i ≤ 25) (hx : ¬ (i < l.length ∧ i < 25))
    {ρ' : Env} {ac : Act} {w : World} (hr : RelD [] (ρ0 ++ ρ') (uptoN Wd) Wd fnW.ntmps (TB l a cut B E R i []) ac w) : Goes Try.prog 10 (EndW Wd) (.code LW.1 :: KW) ac w := by
  have hs := strW c.pre
  have hla := c.la; have hlen := c.len
  have t0 : 0 ≤ Int.tmod cut ((B.length : Int) - (a.length : Int) + 1) := Int.tmod_nonneg _ hc.1
  have t1 : Int.tmod cut ((B.length : Int) - (a.length : Int) + 1) < (B.length : Int) - (a.length : Int) + 1 := Int.tmod_lt_of_pos _ (by omega)
  have hn := Int.toNat_natCast a.length
  by_cases h1 : i < l.length
  · have q := ap7W wbBxb l a cut B E R i
    generalize Int.tmod cut ((B.length : Int) - (a.length : Int) + 1) = T at *
    refine goes_stop (ρ0 := ρ0) (r := [2, 3, 4]) (T := TI 0 l a B E R B.length (Int.toNat ((a.length : Int) + T)) 0 []) (S := TB l a cut B E R i [true, false, false, false, true, false]) (callWb_ok 9) funW (by rw [hρ]; exact q) ?_
      ⟨by rw [hρ]; decide, ?_, ?_⟩ (fun ρ' a' w hh => wi_zero hρ c (by omega) (by omega) (by omega) (by omega) hh) ⟨hr.sl, hr.m⟩
    · simp only [allP]
      ((repeat' (first | exact trivial | assumption | refine And.intro ?_ ?_)) <;> first | omega | exact decide_eq_true (by omega) | exact decide_eq_false (by omega) | simp | (simp; omega))
    · rw [hρ]
      simp [TI, leSlots, leV, leV1, leL, leC, si, rsl, isl, csl, N.v, List.range, List.range.loop]; omega
    · rw [hρ]
      simp [TI, leBs, leB, leCells, leL, leC, rr, orr, roB, owB, oiI, N.v, List.range, List.range.loop]
  · have q := ap7W wbBxa l a cut B E R i
    generalize Int.tmod cut ((B.length : Int) - (a.length : Int) + 1) = T at *
    refine goes_stop (ρ0 := ρ0) (r := [2, 3, 4]) (T := TI 0 l a B E R B.length (Int.toNat ((a.length : Int) + T)) 0 []) (S := TB l a cut B E R i [false, false, false, true, false]) (callWb_ok 9) funW (by rw [hρ]; exact q) ?_
      ⟨by rw [hρ]; decide, ?_, ?_⟩ (fun ρ' a' w hh => wi_zero hρ c (by omega) (by omega) (by omega) (by omega) hh) ⟨hr.sl, hr.m⟩
    · simp only [allP]
      ((repeat' (first | exact trivial | assumption | refine And.intro ?_ ?_)) <;> first | omega | exact decide_eq_true (by omega) | exact decide_eq_false (by omega) | simp | (simp; omega))
    · rw [hρ]
      simp [TI, leSlots, leV, leV1, leL, leC, si, rsl, isl, csl, N.v, List.range, List.range.loop]; omega
    · rw [hρ]
      simp [TI, leBs, leB, leCells, leL, leC, rr, orr, roB, owB, oiI, N.v, List.range, List.range.loop]
def oneR (l : Rws) (i : Nat) : Rw := ([(l.getD i ([], [])).1.getD 0 0, (l.getD i ([], [])).1.getD 1 0], (l.getD i ([], [])).2)
theorem w1_putA {i : Nat} {E : List Int} (hρ : ρ0.length = 2) (hE0 : E = [(a.length : Int)]) (hwa : wfB a) (ha : a.length ≤ 50) (hl : ∀ r ∈ l, wf8 r.2 ∧ u64 (r.1.getD 1 0)) (hi : i < l.length) (h25 : i < 25)
    (ih : ∀ x, goodW a x → 25 - x.1 < 25 - i → ∀ ρ' a' w, RelD [] (ρ0 ++ ρ') (uptoN Wd) Wd fnW.ntmps (InvW l a cut x) a' w → Goes Try.prog 10 (EndW Wd) KW a' w)
    {ρ' : Env} {ac : Act} {w : World} (hr : RelD [] (ρ0 ++ ρ') (uptoN Wd) Wd fnW.ntmps (TA l a cut E i []) ac w) : Goes Try.prog 10 (EndW Wd) (.code LW.1 :: KW) ac w := by
  have hx := hl _ (getD_mem (d := ([], [])) hi)
  obtain ⟨d2, d3⟩ := hx
  have c : Chain a a E [] := by rw [hE0]; exact Chain.nil hwa
  have hE : E.length = 1 := by rw [hE0]; rfl
  by_cases h40 : (40 : Int) < ((l.getD i ([], [])).2.length : Int)
  · subst hE0; have q := ap5W wbAs l a cut [(a.length : Int)] i
    refine goes_stop (ρ0 := ρ0) (r := [2, 3]) (T := InvW l a cut (i + 1, none)) (S := TA l a cut [(a.length : Int)] i [true, true, true]) (callWb_ok 9) funW (by rw [hρ]; exact q) ?_
      ⟨by rw [hρ]; decide, ?_, ?_⟩ (fun ρ' a' w hh => ih (i + 1, none) h25 (by simp only; omega) ρ' a' w hh) ⟨hr.sl, hr.m⟩
    · exact ⟨⟨by omega, by omega⟩, decide_eq_true h40, hi, by omega, by omega, decide_eq_true (by omega), decide_eq_true (by omega), trivial⟩
    · rw [hρ]
      simp [InvW, TA, TB, leSlots, leV, leV1, leL, leC, si, rsl, isl, bsl, N.v, List.range, List.range.loop]
    · rw [hρ]
      simp [InvW, TA, TB, leBs, leB, leCells, leL, leC, rr, orr, roB, owB, oiI, N.v, List.range, List.range.loop]
  have hok : okR (oneR l i) := ⟨by show (l.getD i ([], [])).2.length ≤ 40; omega, d2, d3⟩
  have ek : kdR (oneR l i) = Int.tmod ((l.getD i ([], [])).1.getD 0 0) 4 := rfl
  by_cases k0 : kdR (oneR l i) = 0
  · have ee : a ++ vint ((l.getD i ([], [])).1.getD 1 0) = a ++ encR (oneR l i) := (by unfold encR; rw [if_pos k0]; rfl)
    have cc := c.snoc hok ee
    have q := ap5W wbA0 l a cut E i
    refine goes_stop (ρ0 := ρ0) (r := [7, 12, 10]) (T := TB l a cut (a ++ vint ((l.getD i ([], [])).1.getD 1 0)) (E ++ [(((a ++ vint ((l.getD i ([], [])).1.getD 1 0)).length : Nat) : Int)]) (([] : Rws) ++ [oneR l i]) (i + 1) []) (S := TA l a cut E i [true, true, false, true, true, true, true]) (callWb_ok 9) funW (by rw [hρ]; exact q) ?_
      ⟨by rw [hρ]; decide, ?_, ?_⟩ (fun ρ' a' w hh => ih (i + 1, some (a ++ vint ((l.getD i ([], [])).1.getD 1 0), E ++ [(((a ++ vint ((l.getD i ([], [])).1.getD 1 0)).length : Nat) : Int)], ([] : Rws) ++ [oneR l i])) ⟨h25, cc, by simp only [List.length_append, List.length_singleton, List.length_nil]; omega⟩ (by simp only; omega) ρ' a' w hh) ⟨hr.sl, hr.m⟩
    · rw [ek] at k0
      exact ⟨⟨by omega, by omega⟩, rfl, rfl, by omega, by omega, rfl, rfl, rfl, by omega, by omega, by omega, d3, rfl, by omega, decide_eq_true k0, by omega, by omega, by omega, decide_eq_false h40, by omega, by omega, by omega, decide_eq_true (by omega), decide_eq_true (by omega), trivial⟩
    · rw [hρ]
      simp [TB, leSlots, leV, leV1, leL, leC, si, rsl, isl, bsl, N.v, List.range, List.range.loop]
    · rw [hρ]
      simp [TB, oneR, leBs, leB, leCells, leL, leC, rr, orr, roB, owB, oiI, k2, N.v, List.range, List.range.loop]
  by_cases k1 : kdR (oneR l i) = 1
  · have ee : a ++ svint (IntKind.wrap .i64 ((l.getD i ([], [])).1.getD 1 0)) = a ++ encR (oneR l i) := (by unfold encR; rw [if_neg k0, if_pos k1]; rfl)
    have cc := c.snoc hok ee
    have q := ap5W wbA1 l a cut E i
    refine goes_stop (ρ0 := ρ0) (r := [7, 12, 10]) (T := TB l a cut (a ++ svint (IntKind.wrap .i64 ((l.getD i ([], [])).1.getD 1 0))) (E ++ [(((a ++ svint (IntKind.wrap .i64 ((l.getD i ([], [])).1.getD 1 0))).length : Nat) : Int)]) (([] : Rws) ++ [oneR l i]) (i + 1) []) (S := TA l a cut E i [true, true, false, false, true, true, true, true]) (callWb_ok 9) funW (by rw [hρ]; exact q) ?_
      ⟨by rw [hρ]; decide, ?_, ?_⟩ (fun ρ' a' w hh => ih (i + 1, some (a ++ svint (IntKind.wrap .i64 ((l.getD i ([], [])).1.getD 1 0)), E ++ [(((a ++ svint (IntKind.wrap .i64 ((l.getD i ([], [])).1.getD 1 0))).length : Nat) : Int)], ([] : Rws) ++ [oneR l i])) ⟨h25, cc, by simp only [List.length_append, List.length_singleton, List.length_nil]; omega⟩ (by simp only; omega) ρ' a' w hh) ⟨hr.sl, hr.m⟩
    · rw [ek] at k0 k1
      exact ⟨⟨by omega, by omega⟩, rfl, rfl, by omega, by omega, rfl, rfl, rfl, by omega, by omega, by omega, wrapI_i64 _, rfl, by omega, decide_eq_true k1, decide_eq_false k0, by omega, by omega, by omega, decide_eq_false h40, by omega, by omega, by omega, decide_eq_true (by omega), decide_eq_true (by omega), trivial⟩
    · rw [hρ]
      simp [TB, leSlots, leV, leV1, leL, leC, si, rsl, isl, bsl, N.v, List.range, List.range.loop]
    · rw [hρ]
      simp [TB, oneR, leBs, leB, leCells, leL, leC, rr, orr, roB, owB, oiI, k2, N.v, List.range, List.range.loop]
  by_cases k2' : kdR (oneR l i) = 2
  · have ee : a ++ vint (((l.getD i ([], [])).2.length : Nat) : Int) ++ List.take (l.getD i ([], [])).2.length (l.getD i ([], [])).2 = a ++ encR (oneR l i) := (by unfold encR; rw [if_neg k0, if_neg k1, if_pos k2']; exact blob_enc _ _)
    have cc := c.snoc hok ee
    have q := ap5W wbA2 l a cut E i
    refine goes_stop (ρ0 := ρ0) (r := [7, 12, 10]) (T := TB l a cut (a ++ vint (((l.getD i ([], [])).2.length : Nat) : Int) ++ List.take (l.getD i ([], [])).2.length (l.getD i ([], [])).2) (E ++ [(((a ++ vint (((l.getD i ([], [])).2.length : Nat) : Int) ++ List.take (l.getD i ([], [])).2.length (l.getD i ([], [])).2).length : Nat) : Int)]) (([] : Rws) ++ [oneR l i]) (i + 1) []) (S := TA l a cut E i [true, true, false, false, false, true, true, true, true]) (callWb_ok 9) funW (by rw [hρ]; exact q) ?_
      ⟨by rw [hρ]; decide, ?_, ?_⟩ (fun ρ' a' w hh => ih (i + 1, some (a ++ vint (((l.getD i ([], [])).2.length : Nat) : Int) ++ List.take (l.getD i ([], [])).2.length (l.getD i ([], [])).2, E ++ [(((a ++ vint (((l.getD i ([], [])).2.length : Nat) : Int) ++ List.take (l.getD i ([], [])).2.length (l.getD i ([], [])).2).length : Nat) : Int)], ([] : Rws) ++ [oneR l i])) ⟨h25, cc, by simp only [List.length_append, List.length_singleton, List.length_nil]; omega⟩ (by simp only; omega) ρ' a' w hh) ⟨hr.sl, hr.m⟩
    · rw [ek] at k0 k1 k2'
      exact ⟨⟨by omega, by omega⟩, rfl, rfl, by omega, by omega, rfl, rfl, rfl, by omega, by omega, by omega, rfl, by omega, by omega, decide_eq_true k2', decide_eq_false k1, decide_eq_false k0, by omega, by omega, by omega, decide_eq_false h40, by omega, by omega, by omega, decide_eq_true (by omega), decide_eq_true (by omega), trivial⟩
    · rw [hρ]
      simp [TB, leSlots, leV, leV1, leL, leC, si, rsl, isl, bsl, N.v, List.range, List.range.loop]
    · rw [hρ]
      simp [TB, oneR, leBs, leB, leCells, leL, leC, rr, orr, roB, owB, oiI, k2, N.v, List.range, List.range.loop]
  · have ee : a ++ vint ((Nat.add (l.getD i ([], [])).2.length 4 : Nat) : Int) ++ List.take (Nat.add (l.getD i ([], [])).2.length 4) (sealS (List.take (l.getD i ([], [])).2.length (l.getD i ([], [])).2)) = a ++ encR (oneR l i) := (by unfold encR; rw [if_neg k0, if_neg k1, if_neg k2']; exact seal_enc _ _)
    have cc := c.snoc hok ee
    have q := ap5W wbA3 l a cut E i
    refine goes_stop (ρ0 := ρ0) (r := [8, 13, 11]) (T := TB l a cut (a ++ vint ((Nat.add (l.getD i ([], [])).2.length 4 : Nat) : Int) ++ List.take (Nat.add (l.getD i ([], [])).2.length 4) (sealS (List.take (l.getD i ([], [])).2.length (l.getD i ([], [])).2))) (E ++ [(((a ++ vint ((Nat.add (l.getD i ([], [])).2.length 4 : Nat) : Int) ++ List.take (Nat.add (l.getD i ([], [])).2.length 4) (sealS (List.take (l.getD i ([], [])).2.length (l.getD i ([], [])).2))).length : Nat) : Int)]) (([] : Rws) ++ [oneR l i]) (i + 1) []) (S := TA l a cut E i [true, true, false, false, false, false, true, true, true]) (callWb_ok 9) funW (by rw [hρ]; exact q) ?_
      ⟨by rw [hρ]; decide, ?_, ?_⟩ (fun ρ' a' w hh => ih (i + 1, some (a ++ vint ((Nat.add (l.getD i ([], [])).2.length 4 : Nat) : Int) ++ List.take (Nat.add (l.getD i ([], [])).2.length 4) (sealS (List.take (l.getD i ([], [])).2.length (l.getD i ([], [])).2)), E ++ [(((a ++ vint ((Nat.add (l.getD i ([], [])).2.length 4 : Nat) : Int) ++ List.take (Nat.add (l.getD i ([], [])).2.length 4) (sealS (List.take (l.getD i ([], [])).2.length (l.getD i ([], [])).2))).length : Nat) : Int)], ([] : Rws) ++ [oneR l i])) ⟨h25, cc, by simp only [List.length_append, List.length_singleton, List.length_nil]; omega⟩ (by simp only; omega) ρ' a' w hh) ⟨hr.sl, hr.m⟩
    · rw [ek] at k0 k1 k2'
      exact ⟨⟨by omega, by omega⟩, rfl, rfl, by omega, by omega, rfl, rfl, rfl, by omega, by omega, by omega, rfl, Nat.le_of_eq (by rw [seal4]), (by simp only [haddW]; omega), by omega, by omega, d2, decide_eq_false k2', decide_eq_false k1, decide_eq_false k0, by omega, by omega, by omega, decide_eq_false h40, by omega, by omega, by omega, decide_eq_true (by omega), decide_eq_true (by omega), trivial⟩
    · rw [hρ]
      simp [TB, leSlots, leV, leV1, leL, leC, si, rsl, isl, bsl, N.v, List.range, List.range.loop]
    · rw [hρ]
      simp [TB, oneR, leBs, leB, leCells, leL, leC, rr, orr, roB, owB, oiI, k2, N.v, List.range, List.range.loop]
theorem w1_putB {i : Nat} {B E : List Int} {R : Rws} (hρ : ρ0.length = 2) (c : Chain a B E R) (hR : R.length ≤ i) (hwa : wfB a) (ha : a.length ≤ 50) (hl : ∀ r ∈ l, wf8 r.2 ∧ u64 (r.1.getD 1 0)) (hi : i < l.length) (h25 : i < 25)
    (ih : ∀ x, goodW a x → 25 - x.1 < 25 - i → ∀ ρ' a' w, RelD [] (ρ0 ++ ρ') (uptoN Wd) Wd fnW.ntmps (InvW l a cut x) a' w → Goes Try.prog 10 (EndW Wd) KW a' w)
    {ρ' : Env} {ac : Act} {w : World} (hr : RelD [] (ρ0 ++ ρ') (uptoN Wd) Wd fnW.ntmps (TB l a cut B E R i []) ac w) : Goes Try.prog 10 (EndW Wd) (.code LW.1 :: KW) ac w := by
  have hx := hl _ (getD_mem (d := ([], [])) hi)
  obtain ⟨d2, d3⟩ := hx
  have hla := c.la; have hlen := c.len; have hE := c.eE
  by_cases h40 : (40 : Int) < ((l.getD i ([], [])).2.length : Int)
  · have q := ap7W wbBs l a cut B E R i
    refine goes_stop (ρ0 := ρ0) (r := [2, 3, 4]) (T := InvW l a cut (i + 1, some (B, E, R))) (S := TB l a cut B E R i [true, true, true]) (callWb_ok 9) funW (by rw [hρ]; exact q) ?_
      ⟨by rw [hρ]; decide, ?_, ?_⟩ (fun ρ' a' w hh => ih (i + 1, some (B, E, R)) ⟨h25, c, by omega⟩ (by simp only; omega) ρ' a' w hh) ⟨hr.sl, hr.m⟩
    · exact ⟨⟨by omega, by omega⟩, decide_eq_true h40, hi, by omega, by omega, decide_eq_true (by omega), decide_eq_true (by omega), trivial⟩
    · rw [hρ]
      simp [InvW, TA, TB, leSlots, leV, leV1, leL, leC, si, rsl, isl, bsl, N.v, List.range, List.range.loop]
    · rw [hρ]
      simp [InvW, TA, TB, leBs, leB, leCells, leL, leC, rr, orr, roB, owB, oiI, N.v, List.range, List.range.loop]
  have hok : okR (oneR l i) := ⟨by show (l.getD i ([], [])).2.length ≤ 40; omega, d2, d3⟩
  have ek : kdR (oneR l i) = Int.tmod ((l.getD i ([], [])).1.getD 0 0) 4 := rfl
  by_cases k0 : kdR (oneR l i) = 0
  · have ee : B ++ vint ((l.getD i ([], [])).1.getD 1 0) = B ++ encR (oneR l i) := (by unfold encR; rw [if_pos k0]; rfl)
    have cc := c.snoc hok ee
    have q := ap7W wbB0 l a cut B E R i
    refine goes_stop (ρ0 := ρ0) (r := [8, 13, 11]) (T := TB l a cut (B ++ vint ((l.getD i ([], [])).1.getD 1 0)) (E ++ [(((B ++ vint ((l.getD i ([], [])).1.getD 1 0)).length : Nat) : Int)]) (R ++ [oneR l i]) (i + 1) []) (S := TB l a cut B E R i [true, true, false, true, true, true, true, true]) (callWb_ok 9) funW (by rw [hρ]; exact q) ?_
      ⟨by rw [hρ]; decide, ?_, ?_⟩ (fun ρ' a' w hh => ih (i + 1, some (B ++ vint ((l.getD i ([], [])).1.getD 1 0), E ++ [(((B ++ vint ((l.getD i ([], [])).1.getD 1 0)).length : Nat) : Int)], R ++ [oneR l i])) ⟨h25, cc, by simp only [List.length_append, List.length_singleton, List.length_nil]; omega⟩ (by simp only; omega) ρ' a' w hh) ⟨hr.sl, hr.m⟩
    · rw [ek] at k0
      exact ⟨⟨by omega, by omega⟩, rfl, rfl, by omega, by omega, rfl, rfl, rfl, rfl, rfl, by omega, by omega, by omega, by omega, by omega, d3, rfl, by omega, decide_eq_true k0, by omega, by omega, by omega, decide_eq_false h40, by omega, by omega, by omega, decide_eq_true (by omega), decide_eq_true (by omega), trivial⟩
    · rw [hρ]
      simp [TB, leSlots, leV, leV1, leL, leC, si, rsl, isl, bsl, N.v, List.range, List.range.loop]
    · rw [hρ]
      simp [TB, oneR, leBs, leB, leCells, leL, leC, rr, orr, roB, owB, oiI, k2, N.v, List.range, List.range.loop]
  by_cases k1 : kdR (oneR l i) = 1
  · have ee : B ++ svint (IntKind.wrap .i64 ((l.getD i ([], [])).1.getD 1 0)) = B ++ encR (oneR l i) := (by unfold encR; rw [if_neg k0, if_pos k1]; rfl)
    have cc := c.snoc hok ee
    have q := ap7W wbB1 l a cut B E R i
    refine goes_stop (ρ0 := ρ0) (r := [8, 13, 11]) (T := TB l a cut (B ++ svint (IntKind.wrap .i64 ((l.getD i ([], [])).1.getD 1 0))) (E ++ [(((B ++ svint (IntKind.wrap .i64 ((l.getD i ([], [])).1.getD 1 0))).length : Nat) : Int)]) (R ++ [oneR l i]) (i + 1) []) (S := TB l a cut B E R i [true, true, false, false, true, true, true, true, true]) (callWb_ok 9) funW (by rw [hρ]; exact q) ?_
      ⟨by rw [hρ]; decide, ?_, ?_⟩ (fun ρ' a' w hh => ih (i + 1, some (B ++ svint (IntKind.wrap .i64 ((l.getD i ([], [])).1.getD 1 0)), E ++ [(((B ++ svint (IntKind.wrap .i64 ((l.getD i ([], [])).1.getD 1 0))).length : Nat) : Int)], R ++ [oneR l i])) ⟨h25, cc, by simp only [List.length_append, List.length_singleton, List.length_nil]; omega⟩ (by simp only; omega) ρ' a' w hh) ⟨hr.sl, hr.m⟩
    · rw [ek] at k0 k1
      exact ⟨⟨by omega, by omega⟩, rfl, rfl, by omega, by omega, rfl, rfl, rfl, rfl, rfl, by omega, by omega, by omega, by omega, by omega, wrapI_i64 _, rfl, by omega, decide_eq_true k1, decide_eq_false k0, by omega, by omega, by omega, decide_eq_false h40, by omega, by omega, by omega, decide_eq_true (by omega), decide_eq_true (by omega), trivial⟩
    · rw [hρ]
      simp [TB, leSlots, leV, leV1, leL, leC, si, rsl, isl, bsl, N.v, List.range, List.range.loop]
    · rw [hρ]
      simp [TB, oneR, leBs, leB, leCells, leL, leC, rr, orr, roB, owB, oiI, k2, N.v, List.range, List.range.loop]
  by_cases k2' : kdR (oneR l i) = 2
  · have ee : B ++ vint (((l.getD i ([], [])).2.length : Nat) : Int) ++ List.take (l.getD i ([], [])).2.length (l.getD i ([], [])).2 = B ++ encR (oneR l i) := (by unfold encR; rw [if_neg k0, if_neg k1, if_pos k2']; exact blob_enc _ _)
    have cc := c.snoc hok ee
    have q := ap7W wbB2 l a cut B E R i
    refine goes_stop (ρ0 := ρ0) (r := [8, 13, 11]) (T := TB l a cut (B ++ vint (((l.getD i ([], [])).2.length : Nat) : Int) ++ List.take (l.getD i ([], [])).2.length (l.getD i ([], [])).2) (E ++ [(((B ++ vint (((l.getD i ([], [])).2.length : Nat) : Int) ++ List.take (l.getD i ([], [])).2.length (l.getD i ([], [])).2).length : Nat) : Int)]) (R ++ [oneR l i]) (i + 1) []) (S := TB l a cut B E R i [true, true, false, false, false, true, true, true, true, true]) (callWb_ok 9) funW (by rw [hρ]; exact q) ?_
      ⟨by rw [hρ]; decide, ?_, ?_⟩ (fun ρ' a' w hh => ih (i + 1, some (B ++ vint (((l.getD i ([], [])).2.length : Nat) : Int) ++ List.take (l.getD i ([], [])).2.length (l.getD i ([], [])).2, E ++ [(((B ++ vint (((l.getD i ([], [])).2.length : Nat) : Int) ++ List.take (l.getD i ([], [])).2.length (l.getD i ([], [])).2).length : Nat) : Int)], R ++ [oneR l i])) ⟨h25, cc, by simp only [List.length_append, List.length_singleton, List.length_nil]; omega⟩ (by simp only; omega) ρ' a' w hh) ⟨hr.sl, hr.m⟩
    · rw [ek] at k0 k1 k2'
      exact ⟨⟨by omega, by omega⟩, rfl, rfl, by omega, by omega, rfl, rfl, rfl, rfl, rfl, by omega, by omega, by omega, by omega, by omega, rfl, by omega, by omega, decide_eq_true k2', decide_eq_false k1, decide_eq_false k0, by omega, by omega, by omega, decide_eq_false h40, by omega, by omega, by omega, decide_eq_true (by omega), decide_eq_true (by omega), trivial⟩
    · rw [hρ]
      simp [TB, leSlots, leV, leV1, leL, leC, si, rsl, isl, bsl, N.v, List.range, List.range.loop]
    · rw [hρ]
      simp [TB, oneR, leBs, leB, leCells, leL, leC, rr, orr, roB, owB, oiI, k2, N.v, List.range, List.range.loop]
  · have ee : B ++ vint ((Nat.add (l.getD i ([], [])).2.length 4 : Nat) : Int) ++ List.take (Nat.add (l.getD i ([], [])).2.length 4) (sealS (List.take (l.getD i ([], [])).2.length (l.getD i ([], [])).2)) = B ++ encR (oneR l i) := (by unfold encR; rw [if_neg k0, if_neg k1, if_neg k2']; exact seal_enc _ _)
    have cc := c.snoc hok ee
    have q := ap7W wbB3 l a cut B E R i
    refine goes_stop (ρ0 := ρ0) (r := [9, 14, 12]) (T := TB l a cut (B ++ vint ((Nat.add (l.getD i ([], [])).2.length 4 : Nat) : Int) ++ List.take (Nat.add (l.getD i ([], [])).2.length 4) (sealS (List.take (l.getD i ([], [])).2.length (l.getD i ([], [])).2))) (E ++ [(((B ++ vint ((Nat.add (l.getD i ([], [])).2.length 4 : Nat) : Int) ++ List.take (Nat.add (l.getD i ([], [])).2.length 4) (sealS (List.take (l.getD i ([], [])).2.length (l.getD i ([], [])).2))).length : Nat) : Int)]) (R ++ [oneR l i]) (i + 1) []) (S := TB l a cut B E R i [true, true, false, false, false, false, true, true, true, true]) (callWb_ok 9) funW (by rw [hρ]; exact q) ?_
      ⟨by rw [hρ]; decide, ?_, ?_⟩ (fun ρ' a' w hh => ih (i + 1, some (B ++ vint ((Nat.add (l.getD i ([], [])).2.length 4 : Nat) : Int) ++ List.take (Nat.add (l.getD i ([], [])).2.length 4) (sealS (List.take (l.getD i ([], [])).2.length (l.getD i ([], [])).2)), E ++ [(((B ++ vint ((Nat.add (l.getD i ([], [])).2.length 4 : Nat) : Int) ++ List.take (Nat.add (l.getD i ([], [])).2.length 4) (sealS (List.take (l.getD i ([], [])).2.length (l.getD i ([], [])).2))).length : Nat) : Int)], R ++ [oneR l i])) ⟨h25, cc, by simp only [List.length_append, List.length_singleton, List.length_nil]; omega⟩ (by simp only; omega) ρ' a' w hh) ⟨hr.sl, hr.m⟩
    · rw [ek] at k0 k1 k2'
      exact ⟨⟨by omega, by omega⟩, rfl, rfl, by omega, by omega, rfl, rfl, rfl, rfl, rfl, by omega, by omega, by omega, by omega, by omega, rfl, Nat.le_of_eq (by rw [seal4]), (by simp only [haddW]; omega), by omega, by omega, d2, decide_eq_false k2', decide_eq_false k1, decide_eq_false k0, by omega, by omega, by omega, decide_eq_false h40, by omega, by omega, by omega, decide_eq_true (by omega), decide_eq_true (by omega), trivial⟩
    · rw [hρ]
      simp [TB, leSlots, leV, leV1, leL, leC, si, rsl, isl, bsl, N.v, List.range, List.range.loop]
    · rw [hρ]
      simp [TB, oneR, leBs, leB, leCells, leL, leC, rr, orr, roB, owB, oiI, k2, N.v, List.range, List.range.loop]
theorem w1_loop (hρ : ρ0.length = 2) (hwa : wfB a) (ha : a.length ≤ 50) (hc : 0 ≤ cut ∧ cut < 65536) (hl : ∀ r ∈ l, wf8 r.2 ∧ u64 (r.1.getD 1 0))
    {ρ' : Env} {ac : Act} {w : World} (hr : RelD [] (ρ0 ++ ρ') (uptoN Wd) Wd fnW.ntmps (TA l a cut [(a.length : Int)] 0 []) ac w) : Goes Try.prog 10 (EndW Wd) EW ac w := by
  refine goes_loop (ρ0 := ρ0) (InvW l a cut) (goodW a) (fun x => 25 - x.1) ?_ (i := (0, none)) (Nat.zero_le _) hr
  rintro ⟨i, o⟩ hg ρ' ac w hri ih
  cases o with
  | none =>
    by_cases hx : i < l.length ∧ i < 25
    · exact w1_putA hρ rfl hwa ha hl hx.1 hx.2 ih hri
    · exact w1_exitA hρ ha hc hg hx hri
  | some p =>
    obtain ⟨B, E, R⟩ := p
    obtain ⟨g1, g2, g3⟩ := hg
    by_cases hx : i < l.length ∧ i < 25
    · exact w1_putB hρ g2 g3 hwa ha hl hx.1 hx.2 ih hri
    · exact w1_exitB hρ g2 g3 ha hc g1 hx hri
end
end Go.Proofs.Ytjjjpflnhagfcaa
