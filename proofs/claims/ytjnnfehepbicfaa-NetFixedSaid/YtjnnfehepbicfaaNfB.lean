/- NetFixed's loop. -/
import Derived.Test.YtjnnfehepbicfaaNfA
import Derived.Test.YtjnnfehepbicfaaNmB
namespace Go.Proofs.Ytjnnfehepbicfaa
open Go.ChangeShapes Go.WideShapes Go.ChangeAt Go.RowKit Go.Sx
theorem funQ : Try.prog.funcs[3]? = some FQ := by kernel_rfl
theorem bodQ : FQ.body = some (body 3) := by kernel_rfl
theorem tmpQ : 0 ≤ FQ.ntmps := Nat.zero_le _
theorem sendE_cases (z f t : Int) (k n : Nat) : sendE z f t k n = if f < 0 ∨ t < 0 ∨ z ≤ f ∨ z ≤ t then 2 else if 1048576 < k then 3 else if 4096 ≤ n then 5 else 0 := by
  unfold sendE
  by_cases h : min f t < 0 ∨ z ≤ max f t
  · rw [if_pos h, if_pos (show f < 0 ∨ t < 0 ∨ z ≤ f ∨ z ≤ t by omega)]
  · rw [if_neg h, if_neg (show ¬ (f < 0 ∨ t < 0 ∨ z ≤ f ∨ z ≤ t) by omega)]
def fQ (i : Nat) : Rw := ([Int.tmod (i : Int) 64, Int.tmod (i : Int) 2], [IntKind.wrap .u8 (i : Int)])
def rowsQ (k : Nat) : Rws := ([0, 63], []) :: (List.range k).map fun j => fQ (j + 1)
theorem rowsQ_len (k : Nat) : (rowsQ k).length = k + 1 := by simp [rowsQ]
theorem rowsQ_step (k : Nat) : rowsQ k ++ [fQ (k + 1)] = rowsQ (k + 1) := by
  unfold rowsQ
  rw [List.range_succ, List.map_append]; rfl
theorem rowsQ_ok {k : Nat} (h : k ≤ 4095) : okN 64 (rowsQ k) := by
  refine ⟨by decide, fun r hr => ?_, by rw [rowsQ_len]; omega⟩
  unfold rowsQ at hr
  rcases List.mem_cons.1 hr with rfl | hr
  · exact ⟨rfl, Nat.zero_le _⟩
  · obtain ⟨j, _, rfl⟩ := List.mem_map.1 hr
    exact ⟨rfl, show (1 : Nat) ≤ 1048576 by omega⟩
theorem forget_ok {z : Int} {l : Rws} (q : Int) (h : okN z l) : okN z (forgetS l q) := by
  obtain ⟨h0, h1, h2⟩ := h
  exact ⟨h0, fun r hr => h1 r ((List.mem_filter.1 hr).1), Nat.le_trans (List.length_filter_le _ _) h2⟩
theorem fgA : (forgetS (rowsQ 4095) 1).length = 2048 := by decide +kernel
theorem fgB : (forgetS (forgetS (rowsQ 4095) 1) 64).length = 2048 := by decide +kernel
theorem fgC : (forgetS (forgetS (forgetS (rowsQ 4095) 1) 64) 63).length = 2047 := by decide +kernel
theorem rwQ : row (rowsQ 4095) 4095 = ([63, 1], [255]) := by decide +kernel
theorem fq_exit {Wd : World} {ac : Act} {w : World} {ρ' : Env} (hr : RelD [] ([] ++ ρ') (uptoN Wd) Wd FQ.ntmps (TQ (rowsQ 4095) 4096 []) ac w) :
    Goes Try.prog 3 (EndS Wd) (.code LQ.1 :: KQ) ac w := by
  have q := congrFun (congrFun fqX (rowsQ 4095)) 4096
  have h1 := rowsQ_ok (Nat.le_refl 4095)
  have h2 := forget_ok 1 h1
  have h3 := forget_ok 64 h2
  have h4 := forget_ok 63 h3
  have l0 := rowsQ_len 4095
  have l1 := fgA; have l2 := fgB; have l3 := fgC; have l4 := rwQ
  generalize hS : (TQ (rowsQ 4095) 4096 []) = S0 at hr
  refine goes_true (callY_ok 9) funQ q ?_ (fun w' h => ⟨rfl, keptN h⟩) (ρ0 := []) (by subst hS; exact ⟨hr.sl, hr.m⟩)
  clear q hr hS
  generalize rowsQ 4095 = R at *
  generalize forgetS (forgetS (forgetS R 1) 64) 63 = R3 at *
  generalize forgetS (forgetS R 1) 64 = R2 at *
  generalize forgetS R 1 = R1 at *
  simp only [allP, sendE_cases, copyE, l0, l1, l2, l3, l4]
  simp [h1, h2, h3, h4]
theorem fq_loop {Wd : World} {ac : Act} {w : World} {ρ' : Env} (hr : RelD [] ([] ++ ρ') (uptoN Wd) Wd FQ.ntmps (TQ (rowsQ 0) 1 []) ac w) :
    Goes Try.prog 3 (EndS Wd) EQ' ac w := by
  refine goes_loop (ρ0 := []) (fun k : Nat => TQ (rowsQ k) (k + 1) []) (fun k => k ≤ 4095) (fun k => 4095 - k) ?_ (i := 0) (Nat.zero_le _) hr
  intro k hg ρ' ac w hri ih
  by_cases hk : k < 4095
  · have q := congrFun (congrFun fqR (rowsQ k)) (k + 1)
    have hl := rowsQ_len k
    have hok := rowsQ_ok hg
    have e : rowsQ k ++ [([Int.tmod ((k + 1 : Nat) : Int) 64, Int.tmod ((k + 1 : Nat) : Int) 2], [IntKind.wrap .u8 ((k + 1 : Nat) : Int)])] = rowsQ (k + 1) := rowsQ_step k
    have hl1 := rowsQ_len (k + 1)
    simp only [e] at q
    have t0 : 0 ≤ Int.tmod ((k + 1 : Nat) : Int) 64 := Int.tmod_nonneg _ (by omega)
    have t1 : Int.tmod ((k + 1 : Nat) : Int) 64 < 64 := Int.tmod_lt_of_pos _ (by omega)
    have t2 : 0 ≤ Int.tmod ((k + 1 : Nat) : Int) 2 := Int.tmod_nonneg _ (by omega)
    have t3 : Int.tmod ((k + 1 : Nat) : Int) 2 < 2 := Int.tmod_lt_of_pos _ (by omega)
    refine goes_stop (ρ0 := []) (r := [0, 3]) (T := TQ (rowsQ (k + 1)) (k + 1 + 1) []) (S := TQ (rowsQ k) (k + 1) [true, true, false]) (callY_ok 9) funQ q ?_ ⟨by decide, ?_, ?_⟩
      (fun ρ' a w hh => ih (k + 1) (by omega) (by omega) ρ' a w hh) ⟨hri.sl, hri.m⟩
    · generalize Int.tmod ((k + 1 : Nat) : Int) 64 = a at *
      generalize Int.tmod ((k + 1 : Nat) : Int) 2 = b at *
      have hs : sendE 64 a b 1 (rowsQ k).length = 0 := by rw [sendE_cases, if_neg (by omega), if_neg (by omega), if_neg (by omega)]
      exact ⟨⟨by omega, by omega⟩, trivial, trivial, Nat.le_refl _, rfl, hok, hs, decide_eq_true (by omega), trivial⟩
    · simp [TQ, leSlots, leV, leV1, leC, si, np, N.v, List.range, List.range.loop]
    · simp only [TQ, hl, hl1]
      simp [leBs, leB, leCells, leL, leC, nb, orr, N.v, List.range, List.range.loop]
  · have e : k = 4095 := by omega
    subst e
    exact fq_exit hri
end Go.Proofs.Ytjnnfehepbicfaa
