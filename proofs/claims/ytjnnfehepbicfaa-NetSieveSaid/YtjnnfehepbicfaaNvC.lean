/- NetSieve's rounds. -/
import Derived.Test.YtjnnfehepbicfaaNvB
namespace Go.Proofs.Ytjnnfehepbicfaa
open Go.ChangeShapes Go.WideShapes Go.ChangeAt Go.RowKit Go.Sx
section
variable {l R W st : Rws} {L : List Int} {gone : Int} {i : Nat} (hL : L.length = 3) (hok : okN 3 R) (hR : R.length ≤ 30) (hi : i < R.length) (hs : st.length ≤ i)
include hL hok hR hi hs
theorem nv_r0 : GoR l R W st (match stayQ [] (R.getD i ([], [])) with | true => st ++ [R.getD i ([], [])] | false => st) L 0 gone i := by
  show GoR l R W st (st ++ [R.getD i ([], [])]) L 0 gone i
  have _u := And.intro hL (And.intro hR (And.intro hi hs))
  have h2 := (hok.2.1 _ (row_at hi ▸ List.getElem_mem hi)).1
  have q := ap9 nvR0 l R W W st L 0 gone i
  simp only [row2 h2] at q
  refine ⟨_, _, _, _, 11, by omega, q, ?_, ?_, ?_⟩
  · generalize R.getD i ([], []) = x at *
    simp only [allP]; simp; omega
  · simp [TV3, leSlots, leV, leV1, leC, si, rsl, sli, np, N.v]
  · simp [TV3, leBs, leB, leCells, leL, leC, nb, rr, orr, oI, N.v]
theorem nv_r1 : GoR l R W st (match stayQ [L.getD 0 0] (R.getD i ([], [])) with | true => st ++ [R.getD i ([], [])] | false => st) L 1 gone i := by
  have h2 := (hok.2.1 _ (row_at hi ▸ List.getElem_mem hi)).1
  have qa := ap9 nvR1a l R W W st L 1 gone i
  have qb := ap9 nvR1b l R W W st L 1 gone i
  simp only [row2 h2] at qa
  generalize hx : R.getD i ([], []) = x at *
  by_cases d0 : x.1.getD 1 0 = L.getD 0 0
  · have e : stayQ [L.getD 0 0] x = false := by simp only [stayQ, List.all_cons, decide_eq_true d0]; rfl
    rw [e]
    refine ⟨_, _, _, _, 7, by omega, qb, ?_, ?_, ?_⟩
    · simp only [allP, decide_eq_true d0]; simp [hL]; omega
    · simp [TV3, leSlots, leV, leV1, leC, si, rsl, sli, np, N.v]
    · simp [TV3, leBs, leB, leCells, leL, leC, nb, rr, orr, oI, N.v]
  · have e : stayQ [L.getD 0 0] x = true := by simp only [stayQ, List.all_cons, decide_eq_false d0]; rfl
    rw [e]
    refine ⟨_, _, _, _, 11, by omega, qa, ?_, ?_, ?_⟩
    · simp only [allP, decide_eq_false d0]; simp [hL]; omega
    · simp [TV3, leSlots, leV, leV1, leC, si, rsl, sli, np, N.v]
    · simp [TV3, leBs, leB, leCells, leL, leC, nb, rr, orr, oI, N.v]
theorem nv_r2 : GoR l R W st (match stayQ [L.getD 0 0, L.getD 1 0] (R.getD i ([], [])) with | true => st ++ [R.getD i ([], [])] | false => st) L 2 gone i := by
  have h2 := (hok.2.1 _ (row_at hi ▸ List.getElem_mem hi)).1
  have qa := ap9 nvR2a l R W W st L 2 gone i
  have qb := ap9 nvR2b l R W W st L 2 gone i
  have qc := ap9 nvR2c l R W W st L 2 gone i
  simp only [row2 h2] at qa
  generalize hx : R.getD i ([], []) = x at *
  by_cases d0 : x.1.getD 1 0 = L.getD 0 0
  · have e : stayQ [L.getD 0 0, L.getD 1 0] x = false := by simp only [stayQ, List.all_cons, decide_eq_true d0]; rfl
    rw [e]
    refine ⟨_, _, _, _, 7, by omega, qc, ?_, ?_, ?_⟩
    · simp only [allP, decide_eq_true d0]; simp [hL]; omega
    · simp [TV3, leSlots, leV, leV1, leC, si, rsl, sli, np, N.v]
    · simp [TV3, leBs, leB, leCells, leL, leC, nb, rr, orr, oI, N.v]
  · by_cases d1 : x.1.getD 1 0 = L.getD 1 0
    · have e : stayQ [L.getD 0 0, L.getD 1 0] x = false := by simp only [stayQ, List.all_cons, decide_eq_false d0, decide_eq_true d1]; rfl
      rw [e]
      refine ⟨_, _, _, _, 7, by omega, qb, ?_, ?_, ?_⟩
      · simp only [allP, decide_eq_false d0, decide_eq_true d1]; simp [hL]; omega
      · simp [TV3, leSlots, leV, leV1, leC, si, rsl, sli, np, N.v]
      · simp [TV3, leBs, leB, leCells, leL, leC, nb, rr, orr, oI, N.v]
    · have e : stayQ [L.getD 0 0, L.getD 1 0] x = true := by simp only [stayQ, List.all_cons, decide_eq_false d0, decide_eq_false d1]; rfl
      rw [e]
      refine ⟨_, _, _, _, 11, by omega, qa, ?_, ?_, ?_⟩
      · simp only [allP, decide_eq_false d0, decide_eq_false d1]; simp [hL]; omega
      · simp [TV3, leSlots, leV, leV1, leC, si, rsl, sli, np, N.v]
      · simp [TV3, leBs, leB, leCells, leL, leC, nb, rr, orr, oI, N.v]
theorem nv_r3 : GoR l R W st (match stayQ [L.getD 0 0, L.getD 1 0, L.getD 2 0] (R.getD i ([], [])) with | true => st ++ [R.getD i ([], [])] | false => st) L 3 gone i := by
  have h2 := (hok.2.1 _ (row_at hi ▸ List.getElem_mem hi)).1
  have qa := ap9 nvR3a l R W W st L 3 gone i
  have qb := ap9 nvR3b l R W W st L 3 gone i
  have qc := ap9 nvR3c l R W W st L 3 gone i
  have qd := ap9 nvR3d l R W W st L 3 gone i
  simp only [row2 h2] at qa
  generalize hx : R.getD i ([], []) = x at *
  by_cases d0 : x.1.getD 1 0 = L.getD 0 0
  · have e : stayQ [L.getD 0 0, L.getD 1 0, L.getD 2 0] x = false := by simp only [stayQ, List.all_cons, decide_eq_true d0]; rfl
    rw [e]
    refine ⟨_, _, _, _, 7, by omega, qd, ?_, ?_, ?_⟩
    · simp only [allP, decide_eq_true d0]; simp [hL]; omega
    · simp [TV3, leSlots, leV, leV1, leC, si, rsl, sli, np, N.v]
    · simp [TV3, leBs, leB, leCells, leL, leC, nb, rr, orr, oI, N.v]
  · by_cases d1 : x.1.getD 1 0 = L.getD 1 0
    · have e : stayQ [L.getD 0 0, L.getD 1 0, L.getD 2 0] x = false := by simp only [stayQ, List.all_cons, decide_eq_false d0, decide_eq_true d1]; rfl
      rw [e]
      refine ⟨_, _, _, _, 7, by omega, qc, ?_, ?_, ?_⟩
      · simp only [allP, decide_eq_false d0, decide_eq_true d1]; simp [hL]; omega
      · simp [TV3, leSlots, leV, leV1, leC, si, rsl, sli, np, N.v]
      · simp [TV3, leBs, leB, leCells, leL, leC, nb, rr, orr, oI, N.v]
    · by_cases d2 : x.1.getD 1 0 = L.getD 2 0
      · have e : stayQ [L.getD 0 0, L.getD 1 0, L.getD 2 0] x = false := by simp only [stayQ, List.all_cons, decide_eq_false d0, decide_eq_false d1, decide_eq_true d2]; rfl
        rw [e]
        refine ⟨_, _, _, _, 7, by omega, qb, ?_, ?_, ?_⟩
        · simp only [allP, decide_eq_false d0, decide_eq_false d1, decide_eq_true d2]; simp [hL]; omega
        · simp [TV3, leSlots, leV, leV1, leC, si, rsl, sli, np, N.v]
        · simp [TV3, leBs, leB, leCells, leL, leC, nb, rr, orr, oI, N.v]
      · have e : stayQ [L.getD 0 0, L.getD 1 0, L.getD 2 0] x = true := by simp only [stayQ, List.all_cons, decide_eq_false d0, decide_eq_false d1, decide_eq_false d2]; rfl
        rw [e]
        refine ⟨_, _, _, _, 11, by omega, qa, ?_, ?_, ?_⟩
        · simp only [allP, decide_eq_false d0, decide_eq_false d1, decide_eq_false d2]; simp [hL]; omega
        · simp [TV3, leSlots, leV, leV1, leC, si, rsl, sli, np, N.v]
        · simp [TV3, leBs, leB, leCells, leL, leC, nb, rr, orr, oI, N.v]
end
end Go.Proofs.Ytjnnfehepbicfaa
