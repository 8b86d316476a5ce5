/- The bag's contracts, further: spending, putting all. -/
import Derived.Test.YtibknlliackohaaBagG
namespace Go.Proofs.Ytibknlliackohaa
open Go.ChangeShapes Go.WideShapes Go.ChangeAt Go.RowKit Go.Sx
theorem funP : Try.prog.funcs[19]? = some FP := by kernel_rfl
theorem bodP : FP.body = some (body 19) := by kernel_rfl
theorem tmpP : 3 ≤ FP.ntmps := Nat.le_of_ble_eq_true (by kernel_rfl)
theorem nd1' (k : Nat) (h : k ≠ 0) : (List.range [ro []].length ++ [k]).Nodup := nd1 k h
theorem spend_stop (x : Int) (l : Rows2) (n : Int) : ∀ (j : Nat) (t : Rows2) (a : Int), spend x (l.drop j) n = (t, a) → a ≤ 0 → spend x l n = (l.take j ++ t, a)
  | 0, t, a, h, _ => by simpa using h
  | j + 1, t, a, h, ha => by
    by_cases hj : j < l.length
    · have h2 := spend_stop x l n j (l.getD j [] :: t) a (by
        rw [drop_row hj, spend, h]
        rw [if_neg (by intro hh; simp only at hh; omega)]) ha
      have e : l.take (j + 1) = l.take j ++ [l.getD j []] := by
        rw [List.take_add_one]
        simp [List.getD, hj]
      rw [h2, e, List.append_assoc]
      rfl
    · have e1 : l.drop (j + 1) = [] := List.drop_of_length_le (by omega)
      have e2 : l.drop j = [] := List.drop_of_length_le (by omega)
      have e3 : l.take (j + 1) = l.take j := by rw [List.take_of_length_le (by omega), List.take_of_length_le (by omega)]
      rw [e3]
      exact spend_stop x l n j t a (by rw [e2, ← e1]; exact h) ha
def SpInv (x n : Int) (l cur : Rows2) (a : Int) (k : Int) : Prop :=
  cur.length = l.length ∧ -1 ≤ k ∧ k < l.length ∧ spend x (l.drop (k + 1).toNat) n = (cur.drop (k + 1).toNat, a) ∧ cur.take (k + 1).toNat = l.take (k + 1).toNat
theorem sp_row {x n : Int} {l cur : Rows2} {a : Int} {k : Nat} (h : SpInv x n l cur a k) : cur.getD k [] = l.getD k [] ∧ k < cur.length ∧ k < l.length := by
  obtain ⟨h1, h2, h3, h4, h5⟩ := h
  have hk : k < l.length := by omega
  have e : ((k : Int) + 1).toNat = k + 1 := by omega
  rw [e] at h5
  have := congrArg (fun z => z[k]?) h5
  simp only [List.getElem?_take, if_pos (Nat.lt_succ_self k)] at this
  refine ⟨?_, by omega, hk⟩
  simp only [List.getD, this]
theorem sp_step0 {x n : Int} {l cur : Rows2} {a : Int} {k : Nat} (h : SpInv x n l cur a k) (hne : ¬ (0 < a ∧ it (l.getD k []) = x)) : SpInv x n l cur a ((k : Int) - 1) := by
  have hrow := sp_row h
  obtain ⟨h1, h2, h3, h4, h5⟩ := h
  have e : ((k : Int) + 1).toNat = k + 1 := by omega
  have e' : ((k : Int) - 1 + 1).toNat = k := by omega
  rw [e] at h4 h5
  refine ⟨h1, by omega, by omega, ?_, ?_⟩
  · rw [e', drop_row hrow.2.2, spend, h4]
    simp only
    rw [if_neg hne, ← hrow.1, ← drop_row hrow.2.1]
  · rw [e']
    have := congrArg (List.take k) h5
    rwa [List.take_take, List.take_take, Nat.min_eq_left (by omega)] at this
theorem sp_step1 {x n : Int} {l cur : Rows2} {a : Int} {k : Nat} (h : SpInv x n l cur a k) (hy : 0 < a ∧ it (l.getD k []) = x) :
    SpInv x n l (cur.set k (lessR (l.getD k []) (mn (nn (l.getD k [])) a))) (a - mn (nn (l.getD k [])) a) ((k : Int) - 1) := by
  have hrow := sp_row h
  obtain ⟨h1, h2, h3, h4, h5⟩ := h
  have e : ((k : Int) + 1).toNat = k + 1 := by omega
  have e' : ((k : Int) - 1 + 1).toNat = k := by omega
  rw [e] at h4 h5
  refine ⟨by simp [h1], by omega, by omega, ?_, ?_⟩
  · rw [e', drop_row hrow.2.2, spend, h4]
    simp only
    rw [if_pos hy, drop_row (l := cur.set k _) (by simpa using hrow.2.1), List.drop_set_of_lt (by omega)]
    simp [List.getD, hrow.2.1]
  · rw [e', List.take_set_of_le (by omega)]
    have := congrArg (List.take k) h5
    rwa [List.take_take, List.take_take, Nat.min_eq_left (by omega)] at this
theorem spend_len (x : Int) : ∀ (l : Rows2) (n : Int), (spend x l n).1.length = l.length
  | [], _ => rfl
  | r :: t, n => by
    simp only [spend]
    split <;> simp [spend_len x t n]
theorem spend_works (l : Rows2) (c : Nat) (x n : Int) (hw : wfL l) (hx : 0 ≤ x ∧ x < 256) (hn : i64 n) :
    Works Try.prog 19 [sl 0 l.length c, si .u8 x, si .i64 n] [ro l] (tup2 1 l.length (spendS l x n).2) [ro l, ow (spendS l x n).1] := by
  have hlen := hw.2
  have fin : ∀ (l' : Rows2), leBs (List.range 1 ++ [1]) [ro l, ⟨true, .recs ks2 l'⟩] [ro l, ow l'] := fun l' => by simp [leBs, leB, leCells, ro, ow, ks2]
  have fv : ∀ (e : Int), leV (List.range 1 ++ [1]) (.tup [.one (.slice 1 (.c 0) 2 (.s l.length) (.s l.length)), .one (.int .i64 e)]) (tup2 1 l.length e) := fun e => by
    simp [tup2, leV, leL1, leV1, leC, N.v, List.range, List.range.loop]
  by_cases h1 : l.all okR = true
  · by_cases h2 : n < 1
    · have hp : spendS l x n = (l, 111) := by unfold spendS; rw [if_neg (by rw [h1]; simp), if_pos h2]
      rw [hp]
      refine works_of (r := [1]) tab2_ok (congrFun (congrFun (congrFun (congrFun (congrFun spB l) l.length) c) x) n) ?_ (by exact nd1 1 (by omega)) (fv _) (fin l)
      simp only [allP, h1]; simp [hw]; omega
    · by_cases h3 : cnt x l < n
      · have hp : spendS l x n = (l, 105) := by unfold spendS; rw [if_neg (by rw [h1]; simp), if_neg h2, if_pos h3]
        rw [hp]
        refine works_of (r := [1]) tab2_ok (congrFun (congrFun (congrFun (congrFun (congrFun spC l) l.length) c) x) n) ?_ (by exact nd1 1 (by omega)) (fv _) (fin l)
        simp only [allP, h1]; simp [hw, hx, h3, h1]; omega
      · have hp : spendS l x n = ((spend x l n).1, 0) := by unfold spendS; rw [if_neg (by rw [h1]; simp), if_neg h2, if_neg h3]
        rw [hp]
        have hbd := okl_bd h1
        unfold i64 at hn
        have hsl := spend_len x l n
        refine works_loop (I := Rows2 × Int × Int) (Inv := fun s h => TP l x s.1 s.2.1 s.2.2 h) (good := fun s => SpInv x n l s.1 s.2.1 s.2.2 ∧ 0 ≤ s.2.1 ∧ s.2.1 ≤ n) (μ := fun s => (s.2.2 + 1).toNat) (i := (l, n, (l.length : Int) - 1)) (r := [1]) (call2_ok 3) funP bodP (by exact tmpP) (fun _ _ => ⟨rfl, rfl⟩)
          (congrFun (congrFun (congrFun (congrFun spE l) c) x) n) ?_ ⟨by exact nd1 1 (by omega), ?_, ?_⟩ ⟨⟨rfl, by simp only; omega, by simp only; omega, ?_, rfl⟩, by simp only; omega, Int.le_refl _⟩ ?_
        · simp only [allP, h1]; simp [hw, hx, h1]; omega
        · simp [TP, leSlots, leV, leV1, leC, si, sl, N.v, List.range, List.range.loop]
        · simp [TP, leBs, leB, leCells, ro, ow, ks2]
        · simp only [Int.sub_add_cancel, Int.toNat_natCast, List.drop_length]; rfl
        · intro ⟨cur, a, k⟩ ⟨hf, ha, han⟩
          simp only at hf ha han
          have hcl := hf.1
          by_cases hk : 0 ≤ k
          · by_cases hapos : 0 < a
            · obtain ⟨k, rfl⟩ := Int.eq_ofNat_of_zero_le hk
              obtain ⟨hre, hkc, hkl⟩ := sp_row hf
              have hs0 := sp_step0 hf
              have hs1 := sp_step1 hf
              have hb := hbd _ (row_mem hkl)
              have hr2 := (hw.1 _ (row_mem hkl)).1
              have q0 := congrFun (congrFun (congrFun (congrFun (congrFun spR0 l) x) cur) a) k
              have q1 := congrFun (congrFun (congrFun (congrFun (congrFun spR1 l) x) cur) a) k
              have q2 := congrFun (congrFun (congrFun (congrFun (congrFun spR2 l) x) cur) a) k
              have hset : ∀ (R : List Int), (cur.set k R).getD k [] = R := fun R => by simp [List.getD, hkc]
              rw [hre] at q0 q1 q2
              change _ → SpInv _ _ _ (cur.set k (if (l.getD k []).getD 1 0 - mn ((l.getD k []).getD 1 0) a = 0 then [0, 0] else (l.getD k []).set 1 ((l.getD k []).getD 1 0 - mn ((l.getD k []).getD 1 0) a))) (a - mn ((l.getD k []).getD 1 0) a) _ at hs1
              change ¬(0 < a ∧ (l.getD k []).getD 0 0 = x) → _ at hs0
              change (0 < a ∧ (l.getD k []).getD 0 0 = x) → _ at hs1
              change 0 ≤ (l.getD k []).getD 1 0 ∧ (l.getD k []).getD 1 0 ≤ 16 at hb
              have hset1 : ∀ v : Int, ((l.getD k []).set 1 v).getD 1 0 = v := fun v => by
                generalize l.getD k [] = R at hr2 ⊢
                match R, hr2 with
                | [a, b], _ => rfl
              change _ = some (KP, _, [_, SB.mk true (Cells.recs _ (List.set (List.set cur k (List.set _ 1 (_ - mn ((l.getD k []).getD 1 0) a))) k _))], _) at q1
              change _ = some (KP, _, [_, SB.mk true (Cells.recs _ (List.set cur k (List.set _ 1 (_ - mn ((l.getD k []).getD 1 0) a))))], _) at q2
              have hmn : mn ((l.getD k []).getD 1 0) a = if a < (l.getD k []).getD 1 0 then a else (l.getD k []).getD 1 0 := rfl
              have hmb : 0 ≤ mn ((l.getD k []).getD 1 0) a ∧ mn ((l.getD k []).getD 1 0) a ≤ a ∧ mn ((l.getD k []).getD 1 0) a ≤ (l.getD k []).getD 1 0 := by
                rw [hmn]; split <;> omega
              simp only [← hmn] at q1 q2
              generalize mn ((l.getD k []).getD 1 0) a = w at *
              generalize (l.getD k []).getD 0 0 = z0 at *
              by_cases hit : z0 = x
              · have hs := hs1 ⟨hapos, hit⟩
                by_cases hz : (l.getD k []).getD 1 0 - w = 0
                · rw [if_pos hz] at hs
                  refine .round [true, true, true, true] [] _ _ [0, 1, 2, 8] [1] _ _ _ (cur.set k [0, 0], a - w, (k : Int) - 1) q1 ?_ ⟨by exact nd1 1 (by omega), ?_, ?_⟩ ⟨hs, by simp only; omega, by simp only; omega⟩ (by simp only; omega)
                  · simp only [allP, hset, hset1, decide_eq_true_eq, decide_eq_false_iff_not, List.length_set, hit]
                    generalize (l.getD k []).getD 1 0 = b at *
                    simp [hkc]; omega
                  · simp [TP, leSlots, leV, leV1, leC, si, sl, N.v, List.range, List.range.loop]
                  · simp [TP, leBs, leB, leCells, ro, ow, List.set_set]
                · rw [if_neg hz] at hs
                  refine .round [true, true, true, false] [] _ _ [0, 1, 2, 8] [1] _ _ _ (cur.set k ((l.getD k []).set 1 ((l.getD k []).getD 1 0 - w)), a - w, (k : Int) - 1) q2 ?_ ⟨by exact nd1 1 (by omega), ?_, ?_⟩ ⟨hs, by simp only; omega, by simp only; omega⟩ (by simp only; omega)
                  · simp only [allP, hset, hset1, decide_eq_true_eq, decide_eq_false_iff_not, List.length_set, hit]
                    generalize (l.getD k []).getD 1 0 = b at *
                    simp [hkc]; omega
                  · simp [TP, leSlots, leV, leV1, leC, si, sl, N.v, List.range, List.range.loop]
                  · simp [TP, leBs, leB, leCells, ro, ow]
              · refine .round [true, true, false] [] _ _ [0, 1, 2, 8] [1] _ _ _ (cur, a, (k : Int) - 1) q0 ?_ ⟨by exact nd1 1 (by omega), ?_, ?_⟩ ⟨hs0 (fun h => hit h.2), ha, han⟩ (by simp only; omega)
                · simp only [allP, decide_eq_true_eq, decide_eq_false_iff_not]
                  simp [hkc]; omega
                · simp [TP, leSlots, leV, leV1, leC, si, sl, N.v, List.range, List.range.loop]
                · simp [TP, leBs, leB, leCells, ro, ow]
            · have hsp := spend_stop x l n _ _ _ hf.2.2.2.1 (by omega)
              rw [← hf.2.2.2.2, List.take_append_drop] at hsp
              rw [hsp]
              refine .stop [true, false] [] _ _ [1] _ _ _ (congrFun (congrFun (congrFun (congrFun (congrFun spX1 l) x) cur) a) k) ?_ (by exact nd1 1 (by omega)) (fv _) ?_
              · simp [allP]; omega
              · simp [leBs, leB, leCells, ro, ow]
          · have hk1 : k = -1 := by have := hf.2.1; omega
            subst hk1
            have hsp := hf.2.2.2.1
            simp only [Int.reduceNeg, Int.add_left_neg, Int.toNat_zero, List.drop_zero] at hsp
            rw [hsp]
            refine .stop [false] [] _ _ [1] _ _ _ (congrFun (congrFun (congrFun (congrFun (congrFun spX0 l) x) cur) a) (-1)) ?_ (by exact nd1 1 (by omega)) (fv _) ?_
            · simp [allP]
            · simp [leBs, leB, leCells, ro, ow]
  · have h1' : l.all okR = false := by simpa using h1
    have hp : spendS l x n = (l, 103) := by unfold spendS; rw [if_pos h1']
    rw [hp]
    refine works_of (r := [1]) tab2_ok (congrFun (congrFun (congrFun (congrFun (congrFun spA l) l.length) c) x) n) ?_ (by exact nd1 1 (by omega)) (fv _) (fin l)
    simp only [allP, h1']; simp [hw]; omega
theorem spend_tab : TabOk Try.prog 19 (loc w1 (one2ii gSpend)) := one2ii_ok fun l c i a v bs ob hg hob hw hi ha => by
  unfold gSpend at hg
  injection hg with hg; injection hg with e1 e2; injection e2 with e2 e3
  subst e1; subst e2; subst e3
  exact spend_works l c i a hw hi ha
end Go.Proofs.Ytibknlliackohaa
