/- The bag's contracts, further: filling. -/
import Derived.Test.YtibknlliackohaaBagE
namespace Go.Proofs.Ytibknlliackohaa
open Go.ChangeShapes Go.WideShapes Go.ChangeAt Go.RowKit Go.Sx
theorem funF : Try.prog.funcs[36]? = some FF := by kernel_rfl
theorem bodF : FF.body = some (body 36) := by kernel_rfl
theorem tmpF : 5 ≤ FF.ntmps := Nat.le_of_ble_eq_true (by kernel_rfl)
def FillInv (p : List Int → Bool) (x size : Int) (F : Rows2 × Int) (cur : Rows2) (n : Int) (i : Nat) : Prop :=
  i ≤ cur.length ∧ cur.take i ++ (fill p x size (cur.drop i) n).1 = F.1 ∧ (fill p x size (cur.drop i) n).2 = F.2
theorem amt_no {p : List Int → Bool} {size : Int} {r : List Int} {n : Int} (h : p r = false) : amt p size r n = 0 := by
  unfold amt; rw [if_neg (by simp [h])]
theorem amt_none {p : List Int → Bool} {size : Int} {r : List Int} {n : Int} (h : ¬ 0 < (if n < size - nn r then n else size - nn r)) : amt p size r n = 0 := by
  unfold amt; rw [if_neg (by simp only [not_and]; exact fun _ => h)]
theorem amt_some {p : List Int → Bool} {size : Int} {r : List Int} {n : Int} (h : p r = true) (h' : 0 < (if n < size - nn r then n else size - nn r)) : amt p size r n = (if n < size - nn r then n else size - nn r) := by
  unfold amt; rw [if_pos ⟨h, h'⟩]
theorem fill_step0 {p : List Int → Bool} {x size : Int} {F : Rows2 × Int} {cur : Rows2} {n : Int} {i : Nat} (h : FillInv p x size F cur n i) (hi : i < cur.length) (ha : amt p size (cur.getD i []) n = 0) : FillInv p x size F cur n (i + 1) := by
  obtain ⟨h1, h2, h3⟩ := h
  rw [drop_row hi, fill, ha, Int.sub_zero] at h2 h3
  refine ⟨hi, ?_, h3⟩
  rw [← h2, putR, if_pos ha, List.take_add_one, List.append_assoc]
  simp [List.getD, hi]
theorem fill_step1 {p : List Int → Bool} {x size : Int} {F : Rows2 × Int} {cur : Rows2} {n : Int} {i : Nat} (h : FillInv p x size F cur n i) (hi : i < cur.length) (ha : amt p size (cur.getD i []) n ≠ 0) :
    FillInv p x size F (cur.set i [x, nn (cur.getD i []) + amt p size (cur.getD i []) n]) (n - amt p size (cur.getD i []) n) (i + 1) := by
  obtain ⟨h1, h2, h3⟩ := h
  rw [drop_row hi, fill] at h2 h3
  refine ⟨by simp; omega, ?_, ?_⟩
  · rw [← h2, putR, if_neg ha, List.take_add_one, List.append_assoc, List.drop_set_of_lt (by omega), List.take_set_of_le (by omega)]
    simp [hi]
  · rw [← h3, List.drop_set_of_lt (by omega)]
theorem fill_len {p : List Int → Bool} {x size : Int} : ∀ {l : Rows2} {n : Int}, (fill p x size l n).1.length = l.length
  | [], n => rfl
  | r :: t, n => by simp [fill, fill_len (l := t)]
theorem amt_bd {p : List Int → Bool} {size : Int} {r : List Int} {n : Int} (h0 : 0 ≤ n) : 0 ≤ amt p size r n ∧ amt p size r n ≤ n := by
  unfold amt
  by_cases h : p r = true ∧ 0 < (if n < size - nn r then n else size - nn r)
  · rw [if_pos h]
    have := h.2
    split at this <;> omega
  · rw [if_neg h]; omega
theorem fill_left {p : List Int → Bool} {x size : Int} : ∀ {l : Rows2} {n : Int}, 0 ≤ n → 0 ≤ (fill p x size l n).2 ∧ (fill p x size l n).2 ≤ n
  | [], n, h => ⟨h, Int.le_refl _⟩
  | r :: t, n, h => by
    have := amt_bd (p := p) (size := size) (r := r) h
    have h2 := fill_left (p := p) (x := x) (size := size) (l := t) (n := n - amt p size r n) (by omega)
    simp only [fill]
    omega
theorem nd5 : (List.range 5 ++ []).Nodup := by decide
theorem fillA_works (l : Rows2) (c : Nat) (x size n : Int) (hlen : l.length ≤ 400) (hn0 : 0 ≤ n) (hn : i64 n) (hs : 0 ≤ size ∧ size ≤ 16) (hl : ∀ r ∈ l, 0 ≤ nn r ∧ nn r ≤ 16) (hc : l.length ≤ c) :
    Works Try.prog 36 argsA (memA l c x size n) (.tup []) (memA (fill (pA x) x size l n).1 c x size (fill (pA x) x size l n).2) := by
  have hlen1 : (fill (pA x) x size l n).1.length = l.length := fill_len
  unfold i64 at hn
  refine works_loop (I := Rows2 × Int × Nat) (Inv := fun s h => TFA c x size s.1 s.2.1 s.2.2 h) (good := fun s => FillInv (pA x) x size (fill (pA x) x size l n) s.1 s.2.1 s.2.2 ∧ s.1.length = l.length ∧ 0 ≤ s.2.1 ∧ s.2.1 ≤ n ∧ ∀ r ∈ s.1, 0 ≤ nn r ∧ nn r ≤ 16) (μ := fun s => l.length - s.2.2) (i := (l, n, 0)) (r := []) (call0_ok 3) funF bodF (by exact tmpF) (fun _ _ => ⟨rfl, rfl⟩)
    (congrFun (congrFun (congrFun (congrFun (congrFun faE c) x) size) l) n) trivial ⟨by exact nd5, ?_, ?_⟩ ⟨⟨Nat.zero_le _, rfl, rfl⟩, rfl, hn0, Int.le_refl _, hl⟩ ?_
  · simp [TFA, leSlots, leV, leV1, leC, si, sl, cl, pt, N.v, hc, List.range, List.range.loop, memA]
  · simp [TFA, leBs, leB, leCells, leL, leC, memA, one1, oneS, ow, N.v, hc, List.range, List.range.loop]
  · intro ⟨cur, m, i⟩ ⟨hf, h1, h2, h3, h4⟩
    simp only at hf h1 h2 h3 h4
    have hcc : cur.length ≤ c := by omega
    by_cases hi : i < cur.length
    · have hst0 := fill_step0 hf hi
      have hst1 := fill_step1 hf hi
      have hb := h4 _ (row_mem hi)
      have q0 := congrFun (congrFun (congrFun (congrFun (congrFun (congrFun faR0 c) x) size) cur) m) i
      have q1 := congrFun (congrFun (congrFun (congrFun (congrFun (congrFun faR1 c) x) size) cur) m) i
      have q2 := congrFun (congrFun (congrFun (congrFun (congrFun (congrFun faR2 c) x) size) cur) m) i
      have hno := amt_no (p := (pA x)) (size := size) (r := cur.getD i []) (n := m)
      have hnone := amt_none (p := (pA x)) (size := size) (r := cur.getD i []) (n := m)
      have hsome := amt_some (p := (pA x)) (size := size) (r := cur.getD i []) (n := m)
      change decide ((cur.getD i []).getD 0 0 = x) = false → _ at hno
      change decide ((cur.getD i []).getD 0 0 = x) = true → 0 < (if m < size - (cur.getD i []).getD 1 0 then m else size - (cur.getD i []).getD 1 0) → _ = (if m < size - (cur.getD i []).getD 1 0 then m else size - (cur.getD i []).getD 1 0) at hsome
      change ¬ 0 < (if m < size - (cur.getD i []).getD 1 0 then m else size - (cur.getD i []).getD 1 0) → _ at hnone
      change 0 ≤ (cur.getD i []).getD 1 0 ∧ (cur.getD i []).getD 1 0 ≤ 16 at hb
      change _ → FillInv _ _ _ _ (cur.set i [x, (cur.getD i []).getD 1 0 + _]) _ _ at hst1
      generalize amt (pA x) size (cur.getD i []) m = w at *
      generalize cur.getD i [] = R at *
      generalize R.getD 0 0 = a at *
      generalize R.getD 1 0 = b at *
      by_cases hp : a = x
      · by_cases hw : 0 < (if m < size - b then m else size - b)
        · have hw2 := hsome (by simp [hp]) hw
          rw [← hw2] at hw
          have hwm : w ≤ m ∧ w ≤ size - b := by rw [hw2]; split <;> omega
          simp only [← hw2] at q2
          refine .round [true, true, true] [] _ _ [0, 1, 2, 3, 4, 9, 10, 11] [] _ _ _ (cur.set i [x, b + w], m - w, i + 1) q2 ?_ ⟨by exact nd5, ?_, ?_⟩ ⟨hst1 (by omega), by simp [h1], by simp only; omega, by simp only; omega, ?_⟩ (by simp only; omega)
          · simp [allP]; omega
          · simp [TFA, leSlots, leV, leV1, leC, si, sl, cl, pt, N.v, hcc, List.range, List.range.loop, memA]
          · simp [TFA, leBs, leB, leCells, leL, leC, memA, one1, oneS, ow, N.v, hcc, List.range, List.range.loop]
          · intro r hr
            rcases List.mem_or_eq_of_mem_set hr with h | h
            · exact h4 r h
            · subst h; simp [nn]; omega
        · have hw2 := hnone hw
          refine .round [true, true, false] [] _ _ [0, 1, 2, 3, 4, 9, 10, 11] [] _ _ _ (cur, m, i + 1) q1 ?_ ⟨by exact nd5, ?_, ?_⟩ ⟨hst0 hw2, h1, h2, h3, h4⟩ (by simp only; omega)
          · generalize (if m < size - b then m else size - b) = z at *
            simp [allP]; omega
          · simp [TFA, leSlots, leV, leV1, leC, si, sl, cl, pt, N.v, hcc, List.range, List.range.loop, memA]
          · simp [TFA, leBs, leB, leCells, leL, leC, memA, one1, oneS, ow, N.v, hcc, List.range, List.range.loop]
      · refine .round [true, false] [] _ _ [0, 1, 2, 3, 4, 9, 10, 11] [] _ _ _ (cur, m, i + 1) q0 ?_ ⟨by exact nd5, ?_, ?_⟩ ⟨hst0 (hno (by simp [hp])), h1, h2, h3, h4⟩ (by simp only; omega)
        · simp [allP]; omega
        · simp [TFA, leSlots, leV, leV1, leC, si, sl, cl, pt, N.v, hcc, List.range, List.range.loop, memA]
        · simp [TFA, leBs, leB, leCells, leL, leC, memA, one1, oneS, ow, N.v, hcc, List.range, List.range.loop]
    · have : i = cur.length := by have := hf.1; omega
      subst this
      obtain ⟨_, e1, e2⟩ := hf
      rw [List.drop_length, List.take_length, fill, List.append_nil] at e1
      rw [List.drop_length, fill] at e2
      refine .stop [false] [] _ _ [] _ _ _ (congrFun (congrFun (congrFun (congrFun (congrFun (congrFun faX c) x) size) cur) m) cur.length) ?_ (by exact nd5) trivial ?_
      · simp [allP]
      · rw [← e1, ← e2]
        simp [leBs, leB, leCells, leL, leC, memA, one1, oneS, ow, N.v, hcc, List.range, List.range.loop]
theorem fillB_works (l : Rows2) (c : Nat) (x size n : Int) (hlen : l.length ≤ 400) (hn0 : 0 ≤ n) (hn : i64 n) (hs : 0 ≤ size ∧ size ≤ 16) (hl : ∀ r ∈ l, 0 ≤ nn r ∧ nn r ≤ 16) (hc : l.length ≤ c) :
    Works Try.prog 36 argsB (memB l c x size n) (.tup []) (memB (fill pB x size l n).1 c x size (fill pB x size l n).2) := by
  have hlen1 : (fill pB x size l n).1.length = l.length := fill_len
  unfold i64 at hn
  refine works_loop (I := Rows2 × Int × Nat) (Inv := fun s h => TFB c x size s.1 s.2.1 s.2.2 h) (good := fun s => FillInv pB x size (fill pB x size l n) s.1 s.2.1 s.2.2 ∧ s.1.length = l.length ∧ 0 ≤ s.2.1 ∧ s.2.1 ≤ n ∧ ∀ r ∈ s.1, 0 ≤ nn r ∧ nn r ≤ 16) (μ := fun s => l.length - s.2.2) (i := (l, n, 0)) (r := []) (call0_ok 3) funF bodF (by exact tmpF) (fun _ _ => ⟨rfl, rfl⟩)
    (congrFun (congrFun (congrFun (congrFun (congrFun fbE c) x) size) l) n) trivial ⟨by exact nd5, ?_, ?_⟩ ⟨⟨Nat.zero_le _, rfl, rfl⟩, rfl, hn0, Int.le_refl _, hl⟩ ?_
  · simp [TFB, leSlots, leV, leV1, leC, si, sl, cl, pt, N.v, hc, List.range, List.range.loop, memB]
  · simp [TFB, leBs, leB, leCells, leL, leC, memB, one1, oneS, ow, N.v, hc, List.range, List.range.loop]
  · intro ⟨cur, m, i⟩ ⟨hf, h1, h2, h3, h4⟩
    simp only at hf h1 h2 h3 h4
    have hcc : cur.length ≤ c := by omega
    by_cases hi : i < cur.length
    · have hst0 := fill_step0 hf hi
      have hst1 := fill_step1 hf hi
      have hb := h4 _ (row_mem hi)
      have q0 := congrFun (congrFun (congrFun (congrFun (congrFun (congrFun fbR0 c) x) size) cur) m) i
      have q1 := congrFun (congrFun (congrFun (congrFun (congrFun (congrFun fbR1 c) x) size) cur) m) i
      have q2 := congrFun (congrFun (congrFun (congrFun (congrFun (congrFun fbR2 c) x) size) cur) m) i
      have hno := amt_no (p := pB) (size := size) (r := cur.getD i []) (n := m)
      have hnone := amt_none (p := pB) (size := size) (r := cur.getD i []) (n := m)
      have hsome := amt_some (p := pB) (size := size) (r := cur.getD i []) (n := m)
      change decide ((cur.getD i []).getD 1 0 = 0) = false → _ at hno
      change decide ((cur.getD i []).getD 1 0 = 0) = true → 0 < (if m < size - (cur.getD i []).getD 1 0 then m else size - (cur.getD i []).getD 1 0) → _ = (if m < size - (cur.getD i []).getD 1 0 then m else size - (cur.getD i []).getD 1 0) at hsome
      change ¬ 0 < (if m < size - (cur.getD i []).getD 1 0 then m else size - (cur.getD i []).getD 1 0) → _ at hnone
      change 0 ≤ (cur.getD i []).getD 1 0 ∧ (cur.getD i []).getD 1 0 ≤ 16 at hb
      change _ → FillInv _ _ _ _ (cur.set i [x, (cur.getD i []).getD 1 0 + _]) _ _ at hst1
      generalize amt pB size (cur.getD i []) m = w at *
      generalize cur.getD i [] = R at *
      generalize R.getD 0 0 = a at *
      generalize R.getD 1 0 = b at *
      by_cases hp : b = 0
      · by_cases hw : 0 < (if m < size - b then m else size - b)
        · have hw2 := hsome (by simp [hp]) hw
          rw [← hw2] at hw
          have hwm : w ≤ m ∧ w ≤ size - b := by rw [hw2]; split <;> omega
          simp only [← hw2] at q2
          refine .round [true, true, true] [] _ _ [0, 1, 2, 3, 4, 9, 10, 11] [] _ _ _ (cur.set i [x, b + w], m - w, i + 1) q2 ?_ ⟨by exact nd5, ?_, ?_⟩ ⟨hst1 (by omega), by simp [h1], by simp only; omega, by simp only; omega, ?_⟩ (by simp only; omega)
          · simp [allP]; omega
          · simp [TFB, leSlots, leV, leV1, leC, si, sl, cl, pt, N.v, hcc, List.range, List.range.loop, memB]
          · simp [TFB, leBs, leB, leCells, leL, leC, memB, one1, oneS, ow, N.v, hcc, List.range, List.range.loop]
          · intro r hr
            rcases List.mem_or_eq_of_mem_set hr with h | h
            · exact h4 r h
            · subst h; simp [nn]; omega
        · have hw2 := hnone hw
          refine .round [true, true, false] [] _ _ [0, 1, 2, 3, 4, 9, 10, 11] [] _ _ _ (cur, m, i + 1) q1 ?_ ⟨by exact nd5, ?_, ?_⟩ ⟨hst0 hw2, h1, h2, h3, h4⟩ (by simp only; omega)
          · generalize (if m < size - b then m else size - b) = z at *
            simp [allP]; omega
          · simp [TFB, leSlots, leV, leV1, leC, si, sl, cl, pt, N.v, hcc, List.range, List.range.loop, memB]
          · simp [TFB, leBs, leB, leCells, leL, leC, memB, one1, oneS, ow, N.v, hcc, List.range, List.range.loop]
      · refine .round [true, false] [] _ _ [0, 1, 2, 3, 4, 9, 10, 11] [] _ _ _ (cur, m, i + 1) q0 ?_ ⟨by exact nd5, ?_, ?_⟩ ⟨hst0 (hno (by simp [hp])), h1, h2, h3, h4⟩ (by simp only; omega)
        · simp [allP]; omega
        · simp [TFB, leSlots, leV, leV1, leC, si, sl, cl, pt, N.v, hcc, List.range, List.range.loop, memB]
        · simp [TFB, leBs, leB, leCells, leL, leC, memB, one1, oneS, ow, N.v, hcc, List.range, List.range.loop]
    · have : i = cur.length := by have := hf.1; omega
      subst this
      obtain ⟨_, e1, e2⟩ := hf
      rw [List.drop_length, List.take_length, fill, List.append_nil] at e1
      rw [List.drop_length, fill] at e2
      refine .stop [false] [] _ _ [] _ _ _ (congrFun (congrFun (congrFun (congrFun (congrFun (congrFun fbX c) x) size) cur) m) cur.length) ?_ (by exact nd5) trivial ?_
      · simp [allP]
      · rw [← e1, ← e2]
        simp [leBs, leB, leCells, leL, leC, memB, one1, oneS, ow, N.v, hcc, List.range, List.range.loop]
theorem fill_tab : TabOk Try.prog 36 (loc wFill gFill) := loc_ok fun xs bs v bs' ob hg hob hok => by
  clear hok
  have capOf : ∀ {b m c : Nat} {s : SB} {bs : List SB} {i : Nat} {args : List V} {v : V} {bs' : List SB}, bs[i]? = some s → s.c = .exp [.slice b (.c 0) 2 (.s m) (.s c)] → (m ≤ c → Works Try.prog 36 args bs v bs') → Works Try.prog 36 args bs v bs' := by
    intro b m c s bs i args v bs' hs hsc h ρ K w us hm hu
    have hc : m ≤ c := by
      have hi := (List.getElem?_eq_some_iff.1 hs).1
      have hl := hm.len
      obtain ⟨cur, ty, fz, _, _, _, hr⟩ := hm.blk i _ s (List.getElem?_eq_getElem (by omega)) hs (by rw [hsc]; rfl)
      rw [hsc] at hr
      obtain ⟨u, _, ⟨e, _, hu⟩, _⟩ := hr 0 _ rfl
      rcases hu with ⟨h0, _⟩ | ⟨_, _, _, h1, _⟩
      · simp only [N.v] at h0; omega
      · exact h1
    exact h hc ρ K w us hm hu
  unfold gFill at hg
  split at hg
  · rename_i f i m c size n ks l
    split at hg
    · rename_i hk
      simp only [Bool.and_eq_true] at hk
      have hks := isK2_eq hk.1
      have hf := Nat.eq_of_beq_eq_true hk.2
      subst hks; subst hf
      injection hg with hg; injection hg with e1 e2; injection e2 with e2 e3
      subst e1; subst e2; subst e3
      have hm := hob _ (List.Mem.head _)
      subst hm
      refine capOf (i := 1) rfl rfl fun hc => ?_
      have := fillA_works l c i size n (hob _ (by simp)) (hob (0 ≤ n) (by simp)) (hob _ (by simp)) (hob (0 ≤ size ∧ size ≤ 16) (by simp)) (hob (∀ r ∈ l, 0 ≤ nn r ∧ nn r ≤ 16) (by simp)) hc
      simp only [memA, oneS, fill_len] at this
      exact this
    · cases hg
  · rename_i f m c size n i ks l
    split at hg
    · rename_i hk
      simp only [Bool.and_eq_true] at hk
      have hks := isK2_eq hk.1
      have hf := Nat.eq_of_beq_eq_true hk.2
      subst hks; subst hf
      injection hg with hg; injection hg with e1 e2; injection e2 with e2 e3
      subst e1; subst e2; subst e3
      have hm := hob _ (List.Mem.head _)
      subst hm
      refine capOf (i := 0) rfl rfl fun hc => ?_
      have := fillB_works l c i size n (hob _ (by simp)) (hob (0 ≤ n) (by simp)) (hob _ (by simp)) (hob (0 ≤ size ∧ size ≤ 16) (by simp)) (hob (∀ r ∈ l, 0 ≤ nn r ∧ nn r ≤ 16) (by simp)) hc
      simp only [memB, oneS, fill_len] at this
      exact this
    · cases hg
  · cases hg
end Go.Proofs.Ytibknlliackohaa
