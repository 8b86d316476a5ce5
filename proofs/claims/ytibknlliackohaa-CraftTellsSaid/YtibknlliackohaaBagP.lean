/- Bags, plainly: room, counts, what is right. -/
import Derived.Test.YtibknlliackohaaBagI
namespace Go.Proofs.Ytibknlliackohaa
theorem it_mk (x v : Int) : it [x, v] = x := rfl
theorem nn_mk (x v : Int) : nn [x, v] = v := rfl
theorem ok_cases {r : List Int} (h : okR r = true) : (it r = 0 ∧ nn r = 0) ∨ (1 ≤ nn r ∧ nn r ≤ stackT (it r)) := (okR_iff r).1 h
theorem cntR_mk (k x v : Int) : cntR k [x, v] = if k = 0 then 0 else if x = k then (if v < 0 then 0 else v) else 0 := rfl
theorem cntR_un (k : Int) (r : List Int) : cntR k r = if k = 0 then 0 else if it r = k then (if nn r < 0 then 0 else nn r) else 0 := rfl
theorem roomR_mk (k x v : Int) : roomR k [x, v] = if v = 0 then stackT k else if x = k then stackT k - v else 0 := rfl
theorem roomR_un (k : Int) (r : List Int) : roomR k r = if nn r = 0 then stackT k else if it r = k then stackT k - nn r else 0 := rfl
theorem fill1 (p : List Int → Bool) (x size n : Int) (r : List Int) (t : Rows2) : (fill p x size (r :: t) n).1 = putR p x size r n :: (fill p x size t (n - amt p size r n)).1 := rfl
theorem fill2 (p : List Int → Bool) (x size n : Int) (r : List Int) (t : Rows2) : (fill p x size (r :: t) n).2 = (fill p x size t (n - amt p size r n)).2 := rfl
theorem lessR_mk (a b s : Int) : lessR [a, b] s = if b - s = 0 then [0, 0] else [a, b - s] := rfl
theorem cnt1 (k : Int) (r : List Int) (t : Rows2) : cnt k (r :: t) = cntR k r + cnt k t := rfl
theorem spend1 (i n : Int) (r : List Int) (t : Rows2) : spend i (r :: t) n = if 0 < (spend i t n).2 ∧ it r = i then (lessR r (mn (nn r) (spend i t n).2) :: (spend i t n).1, (spend i t n).2 - mn (nn r) (spend i t n).2) else (r :: (spend i t n).1, (spend i t n).2) := rfl
theorem stack0 : stackT 0 = 0 := rfl
theorem ok_ne {r : List Int} (h : okR r = true) : (nn r = 0 ∧ it r = 0) ∨ (1 ≤ nn r ∧ nn r ≤ stackT (it r) ∧ it r ≠ 0) := by
  rcases ok_cases h with ⟨h1, h2⟩ | ⟨h1, h2⟩
  · exact .inl ⟨h2, h1⟩
  · refine .inr ⟨h1, h2, fun e => ?_⟩
    rw [e, stack0] at h2; omega
/-- what is added -/
theorem amt_le {p : List Int → Bool} {size : Int} {r : List Int} {n : Int} (h : amt p size r n ≠ 0) : p r = true ∧ 1 ≤ amt p size r n ∧ amt p size r n ≤ size - nn r ∧ amt p size r n ≤ n := by
  unfold amt at h ⊢
  by_cases hc : p r = true ∧ 0 < (if n < size - nn r then n else size - nn r)
  · rw [if_pos hc]
    obtain ⟨h1, h2⟩ := hc
    refine ⟨h1, ?_⟩
    split at h2 <;> rename_i hlt
    · rw [if_pos hlt]; omega
    · rw [if_neg hlt]; omega
  · rw [if_neg hc] at h; exact absurd rfl h
theorem amt_eq {p : List Int → Bool} {size : Int} {r : List Int} {n : Int} (h0 : 0 ≤ n) (hp : p r = true) (hs : nn r ≤ size) : amt p size r n = if n < size - nn r then n else size - nn r := by
  unfold amt
  by_cases hc : p r = true ∧ 0 < (if n < size - nn r then n else size - nn r)
  · rw [if_pos hc]
  · rw [if_neg hc]
    have : ¬ 0 < (if n < size - nn r then n else size - nn r) := fun h => hc ⟨hp, h⟩
    split at this <;> rename_i hlt
    · rw [if_pos hlt]; omega
    · rw [if_neg hlt]; omega
theorem putR_ok {p : List Int → Bool} {x : Int} {r : List Int} {n : Int} (h : okR r = true) (h0 : 0 ≤ n) : okR (putR p x (stackT x) r n) = true := by
  unfold putR
  by_cases hz : amt p (stackT x) r n = 0
  · rw [if_pos hz]; exact h
  · rw [if_neg hz]
    have := amt_le hz
    have hb := okR_bd h
    exact (okR_iff _).2 (.inr ⟨by show 1 ≤ nn r + _; omega, by show nn r + _ ≤ stackT x; omega⟩)
theorem fill_ok {p : List Int → Bool} {x : Int} : ∀ {l : Rows2} {n : Int}, l.all okR = true → 0 ≤ n → (fill p x (stackT x) l n).1.all okR = true
  | [], _, _, _ => rfl
  | r :: t, n, h, h0 => by
    rw [List.all_cons, Bool.and_eq_true] at h
    have ha := amt_bd (p := p) (size := stackT x) (r := r) h0
    simp only [fill, List.all_cons, Bool.and_eq_true]
    exact ⟨putR_ok h.1 h0, fill_ok h.2 (by omega)⟩
/-- who is filled: those that have the same, or those that are empty -/
def isP (x : Int) (p : List Int → Bool) : Prop := p = pA x ∨ p = pB
theorem isP_row {x : Int} {p : List Int → Bool} {r : List Int} (hp : isP x p) (h : p r = true) : it r = x ∨ nn r = 0 := by
  rcases hp with rfl | rfl
  · exact .inl (of_decide_eq_true h)
  · exact .inr (of_decide_eq_true h)
theorem putR_cnt {p : List Int → Bool} {x size : Int} {r : List Int} {n : Int} (k : Int) (hp : isP x p) (hx : x ≠ 0) (h : okR r = true) (h0 : 0 ≤ n) : cntR k (putR p x size r n) = cntR k r + if k = x then amt p size r n else 0 := by
  unfold putR
  by_cases hz : amt p size r n = 0
  · rw [if_pos hz, hz]; simp
  · rw [if_neg hz]
    have ha := amt_le hz
    have hr := isP_row hp ha.1
    have hb := okR_bd h
    have hok := ok_ne h
    rw [cntR_mk, cntR_un]
    generalize amt p size r n = w at *
    generalize it r = a at *
    generalize nn r = b at *
    by_cases hk : k = 0
    · subst hk; rw [if_pos rfl, if_pos rfl, if_neg (fun e => hx e.symm)]; omega
    · rw [if_neg hk, if_neg hk]
      by_cases hkx : k = x
      · subst hkx
        rw [if_pos rfl, if_pos rfl, if_neg (by omega)]
        by_cases hak : a = k
        · rw [if_pos hak, if_neg (by omega)]
        · rw [if_neg hak]; omega
      · rw [if_neg (Ne.symm hkx), if_neg hkx]
        by_cases hak : a = k
        · rw [if_pos hak]; split <;> omega
        · rw [if_neg hak]; omega
theorem putR_room {p : List Int → Bool} {x size : Int} {r : List Int} {n : Int} (hp : isP x p) (hx : x ≠ 0) (h : okR r = true) (h0 : 0 ≤ n) : roomR x (putR p x size r n) = roomR x r - amt p size r n := by
  unfold putR
  by_cases hz : amt p size r n = 0
  · rw [if_pos hz, hz]; simp
  · rw [if_neg hz]
    have ha := amt_le hz
    have hr := isP_row hp ha.1
    have hok := ok_ne h
    have hb := okR_bd h
    rw [roomR_mk, roomR_un]
    generalize amt p size r n = w at *
    generalize it r = a at *
    generalize nn r = b at *
    rw [if_neg (by omega), if_pos rfl]
    by_cases hb0 : b = 0
    · rw [if_pos hb0]; omega
    · rw [if_neg hb0, if_pos (by omega)]; omega
theorem fill_cnt {p : List Int → Bool} {x size : Int} (k : Int) (hp : isP x p) (hx : x ≠ 0) : ∀ {l : Rows2} {n : Int}, l.all okR = true → 0 ≤ n → cnt k (fill p x size l n).1 = cnt k l + if k = x then n - (fill p x size l n).2 else 0
  | [], n, _, _ => by simp [fill, cnt]
  | r :: t, n, h, h0 => by
    rw [List.all_cons, Bool.and_eq_true] at h
    have ha := amt_bd (p := p) (size := size) (r := r) h0
    simp only [fill, cnt]
    rw [putR_cnt k hp hx h.1 h0, fill_cnt k hp hx h.2 (by omega)]
    split <;> omega
theorem fill_room {p : List Int → Bool} {x size : Int} (hp : isP x p) (hx : x ≠ 0) : ∀ {l : Rows2} {n : Int}, l.all okR = true → 0 ≤ n → room x (fill p x size l n).1 = room x l - (n - (fill p x size l n).2)
  | [], n, _, _ => by simp [fill, room]
  | r :: t, n, h, h0 => by
    rw [List.all_cons, Bool.and_eq_true] at h
    have ha := amt_bd (p := p) (size := size) (r := r) h0
    simp only [fill, room]
    rw [putR_room hp hx h.1 h0, fill_room hp hx h.2 (by omega)]
    omega
/-- how much those that are filled hold yet -/
def capR (p : List Int → Bool) (size : Int) (r : List Int) : Int := if p r = true then size - nn r else 0
def cap (p : List Int → Bool) (size : Int) : Rows2 → Int
  | [] => 0
  | r :: t => capR p size r + cap p size t
theorem cap1 (p : List Int → Bool) (size : Int) (r : List Int) (t : Rows2) : cap p size (r :: t) = capR p size r + cap p size t := rfl
theorem capR_un (p : List Int → Bool) (size : Int) (r : List Int) : capR p size r = if p r = true then size - nn r else 0 := rfl
theorem cap_nn {p : List Int → Bool} {x : Int} (hp : isP x p) : ∀ {l : Rows2}, l.all okR = true → 0 ≤ cap p (stackT x) l
  | [], _ => Int.le_refl _
  | r :: t, h => by
    rw [List.all_cons, Bool.and_eq_true] at h
    have ih := cap_nn (x := x) hp h.2
    have hb := okR_bd h.1
    have hs := stackT_bd x
    rw [cap1, capR_un]
    by_cases hc : p r = true
    · rw [if_pos hc]
      rcases isP_row hp hc with e | e
      · rw [e] at hb; omega
      · rw [e]; omega
    · rw [if_neg hc]; omega
theorem fill_rest {p : List Int → Bool} {x : Int} (hp : isP x p) : ∀ {l : Rows2} {n : Int}, l.all okR = true → 0 ≤ n → (fill p x (stackT x) l n).2 = if n < cap p (stackT x) l then 0 else n - cap p (stackT x) l
  | [], n, _, h0 => by
    show n = if n < 0 then 0 else n - 0
    rw [if_neg (by omega)]; omega
  | r :: t, n, h, h0 => by
    rw [List.all_cons, Bool.and_eq_true] at h
    have ha := amt_bd (p := p) (size := stackT x) (r := r) h0
    have hb := okR_bd h.1
    have hcn := cap_nn (x := x) hp h.2
    have hs := stackT_bd x
    rw [fill2, cap1, capR_un, fill_rest hp h.2 (by omega)]
    by_cases hc : p r = true
    · have hle : nn r ≤ stackT x := by
        rcases isP_row hp hc with e | e
        · rw [e] at hb; omega
        · rw [e]; omega
      have hae := amt_eq h0 hc hle
      rw [if_pos hc, hae]
      by_cases h1 : n < stackT x - nn r
      · rw [if_pos h1]
        rw [if_pos (show n < stackT x - nn r + cap p (stackT x) t by omega)]
        split <;> omega
      · rw [if_neg h1]
        split
        · rw [if_pos (by omega)]
        · rw [if_neg (by omega)]; omega
    · have hae : amt p (stackT x) r n = 0 := amt_no (by simpa using hc)
      rw [if_neg hc, hae, Int.sub_zero, Int.zero_add]
theorem cap_room {x : Int} (hx : x ≠ 0) : ∀ {l : Rows2}, l.all okR = true → cap (pA x) (stackT x) l + cap pB (stackT x) l = room x l
  | [], _ => rfl
  | r :: t, h => by
    rw [List.all_cons, Bool.and_eq_true] at h
    have ih := cap_room hx h.2
    have hok := ok_ne h.1
    have e : ∀ (p : List Int → Bool), cap p (stackT x) (r :: t) = capR p (stackT x) r + cap p (stackT x) t := fun p => rfl
    have e2 : room x (r :: t) = roomR x r + room x t := rfl
    have e3 : capR (pA x) (stackT x) r = if it r = x then stackT x - nn r else 0 := by rw [capR_un]; simp [pA]
    have e4 : capR pB (stackT x) r = if nn r = 0 then stackT x - nn r else 0 := by rw [capR_un]; simp [pB]
    rw [e, e, e2, e3, e4, roomR_un]
    generalize it r = a at *
    generalize nn r = b at *
    by_cases hb0 : b = 0
    · rw [if_neg (show ¬ a = x by omega), if_pos hb0, if_pos hb0]; omega
    · rw [if_neg hb0, if_neg hb0]
      by_cases hax : a = x
      · rw [if_pos hax]; omega
      · rw [if_neg hax]; omega
theorem cap_keep {x size n : Int} (hx : x ≠ 0) : ∀ {l : Rows2} {n : Int}, l.all okR = true → 0 ≤ n → cap pB (stackT x) (fill (pA x) x size l n).1 = cap pB (stackT x) l
  | [], _, _, _ => rfl
  | r :: t, n, h, h0 => by
    rw [List.all_cons, Bool.and_eq_true] at h
    have ha := amt_bd (p := pA x) (size := size) (r := r) h0
    rw [fill1, cap1, cap1, cap_keep (n := n) hx h.2 (by omega)]
    congr 1
    rw [capR_un, capR_un]
    unfold putR
    by_cases hz : amt (pA x) size r n = 0
    · rw [if_pos hz]
    · rw [if_neg hz]
      have hl := amt_le hz
      have hit : it r = x := of_decide_eq_true hl.1
      have hok := ok_ne h.1
      have e1 : pB r = false := decide_eq_false (by omega)
      have e2 : pB [x, nn r + amt (pA x) size r n] = false := decide_eq_false (by rw [nn_mk]; omega)
      rw [e1, e2]; rfl
theorem room_nn {x : Int} (hx : x ≠ 0) {l : Rows2} (h : l.all okR = true) : 0 ≤ room x l := by
  rw [← cap_room hx h]
  have := cap_nn (p := pA x) (x := x) (.inl rfl) h
  have := cap_nn (p := pB) (x := x) (.inr rfl) h
  omega
theorem room_le (x : Int) : ∀ (l : Rows2), l.all okR = true → room x l ≤ 16 * l.length
  | [], _ => by simp [room]
  | r :: t, h => by
    rw [List.all_cons, Bool.and_eq_true] at h
    have ih := room_le x t h.2
    have hb := okR_bd h.1
    have hs := stackT_bd x
    have e2 : room x (r :: t) = roomR x r + room x t := rfl
    have : roomR x r ≤ 16 := by
      rw [roomR_un]
      split
      · omega
      · split <;> omega
    rw [e2, List.length_cons]; omega
/-- what comes of putting -/
theorem putS_spec {l : Rows2} {x n : Int} (h : l.all okR = true) (hn : 1 ≤ n) (hs : stackT x ≠ 0) : (putS l x n).1.all okR = true ∧ (putS l x n).2 = (if n < room x l then 0 else n - room x l) ∧ room x (putS l x n).1 = room x l - (n - (putS l x n).2) ∧
    (∀ k, cnt k (putS l x n).1 = cnt k l + if k = x then n - (putS l x n).2 else 0) := by
  have hx : x ≠ 0 := fun e => hs (by rw [e]; rfl)
  have hp : putS l x n = fill pB x (stackT x) (fill (pA x) x (stackT x) l n).1 (fill (pA x) x (stackT x) l n).2 := by
    unfold putS; rw [if_neg (by omega), if_neg (by rw [h]; simp [hs])]
  have hA := fill_left (p := pA x) (x := x) (size := stackT x) (l := l) (n := n) (by omega)
  have okA := fill_ok (p := pA x) (x := x) (n := n) h (by omega)
  have r1 := fill_rest (p := pA x) (n := n) (.inl rfl) h (by omega)
  have r2 := fill_rest (p := pB) (x := x) (n := (fill (pA x) x (stackT x) l n).2) (.inr rfl) okA hA.1
  have ck := cap_keep (n := n) (size := stackT x) hx h (show 0 ≤ n by omega)
  have cr := cap_room hx h
  have rA := fill_room (p := pA x) (size := stackT x) (n := n) (.inl rfl) hx h (by omega)
  have rB := fill_room (p := pB) (x := x) (size := stackT x) (n := (fill (pA x) x (stackT x) l n).2) (.inr rfl) hx okA hA.1
  have cA := cap_nn (p := pA x) (x := x) (.inl rfl) h
  have cB := cap_nn (p := pB) (x := x) (.inr rfl) h
  rw [hp]
  refine ⟨fill_ok okA hA.1, ?_, ?_, fun k => ?_⟩
  · rw [r2, ck]
    split at r1 <;> split <;> split <;> omega
  · omega
  · rw [fill_cnt k (.inr rfl) hx okA hA.1, fill_cnt k (.inl rfl) hx h (by omega)]
    split <;> omega
theorem putS_ok {l : Rows2} {x n : Int} (h : l.all okR = true) : (putS l x n).1.all okR = true := by
  by_cases hn : n < 1
  · unfold putS; rw [if_pos hn]; exact h
  · by_cases hs : stackT x = 0
    · unfold putS; rw [if_neg hn, if_pos (.inl hs)]; exact h
    · exact (putS_spec h (by omega) hs).1
/-! ### spending, taking -/
theorem lessR_ok {r : List Int} {s : Int} (h : okR r = true) (hr : r.length = 2) (h0 : 0 ≤ s) (hs : s ≤ nn r) : okR (lessR r s) = true ∧ (lessR r s).length = 2 := by
  match r, hr with
  | [a, b], _ =>
    rw [lessR_mk]
    simp only [nn_mk] at hs
    have := okR_bd h
    simp only [nn_mk, it_mk] at this
    by_cases hz : b - s = 0
    · rw [if_pos hz]; exact ⟨rfl, rfl⟩
    · rw [if_neg hz]
      exact ⟨(okR_iff _).2 (.inr ⟨by show 1 ≤ b - s; omega, by show b - s ≤ stackT a; omega⟩), rfl⟩
theorem lessR_cnt {r : List Int} {s : Int} (k : Int) (hr : r.length = 2) (hs0 : 0 ≤ s) (hs : s ≤ nn r) : cntR k (lessR r s) = cntR k r - if k = it r ∧ k ≠ 0 then s else 0 := by
  match r, hr with
  | [a, b], _ =>
    rw [lessR_mk]
    simp only [nn_mk] at hs
    rw [it_mk]
    by_cases hk : k = 0
    · rw [if_neg (show ¬(k = a ∧ k ≠ 0) from fun h => h.2 hk)]
      simp [cntR, hk]
    · by_cases hz : b - s = 0
      · rw [if_pos hz]
        rw [cntR_mk, cntR_mk, if_neg hk, if_neg hk, if_neg (Ne.symm hk)]
        by_cases hka : k = a
        · subst hka
          rw [if_pos rfl, if_pos (show k = k ∧ k ≠ 0 from ⟨rfl, hk⟩)]; split <;> omega
        · rw [if_neg (Ne.symm hka), if_neg (show ¬(k = a ∧ k ≠ 0) from fun h => hka h.1)]; rfl
      · rw [if_neg hz]
        rw [cntR_mk, cntR_mk, if_neg hk, if_neg hk]
        by_cases hka : k = a
        · subst hka
          rw [if_pos rfl, if_pos rfl, if_pos (show k = k ∧ k ≠ 0 from ⟨rfl, hk⟩)]; split <;> split <;> omega
        · rw [if_neg (Ne.symm hka), if_neg (Ne.symm hka), if_neg (show ¬(k = a ∧ k ≠ 0) from fun h => hka h.1)]; rfl
theorem cnt_nn (k : Int) : ∀ (l : Rows2), 0 ≤ cnt k l
  | [] => Int.le_refl _
  | r :: t => by
    have := cnt_nn k t
    have : 0 ≤ cntR k r := by
      unfold cntR
      split
      · omega
      · split
        · split <;> omega
        · omega
    simp only [cnt]; omega
theorem cntR_own {r : List Int} {x : Int} (hx : x ≠ 0) (h : it r = x) (h0 : 0 ≤ nn r) : cntR x r = nn r := by
  unfold cntR; rw [if_neg hx, if_pos h, if_neg (by omega)]
theorem cntR_other {r : List Int} {x : Int} (h : it r ≠ x) : cntR x r = 0 := by
  rw [cntR_un]; split
  · rfl
  · rfl
theorem spend_spec {x : Int} (hx : x ≠ 0) : ∀ {l : Rows2} {n : Int}, l.all okR = true → (∀ r ∈ l, wfR r) → 0 ≤ n → (spend x l n).1.all okR = true ∧ (spend x l n).2 = (if n < cnt x l then 0 else n - cnt x l) ∧ (∀ r ∈ (spend x l n).1, r.length = 2) ∧
    ∀ k, cnt k (spend x l n).1 = cnt k l - if k = x then n - (spend x l n).2 else 0
  | [], n, _, _, h0 => by
    refine ⟨rfl, by show n = if n < 0 then 0 else n - 0; rw [if_neg (by omega)]; omega, (fun r hr => by simp [spend] at hr), fun k => ?_⟩
    simp [spend, cnt]
  | r :: t, n, h, hw, h0 => by
    rw [List.all_cons, Bool.and_eq_true] at h
    obtain ⟨i1, i2, i3, i4⟩ := spend_spec hx h.2 (fun s hs => hw s (by simp [hs])) h0
    have hb := okR_bd h.1
    have hr2 := (hw r (by simp)).1
    have hcn := cnt_nn x t
    rw [spend1]
    by_cases hc : 0 < (spend x t n).2 ∧ it r = x
    · rw [if_pos hc]
      have hm : mn (nn r) (spend x t n).2 ≤ nn r ∧ mn (nn r) (spend x t n).2 ≤ (spend x t n).2 ∧ 0 ≤ mn (nn r) (spend x t n).2 ∧ (mn (nn r) (spend x t n).2 = nn r ∨ mn (nn r) (spend x t n).2 = (spend x t n).2) := by
        unfold mn; split <;> omega
      have hl := lessR_ok h.1 hr2 hm.2.2.1 hm.1
      refine ⟨?_, ?_, ?_, fun k => ?_⟩
      · rw [List.all_cons, Bool.and_eq_true]; exact ⟨hl.1, i1⟩
      · rw [cnt1, cntR_own hx hc.2 hb.1]
        show (spend x t n).2 - mn (nn r) (spend x t n).2 = _
        split at i2 <;> split <;> omega
      · intro s hs
        rcases List.mem_cons.1 hs with e | hs
        · subst e; exact hl.2
        · exact i3 s hs
      · rw [cnt1, cnt1, lessR_cnt k hr2 hm.2.2.1 hm.1, i4 k, hc.2]
        show _ = cntR k r + cnt k t - if k = x then n - ((spend x t n).2 - mn (nn r) (spend x t n).2) else 0
        by_cases hk : k = x
        · subst hk
          rw [if_pos (show k = k ∧ k ≠ 0 from ⟨rfl, hx⟩), if_pos rfl, if_pos rfl]; omega
        · rw [if_neg (show ¬(k = x ∧ k ≠ 0) from fun h => hk h.1), if_neg hk, if_neg hk]; omega
    · rw [if_neg hc]
      refine ⟨?_, ?_, ?_, fun k => ?_⟩
      · rw [List.all_cons, Bool.and_eq_true]; exact ⟨h.1, i1⟩
      · rw [cnt1]
        by_cases hit : it r = x
        · rw [cntR_own hx hit hb.1]
          show (spend x t n).2 = _
          have : ¬ 0 < (spend x t n).2 := fun h => hc ⟨h, hit⟩
          split at i2 <;> split <;> omega
        · rw [cntR_other hit, Int.zero_add]; exact i2
      · intro s hs
        rcases List.mem_cons.1 hs with e | hs
        · subst e; exact hr2
        · exact i3 s hs
      · rw [cnt1, cnt1, i4 k]; simp only; omega
theorem spend_wfb {x : Int} : ∀ {l : Rows2} {n : Int}, (∀ r ∈ l, wfR r) → l.all okR = true → 0 ≤ n → (∀ r ∈ (spend x l n).1, wfR r) ∧ 0 ≤ (spend x l n).2
  | [], n, _, _, h0 => ⟨(fun r hr => by simp [spend] at hr), h0⟩
  | r :: t, n, hw, h, h0 => by
    rw [List.all_cons, Bool.and_eq_true] at h
    obtain ⟨i1, i2⟩ := spend_wfb (x := x) (fun s hs => hw s (by simp [hs])) h.2 h0
    have hb := okR_bd h.1
    have hr := hw r (by simp)
    simp only [spend]
    by_cases hc : 0 < (spend x t n).2 ∧ it r = x
    · rw [if_pos hc]
      have hm : mn (nn r) (spend x t n).2 ≤ nn r ∧ mn (nn r) (spend x t n).2 ≤ (spend x t n).2 ∧ 0 ≤ mn (nn r) (spend x t n).2 := by
        unfold mn; split <;> omega
      refine ⟨fun s hs => ?_, by simp only; omega⟩
      rcases List.mem_cons.1 hs with e | hs
      · subst e
        obtain ⟨k1, k2, k3⟩ := hr
        match r, k1 with
        | [a, b], _ =>
          simp only [nn_mk, it_mk] at *
          rw [lessR_mk]
          by_cases hz : b - mn b (spend x t n).2 = 0
          · rw [if_pos hz]; exact ⟨rfl, by decide, by decide⟩
          · rw [if_neg hz]; exact ⟨rfl, k2, by show _ ≤ b - _; omega, by show b - _ ≤ _; omega⟩
      · exact i1 s hs
    · rw [if_neg hc]
      refine ⟨fun s hs => ?_, i2⟩
      rcases List.mem_cons.1 hs with e | hs
      · subst e; exact hr
      · exact i1 s hs
theorem spendS_wf {l : Rows2} {x n : Int} (hw : wfL l) : wfL (spendS l x n).1 := by
  unfold spendS
  split
  · exact hw
  · rename_i h
    split
    · exact hw
    · split
      · exact hw
      · exact ⟨(spend_wfb hw.1 (by simpa using h) (by omega)).1, by rw [spend_len]; exact hw.2⟩
theorem spendS_len (l : Rows2) (x n : Int) : (spendS l x n).1.length = l.length := by
  unfold spendS
  split
  · rfl
  · split
    · rfl
    · split
      · rfl
      · exact spend_len _ _ _
theorem spendS_spec {l : Rows2} {x n : Int} (hw : wfL l) (h : l.all okR = true) : (spendS l x n).1.all okR = true ∧ (n < 1 → (spendS l x n).2 = 111) ∧ (1 ≤ n → ((spendS l x n).2 = 0 ↔ n ≤ cnt x l)) ∧ ((spendS l x n).2 ≠ 0 → (spendS l x n).1 = l) ∧
    ((spendS l x n).2 = 0 → x ≠ 0 ∧ 1 ≤ n ∧ n ≤ cnt x l ∧ ∀ k, cnt k (spendS l x n).1 = cnt k l - if k = x then n else 0) := by
  unfold spendS
  rw [if_neg (by rw [h]; simp)]
  by_cases h1 : n < 1
  · rw [if_pos h1]; exact ⟨h, fun _ => rfl, by omega, fun _ => rfl, fun e => by simp at e⟩
  · rw [if_neg h1]
    by_cases h2 : cnt x l < n
    · rw [if_pos h2]; exact ⟨h, by omega, fun _ => ⟨fun e => by simp at e, by omega⟩, fun _ => rfl, fun e => by simp at e⟩
    · rw [if_neg h2]
      have hx : x ≠ 0 := fun e => by
        subst e
        have : ∀ l : Rows2, cnt 0 l = 0 := fun l => by
          induction l with
          | nil => rfl
          | cons r t ih => simp [cnt, cntR, ih]
        rw [this] at h2; omega
      obtain ⟨s1, s2, s3, s4⟩ := spend_spec hx h hw.1 (show 0 ≤ n by omega)
      refine ⟨s1, by omega, fun _ => ⟨fun _ => by omega, fun _ => rfl⟩, fun e => absurd rfl e, fun _ => ⟨hx, by omega, by omega, fun k => ?_⟩⟩
      have h0 : (spend x l n).2 = 0 := by split at s2 <;> omega
      rw [s4 k, h0]
      split <;> omega
end Go.Proofs.Ytibknlliackohaa
