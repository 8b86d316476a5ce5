/- Bags, plainly: two parts, what is undone, all of another bag. -/
import Derived.Test.YtibknlliackohaaBagP
namespace Go.Proofs.Ytibknlliackohaa
theorem eq_pair {r : List Int} (hr : r.length = 2) : r = [it r, nn r] := by
  match r, hr with
  | [a, b], _ => rfl
theorem amt_zero {p : List Int → Bool} {size : Int} {r : List Int} : amt p size r 0 = 0 := by
  apply amt_none
  split <;> omega
theorem fill_zero (p : List Int → Bool) (x size : Int) : ∀ (l : Rows2), fill p x size l 0 = (l, 0)
  | [] => rfl
  | r :: t => by
    have e : fill p x size (r :: t) 0 = (putR p x size r 0 :: (fill p x size t (0 - amt p size r 0)).1, (fill p x size t (0 - amt p size r 0)).2) := rfl
    rw [e, amt_zero, Int.sub_zero, fill_zero p x size t, putR, if_pos amt_zero]
theorem fill_cons (p : List Int → Bool) (x size n : Int) (r : List Int) (t : Rows2) : fill p x size (r :: t) n = (putR p x size r n :: (fill p x size t (n - amt p size r n)).1, (fill p x size t (n - amt p size r n)).2) := rfl
/-- where nothing is to be filled -/
theorem fill_full {p : List Int → Bool} {x : Int} (hp : isP x p) : ∀ {l : Rows2} {n : Int}, l.all okR = true → cap p (stackT x) l = 0 → fill p x (stackT x) l n = (l, n)
  | [], n, _, _ => rfl
  | r :: t, n, h, hc => by
    rw [List.all_cons, Bool.and_eq_true] at h
    have hb := okR_bd h.1
    have hs := stackT_bd x
    have hcn := cap_nn (x := x) hp h.2
    rw [cap1, capR_un] at hc
    have ha : amt p (stackT x) r n = 0 := by
      by_cases hpr : p r = true
      · rw [if_pos hpr] at hc
        have hle : nn r ≤ stackT x := by
          rcases isP_row hp hpr with e | e
          · rw [e] at hb; omega
          · rw [e]; omega
        apply amt_none
        split <;> omega
      · exact amt_no (by simpa using hpr)
    have hc2 : cap p (stackT x) t = 0 := by
      by_cases hpr : p r = true
      · rw [if_pos hpr] at hc
        have hle : nn r ≤ stackT x := by
          rcases isP_row hp hpr with e | e
          · rw [e] at hb; omega
          · rw [e]; omega
        omega
      · rw [if_neg hpr] at hc; omega
    rw [fill_cons, ha, Int.sub_zero, fill_full hp h.2 hc2, putR, if_pos ha]
theorem pA_mk (x v : Int) : pA x [x, v] = true := decide_eq_true rfl
theorem pB_mk {x v : Int} (h : v ≠ 0) : pB [x, v] = false := decide_eq_false (by rw [nn_mk]; exact h)
theorem pA_un {x : Int} {r : List Int} : pA x r = decide (it r = x) := rfl
theorem pB_un {r : List Int} : pB r = decide (nn r = 0) := rfl
theorem putR0 {p : List Int → Bool} {x size n : Int} {r : List Int} (h : amt p size r n = 0) : putR p x size r n = r := by rw [putR, if_pos h]
theorem putR1 {p : List Int → Bool} {x size n : Int} {r : List Int} (h : amt p size r n ≠ 0) : putR p x size r n = [x, nn r + amt p size r n] := by rw [putR, if_neg h]
/-- those that have the same, in two parts -/
theorem fillA_twice {x : Int} : ∀ {l : Rows2} {a b : Int}, l.all okR = true → 0 ≤ a → 0 ≤ b →
    fill (pA x) x (stackT x) (fill (pA x) x (stackT x) l a).1 ((fill (pA x) x (stackT x) l a).2 + b) = fill (pA x) x (stackT x) l (a + b)
  | [], a, b, _, _, _ => rfl
  | r :: t, a, b, h, ha, hb => by
    rw [List.all_cons, Bool.and_eq_true] at h
    have hbd := okR_bd h.1
    have hs := stackT_bd x
    by_cases hp : pA x r = true
    · have hit : it r = x := of_decide_eq_true hp
      rw [hit] at hbd
      have e1 := amt_eq (size := stackT x) (n := a) ha hp hbd.2.1
      have e2 := amt_eq (size := stackT x) (n := a + b) (show 0 ≤ a + b by omega) hp hbd.2.1
      by_cases hac : a < stackT x - nn r
      · rw [if_pos hac] at e1
        by_cases ha0 : a = 0
        · subst ha0
          rw [fill_zero, Int.zero_add]
        · have hz : amt (pA x) (stackT x) r a ≠ 0 := by omega
          rw [fill_cons, e1, Int.sub_self, fill_zero, putR1 hz, e1]
          simp only
          rw [Int.zero_add, fill_cons, fill_cons _ _ _ (a + b)]
          have e3 := amt_eq (size := stackT x) (n := b) (r := [x, nn r + a]) hb (pA_mk x _) (by rw [nn_mk]; omega)
          rw [nn_mk] at e3
          have e4 : amt (pA x) (stackT x) r (a + b) = a + amt (pA x) (stackT x) [x, nn r + a] b := by
            rw [e2, e3]; split <;> split <;> omega
          have hz4 : amt (pA x) (stackT x) r (a + b) ≠ 0 := by
            rw [e4, e3]; split <;> omega
          rw [e4, putR1 hz4, e4]
          have e5 : a + b - (a + amt (pA x) (stackT x) [x, nn r + a] b) = b - amt (pA x) (stackT x) [x, nn r + a] b := by omega
          rw [e5]
          by_cases hz5 : amt (pA x) (stackT x) [x, nn r + a] b = 0
          · rw [putR0 hz5, hz5, Int.add_zero]
          · rw [putR1 hz5, nn_mk, Int.add_assoc]
      · rw [if_neg hac] at e1
        have ih := fillA_twice (x := x) (l := t) (a := a - (stackT x - nn r)) (b := b) h.2 (by omega) hb
        have e6 : amt (pA x) (stackT x) r (a + b) = stackT x - nn r := by rw [e2, if_neg (by omega)]
        rw [fill_cons, e1]
        simp only
        rw [fill_cons, fill_cons _ _ _ (a + b), e6]
        have e7 : a + b - (stackT x - nn r) = a - (stackT x - nn r) + b := by omega
        rw [e7]
        by_cases hz : stackT x - nn r = 0
        · have hz1 : amt (pA x) (stackT x) r a = 0 := by rw [e1]; exact hz
          have hz2 : ∀ n, amt (pA x) (stackT x) r n = 0 := fun n => amt_none (by rw [hz]; split <;> omega)
          rw [putR0 hz1, hz2, Int.sub_zero, putR0 (hz2 _), putR0 (hz2 _), ih]
        · have hz1 : amt (pA x) (stackT x) r a ≠ 0 := by rw [e1]; exact hz
          have hz3 : amt (pA x) (stackT x) r (a + b) ≠ 0 := by rw [e6]; exact hz
          have hz2 : ∀ n, amt (pA x) (stackT x) [x, stackT x] n = 0 := fun n => amt_none (by rw [nn_mk]; split <;> omega)
          rw [putR1 hz1, e1, show nn r + (stackT x - nn r) = stackT x by omega, hz2, Int.sub_zero, putR0 (hz2 _), putR1 hz3, e6, show nn r + (stackT x - nn r) = stackT x by omega, ih]
    · have hp' : pA x r = false := by simpa using hp
      have hz : ∀ n, amt (pA x) (stackT x) r n = 0 := fun n => amt_no hp'
      have ih := fillA_twice (x := x) (l := t) (a := a) (b := b) h.2 ha hb
      rw [fill_cons, hz, Int.sub_zero, putR0 (hz _)]
      simp only
      rw [fill_cons, fill_cons, hz, hz, Int.sub_zero, Int.sub_zero, putR0 (hz _), putR0 (hz _), ih]
theorem capA_row {x : Int} {r : List Int} {t : Rows2} (h : okR r = true ∧ t.all okR = true) (hc : cap (pA x) (stackT x) (r :: t) = 0) : (it r = x → nn r = stackT x) ∧ cap (pA x) (stackT x) t = 0 := by
  have hb := okR_bd h.1
  have hcn := cap_nn (x := x) (p := pA x) (.inl rfl) h.2
  rw [cap1, capR_un, pA_un] at hc
  by_cases hit : it r = x
  · rw [if_pos (decide_eq_true hit)] at hc
    rw [hit] at hb
    exact ⟨fun _ => by omega, by omega⟩
  · rw [if_neg (by simp [hit])] at hc
    exact ⟨fun e => absurd e hit, by omega⟩
/-- the empty ones, in two parts, where those that have the same are full -/
theorem fillB_twice {x : Int} (hx : x ≠ 0) (hsx : stackT x ≠ 0) : ∀ {l : Rows2} {a b : Int}, l.all okR = true → cap (pA x) (stackT x) l = 0 → 0 ≤ a → 0 ≤ b →
    (fill pB x (stackT x) (fill (pA x) x (stackT x) (fill pB x (stackT x) l a).1 b).1 (fill (pA x) x (stackT x) (fill pB x (stackT x) l a).1 b).2).1 = (fill pB x (stackT x) l (a + b)).1 ∧
    (fill pB x (stackT x) l a).2 + (fill pB x (stackT x) (fill (pA x) x (stackT x) (fill pB x (stackT x) l a).1 b).1 (fill (pA x) x (stackT x) (fill pB x (stackT x) l a).1 b).2).2 = (fill pB x (stackT x) l (a + b)).2
  | [], a, b, _, _, _, _ => ⟨rfl, rfl⟩
  | r :: t, a, b, h, hc, ha, hb => by
    have hall := h
    rw [List.all_cons, Bool.and_eq_true] at h
    have hbd := okR_bd h.1
    have hs := stackT_bd x
    obtain ⟨hf, hct⟩ := capA_row h hc
    by_cases hn : nn r = 0
    · have hit : it r ≠ x := fun e => by have := hf e; omega
      have hpB : pB r = true := decide_eq_true hn
      have hpA : pA x r = false := decide_eq_false hit
      have hzA : ∀ n, amt (pA x) (stackT x) r n = 0 := fun n => amt_no hpA
      have e1 := amt_eq (size := stackT x) (n := a) ha hpB (by omega : nn r ≤ stackT x)
      have e2 := amt_eq (size := stackT x) (n := a + b) (show 0 ≤ a + b by omega) hpB (by omega : nn r ≤ stackT x)
      rw [hn, Int.sub_zero] at e1 e2
      by_cases ha0 : a = 0
      · subst ha0
        rw [fill_zero, Int.zero_add]
        simp only
        rw [fill_full (.inl rfl) hall hc]
        simp
      · by_cases hac : a < stackT x
        · rw [if_pos hac] at e1
          have hz1 : amt pB (stackT x) r a ≠ 0 := by omega
          have e3 := amt_eq (size := stackT x) (n := b) (r := [x, a]) hb (pA_mk x _) (by rw [nn_mk]; omega)
          rw [nn_mk] at e3
          have e4 : amt pB (stackT x) r (a + b) = a + amt (pA x) (stackT x) [x, a] b := by
            rw [e2, e3]; split <;> split <;> omega
          have hw : 0 ≤ amt (pA x) (stackT x) [x, a] b := (amt_bd hb).1
          have hz4 : amt pB (stackT x) r (a + b) ≠ 0 := by omega
          rw [fill_cons pB, e1, Int.sub_self, fill_zero, putR1 hz1, e1, hn, Int.zero_add]
          simp only
          rw [fill_cons (pA x), fill_full (.inl rfl) h.2 hct]
          simp only
          rw [fill_cons pB _ _ (a + b), putR1 hz4, e4, hn, Int.zero_add, show a + b - (a + amt (pA x) (stackT x) [x, a] b) = b - amt (pA x) (stackT x) [x, a] b by omega]
          have hrow : putR (pA x) x (stackT x) [x, a] b = [x, a + amt (pA x) (stackT x) [x, a] b] := by
            by_cases hz5 : amt (pA x) (stackT x) [x, a] b = 0
            · rw [putR0 hz5, hz5, Int.add_zero]
            · rw [putR1 hz5, nn_mk]
          have hzB : ∀ n, amt pB (stackT x) [x, a + amt (pA x) (stackT x) [x, a] b] n = 0 := fun n => amt_no (pB_mk (by omega))
          rw [hrow, fill_cons pB, hzB, Int.sub_zero, putR0 (hzB _)]
          simp
        · rw [if_neg hac] at e1
          have hz1 : amt pB (stackT x) r a ≠ 0 := by omega
          have e4 : amt pB (stackT x) r (a + b) = stackT x := by rw [e2, if_neg (by omega)]
          have hz4 : amt pB (stackT x) r (a + b) ≠ 0 := by omega
          have hzA2 : ∀ n, amt (pA x) (stackT x) [x, stackT x] n = 0 := fun n => amt_none (by rw [nn_mk]; split <;> omega)
          have hzB2 : ∀ n, amt pB (stackT x) [x, stackT x] n = 0 := fun n => amt_no (pB_mk hsx)
          obtain ⟨i1, i2⟩ := fillB_twice hx hsx (l := t) (a := a - stackT x) (b := b) h.2 hct (by omega) hb
          rw [fill_cons pB, e1, putR1 hz1, e1, hn, Int.zero_add]
          simp only
          rw [fill_cons (pA x), hzA2, Int.sub_zero, putR0 (hzA2 _)]
          simp only
          rw [fill_cons pB _ _ (fill (pA x) x (stackT x) (fill pB x (stackT x) t (a - stackT x)).1 b).2, hzB2, Int.sub_zero, putR0 (hzB2 _)]
          simp only
          rw [fill_cons pB _ _ (a + b), putR1 hz4, e4, hn, Int.zero_add, show a + b - stackT x = a - stackT x + b by omega]
          simp only
          rw [i1, i2]
          exact ⟨rfl, rfl⟩
    · have hpB : pB r = false := decide_eq_false hn
      have hzB : ∀ n, amt pB (stackT x) r n = 0 := fun n => amt_no hpB
      have hzA : ∀ n, amt (pA x) (stackT x) r n = 0 := fun n => by
        by_cases hit : it r = x
        · exact amt_none (by rw [hf hit]; split <;> omega)
        · exact amt_no (decide_eq_false hit)
      obtain ⟨i1, i2⟩ := fillB_twice hx hsx (l := t) (a := a) (b := b) h.2 hct ha hb
      rw [fill_cons pB, hzB, Int.sub_zero, putR0 (hzB _)]
      simp only
      rw [fill_cons (pA x), hzA, Int.sub_zero, putR0 (hzA _)]
      simp only
      rw [fill_cons pB, hzB, Int.sub_zero, putR0 (hzB _)]
      simp only
      rw [fill_cons pB, hzB, Int.sub_zero, putR0 (hzB _)]
      simp only
      rw [i1, i2]
      exact ⟨rfl, rfl⟩
theorem putS_un {l : Rows2} {x n : Int} (h : l.all okR = true) (hn : 1 ≤ n) (hs : stackT x ≠ 0) : putS l x n = fill pB x (stackT x) (fill (pA x) x (stackT x) l n).1 (fill (pA x) x (stackT x) l n).2 := by
  unfold putS; rw [if_neg (by omega), if_neg (by rw [h]; simp [hs])]
theorem putS_parts {l : Rows2} {x a b : Int} (h : l.all okR = true) (ha : 1 ≤ a) (hb : 1 ≤ b) :
    (putS l x (a + b)).1 = (putS (putS l x a).1 x b).1 ∧ (putS l x (a + b)).2 = (putS l x a).2 + (putS (putS l x a).1 x b).2 := by
  by_cases hs : stackT x = 0
  · have e : ∀ n, 1 ≤ n → putS l x n = (l, n) := fun n hn => by unfold putS; rw [if_neg (by omega), if_pos (.inl hs)]
    rw [e a ha, e (a + b) (by omega)]
    simp only
    rw [e b hb]
    exact ⟨rfl, rfl⟩
  · have hx : x ≠ 0 := fun e => hs (by rw [e]; rfl)
    have hok := putS_ok (x := x) (n := a) h
    rw [putS_un h (show 1 ≤ a + b by omega) hs, putS_un hok hb hs]
    rw [putS_un h ha hs] at hok ⊢
    have okA := fill_ok (p := pA x) (x := x) (n := a) h (by omega)
    have tw := fillA_twice (x := x) (l := l) (a := a) (b := b) h (by omega) (by omega)
    have hA := fill_left (p := pA x) (x := x) (size := stackT x) (l := l) (n := a) (by omega)
    by_cases h0 : (fill (pA x) x (stackT x) l a).2 = 0
    · rw [h0, Int.zero_add] at tw
      rw [h0, fill_zero]
      simp only
      rw [tw, Int.zero_add]
      exact ⟨rfl, rfl⟩
    · have r1 := fill_rest (p := pA x) (n := a) (.inl rfl) h (by omega)
      have cr := cap_room hx h
      have cr1 := cap_room hx okA
      have ck := cap_keep (n := a) (size := stackT x) hx h (show 0 ≤ a by omega)
      have rA := fill_room (p := pA x) (size := stackT x) (n := a) (.inl rfl) hx h (by omega)
      have hfull : cap (pA x) (stackT x) (fill (pA x) x (stackT x) l a).1 = 0 := by
        split at r1 <;> omega
      have e1 := fill_full (n := (fill (pA x) x (stackT x) l a).2 + b) (.inl rfl) okA hfull
      rw [e1] at tw
      rw [← tw]
      obtain ⟨i1, i2⟩ := fillB_twice hx hs (a := (fill (pA x) x (stackT x) l a).2) (b := b) okA hfull hA.1 (by omega)
      exact ⟨i1.symm, i2.symm⟩
end Go.Proofs.Ytibknlliackohaa
