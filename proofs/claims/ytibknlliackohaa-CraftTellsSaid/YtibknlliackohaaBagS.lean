/- Bags, plainly: spending in parts, taking, all of another bag. -/
import Derived.Test.YtibknlliackohaaBagQ
namespace Go.Proofs.Ytibknlliackohaa
/-- with none of an item -/
def clr (x : Int) : Rows2 → Rows2
  | [] => []
  | r :: t => (if it r = x then [0, 0] else r) :: clr x t
theorem clr1 (x : Int) (r : List Int) (t : Rows2) : clr x (r :: t) = (if it r = x then [0, 0] else r) :: clr x t := rfl
theorem ok_pos {r : List Int} {x : Int} (hx : x ≠ 0) (h : okR r = true) (hit : it r = x) : 1 ≤ nn r := by
  rcases ok_ne h with ⟨h1, h2⟩ | ⟨h1, _⟩
  · exact absurd (hit.symm.trans h2) hx
  · exact h1
theorem lessR_all {r : List Int} : lessR r (nn r) = [0, 0] := by
  unfold lessR; rw [if_pos (Int.sub_self _)]
theorem spend_clr {x : Int} (hx : x ≠ 0) : ∀ {l : Rows2} {a : Int}, l.all okR = true → cnt x l ≤ a → spend x l a = (clr x l, a - cnt x l)
  | [], a, _, _ => by
    have e : spend x [] a = ([], a) := rfl
    have e2 : cnt x [] = 0 := rfl
    rw [e, e2, Int.sub_zero]; rfl
  | r :: t, a, h, ha => by
    rw [List.all_cons, Bool.and_eq_true] at h
    rw [cnt1] at ha ⊢
    have hc0 : 0 ≤ cntR x r := by have := cnt_nn x [r]; rw [cnt1] at this; have e : cnt x [] = 0 := rfl; omega
    have ih := spend_clr hx (l := t) (a := a) h.2 (by omega)
    rw [spend1, ih, clr1]
    simp only
    by_cases hit : it r = x
    · have hp := ok_pos hx h.1 hit
      have hb := okR_bd h.1
      rw [cntR_own hx hit hb.1] at ha ⊢
      rw [if_pos ⟨by omega, hit⟩, if_pos hit]
      have hm : mn (nn r) (a - cnt x t) = nn r := by unfold mn; split <;> omega
      rw [hm, lessR_all]
      congr 1; omega
    · rw [cntR_other hit] at ha ⊢
      rw [if_neg (fun hh => hit hh.2), if_neg hit]
      congr 1; omega
theorem spend_left {x : Int} (hx : x ≠ 0) : ∀ {l : Rows2} {n : Int}, l.all okR = true → 0 ≤ n → (spend x l n).2 = if n < cnt x l then 0 else n - cnt x l
  | [], n, _, h0 => by
    show n = if n < 0 then 0 else n - 0
    rw [if_neg (by omega)]; omega
  | r :: t, n, h, h0 => by
    rw [List.all_cons, Bool.and_eq_true] at h
    have hb := okR_bd h.1
    have ih := spend_left hx (l := t) (n := n) h.2 h0
    have hc := cnt_nn x t
    rw [spend1, cnt1]
    by_cases hit : it r = x
    · rw [cntR_own hx hit hb.1]
      by_cases hp : 0 < (spend x t n).2
      · rw [if_pos ⟨hp, hit⟩]
        show (spend x t n).2 - mn (nn r) (spend x t n).2 = _
        have hm : mn (nn r) (spend x t n).2 = if (spend x t n).2 < nn r then (spend x t n).2 else nn r := rfl
        split at ih <;> split at hm <;> split <;> omega
      · rw [if_neg (fun hh => hp hh.1)]
        show (spend x t n).2 = _
        split at ih <;> split <;> omega
    · rw [if_neg (fun hh => hit hh.2), cntR_other hit, Int.zero_add]
      exact ih
theorem clr_cnt {x : Int} (hx : x ≠ 0) : ∀ (l : Rows2), cnt x (clr x l) = 0
  | [] => rfl
  | r :: t => by
    rw [clr1, cnt1, clr_cnt hx t]
    by_cases hit : it r = x
    · rw [if_pos hit, cntR_other (r := [0, 0]) (by rw [it_mk]; exact Ne.symm hx)]; rfl
    · rw [if_neg hit, cntR_other hit]; rfl
theorem clr_ok {x : Int} : ∀ {l : Rows2}, l.all okR = true → (clr x l).all okR = true
  | [], _ => rfl
  | r :: t, h => by
    rw [List.all_cons, Bool.and_eq_true] at h
    rw [clr1, List.all_cons, Bool.and_eq_true]
    refine ⟨?_, clr_ok h.2⟩
    split
    · rfl
    · exact h.1
theorem clr_clr {x : Int} (hx : x ≠ 0) : ∀ (l : Rows2), clr x (clr x l) = clr x l
  | [] => rfl
  | r :: t => by
    rw [clr1, clr1, clr_clr hx t]
    by_cases hit : it r = x
    · rw [if_pos hit, if_neg (by rw [it_mk]; exact Ne.symm hx)]
    · rw [if_neg hit, if_neg hit]
/-- spending in two parts, the first of which there is -/
theorem spend_twice {x : Int} (hx : x ≠ 0) : ∀ {l : Rows2} {a b : Int}, l.all okR = true → (∀ r ∈ l, r.length = 2) → 0 ≤ a → 0 ≤ b → a ≤ cnt x l → spend x (spend x l a).1 b = spend x l (a + b)
  | [], a, b, _, _, h0, _, ha => by
    have e2 : cnt x [] = 0 := rfl
    have : a = 0 := by omega
    subst this
    rw [Int.zero_add]; rfl
  | r :: t, a, b, h, hw, h0, hb, ha => by
    rw [List.all_cons, Bool.and_eq_true] at h
    have hr2 := hw r (by simp)
    have hwt : ∀ s ∈ t, s.length = 2 := fun s hs => hw s (by simp [hs])
    have hbd := okR_bd h.1
    rw [cnt1] at ha
    by_cases hat : a ≤ cnt x t
    · have ih := spend_twice hx (l := t) (a := a) (b := b) h.2 hwt h0 hb hat
      have hz : (spend x t a).2 = 0 ∨ (spend x t a).2 < 0 ∨ True := .inr (.inr trivial)
      have hn : ¬ 0 < (spend x t a).2 := by
        by_cases he : a = cnt x t
        · rw [spend_clr hx h.2 (by omega)]; simp only; omega
        · have hs2 := spend_left hx h.2 h0
          rw [hs2, if_pos (by omega)]; omega
      have e1 : spend x (r :: t) a = (r :: (spend x t a).1, (spend x t a).2) := by rw [spend1, if_neg (fun hh => hn hh.1)]
      rw [e1]
      simp only
      rw [spend1, ih, spend1 x (a + b)]
    · have hit : it r = x := Classical.byContradiction fun hne => by
        rw [cntR_other hne] at ha; omega
      rw [cntR_own hx hit hbd.1] at ha
      have hp := ok_pos hx h.1 hit
      have e1 := spend_clr hx (l := t) (a := a) h.2 (by omega)
      have e2 := spend_clr hx (l := t) (a := a + b) h.2 (by omega)
      have e3 := spend_clr hx (l := clr x t) (a := b) (clr_ok h.2) (by rw [clr_cnt hx]; exact hb)
      rw [clr_cnt hx, clr_clr hx, Int.sub_zero] at e3
      have f1 : spend x (r :: t) a = (lessR r (a - cnt x t) :: clr x t, 0) := by
        rw [spend1, e1]
        simp only
        have hm : mn (nn r) (a - cnt x t) = a - cnt x t := by unfold mn; split <;> omega
        rw [if_pos ⟨by omega, hit⟩, hm, Int.sub_self]
      have f2 : spend x (r :: t) (a + b) = (lessR r (mn (nn r) (a + b - cnt x t)) :: clr x t, a + b - cnt x t - mn (nn r) (a + b - cnt x t)) := by
        rw [spend1, e2]
        simp only
        rw [if_pos ⟨by omega, hit⟩]
      rw [f1, f2]
      simp only
      rw [spend1, e3]
      simp only
      rw [eq_pair hr2, hit]
      generalize hN : nn r = N at *
      rw [lessR_mk, lessR_mk, nn_mk]
      have hmn : mn N (a + b - cnt x t) = if a + b - cnt x t < N then a + b - cnt x t else N := rfl
      by_cases hz : N - (a - cnt x t) = 0
      · rw [if_pos hz, if_neg (by rw [it_mk]; intro hh; exact hx hh.2.symm)]
        have : mn N (a + b - cnt x t) = N := by rw [hmn]; split <;> omega
        rw [this, Int.sub_self, if_pos rfl]
        congr 1; omega
      · rw [if_neg hz]
        by_cases hb0 : b = 0
        · subst hb0
          rw [if_neg (by omega)]
          have : mn N (a + 0 - cnt x t) = a - cnt x t := by rw [hmn]; split <;> omega
          rw [this, if_neg hz]
          congr 1; omega
        · rw [if_pos ⟨by omega, it_mk _ _⟩, nn_mk]
          have hm2 : mn (N - (a - cnt x t)) b = if b < N - (a - cnt x t) then b else N - (a - cnt x t) := rfl
          have hsum : mn N (a + b - cnt x t) = (a - cnt x t) + mn (N - (a - cnt x t)) b := by
            rw [hmn, hm2]; split <;> split <;> omega
          rw [hsum, lessR_mk, show N - (a - cnt x t) - mn (N - (a - cnt x t)) b = N - (a - cnt x t + mn (N - (a - cnt x t)) b) by omega]
          congr 1; omega
/-- what was put into empty slots, and is spent again -/
theorem no_item {x : Int} (hx : x ≠ 0) : ∀ {l : Rows2}, l.all okR = true → cnt x l = 0 → ∀ r ∈ l, it r ≠ x
  | [], _, _ => fun r hr => by simp at hr
  | r :: t, h, hc => by
    rw [List.all_cons, Bool.and_eq_true] at h
    have hbd := okR_bd h.1
    rw [cnt1] at hc
    have h1 := cnt_nn x t
    intro s hs
    by_cases hit : it r = x
    · have hp := ok_pos hx h.1 hit
      rw [cntR_own hx hit hbd.1] at hc; omega
    · rw [cntR_other hit, Int.zero_add] at hc
      rcases List.mem_cons.1 hs with e | hs
      · subst e; exact hit
      · exact no_item hx h.2 hc s hs
theorem cap_none {x : Int} : ∀ {l : Rows2}, (∀ r ∈ l, it r ≠ x) → cap (pA x) (stackT x) l = 0
  | [], _ => rfl
  | r :: t, h => by
    rw [cap1, capR_un, pA_un, if_neg (by simp [h r (by simp)]), cap_none (fun s hs => h s (by simp [hs]))]; rfl
theorem clr_fillB {x : Int} (hx : x ≠ 0) : ∀ {l : Rows2} {n : Int}, l.all okR = true → (∀ r ∈ l, r.length = 2) → (∀ r ∈ l, it r ≠ x) → clr x (fill pB x (stackT x) l n).1 = l
  | [], _, _, _, _ => rfl
  | r :: t, n, h, hw, hn => by
    rw [List.all_cons, Bool.and_eq_true] at h
    have hr2 := hw r (by simp)
    rw [fill1, clr1, clr_fillB hx h.2 (fun s hs => hw s (by simp [hs])) (fun s hs => hn s (by simp [hs]))]
    by_cases hz : amt pB (stackT x) r n = 0
    · rw [putR0 hz, if_neg (hn r (by simp))]
    · rw [putR1 hz, if_pos (it_mk _ _)]
      have hb : nn r = 0 := of_decide_eq_true (amt_le hz).1
      rcases ok_ne h.1 with ⟨h1, h2⟩ | ⟨h1, _⟩
      · rw [eq_pair hr2, h1, h2]
      · omega
theorem put_spend {l : Rows2} {x n : Int} (h : l.all okR = true) (hw : wfL l) (hc : cnt x l = 0) (hs : stackT x ≠ 0) (h1 : 1 ≤ n) (h2 : n ≤ room x l) : (putS l x n).2 = 0 ∧ spendS (putS l x n).1 x n = (l, 0) := by
  have hx : x ≠ 0 := fun e => hs (by rw [e]; rfl)
  obtain ⟨p1, p2, p3, p4⟩ := putS_spec (x := x) (n := n) h h1 hs
  have h0 : (putS l x n).2 = 0 := by rw [p2]; split <;> omega
  refine ⟨h0, ?_⟩
  have hcm := p4 x
  rw [h0, if_pos rfl, hc] at hcm
  have hni := no_item hx h hc
  have hm : (putS l x n).1 = (fill pB x (stackT x) l n).1 := by
    rw [putS_un h h1 hs, fill_full (.inl rfl) h (cap_none hni)]
  unfold spendS
  rw [if_neg (by rw [p1]; simp), if_neg (by omega), if_neg (by omega), spend_clr hx p1 (by omega), hm, clr_fillB hx h (fun r hr => (hw.1 r hr).1) hni]
/-! ### taking -/
theorem cnt_set (k : Int) : ∀ {l : Rows2} {j : Nat} (r' : List Int), j < l.length → cnt k (l.set j r') = cnt k l - cntR k (l.getD j []) + cntR k r'
  | [], _, _, h => by simp at h
  | r :: t, 0, r', _ => by
    have e : (r :: t).set 0 r' = r' :: t := rfl
    have e2 : (r :: t).getD 0 [] = r := rfl
    rw [e, e2, cnt1, cnt1]; omega
  | r :: t, j + 1, r', h => by
    have e : (r :: t).set (j + 1) r' = r :: t.set j r' := rfl
    have e2 : (r :: t).getD (j + 1) [] = t.getD j [] := rfl
    rw [e, e2, cnt1, cnt1, cnt_set k r' (by simpa using h)]; omega
theorem all_set {l : Rows2} {j : Nat} {r' : List Int} (h : l.all okR = true) (hr : okR r' = true) : (l.set j r').all okR = true := by
  rw [List.all_eq_true] at h ⊢
  intro r hm
  rcases List.mem_or_eq_of_mem_set hm with h1 | h1
  · exact h r h1
  · rw [h1]; exact hr
theorem room_ge {x : Int} (hx : x ≠ 0) : ∀ {l : Rows2}, l.all okR = true → ∀ r ∈ l, roomR x r ≤ room x l
  | [], _ => fun r hr => by simp at hr
  | r :: t, h => by
    have hall := h
    rw [List.all_cons, Bool.and_eq_true] at h
    have hn := room_nn hx h.2
    have hbd := okR_bd h.1
    have hs := stackT_bd x
    have e2 : room x (r :: t) = roomR x r + room x t := rfl
    have h0 : 0 ≤ roomR x r := by
      rw [roomR_un]; split
      · omega
      · split
        · rename_i hit; rw [hit] at hbd; omega
        · omega
    intro s hs'
    rcases List.mem_cons.1 hs' with e | hs'
    · subst e; rw [e2]; omega
    · have := room_ge hx h.2 s hs'; rw [e2]; omega
/-- what is told of a place of which some is taken -/
theorem takeS_spec {l : Rows2} {a n : Int} (hw : wfL l) (h : l.all okR = true) : (takeS l a n).1.all okR = true ∧ wfL (takeS l a n).1 ∧ (takeS l a n).1.length = l.length ∧ (0 ≤ (takeS l a n).2.1.1 ∧ (takeS l a n).2.1.1 < 256) ∧
    ((takeS l a n).2.2 ≠ 0 → (takeS l a n).1 = l ∧ (takeS l a n).2.1 = (0, 0)) ∧
    ((takeS l a n).2.2 = 0 → 0 ≤ a ∧ a < l.length ∧ 1 ≤ n ∧ n ≤ nn (l.getD a.toNat []) ∧ (takeS l a n).2.1 = (it (l.getD a.toNat []), n) ∧ it (l.getD a.toNat []) ≠ 0 ∧ stackT (it (l.getD a.toNat [])) ≠ 0 ∧
      n ≤ room (it (l.getD a.toNat [])) (takeS l a n).1 ∧ ∀ k, cnt k (takeS l a n).1 = cnt k l - if k = it (l.getD a.toNat []) ∧ k ≠ 0 then n else 0) := by
  by_cases h1 : a < 0 ∨ (l.length : Int) ≤ a ∨ l.all okR = false
  · have hp : takeS l a n = (l, (0, 0), 103) := by unfold takeS; rw [if_pos h1]
    rw [hp]
    exact ⟨h, hw, rfl, ⟨by simp, by simp⟩, fun _ => ⟨rfl, rfl⟩, fun h0 => by simp at h0⟩
  by_cases h2 : n < 1
  · have hp : takeS l a n = (l, (0, 0), 111) := by unfold takeS; rw [if_neg h1, if_pos h2]
    rw [hp]
    exact ⟨h, hw, rfl, ⟨by simp, by simp⟩, fun _ => ⟨rfl, rfl⟩, fun h0 => by simp at h0⟩
  by_cases h3 : nn (l.getD a.toNat []) < n
  · have hp : takeS l a n = (l, (0, 0), 105) := by unfold takeS; rw [if_neg h1, if_neg h2, if_pos h3]
    rw [hp]
    exact ⟨h, hw, rfl, ⟨by simp, by simp⟩, fun _ => ⟨rfl, rfl⟩, fun h0 => by simp at h0⟩
  · have hp : takeS l a n = (l.set a.toNat (lessR (l.getD a.toNat []) n), (it (l.getD a.toNat []), n), 0) := by unfold takeS; rw [if_neg h1, if_neg h2, if_neg h3]
    have hj : a.toNat < l.length := by omega
    have hm := row_mem hj
    have hrow := all_row h hm
    have hwr := hw.1 _ hm
    have hbd := okR_bd hrow
    have hl := lessR_ok hrow hwr.1 (show 0 ≤ n by omega) (by omega)
    have hne : it (l.getD a.toNat []) ≠ 0 ∧ stackT (it (l.getD a.toNat [])) ≠ 0 := by
      rcases ok_ne hrow with ⟨h5, _⟩ | ⟨h5, h6, h7⟩
      · omega
      · exact ⟨h7, by omega⟩
    have hok := all_set (j := a.toNat) h hl.1
    rw [hp]
    refine ⟨hok, ⟨fun r hr => ?_, by simp [hw.2]⟩, by simp, ⟨hwr.2.1.1, hwr.2.1.2⟩, fun h0 => absurd rfl h0, fun _ => ⟨by omega, by omega, by omega, by omega, rfl, hne.1, hne.2, ?_, fun k => ?_⟩⟩
    · rcases List.mem_or_eq_of_mem_set hr with h5 | h5
      · exact hw.1 r h5
      · subst h5
        generalize l.getD a.toNat [] = R at *
        match R, hwr.1 with
        | [y, z], _ =>
          rw [lessR_mk]
          simp only [nn_mk] at h3 hbd
          obtain ⟨_, k2, k3⟩ := hwr
          split
          · exact ⟨rfl, by decide, by decide⟩
          · exact ⟨rfl, k2, by show _ ≤ z - n; omega, by show z - n ≤ _; omega⟩
    · have hmem : lessR (l.getD a.toNat []) n ∈ l.set a.toNat (lessR (l.getD a.toNat []) n) := by
        have := row_mem (l := l.set a.toNat (lessR (l.getD a.toNat []) n)) (i := a.toNat) (by simpa using hj)
        have e : (l.set a.toNat (lessR (l.getD a.toNat []) n)).getD a.toNat [] = lessR (l.getD a.toNat []) n := by simp [List.getD, hj]
        rwa [e] at this
      refine Int.le_trans ?_ (room_ge hne.1 hok _ hmem)
      generalize l.getD a.toNat [] = R at *
      match R, hwr.1 with
      | [y, z], _ =>
        simp only [nn_mk, it_mk] at *
        rw [lessR_mk]
        split
        · rw [roomR_mk, if_pos rfl]; omega
        · rename_i hz
          rw [roomR_mk, if_neg hz, if_pos rfl]; omega
    · rw [cnt_set k _ hj, lessR_cnt k hwr.1 (by omega) (by omega)]; omega
/-! ### all of another bag -/
theorem putAll_spec : ∀ {more l m : Rows2}, l.all okR = true → wfL l → more.all okR = true → (∀ r ∈ more, wfR r) → putAll l more = some m → m.all okR = true ∧ wfL m ∧ m.length = l.length ∧ ∀ k, k ≠ 0 → cnt k m = cnt k l + cnt k more
  | [], l, m, h, hw, _, _, hp => by
    simp only [putAll, Option.some.injEq] at hp
    subst hp
    exact ⟨h, hw, rfl, fun k _ => by have e : cnt k [] = 0 := rfl; omega⟩
  | r :: t, l, m, h, hw, hm, hwm, hp => by
    rw [List.all_cons, Bool.and_eq_true] at hm
    have hwr := hwm r (by simp)
    simp only [putAll] at hp
    split at hp
    · cases hp
    · rename_i hl
      have ok1 := putS_ok (x := it r) (n := nn r) h
      have wf1 := putS_wf (n := nn r) hw hwr.2.1
      obtain ⟨i1, i2, i3, i4⟩ := putAll_spec ok1 wf1 hm.2 (fun s hs => hwm s (by simp [hs])) hp
      refine ⟨i1, i2, by rw [i3, putS_len], fun k hk => ?_⟩
      rw [i4 k hk, cnt1]
      rcases ok_ne hm.1 with ⟨h1, h2⟩ | ⟨h1, h2, h3⟩
      · have e : putS l (it r) (nn r) = (l, 0) := by unfold putS; rw [if_pos (by omega)]
        rw [e, cntR_other (by rw [h2]; exact Ne.symm hk)]
        simp only; omega
      · obtain ⟨_, p2, _, p4⟩ := putS_spec (x := it r) (n := nn r) h h1 (by omega)
        have hrn := room_nn h3 h
        have h0 : (putS l (it r) (nn r)).2 = 0 := by split at p2 <;> omega
        rw [p4 k, h0]
        by_cases hk2 : k = it r
        · rw [if_pos hk2, hk2, cntR_own h3 rfl (by omega)]; omega
        · rw [if_neg hk2, cntR_other (Ne.symm hk2)]; omega
theorem allS_spec {l more : Rows2} (h : l.all okR = true) (hw : wfL l) (hm : more.all okR = true) (hwm : wfL more) : (allS l more).1.all okR = true ∧ wfL (allS l more).1 ∧ (allS l more).1.length = l.length ∧ ((allS l more).2 ≠ 0 → (allS l more).2 = 104 ∧ (allS l more).1 = l) ∧
    ((allS l more).2 = 0 → ∀ k, k ≠ 0 → cnt k (allS l more).1 = cnt k l + cnt k more) := by
  unfold allS
  rw [if_neg (by rw [h, hm]; simp)]
  cases hp : putAll l more with
  | none => exact ⟨h, hw, rfl, fun _ => ⟨rfl, rfl⟩, fun e => by simp at e⟩
  | some m =>
    obtain ⟨i1, i2, i3, i4⟩ := putAll_spec h hw hm hwm.1 hp
    exact ⟨i1, i2, i3, fun e => absurd rfl e, fun _ => i4⟩
def zeros (n : Nat) : Rows2 := List.replicate n [0, 0]
theorem zeros_ok (n : Nat) : (zeros n).all okR = true := by
  rw [List.all_eq_true]
  intro r hr
  rw [List.eq_of_mem_replicate hr]; rfl
theorem putAll_zeros (l : Rows2) : ∀ n, putAll l (zeros n) = some l
  | 0 => rfl
  | n + 1 => by
    have e : zeros (n + 1) = [0, 0] :: zeros n := rfl
    have e2 : putS l (it [0, 0]) (nn [0, 0]) = (l, 0) := rfl
    rw [e, putAll, e2]
    simp only
    rw [if_neg (by omega)]
    exact putAll_zeros l n
theorem fill_app (p : List Int → Bool) (x size : Int) (e : List Int) : ∀ (l : Rows2) (n : Int), fill p x size (l ++ [e]) n = ((fill p x size l n).1 ++ [putR p x size e (fill p x size l n).2], (fill p x size l n).2 - amt p size e (fill p x size l n).2)
  | [], n => rfl
  | r :: t, n => by
    rw [List.cons_append, fill_cons, fill_app p x size e t, fill_cons]
    rfl
/-- with one empty slot more -/
theorem putS_more {l : Rows2} {x n : Int} (h : l.all okR = true) (h0 : ¬ 0 < (putS l x n).2) : putS (l ++ [[0, 0]]) x n = ((putS l x n).1 ++ [[0, 0]], (putS l x n).2) := by
  by_cases hn : n < 1
  · have e : ∀ l : Rows2, putS l x n = (l, 0) := fun l => by unfold putS; rw [if_pos hn]
    rw [e, e]
  · by_cases hs : stackT x = 0
    · have e : putS l x n = (l, n) := by unfold putS; rw [if_neg hn, if_pos (.inl hs)]
      rw [e] at h0; exact absurd (show 0 < n by omega) h0
    · have hx : x ≠ 0 := fun e => hs (by rw [e]; rfl)
      have hok : (l ++ [[0, 0]]).all okR = true := by rw [List.all_append, h]; rfl
      rw [putS_un h (by omega) hs] at h0 ⊢
      rw [putS_un hok (by omega) hs]
      have hA := fill_left (p := pA x) (x := x) (size := stackT x) (l := l) (n := n) (by omega)
      have hB := fill_left (p := pB) (x := x) (size := stackT x) (l := (fill (pA x) x (stackT x) l n).1) hA.1
      have hz : ∀ m, amt (pA x) (stackT x) [0, 0] m = 0 := fun m => amt_no (decide_eq_false (by rw [it_mk]; exact Ne.symm hx))
      rw [fill_app, hz, putR0 (hz _), Int.sub_zero]
      simp only
      rw [fill_app]
      have hz2 : amt pB (stackT x) [0, 0] (fill pB x (stackT x) (fill (pA x) x (stackT x) l n).1 (fill (pA x) x (stackT x) l n).2).2 = 0 := by
        have e0 : (fill pB x (stackT x) (fill (pA x) x (stackT x) l n).1 (fill (pA x) x (stackT x) l n).2).2 = 0 := by omega
        rw [e0]; exact amt_zero
      rw [hz2, putR0 hz2, Int.sub_zero]
theorem putAll_more : ∀ {more l m : Rows2}, l.all okR = true → putAll l more = some m → putAll (l ++ [[0, 0]]) more = some (m ++ [[0, 0]])
  | [], l, m, _, hp => by
    simp only [putAll, Option.some.injEq] at hp ⊢
    rw [hp]
  | r :: t, l, m, h, hp => by
    simp only [putAll] at hp ⊢
    split at hp
    · cases hp
    · rename_i h0
      rw [putS_more h h0]
      simp only
      rw [if_neg h0]
      exact putAll_more (putS_ok h) hp
theorem allS_more {l more : Rows2} (h : l.all okR = true) (hm : more.all okR = true) (h0 : (allS l more).2 = 0) : (allS (l ++ [[0, 0]]) more).2 = 0 := by
  have hok : (l ++ [[0, 0]]).all okR = true := by rw [List.all_append, h]; rfl
  unfold allS at h0 ⊢
  rw [if_neg (by rw [h, hm]; simp)] at h0
  rw [if_neg (by rw [hok, hm]; simp)]
  cases hp : putAll l more with
  | none => rw [hp] at h0; simp at h0
  | some m => rw [putAll_more h hp]
theorem allS_zeros {l : Rows2} (h : l.all okR = true) (n : Nat) : (allS l (zeros n)).2 = 0 := by
  unfold allS
  rw [if_neg (by rw [h, zeros_ok]; simp), putAll_zeros]
end Go.Proofs.Ytibknlliackohaa
