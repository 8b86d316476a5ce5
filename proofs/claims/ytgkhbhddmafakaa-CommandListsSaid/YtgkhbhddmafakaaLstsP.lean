/- No list of orders' bytes are a beginning of another one's; one that is cut is none: in plain lists. -/
import Derived.Test.YtgkhbhddmafakaaCommandBackZ
namespace Go.Proofs.Ytgkhbhddmafakaa
open Go.ChangeShapes Go.WideShapes Go.ChangeAt Go.RowKit Go.Sx
theorem rowB_prefix {r s x y : List Int} (h7 : row7 r) (h7' : row7 s) (hr : rowOk r = true) (hs : rowOk s = true) (h : rowB r ++ x = rowB s ++ y) : r = s ∧ x = y := by
  obtain ⟨p, q, d, A, B, C, N, rfl⟩ := h7
  obtain ⟨p', q', d', A', B', C', N', rfl⟩ := h7'
  unfold rowOk at hr hs
  rw [Bool.and_eq_true] at hr hs
  obtain ⟨p1, p2, _, _⟩ : 0 ≤ p ∧ 0 ≤ q ∧ p ≤ 1073741824 ∧ q ≤ 1099511627776 := of_decide_eq_true hr.2
  obtain ⟨s1, s2, _, _⟩ : 0 ≤ p' ∧ 0 ≤ q' ∧ p' ≤ 1073741824 ∧ q' ≤ 1099511627776 := of_decide_eq_true hs.2
  have h : vint p ++ vint q ++ vint (((cmdB d A B C N).length : Nat) : Int) ++ cmdB d A B C N ++ x = vint p' ++ vint q' ++ vint (((cmdB d' A' B' C' N').length : Nat) : Int) ++ cmdB d' A' B' C' N' ++ y := h
  simp only [List.append_assoc] at h
  obtain ⟨e1, h1⟩ := vint_prefix p1 s1 h
  obtain ⟨e2, h2⟩ := vint_prefix p2 s2 h1
  obtain ⟨_, h3⟩ := vint_prefix (by omega) (by omega) h2
  obtain ⟨e3, e4, e5, e6, e7, h4⟩ := cmdB_prefix h3
  subst e1; subst e2; subst e3; subst e4; subst e5; subst e6; subst e7
  exact ⟨rfl, h4⟩
theorem bytesO_prefix : ∀ {a b : List (List Int)} {x y : List Int}, rows7 a → rows7 b → a.all rowOk = true → b.all rowOk = true → a.length = b.length → bytesO a ++ x = bytesO b ++ y → a = b ∧ x = y
  | [], [], x, y, _, _, _, _, _, h => ⟨rfl, h⟩
  | [], _ :: _, _, _, _, _, _, _, hl, _ => by simp at hl
  | _ :: _, [], _, _, _, _, _, _, hl, _ => by simp at hl
  | r :: a, s :: b, x, y, h7, h7', ha, hb, hl, h => by
    rw [List.all_cons, Bool.and_eq_true] at ha hb
    have h : rowB r ++ bytesO a ++ x = rowB s ++ bytesO b ++ y := h
    rw [List.append_assoc, List.append_assoc] at h
    obtain ⟨e1, h⟩ := rowB_prefix (h7 r (by simp)) (h7' s (by simp)) ha.1 hb.1 h
    obtain ⟨e2, h⟩ := bytesO_prefix (fun q hq => h7 q (by simp [hq])) (fun q hq => h7' q (by simp [hq])) ha.2 hb.2 (by simpa using hl) h
    exact ⟨by rw [e1, e2], h⟩
theorem ord_prefix {a b : List (List Int)} {x y : List Int} (h7 : rows7 a) (h7' : rows7 b) (ha : a.all rowOk = true) (hb : b.all rowOk = true) (h : vint ((a.length : Nat) : Int) ++ bytesO a ++ x = vint ((b.length : Nat) : Int) ++ bytesO b ++ y) : a = b ∧ x = y := by
  rw [List.append_assoc, List.append_assoc] at h
  obtain ⟨e1, h⟩ := vint_prefix (by omega) (by omega) h
  exact bytesO_prefix h7 h7' ha hb (by omega) h
theorem list_inv_n {l : List Int} (hw : wfB l) {n : Nat} (hn : n ≤ l.length) (h : (listS l n).2 = 0) : ∃ rows : List (List Int), (∀ r ∈ rows, row7 r) ∧ rows.all rowOk = true ∧ l = vint ((rows.length : Nat) : Int) ++ bytesO rows ++ l.drop n ∧ (vint ((rows.length : Nat) : Int)).length + (bytesO rows).length = n := by
  unfold listS finS at h
  by_cases hb : (loopS l n (numS l n 0 false 1000).1.toNat (numS l n 0 false 1000).2.1 (numS l n 0 false 1000).2.2 []).2.2 = true ∨ (loopS l n (numS l n 0 false 1000).1.toNat (numS l n 0 false 1000).2.1 (numS l n 0 false 1000).2.2 []).2.1 ≠ (n : Int)
  · rw [if_pos hb] at h; cases h
  · have hb1 : (loopS l n (numS l n 0 false 1000).1.toNat (numS l n 0 false 1000).2.1 (numS l n 0 false 1000).2.2 []).2.2 = false := by
      cases hc : (loopS l n (numS l n 0 false 1000).1.toNat (numS l n 0 false 1000).2.1 (numS l n 0 false 1000).2.2 []).2.2 with
      | false => rfl
      | true => exact absurd (.inl hc) hb
    have hb2 : (loopS l n (numS l n 0 false 1000).1.toNat (numS l n 0 false 1000).2.1 (numS l n 0 false 1000).2.2 []).2.1 = (n : Int) := Classical.byContradiction fun hc => hb (.inr hc)
    have h0 : (numS l n ((0 : Nat) : Int) false 1000).2.2 = false := by
      cases hc : (numS l n ((0 : Nat) : Int) false 1000).2.2 with
      | false => rfl
      | true =>
        have hc' : (numS l n 0 false 1000).2.2 = true := hc
        rw [hc', loopS_bad] at hb1; cases hb1
    obtain ⟨m, m1, m2, m3, m4, m5⟩ := numS_inv hw hn h0
    have m3' : numS l n 0 false 1000 = (m, ((0 + (vint m).length : Nat) : Int), false) := m3
    rw [m3'] at hb1 hb2
    simp only [Nat.zero_add] at hb1 hb2 m4 m5
    unfold u64 at m1
    obtain ⟨rows, q1, q2, q3, q4, q5, q6⟩ := loopS_inv hw hn m5 hb1
    have hp := loopS_put (n := n) (out := []) q2 q3 q5 q6
    rw [← q1, hp] at hb2
    have hend : (vint m).length + (bytesO rows).length = n := by
      have : (((vint m).length + (bytesO rows).length : Nat) : Int) = (n : Int) := hb2
      omega
    have e : ((rows.length : Nat) : Int) = m := by omega
    refine ⟨rows, q2, q3, ?_, by rw [e]; exact hend⟩
    rw [e, List.append_assoc]
    rw [List.drop_zero] at m4
    rw [hend] at q5
    rw [q5] at m4
    exact m4
theorem listS_err (l : List Int) (n : Nat) : (listS l n).2 = 0 ∨ (listS l n).2 = 109 := by
  unfold listS finS
  split
  · exact .inr rfl
  · exact .inl rfl
/-- orders' bytes that are cut are none -/
theorem list_cut {l : List (List Int)} (h7 : rows7 l) (hw : wfO l) (ha : l.all rowOk = true) {n : Nat} (hn : n < (vint ((l.length : Nat) : Int) ++ bytesO l).length) : (listS (vint ((l.length : Nat) : Int) ++ bytesO l) n).2 = 109 := by
  rcases listS_err (vint ((l.length : Nat) : Int) ++ bytesO l) n with h | h
  · obtain ⟨rows, r1, r2, r3, r4⟩ := list_inv_n (isB_app (isB_vint _) (wfB_bytesO hw)) (Nat.le_of_lt hn) h
    have hx : vint ((l.length : Nat) : Int) ++ bytesO l ++ [] = vint ((rows.length : Nat) : Int) ++ bytesO rows ++ (vint ((l.length : Nat) : Int) ++ bytesO l).drop n := by
      rw [List.append_nil]; exact r3
    obtain ⟨e, hd⟩ := ord_prefix h7 r1 ha r2 hx
    have := congrArg List.length hd
    rw [List.length_drop] at this
    simp only [List.length_nil] at this
    omega
  · exact h
theorem ord_all {l : List (List Int)} (h : (ordS l).2 = 0) : l.all rowOk = true ∧ l.length ≤ 1000 ∧ ordS l = (vint ((l.length : Nat) : Int) ++ bytesO l, 0) := by
  unfold ordS at h ⊢
  by_cases hc : 1000 < l.length ∨ l.all rowOk = false
  · rw [if_pos hc] at h; cases h
  · rw [if_neg hc]
    refine ⟨?_, Nat.le_of_not_lt fun h => hc (.inl h), rfl⟩
    cases hq : l.all rowOk with
    | true => rfl
    | false => exact absurd (.inr hq) hc
theorem ord_is {l : List (List Int)} (ha : l.all rowOk = true) (hl : l.length ≤ 1000) : (ordS l).2 = 0 := by
  unfold ordS
  rw [if_neg (fun hc => by
    rcases hc with hc | hc
    · omega
    · rw [ha] at hc; cases hc)]
/-- begins with, just if the same -/
theorem begins_iff {a b : List (List Int)} (h7 : rows7 a) (h7' : rows7 b) (ha : a.all rowOk = true) (hb : b.all rowOk = true) {A B : List Int} (hA : A = vint ((a.length : Nat) : Int) ++ bytesO a) (hB : B = vint ((b.length : Nat) : Int) ++ bytesO b) : A = B.take A.length ↔ a = b := by
  constructor
  · intro h
    have e := List.take_append_drop A.length B
    rw [← h] at e
    have e' : A ++ B.drop A.length = B ++ [] := by rw [List.append_nil]; exact e
    rw [hA, hB] at e'
    exact (ord_prefix h7 h7' ha hb e').1
  · intro h
    have : A = B := by rw [hA, hB, h]
    rw [← this, List.take_length]
end Go.Proofs.Ytgkhbhddmafakaa
