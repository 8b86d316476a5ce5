/- A net's contracts: its methods. -/
import Derived.Test.YtjnnfehepbicfaaNtE
namespace Go.Proofs.Ytjnnfehepbicfaa
open Go.ChangeShapes Go.WideShapes Go.ChangeAt Go.RowKit Go.Sx
/-- a contract that takes a hint -/
def locH (sh : List V → List Want) (g : Bool → Sx.Loc) : List V → List SB → List Bool → Option CallR := fun args m h => match h with
  | b :: h' => loc sh (g b) args m h'
  | [] => none
theorem locH_ok {f : FuncId} {sh : List V → List Want} {g : Bool → Sx.Loc} (h1 : TabOk Try.prog f (loc sh (g true))) (h0 : TabOk Try.prog f (loc sh (g false))) : TabOk Try.prog f (locH sh g) := fun args m h v m' h' ob hg hob ρ B W w us hm hu => by
  unfold locH at hg
  split at hg
  · rename_i b r
    cases b with
    | true => exact h1 args m r v m' h' ob hg hob ρ B W w us hm hu
    | false => exact h0 args m r v m' h' ob hg hob ρ B W w us hm hu
  · cases hg
theorem tabM_ok : ∀ f g, tabM f = some g → TabOk Try.prog f g := tabs_ok fun x hx => by
  simp only [List.mem_cons, List.not_mem_nil, or_false] at hx
  rcases hx with rfl | rfl
  · exact clone_tab
  · exact leave_tab
theorem nd2 : (List.range 2 ++ ([] : List Nat)).Nodup := by decide
theorem nd2' (k : Nat) (h : 1 < k) : (List.range 2 ++ [k]).Nodup := by simp [List.range, List.range.loop]; omega
theorem nd3z : (List.range 3 ++ ([] : List Nat)).Nodup := by decide
theorem nd3' (k : Nat) (h : 2 < k) : (List.range 3 ++ [k]).Nodup := by simp [List.range, List.range.loop]; omega
def dead : SB := ⟨true, .dead⟩
def row (l : Rws) (i : Int) : Rw := l.getD i.toNat ([], [])
/-! ### the laws of what leaves -/
theorem leaveD_none {q : Int} : ∀ (i : Nat) (l : Rws), q < i ∨ (i : Int) + l.length ≤ q → leaveS (hasD q) i l = l
  | i, [], _ => rfl
  | i, r :: t, h => by
    have h1 : hasD q i r = false := by
      unfold hasD; simp only [List.length_cons] at h; exact decide_eq_false (by omega)
    simp only [leaveS, h1]
    rw [leaveD_none (i + 1) t (by simp only [List.length_cons] at h; omega)]
theorem leaveD_at {q : Int} : ∀ (i : Nat) (l : Rws), (i : Int) ≤ q → q < i + l.length → leaveS (hasD q) i l = l.eraseIdx (q.toNat - i)
  | i, [], h1, h2 => by simp at h2; omega
  | i, r :: t, h1, h2 => by
    simp only [leaveS]
    by_cases h : (i : Int) = q
    · have h3 : hasD q i r = true := decide_eq_true h
      rw [h3]
      simp only
      rw [leaveD_none (i + 1) t (by omega), show q.toNat - i = 0 by omega]
      rfl
    · have h3 : hasD q i r = false := decide_eq_false h
      rw [h3]
      simp only [List.length_cons] at h2
      simp only
      rw [leaveD_at (i + 1) t (by omega) (by omega), show q.toNat - i = (q.toNat - (i + 1)) + 1 by omega]
      rfl
def dropS (l : Rws) (q : Int) : Rws := if 0 ≤ q ∧ q < l.length then l.eraseIdx q.toNat else l
theorem leave_drop (l : Rws) (q : Int) : leaveS (hasD q) 0 l = dropS l q := by
  unfold dropS
  split
  · rename_i h
    rw [leaveD_at 0 l (by simpa using h.1) (by simpa using h.2)]; rfl
  · rename_i h
    exact leaveD_none 0 l (by simp; omega)
theorem dropS_len (l : Rws) (q : Int) : decide ((l.length : Int) - (dropS l q).length = 1) = decide (0 ≤ q ∧ q < l.length) := by
  unfold dropS
  split
  · rename_i h
    rw [List.length_eraseIdx, if_pos (by omega), decide_eq_true h]
    exact decide_eq_true (by omega)
  · rename_i h
    rw [decide_eq_false h]
    exact decide_eq_false (by omega)
def forgetS (l : Rws) (q : Int) : Rws := l.filter fun r => !decide (r.1.getD 1 0 = q)
theorem leave_forget (q : Int) : ∀ (i : Nat) (l : Rws), leaveS (hasF q) i l = forgetS l q
  | i, [] => rfl
  | i, r :: t => by
    have ih := leave_forget q (i + 1) t
    have e : hasF q i r = decide (r.1.getD 1 0 = q) := rfl
    rw [leaveS, e, ih]
    unfold forgetS
    rw [List.filter_cons]
    cases decide (r.1.getD 1 0 = q) <;> rfl
/-! ### the methods -/
/-- a net that is one -/
def okN (z : Int) (l : Rws) : Prop := 0 < z ∧ wfL l
def row3 (l : Rws) (i : Int) (b : Nat) : V := .tup [.agg [.sint .i64 ((row l i).1.getD 0 0), .sint .i64 ((row l i).1.getD 1 0), .slice b (.c 0) 1 (.s (row l i).2.length) (.s (row l i).2.length)], .one (.bool true)]
def none3 : V := .tup [.agg [.int .i64 0, .int .i64 0, .nils], .one (.bool false)]
theorem look_works (z i : Int) (l : Rws) (c : Nat) (hw : okN z l) (hc : l.length ≤ c) (h0 : 0 ≤ i) (h1 : i < l.length) :
    Works Try.prog 25 [np 0, si .i64 i] [nb false z 1 l.length c, rr l] (row3 l i 2) [nb false z 1 l.length c, rr l, oi (row l i).2] := by
  obtain ⟨hz, hw1, hw2⟩ := hw
  have hlt : i.toNat < l.length := by omega
  have hd := (hw1 _ (row_at hlt ▸ List.getElem_mem hlt)).2
  have q := congrFun (congrFun (congrFun (congrFun (congrFun lkC z) i) l) l.length) c
  change _ = some (V.tup [V1.agg [C.sint _ ((row l i).1.getD 0 0), C.sint _ ((row l i).1.getD 1 0), C.slice 6 (.c 0) 1 (.s (row l i).2.length) (.s (row l i).2.length)], _], [_, _, SB.mk true (.ints .u8 (row l i).2)], [_, (row l i).2.length ≤ 1000000000, _, _, _, _, _, _]) at q
  change (row l i).2.length ≤ 1048576 at hd
  unfold row3
  generalize row l i = R at *
  refine works_of (r := [6]) tabM_ok q ?_ (nd2' 6 (by omega)) ?_ ?_
  · simp only [allP]; simp [h0, h1, hz]; omega
  · simp [leV, leL1, leV1, leL, leC, N.v, List.range, List.range.loop, h1]
  · simp [leBs, leB, leCells, leL, leC, nb, rr, oi, N.v, List.range, List.range.loop, hc]
theorem look_none (z i : Int) (l : Rws) (c : Nat) (hw : okN z l) (hc : l.length ≤ c) (h0 : ¬ (0 ≤ i ∧ i < l.length)) :
    Works Try.prog 25 [np 0, si .i64 i] [nb false z 1 l.length c, rr l] none3 [nb false z 1 l.length c, rr l] := by
  obtain ⟨hz, hw1, hw2⟩ := hw
  by_cases h : 0 ≤ i
  · have h1 : ¬ i < l.length := fun h1 => h0 ⟨h, h1⟩
    refine works_of (r := []) tabM_ok (congrFun (congrFun (congrFun (congrFun (congrFun lkB z) i) l) l.length) c) ?_ nd2 ?_ ?_
    · simp only [allP]; simp [h, hz]; omega
    · simp [none3, leV, leL1, leV1, leL, leC, h1]
    · simp [leBs, leB, leCells, leL, leC, nb, rr, N.v, List.range, List.range.loop, hc]
  · refine works_of (r := []) tabM_ok (congrFun (congrFun (congrFun (congrFun (congrFun lkA z) i) l) l.length) c) ?_ nd2 ?_ ?_
    · simp only [allP]; simp [hz]; omega
    · simp [none3, leV, leL1, leV1, leL, leC]
    · simp [leBs, leB, leCells, leL, leC, nb, rr, N.v, List.range, List.range.loop, hc]
theorem m0 {α : Type} {a : α} {l : List α} : a ∈ a :: l := List.Mem.head _
theorem m1 {α : Type} {a b : α} {l : List α} : a ∈ b :: a :: l := List.Mem.tail _ (List.Mem.head _)
theorem m2 {α : Type} {a b c : α} {l : List α} : a ∈ b :: c :: a :: l := List.Mem.tail _ m1
theorem m3 {α : Type} {a b c d : α} {l : List α} : a ∈ b :: c :: d :: a :: l := List.Mem.tail _ m2
theorem m4 {α : Type} {a b c d e : α} {l : List α} : a ∈ b :: c :: d :: e :: a :: l := List.Mem.tail _ m3
/-- hint: is there one? -/
def gLook : Bool → Sx.Loc := fun b args bs => match args, bs with
  | [.v (.one (.ptr 0 (.c 0) 1 0)), .v (.one (.sint .i64 i))], [⟨false, .exp [.sint .i64 z, .slice 1 (.c 0) 3 (.s n) (.s c)]⟩, ⟨false, .recB ks l⟩] => match decide (ks = k2), b with
    | true, true => some (row3 l i 2, [nb false z 1 n c, rr l, oi (row l i).2], [n = l.length, l.length ≤ c, okN z l, 0 ≤ i ∧ i < l.length])
    | true, false => some (none3, [nb false z 1 n c, rr l], [n = l.length, l.length ≤ c, okN z l, ¬ (0 ≤ i ∧ i < l.length)])
    | _, _ => none
  | _, _ => none
def wantN : List V → List Want := fun _ => [(false, .can), (false, .recB k2)]
theorem look_tab : TabOk Try.prog 25 (locH wantN gLook) := by
  have key : ∀ b, TabOk Try.prog 25 (loc wantN (gLook b)) := fun b => loc_ok fun xs bs v bs' ob hg hob hokb => by
    unfold gLook at hg
    split at hg
    · split at hg
      · rename_i hk
        injection hg with hg; injection hg with e1 e2; injection e2 with e2 e3
        subst e1; subst e2; subst e3
        have hk := of_decide_eq_true hk; subst hk
        have hn := hob _ (List.Mem.head _); subst hn
        have h4 := hob _ m3
        exact look_works _ _ _ _ (hob _ m2) (hob _ m1) h4.1 h4.2
      · rename_i hk
        injection hg with hg; injection hg with e1 e2; injection e2 with e2 e3
        subst e1; subst e2; subst e3
        have hk := of_decide_eq_true hk; subst hk
        have hn := hob _ (List.Mem.head _); subst hn
        exact look_none _ _ _ _ (hob _ m2) (hob _ m1) (hob _ m3)
      · cases hg
    · cases hg
  exact locH_ok (key true) (key false)
/-! ### Send -/
def sendE (z f t : Int) (k n : Nat) : Int := if min f t < 0 ∨ z ≤ max f t then 2 else if 1048576 < k then 3 else if 4096 ≤ n then 5 else 0
theorem minI (f t : Int) : (if t < f then t else f) = min f t := by split <;> omega
theorem maxI (f t : Int) : (if f < t then t else f) = max f t := by split <;> omega
theorem send_no (z f t : Int) (d : List Int) (l : Rws) (c k : Nat) (hw : okN z l) (hc : l.length ≤ c) (h : sendE z f t d.length l.length ≠ 0) :
    Works Try.prog 12 [np 0, si .i64 f, si .i64 t, bsl 1 d.length k] [nb true z 2 l.length c, ri d, orr l] (si .i64 (sendE z f t d.length l.length)) [nb true z 2 l.length c, ri d, orr l] := by
  obtain ⟨hz, hw1, hw2⟩ := hw
  have fin : leBs (List.range 3 ++ []) [SB.mk true (.exp [.sint .i64 z, .slice 2 (.c 0) 3 (.s l.length) (.s c)]), SB.mk false (.ints .u8 d), SB.mk true (.recB k2 l)] [nb true z 2 l.length c, ri d, orr l] := by
    simp [leBs, leB, leCells, leL, leC, nb, ri, orr, N.v, List.range, List.range.loop, hc]
  unfold sendE at *
  by_cases h1 : min f t < 0
  · rw [if_pos (.inl h1)]
    refine works_of (r := []) tabM_ok (congrFun (congrFun (congrFun (congrFun (congrFun (congrFun (congrFun (congrFun sdA z) f) t) d) l) l.length) c) k) ?_ nd3z ?_ fin
    · simp only [allP, minI]; simp [hz]; omega
    · simp [leV, leV1, leC, si]
  · by_cases h2 : z ≤ max f t
    · rw [if_pos (.inr h2)]
      refine works_of (r := []) tabM_ok (congrFun (congrFun (congrFun (congrFun (congrFun (congrFun (congrFun (congrFun sdB z) f) t) d) l) l.length) c) k) ?_ nd3z ?_ fin
      · simp only [allP, minI, maxI]; simp [hz]; omega
      · simp [leV, leV1, leC, si]
    · rw [if_neg (by omega)] at *
      by_cases h3 : 1048576 < d.length
      · rw [if_pos h3]
        refine works_of (r := []) tabM_ok (congrFun (congrFun (congrFun (congrFun (congrFun (congrFun (congrFun (congrFun sdC z) f) t) d) l) l.length) c) k) ?_ nd3z ?_ fin
        · simp only [allP, minI, maxI]; simp [hz]; omega
        · simp [leV, leV1, leC, si]
      · rw [if_neg h3] at *
        by_cases h4 : 4096 ≤ l.length
        · rw [if_pos h4]
          refine works_of (r := []) tabM_ok (congrFun (congrFun (congrFun (congrFun (congrFun (congrFun (congrFun (congrFun sdD z) f) t) d) l) l.length) c) k) ?_ nd3z ?_ fin
          · simp only [allP, minI, maxI]; simp [hz]; omega
          · simp [leV, leV1, leC, si]
        · rw [if_neg h4] at h; exact absurd rfl h
theorem sendE0 {z f t : Int} {k n : Nat} (h : sendE z f t k n = 0) : ¬ min f t < 0 ∧ ¬ z ≤ max f t ∧ k ≤ 1048576 ∧ n < 4096 := by
  unfold sendE at h
  split at h
  · cases h
  · split at h
    · cases h
    · split at h
      · cases h
      · omega
theorem send_yes (z f t : Int) (d : List Int) (l : Rws) (c k : Nat) (hw : okN z l) (h : sendE z f t d.length l.length = 0) :
    Works Try.prog 12 [np 0, si .i64 f, si .i64 t, bsl 1 d.length k] [nb true z 2 l.length c, ri d, orr l] (si .i64 0) [nb true z 3 (l.length + 1) (l.length + 1), ri d, dead, orr (l ++ [([f, t], d)])] := by
  obtain ⟨hz, hw1, hw2⟩ := hw
  obtain ⟨h1, h2, h3, h4⟩ := sendE0 h
  refine works_of (r := [6]) tabM_ok (congrFun (congrFun (congrFun (congrFun (congrFun (congrFun (congrFun (congrFun sdE z) f) t) d) l) l.length) c) k) ?_ (nd3' 6 (by omega)) ?_ ?_
  · simp only [allP, minI, maxI]; simp [hz]; omega
  · simp [leV, leV1, leC, si]
  · simp [leBs, leB, leCells, leL, leC, nb, ri, orr, dead, N.v, List.range, List.range.loop]
theorem send0_no (z f t : Int) (l : Rws) (c : Nat) (hw : okN z l) (hc : l.length ≤ c) (h : sendE z f t 0 l.length ≠ 0) :
    Works Try.prog 12 [np 0, si .i64 f, si .i64 t, nl] [nb true z 1 l.length c, orr l] (si .i64 (sendE z f t 0 l.length)) [nb true z 1 l.length c, orr l] := by
  obtain ⟨hz, hw1, hw2⟩ := hw
  have fin : leBs (List.range 2 ++ []) [SB.mk true (.exp [.sint .i64 z, .slice 1 (.c 0) 3 (.s l.length) (.s c)]), SB.mk true (.recB k2 l)] [nb true z 1 l.length c, orr l] := by
    simp [leBs, leB, leCells, leL, leC, nb, orr, N.v, List.range, List.range.loop, hc]
  unfold sendE at *
  by_cases h1 : min f t < 0
  · rw [if_pos (.inl h1)]
    refine works_of (r := []) tabM_ok (congrFun (congrFun (congrFun (congrFun (congrFun (congrFun snA z) f) t) l) l.length) c) ?_ nd2 ?_ fin
    · simp only [allP, minI]; simp [hz]; omega
    · simp [leV, leV1, leC, si]
  · by_cases h2 : z ≤ max f t
    · rw [if_pos (.inr h2)]
      refine works_of (r := []) tabM_ok (congrFun (congrFun (congrFun (congrFun (congrFun (congrFun snB z) f) t) l) l.length) c) ?_ nd2 ?_ fin
      · simp only [allP, minI, maxI]; simp [hz]; omega
      · simp [leV, leV1, leC, si]
    · rw [if_neg (by omega)] at *
      rw [if_neg (by omega)] at *
      by_cases h4 : 4096 ≤ l.length
      · rw [if_pos h4]
        refine works_of (r := []) tabM_ok (congrFun (congrFun (congrFun (congrFun (congrFun (congrFun snD z) f) t) l) l.length) c) ?_ nd2 ?_ fin
        · simp only [allP, minI, maxI]; simp [hz]; omega
        · simp [leV, leV1, leC, si]
      · rw [if_neg h4] at h; exact absurd rfl h
theorem send0_yes (z f t : Int) (l : Rws) (c : Nat) (hw : okN z l) (h : sendE z f t 0 l.length = 0) :
    Works Try.prog 12 [np 0, si .i64 f, si .i64 t, nl] [nb true z 1 l.length c, orr l] (si .i64 0) [nb true z 2 (l.length + 1) (l.length + 1), dead, orr (l ++ [([f, t], [])])] := by
  obtain ⟨hz, hw1, hw2⟩ := hw
  obtain ⟨h1, h2, h3, h4⟩ := sendE0 h
  refine works_of (r := [4]) tabM_ok (congrFun (congrFun (congrFun (congrFun (congrFun (congrFun snE z) f) t) l) l.length) c) ?_ (nd2' 4 (by omega)) ?_ ?_
  · simp only [allP, minI, maxI]; simp [hz]; omega
  · simp [leV, leV1, leC, si]
  · simp [leBs, leB, leCells, leL, leC, nb, orr, dead, N.v, List.range, List.range.loop]
/-- hint: is it sent? -/
def gSend : Bool → Sx.Loc := fun b args bs => match args, bs with
  | [.v (.one (.ptr 0 (.c 0) 1 0)), .v (.one (.sint .i64 f)), .v (.one (.sint .i64 t)), .v (.one (.slice 1 (.c 0) 1 (.s k) (.s k')))], [⟨true, .exp [.sint .i64 z, .slice 2 (.c 0) 3 (.s n) (.s c)]⟩, ⟨false, .ints ik d⟩, ⟨true, .recB ks l⟩] => match decide (ks = k2), decide (ik = .u8), b with
    | true, true, true => some (si .i64 0, [nb true z 3 (n + 1) (n + 1), ri d, dead, orr (l ++ [([f, t], d)])], [n = l.length, l.length ≤ c, k = d.length, okN z l, sendE z f t d.length l.length = 0])
    | true, true, false => some (si .i64 (sendE z f t d.length l.length), [nb true z 2 n c, ri d, orr l], [n = l.length, l.length ≤ c, k = d.length, okN z l, sendE z f t d.length l.length ≠ 0])
    | _, _, _ => none
  | [.v (.one (.ptr 0 (.c 0) 1 0)), .v (.one (.sint .i64 f)), .v (.one (.sint .i64 t)), .v (.one .nils)], [⟨true, .exp [.sint .i64 z, .slice 1 (.c 0) 3 (.s n) (.s c)]⟩, ⟨true, .recB ks l⟩] => match decide (ks = k2), b with
    | true, true => some (si .i64 0, [nb true z 2 (n + 1) (n + 1), dead, orr (l ++ [([f, t], [])])], [n = l.length, l.length ≤ c, okN z l, sendE z f t 0 l.length = 0])
    | true, false => some (si .i64 (sendE z f t 0 l.length), [nb true z 1 n c, orr l], [n = l.length, l.length ≤ c, okN z l, sendE z f t 0 l.length ≠ 0])
    | _, _ => none
  | _, _ => none
def wantS : List V → List Want := fun xs => match xs with
  | [_, _, _, .v (.one .nils)] => [(true, .can), (true, .recB k2)]
  | _ => [(true, .can), (false, .ints .u8), (true, .recB k2)]
theorem send_tab : TabOk Try.prog 12 (locH wantS gSend) := by
  have key : ∀ b, TabOk Try.prog 12 (loc wantS (gSend b)) := fun b => loc_ok fun xs bs v bs' ob hg hob hokb => by
    unfold gSend at hg
    split at hg
    · split at hg
      · rename_i hk hi
        injection hg with hg; injection hg with e1 e2; injection e2 with e2 e3
        subst e1; subst e2; subst e3
        have hk := of_decide_eq_true hk; subst hk
        have hi := of_decide_eq_true hi; subst hi
        have hn := hob _ m0; subst hn
        have hn := hob _ m2; subst hn
        exact send_yes _ _ _ _ _ _ _ (hob _ m3) (hob _ m4)
      · rename_i hk hi
        injection hg with hg; injection hg with e1 e2; injection e2 with e2 e3
        subst e1; subst e2; subst e3
        have hk := of_decide_eq_true hk; subst hk
        have hi := of_decide_eq_true hi; subst hi
        have hn := hob _ m0; subst hn
        have hn := hob _ m2; subst hn
        exact send_no _ _ _ _ _ _ _ (hob _ m3) (hob _ m1) (hob _ m4)
      · cases hg
    · split at hg
      · rename_i hk
        injection hg with hg; injection hg with e1 e2; injection e2 with e2 e3
        subst e1; subst e2; subst e3
        have hk := of_decide_eq_true hk; subst hk
        have hn := hob _ m0; subst hn
        exact send0_yes _ _ _ _ _ (hob _ m2) (hob _ m3)
      · rename_i hk
        injection hg with hg; injection hg with e1 e2; injection e2 with e2 e3
        subst e1; subst e2; subst e3
        have hk := of_decide_eq_true hk; subst hk
        have hn := hob _ m0; subst hn
        exact send0_no _ _ _ _ _ (hob _ m2) (hob _ m1) (hob _ m3)
      · cases hg
    · cases hg
  exact locH_ok (key true) (key false)
/-! ### Copy -/
def copyE (l : Rws) (i : Int) : Int := if ¬ (0 ≤ i ∧ i < l.length) then 2 else if 4096 ≤ l.length then 5 else 0
theorem copy_no (z i : Int) (l : Rws) (c : Nat) (hw : okN z l) (hc : l.length ≤ c) (h : copyE l i ≠ 0) :
    Works Try.prog 15 [np 0, si .i64 i] [nb true z 1 l.length c, orr l] (si .i64 (copyE l i)) [nb true z 1 l.length c, orr l] := by
  obtain ⟨hz, hw1, hw2⟩ := hw
  have fin : leBs (List.range 2 ++ []) [SB.mk true (.exp [.sint .i64 z, .slice 1 (.c 0) 3 (.s l.length) (.s c)]), SB.mk true (.recB k2 l)] [nb true z 1 l.length c, orr l] := by
    simp [leBs, leB, leCells, leL, leC, nb, orr, N.v, List.range, List.range.loop, hc]
  unfold copyE at *
  by_cases h0 : 0 ≤ i
  · by_cases h1 : i < l.length
    · rw [if_neg (by omega)] at *
      by_cases h4 : 4096 ≤ l.length
      · rw [if_pos h4]
        refine works_of (r := []) tabM_ok (congrFun (congrFun (congrFun (congrFun (congrFun cpD z) i) l) l.length) c) ?_ nd2 ?_ fin
        · simp only [allP]; simp [hz]; omega
        · simp [leV, leV1, leC, si]
      · rw [if_neg h4] at h; exact absurd rfl h
    · rw [if_pos (by omega)]
      refine works_of (r := []) tabM_ok (congrFun (congrFun (congrFun (congrFun (congrFun cpB z) i) l) l.length) c) ?_ nd2 ?_ fin
      · simp only [allP]; simp [hz]; omega
      · simp [leV, leV1, leC, si]
  · rw [if_pos (by omega)]
    refine works_of (r := []) tabM_ok (congrFun (congrFun (congrFun (congrFun (congrFun cpA z) i) l) l.length) c) ?_ nd2 ?_ fin
    · simp only [allP]; simp [hz]; omega
    · simp [leV, leV1, leC, si]
theorem copyE0 {l : Rws} {i : Int} (h : copyE l i = 0) : 0 ≤ i ∧ i < l.length ∧ l.length < 4096 := by
  unfold copyE at h
  split at h
  · cases h
  · split at h
    · cases h
    · omega
theorem copy_yes (z i : Int) (l : Rws) (c : Nat) (hw : okN z l) (h : copyE l i = 0) :
    Works Try.prog 15 [np 0, si .i64 i] [nb true z 1 l.length c, orr l] (si .i64 0) [nb true z 2 (l.length + 1) (l.length + 1), dead, orr (l ++ [row l i])] := by
  obtain ⟨hz, hw1, hw2⟩ := hw
  obtain ⟨h0, h1, h4⟩ := copyE0 h
  have hlt : i.toNat < l.length := by omega
  obtain ⟨hr, hd⟩ := hw1 _ (row_at hlt ▸ List.getElem_mem hlt)
  have e := row2 hr
  refine works_of (r := [8]) tabM_ok (congrFun (congrFun (congrFun (congrFun (congrFun cpE z) i) l) l.length) c) ?_ (nd2' 8 (by omega)) ?_ ?_
  · simp only [allP]
    generalize l.getD i.toNat ([], []) = R at *
    simp [hz]; omega
  · simp [leV, leV1, leC, si]
  · change leBs _ [_, _, SB.mk true (.recB k2 (l ++ [([(l.getD i.toNat ([], [])).1.getD 0 0, (l.getD i.toNat ([], [])).1.getD 1 0], (l.getD i.toNat ([], [])).2)]))] _
    rw [e]
    simp [leBs, leB, leCells, leL, leC, nb, orr, dead, row, N.v, List.range, List.range.loop]
def gCopy : Bool → Sx.Loc := fun b args bs => match args, bs with
  | [.v (.one (.ptr 0 (.c 0) 1 0)), .v (.one (.sint .i64 i))], [⟨true, .exp [.sint .i64 z, .slice 1 (.c 0) 3 (.s n) (.s c)]⟩, ⟨true, .recB ks l⟩] => match decide (ks = k2), b with
    | true, true => some (si .i64 0, [nb true z 2 (n + 1) (n + 1), dead, orr (l ++ [row l i])], [n = l.length, l.length ≤ c, okN z l, copyE l i = 0])
    | true, false => some (si .i64 (copyE l i), [nb true z 1 n c, orr l], [n = l.length, l.length ≤ c, okN z l, copyE l i ≠ 0])
    | _, _ => none
  | _, _ => none
def wantC : List V → List Want := fun _ => [(true, .can), (true, .recB k2)]
theorem copy_tab : TabOk Try.prog 15 (locH wantC gCopy) := by
  have key : ∀ b, TabOk Try.prog 15 (loc wantC (gCopy b)) := fun b => loc_ok fun xs bs v bs' ob hg hob hokb => by
    unfold gCopy at hg
    split at hg
    · split at hg
      · rename_i hk
        injection hg with hg; injection hg with e1 e2; injection e2 with e2 e3
        subst e1; subst e2; subst e3
        have hk := of_decide_eq_true hk; subst hk
        have hn := hob _ m0; subst hn
        exact copy_yes _ _ _ _ (hob _ m2) (hob _ m3)
      · rename_i hk
        injection hg with hg; injection hg with e1 e2; injection e2 with e2 e3
        subst e1; subst e2; subst e3
        have hk := of_decide_eq_true hk; subst hk
        have hn := hob _ m0; subst hn
        exact copy_no _ _ _ _ (hob _ m2) (hob _ m1) (hob _ m3)
      · cases hg
    · cases hg
  exact locH_ok (key true) (key false)
/-! ### Drop, Forget -/
theorem drop_works (z i : Int) (l : Rws) (c : Nat) (hw : okN z l) (hc : l.length ≤ c) :
    Works Try.prog 14 [np 0, si .i64 i] [nb true z 1 l.length c, orr l] (sb (decide (0 ≤ i ∧ i < l.length))) [nb true z 2 (dropS l i).length (dropS l i).length, dead, orr (dropS l i)] := by
  obtain ⟨hz, hw⟩ := hw
  have q := congrFun (congrFun (congrFun (congrFun (congrFun drR z) i) l) l.length) c
  rw [leave_drop, dropS_len] at q
  refine works_of (r := [3]) tabM_ok q ?_ (nd2' 3 (by omega)) ?_ ?_
  · simp only [allP]; simp [hz, hw, hc]
  · simp [leV, leV1, leC, sb]
  · simp [leBs, leB, leCells, leL, leC, nb, orr, dead, N.v, List.range, List.range.loop]
theorem forget_works (z q : Int) (l : Rws) (c : Nat) (hw : okN z l) (hc : l.length ≤ c) :
    Works Try.prog 18 [np 0, si .i64 q] [nb true z 1 l.length c, orr l] (si .i64 (l.length - (forgetS l q).length)) [nb true z 2 (forgetS l q).length (forgetS l q).length, dead, orr (forgetS l q)] := by
  obtain ⟨hz, hw⟩ := hw
  have h := congrFun (congrFun (congrFun (congrFun (congrFun fgR z) q) l) l.length) c
  rw [leave_forget] at h
  refine works_of (r := [3]) tabM_ok h ?_ (nd2' 3 (by omega)) ?_ ?_
  · simp only [allP]; simp [hz, hw, hc]
  · simp [leV, leV1, leC, si]
  · simp [leBs, leB, leCells, leL, leC, nb, orr, dead, N.v, List.range, List.range.loop]
def gDrop : Sx.Loc := fun args bs => match args, bs with
  | [.v (.one (.ptr 0 (.c 0) 1 0)), .v (.one (.sint .i64 i))], [⟨true, .exp [.sint .i64 z, .slice 1 (.c 0) 3 (.s n) (.s c)]⟩, ⟨true, .recB ks l⟩] => match decide (ks = k2) with
    | true => some (sb (decide (0 ≤ i ∧ i < l.length)), [nb true z 2 (dropS l i).length (dropS l i).length, dead, orr (dropS l i)], [n = l.length, l.length ≤ c, okN z l])
    | _ => none
  | _, _ => none
def gForget : Sx.Loc := fun args bs => match args, bs with
  | [.v (.one (.ptr 0 (.c 0) 1 0)), .v (.one (.sint .i64 i))], [⟨true, .exp [.sint .i64 z, .slice 1 (.c 0) 3 (.s n) (.s c)]⟩, ⟨true, .recB ks l⟩] => match decide (ks = k2) with
    | true => some (si .i64 (l.length - (forgetS l i).length), [nb true z 2 (forgetS l i).length (forgetS l i).length, dead, orr (forgetS l i)], [n = l.length, l.length ≤ c, okN z l])
    | _ => none
  | _, _ => none
theorem drop_tab : TabOk Try.prog 14 (loc wantC gDrop) := loc_ok fun xs bs v bs' ob hg hob hokb => by
  unfold gDrop at hg
  split at hg
  · split at hg
    · rename_i hk
      injection hg with hg; injection hg with e1 e2; injection e2 with e2 e3
      subst e1; subst e2; subst e3
      have hk := of_decide_eq_true hk; subst hk
      have hn := hob _ m0; subst hn
      exact drop_works _ _ _ _ (hob _ m2) (hob _ m1)
    · cases hg
  · cases hg
theorem forget_tab : TabOk Try.prog 18 (loc wantC gForget) := loc_ok fun xs bs v bs' ob hg hob hokb => by
  unfold gForget at hg
  split at hg
  · split at hg
    · rename_i hk
      injection hg with hg; injection hg with e1 e2; injection e2 with e2 e3
      subst e1; subst e2; subst e3
      have hk := of_decide_eq_true hk; subst hk
      have hn := hob _ m0; subst hn
      exact forget_works _ _ _ _ (hob _ m2) (hob _ m1)
    · cases hg
  · cases hg
/-! ### New -/
def newV : V := .tup [.one (.ptr 0 (.c 0) 1 0), .one (.sint .i64 0)]
def newN : V := .tup [.one .nilp, .one (.sint .i64 2)]
theorem new_makes (z : Int) (h : 1 ≤ z ∧ z ≤ 64) : Makes Try.prog 11 [.int .i64 z] newV [nb true z 1 0 0, orr []] := by
  refine makes_ofG tabM_ok k2 (congrFun nwC z) ?_ (by decide) ?_ ?_ ⟨_, _, rfl, ⟨rfl, rfl⟩, rfl⟩
  · simp only [allP]; simp; omega
  · simp [newV, leV, leL1, leV1, leC, N.v]
  · simp [leBs, leB, leCells, leL, leC, nb, orr, N.v]
theorem new_none (z : Int) (h : ¬ (1 ≤ z ∧ z ≤ 64)) : Makes Try.prog 11 [.int .i64 z] newN [] := by
  by_cases h1 : z < 1
  · refine makes_of (bs := []) tabM_ok (congrFun nwA z) ?_ List.nodup_nil ?_ trivial ⟨_, _, rfl, ⟨rfl, rfl⟩, rfl⟩
    · simp only [allP]; simp; omega
    · simp [newN, leV, leL1, leV1, leC]
  · refine makes_of (bs := []) tabM_ok (congrFun nwB z) ?_ List.nodup_nil ?_ trivial ⟨_, _, rfl, ⟨rfl, rfl⟩, rfl⟩
    · simp only [allP]; simp; omega
    · simp [newN, leV, leL1, leV1, leC]
/-- hint: is it one? -/
def gNew : List V → List SB → List Bool → Option CallR := fresh fun args h => match ivs [.i64] args, h with
  | some [z], true :: h' => some (newV, [nb true z 1 0 0, orr []], h', [1 ≤ z ∧ z ≤ 64])
  | some [z], false :: h' => some (newN, [], h', [¬ (1 ≤ z ∧ z ≤ 64)])
  | _, _ => none
theorem new_tab : TabOk Try.prog 11 gNew := fresh_ok fun args h v bs h' ob hg hob => by
  split at hg
  · rename_i z h1 hv
    injection hg with hg; injection hg with e1 e2; injection e2 with e2 e3; injection e3 with e3 e4
    subst e1; subst e2; subst e3; subst e4
    refine ⟨rfl, fun ρ us hu => ?_⟩
    obtain ⟨rfl, _⟩ := ivs_rel hv hu
    exact new_makes z (hob _ m0)
  · rename_i z h1 hv
    injection hg with hg; injection hg with e1 e2; injection e2 with e2 e3; injection e3 with e3 e4
    subst e1; subst e2; subst e3; subst e4
    refine ⟨rfl, fun ρ us hu => ?_⟩
    obtain ⟨rfl, _⟩ := ivs_rel hv hu
    exact new_none z (hob _ m0)
  · cases hg
end Go.Proofs.Ytjnnfehepbicfaa
