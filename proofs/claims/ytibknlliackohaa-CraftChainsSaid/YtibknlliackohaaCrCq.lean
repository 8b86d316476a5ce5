/- From wood and ore to a pick, plainly. -/
import Derived.Test.YtibknlliackohaaCrU
namespace Go.Proofs.Ytibknlliackohaa
open Go.ChangeShapes Go.WideShapes Go.ChangeAt Go.RowKit Go.Sx
theorem ok_mk {x v : Int} (h1 : 1 ≤ v) (h2 : v ≤ stackT x) : okR [x, v] = true := by
  unfold okR
  rw [nn_mk, it_mk, decide_eq_true h1, decide_eq_true h2]
  simp
theorem cnt_zeros (x : Int) : ∀ n, cnt x (zeros n) = 0
  | 0 => rfl
  | n + 1 => by
    have e : zeros (n + 1) = [0, 0] :: zeros n := rfl
    rw [e, cnt1, cnt_zeros x n, cntR_mk]
    split <;> (try split) <;> simp
theorem no_zeros {x : Int} (hx : x ≠ 0) (n : Nat) : ∀ r ∈ zeros n, it r ≠ x := fun r hr => by
  rw [List.eq_of_mem_replicate hr]; exact Ne.symm hx
theorem fillB_pre {x s N : Int} (hN : 1 ≤ N) (hs : N ≤ s) (post : Rows2) : ∀ (pre : Rows2), (∀ r ∈ pre, nn r ≠ 0) → fill pB x s (pre ++ [0, 0] :: post) N = (pre ++ [x, N] :: post, 0)
  | [], _ => by
    have ha : amt pB s [0, 0] N = N := by
      unfold amt
      rw [if_pos ⟨rfl, by rw [nn_mk]; split <;> omega⟩, nn_mk]
      split <;> omega
    rw [List.nil_append, fill_cons, ha, Int.sub_self, fill_zero, putR1 (by rw [ha]; omega), ha, nn_mk, Int.zero_add]
    rfl
  | r :: t, h => by
    have ha : amt pB s r N = 0 := amt_no (decide_eq_false (h r (by simp)))
    rw [List.cons_append, fill_cons, ha, Int.sub_zero, fillB_pre hN hs post t (fun s hs => h s (by simp [hs])), putR0 ha]
    rfl
theorem fillA_pre {x v s N : Int} (hN : 1 ≤ N) (hs : v + N ≤ s) (post : Rows2) : ∀ (pre : Rows2), (∀ r ∈ pre, it r ≠ x) → fill (pA x) x s (pre ++ [x, v] :: post) N = (pre ++ [x, v + N] :: post, 0)
  | [], _ => by
    have ha : amt (pA x) s [x, v] N = N := by
      unfold amt
      rw [if_pos ⟨pA_mk x v, by rw [nn_mk]; split <;> omega⟩, nn_mk]
      split <;> omega
    rw [List.nil_append, fill_cons, ha, Int.sub_self, fill_zero, putR1 (by rw [ha]; omega), ha, nn_mk]
    rfl
  | r :: t, h => by
    have ha : amt (pA x) s r N = 0 := amt_no (decide_eq_false (h r (by simp)))
    rw [List.cons_append, fill_cons, ha, Int.sub_zero, fillA_pre hN hs post t (fun s hs => h s (by simp [hs])), putR0 ha]
    rfl
theorem put_empty {x N : Int} {pre post : Rows2} (hok : (pre ++ [0, 0] :: post).all okR = true) (hx : x ≠ 0) (hN : 1 ≤ N) (hs : N ≤ stackT x) (hpre : ∀ r ∈ pre, it r ≠ x ∧ nn r ≠ 0) (hpost : ∀ r ∈ post, it r ≠ x) : putS (pre ++ [0, 0] :: post) x N = (pre ++ [x, N] :: post, 0) := by
  have hni : ∀ r ∈ pre ++ [0, 0] :: post, it r ≠ x := fun r hr => by
    rcases List.mem_append.1 hr with h | h
    · exact (hpre r h).1
    · rcases List.mem_cons.1 h with e | h
      · subst e; exact Ne.symm hx
      · exact hpost r h
  rw [putS_un hok hN (by omega), fill_full (.inl rfl) hok (cap_none hni)]
  exact fillB_pre hN hs post pre fun r hr => (hpre r hr).2
theorem put_on {x v N : Int} {pre post : Rows2} (hok : (pre ++ [x, v] :: post).all okR = true) (hN : 1 ≤ N) (hs : v + N ≤ stackT x) (hv : 0 ≤ v) (hpre : ∀ r ∈ pre, it r ≠ x) : putS (pre ++ [x, v] :: post) x N = (pre ++ [x, v + N] :: post, 0) := by
  rw [putS_un hok hN (by omega), fillA_pre hN hs post pre hpre, fill_zero]
theorem spend_none {x : Int} : ∀ {l : Rows2} {n : Int}, (∀ r ∈ l, it r ≠ x) → spend x l n = (l, n)
  | [], _, _ => rfl
  | r :: t, n, h => by
    rw [spend1, spend_none (fun s hs => h s (by simp [hs])), if_neg (fun q => h r (by simp) q.2)]
theorem spend_zero {x : Int} : ∀ (l : Rows2), spend x l 0 = (l, 0)
  | [] => rfl
  | r :: t => by
    rw [spend1, spend_zero t, if_neg (fun q => by have := q.1; simp at this)]
theorem spend_pre {x v N : Int} (hN : 1 ≤ N) (hv : N ≤ v) {post : Rows2} (hpost : ∀ r ∈ post, it r ≠ x) : ∀ (pre : Rows2), (spend x (pre ++ [x, v] :: post) N) = (pre ++ lessR [x, v] N :: post, 0)
  | [] => by
    rw [List.nil_append, spend1, spend_none hpost]
    simp only
    have hm : mn (nn [x, v]) N = N := by rw [nn_mk]; unfold mn; split <;> omega
    rw [if_pos ⟨by omega, it_mk x v⟩, hm, Int.sub_self]
    rfl
  | r :: t => by
    rw [List.cons_append, spend1, spend_pre hN hv hpost t]
    simp only
    rw [if_neg (fun q => by have := q.1; simp at this)]
    rfl
theorem spendS_one {x v N : Int} {pre post : Rows2} (hok : (pre ++ [x, v] :: post).all okR = true) (hx : x ≠ 0) (hN : 1 ≤ N) (hv : N ≤ v) (hpost : ∀ r ∈ post, it r ≠ x) : spendS (pre ++ [x, v] :: post) x N = (pre ++ lessR [x, v] N :: post, 0) := by
  have hc : ¬ cnt x (pre ++ [x, v] :: post) < N := by
    rw [cnt_app, cnt1, cntR_own hx (it_mk x v) (by rw [nn_mk]; omega), nn_mk]
    have h1 := cnt_nn x pre
    have h2 := cnt_nn x post
    omega
  unfold spendS
  rw [if_neg (by rw [hok]; simp), if_neg (by omega), if_neg hc, spend_pre hN hv hpost]
theorem cnt_ge {x v : Int} {pre post : Rows2} (hx : x ≠ 0) (h0 : 0 ≤ v) : v ≤ cnt x (pre ++ [x, v] :: post) := by
  rw [cnt_app, cnt1, cntR_own hx (it_mk x v) (by rw [nn_mk]; omega), nn_mk]
  have h1 := cnt_nn x pre
  have h2 := cnt_nn x post
  omega
/-- five slots, and so many more -/
def b5 (r1 r2 r3 r4 r5 : List Int) (m : Nat) : Rows2 := r1 :: r2 :: r3 :: r4 :: r5 :: zeros m
theorem b5_ok {r1 r2 r3 r4 r5 : List Int} {m : Nat} (h1 : okR r1 = true) (h2 : okR r2 = true) (h3 : okR r3 = true) (h4 : okR r4 = true) (h5 : okR r5 = true) : (b5 r1 r2 r3 r4 r5 m).all okR = true := by
  simp only [b5, List.all_cons, h1, h2, h3, h4, h5, zeros_ok, Bool.and_self]
theorem b5_len (r1 r2 r3 r4 r5 : List Int) (m : Nat) : (b5 r1 r2 r3 r4 r5 m).length = m + 5 := by simp [b5, zeros]
theorem wf_mk {x v : Int} (hx : 0 ≤ x ∧ x < 256) (hv : 0 ≤ v ∧ v ≤ 1000) : wfR [x, v] := ⟨rfl, hx, by show _ ≤ v ∧ v ≤ _; omega⟩
theorem b5_wf {r1 r2 r3 r4 r5 : List Int} {m : Nat} (h1 : wfR r1) (h2 : wfR r2) (h3 : wfR r3) (h4 : wfR r4) (h5 : wfR r5) (hm : m ≤ 100) : wfL (b5 r1 r2 r3 r4 r5 m) := by
  refine ⟨fun r hr => ?_, by rw [b5_len]; omega⟩
  simp only [b5, List.mem_cons] at hr
  rcases hr with rfl | rfl | rfl | rfl | rfl | hr
  · exact h1
  · exact h2
  · exact h3
  · exact h4
  · exact h5
  · rw [List.eq_of_mem_replicate hr]; exact ⟨rfl, by decide, by decide⟩
theorem b5_cnt (x : Int) (r1 r2 r3 r4 r5 : List Int) (m : Nat) : cnt x (b5 r1 r2 r3 r4 r5 m) = cntR x r1 + (cntR x r2 + (cntR x r3 + (cntR x r4 + cntR x r5))) := by
  rw [b5, cnt1, cnt1, cnt1, cnt1, cnt1, cnt_zeros, Int.add_zero]
theorem make1 {l l1 l2 : Rows2} {n x k y q : Int} (hok : l.all okR = true) (hn : ¬ (n < 0 ∨ 7 ≤ n)) (hrec : recT n.toNat = ([[x, k]], y, q)) (hc : ¬ cnt x l < k) (hs : (spendS l x k).1 = l1) (hp : putS l1 y q = (l2, 0)) : makeS l n = (l2, 0) := by
  have e : spendAll l (recT n.toNat).1 = l1 := by rw [hrec]; exact hs
  have e2 : putS (spendAll l (recT n.toNat).1) (recT n.toNat).2.1 (recT n.toNat).2.2 = (l2, 0) := by rw [e, hrec]; exact hp
  rw [makeS_made hok hn (by rw [hrec]; exact nolack1 hc) (by rw [e2]; simp), e2]
theorem make2 {l l0 l1 l2 : Rows2} {n x k x' k' y q : Int} (hok : l.all okR = true) (hn : ¬ (n < 0 ∨ 7 ≤ n)) (hrec : recT n.toNat = ([[x, k], [x', k']], y, q)) (hc : ¬ cnt x l < k) (hc' : ¬ cnt x' l < k') (hs : (spendS l x k).1 = l0) (hs' : (spendS l0 x' k').1 = l1) (hp : putS l1 y q = (l2, 0)) : makeS l n = (l2, 0) := by
  have e : spendAll l (recT n.toNat).1 = l1 := by rw [hrec]; show (spendS (spendS l x k).1 x' k').1 = l1; rw [hs]; exact hs'
  have e2 : putS (spendAll l (recT n.toNat).1) (recT n.toNat).2.1 (recT n.toNat).2.2 = (l2, 0) := by rw [e, hrec]; exact hp
  rw [makeS_made hok hn (by rw [hrec]; exact nolack2 hc hc') (by rw [e2]; simp), e2]
/-- no slot of a few has an item -/
def noI (x : Int) (l : Rows2) : Bool := l.all fun r => decide (it r ≠ x)
theorem noI_z {x : Int} {l : Rows2} {m : Nat} (hx : x ≠ 0) (h : noI x l = true) : ∀ r ∈ l ++ zeros m, it r ≠ x := fun r hr => by
  rcases List.mem_append.1 hr with h1 | h1
  · unfold noI at h; rw [List.all_eq_true] at h; exact of_decide_eq_true (h r h1)
  · exact no_zeros hx m r h1
/-- the bags on the way -/
structure Way (W O : Int) (m : Nat) : Prop where
  w : 8 ≤ W ∧ W ≤ 15
  o : 4 ≤ O ∧ O ≤ 15
  m : m ≤ 100
abbrev z : List Int := [0, 0]
theorem way1 {W O : Int} {m : Nat} (h : Way W O m) : putS (b5 z z z z z m) 3 W = (b5 [3, W] z z z z m, 0) :=
  put_empty (pre := []) (post := z :: z :: z :: z :: zeros m) (b5_ok rfl rfl rfl rfl rfl) (by decide) (by have := h.w; omega) (by have := h.w; show W ≤ 16; omega) (by simp) (noI_z (l := [z, z, z, z]) (by decide) rfl)
theorem way2 {W O : Int} {m : Nat} (h : Way W O m) : putS (b5 [3, W] z z z z m) 7 O = (b5 [3, W] [7, O] z z z m, 0) := by
  have hw := h.w
  have ho := h.o
  have k1 : okR [3, W] = true := ok_mk (by omega) (by show W ≤ 16; omega)
  exact put_empty (pre := [[3, W]]) (post := z :: z :: z :: zeros m) (b5_ok k1 rfl rfl rfl rfl) (by decide) (by omega) (by show O ≤ 16; omega) (by intro r hr; simp at hr; subst hr; exact ⟨by rw [it_mk]; decide, by rw [nn_mk]; omega⟩) (noI_z (l := [z, z, z]) (by decide) rfl)
theorem less_mk {x v s : Int} (h : v - s ≠ 0) : lessR [x, v] s = [x, v - s] := by rw [lessR_mk, if_neg h]
theorem way3 {W O : Int} {m : Nat} (h : Way W O m) : makeS (b5 [3, W] [7, O] z z z m) 0 = (b5 [3, W - 1] [7, O] [5, 4] z z m, 0) := by
  have hw := h.w
  have ho := h.o
  have k1 : okR [3, W] = true := ok_mk (by omega) (by show W ≤ 16; omega)
  have k1' : okR [3, W - 1] = true := ok_mk (by omega) (by show W - 1 ≤ 16; omega)
  have k2 : okR [7, O] = true := ok_mk (by omega) (by show O ≤ 16; omega)
  refine make1 (x := 3) (k := 1) (y := 5) (q := 4) (l1 := b5 [3, W - 1] [7, O] z z z m) (b5_ok k1 k2 rfl rfl rfl) (by decide) rfl ?_ ?_ ?_
  · rw [b5_cnt]; simp [cntR_mk]; omega
  · have := spendS_one (x := 3) (v := W) (N := 1) (pre := []) (post := [7, O] :: z :: z :: z :: zeros m) (b5_ok k1 k2 rfl rfl rfl) (by decide) (by decide) (by omega) (noI_z (l := [[7, O], z, z, z]) (by decide) rfl)
    rw [less_mk (by omega)] at this
    exact congrArg Prod.fst this
  · exact put_empty (x := 5) (N := 4) (pre := [[3, W - 1], [7, O]]) (post := z :: z :: zeros m) (b5_ok k1' k2 rfl rfl rfl) (by decide) (by decide) (by decide) (by intro r hr; simp at hr; rcases hr with rfl | rfl <;> exact ⟨by rw [it_mk]; decide, by rw [nn_mk]; omega⟩) (noI_z (l := [z, z]) (by decide) rfl)
theorem way4 {W O : Int} {m : Nat} (h : Way W O m) : makeS (b5 [3, W - 1] [7, O] [5, 4] z z m) 1 = (b5 [3, W - 1] [7, O] [5, 2] [6, 4] z m, 0) := by
  have hw := h.w
  have ho := h.o
  have k1 : okR [3, W - 1] = true := ok_mk (by omega) (by show W - 1 ≤ 16; omega)
  have k2 : okR [7, O] = true := ok_mk (by omega) (by show O ≤ 16; omega)
  refine make1 (x := 5) (k := 2) (y := 6) (q := 4) (l1 := b5 [3, W - 1] [7, O] [5, 2] z z m) (b5_ok k1 k2 rfl rfl rfl) (by decide) rfl ?_ ?_ ?_
  · rw [b5_cnt]; simp [cntR_mk]
  · exact congrArg Prod.fst (spendS_one (x := 5) (v := 4) (N := 2) (pre := [[3, W - 1], [7, O]]) (post := z :: z :: zeros m) (b5_ok k1 k2 rfl rfl rfl) (by decide) (by decide) (by decide) (noI_z (l := [z, z]) (by decide) rfl))
  · exact put_empty (x := 6) (N := 4) (pre := [[3, W - 1], [7, O], [5, 2]]) (post := z :: zeros m) (b5_ok k1 k2 rfl rfl rfl) (by decide) (by decide) (by decide) (by intro r hr; simp at hr; rcases hr with rfl | rfl | rfl <;> exact ⟨by rw [it_mk]; decide, by rw [nn_mk]; omega⟩) (noI_z (l := [z]) (by decide) rfl)
/-- an ingot -/
theorem ingot {A B : Int} {r : List Int} {q : Int} {m : Nat} (hA : 2 ≤ A ∧ A ≤ 16) (hB : 2 ≤ B ∧ B ≤ 16) (hr : okR r = true) (hn : it r ≠ 7 ∧ it r ≠ 3)
    (hp : putS (b5 [3, A - 1] [7, B - 1] [5, 2] [6, 4] r m) 8 1 = (b5 [3, A - 1] [7, B - 1] [5, 2] [6, 4] [8, q] m, 0)) : makeS (b5 [3, A] [7, B] [5, 2] [6, 4] r m) 4 = (b5 [3, A - 1] [7, B - 1] [5, 2] [6, 4] [8, q] m, 0) := by
  have k1 : okR [3, A] = true := ok_mk (by omega) (by show A ≤ 16; omega)
  have k2 : okR [7, B] = true := ok_mk (by omega) (by show B ≤ 16; omega)
  have k2' : okR [7, B - 1] = true := ok_mk (by omega) (by show B - 1 ≤ 16; omega)
  have n7 : noI 7 [[5, 2], [6, 4], r] = true := by simp [noI, it_mk, hn.1]
  have n3 : noI 3 [[7, B - 1], [5, 2], [6, 4], r] = true := by simp [noI, it_mk, hn.2]
  have c3 := cnt_nn 3 [r]
  have c7 := cnt_nn 7 [r]
  have e3 : cnt 3 [r] = cntR 3 r + 0 := rfl
  have e7 : cnt 7 [r] = cntR 7 r + 0 := rfl
  refine make2 (x := 7) (k := 1) (x' := 3) (k' := 1) (y := 8) (q := 1) (l0 := b5 [3, A] [7, B - 1] [5, 2] [6, 4] r m) (l1 := b5 [3, A - 1] [7, B - 1] [5, 2] [6, 4] r m) (b5_ok k1 k2 rfl rfl hr) (by decide) rfl ?_ ?_ ?_ ?_ hp
  · rw [b5_cnt]; simp [cntR_mk]; split <;> omega
  · rw [b5_cnt]; simp [cntR_mk]; split <;> omega
  · have := spendS_one (x := 7) (v := B) (N := 1) (pre := [[3, A]]) (post := [5, 2] :: [6, 4] :: r :: zeros m) (b5_ok k1 k2 rfl rfl hr) (by decide) (by decide) (by omega) (noI_z (l := [[5, 2], [6, 4], r]) (by decide) n7)
    rw [less_mk (by omega)] at this
    exact congrArg Prod.fst this
  · have := spendS_one (x := 3) (v := A) (N := 1) (pre := []) (post := [7, B - 1] :: [5, 2] :: [6, 4] :: r :: zeros m) (b5_ok k1 k2' rfl rfl hr) (by decide) (by decide) (by omega) (noI_z (l := [[7, B - 1], [5, 2], [6, 4], r]) (by decide) n3)
    rw [less_mk (by omega)] at this
    exact congrArg Prod.fst this
theorem way5 {W O : Int} {m : Nat} (h : Way W O m) : makeS (b5 [3, W - 1] [7, O] [5, 2] [6, 4] z m) 4 = (b5 [3, W - 1 - 1] [7, O - 1] [5, 2] [6, 4] [8, 1] m, 0) := by
  have hw := h.w
  have ho := h.o
  have k1 : okR [3, W - 1 - 1] = true := ok_mk (by omega) (by show W - 1 - 1 ≤ 16; omega)
  have k2 : okR [7, O - 1] = true := ok_mk (by omega) (by show O - 1 ≤ 16; omega)
  refine ingot (by omega) (by omega) rfl (by decide) ?_
  exact put_empty (x := 8) (N := 1) (pre := [[3, W - 1 - 1], [7, O - 1], [5, 2], [6, 4]]) (post := zeros m) (b5_ok k1 k2 rfl rfl rfl) (by decide) (by decide) (by decide) (by intro r hr; simp at hr; rcases hr with rfl | rfl | rfl | rfl <;> exact ⟨by rw [it_mk]; decide, by rw [nn_mk]; omega⟩) (noI_z (l := []) (by decide) rfl)
theorem more8 {A B v : Int} {m : Nat} (hA : 1 ≤ A ∧ A ≤ 16) (hB : 1 ≤ B ∧ B ≤ 16) (hv : 1 ≤ v ∧ v ≤ 15) : putS (b5 [3, A] [7, B] [5, 2] [6, 4] [8, v] m) 8 1 = (b5 [3, A] [7, B] [5, 2] [6, 4] [8, v + 1] m, 0) := by
  have k1 : okR [3, A] = true := ok_mk hA.1 (by show A ≤ 16; omega)
  have k2 : okR [7, B] = true := ok_mk hB.1 (by show B ≤ 16; omega)
  have k5 : okR [8, v] = true := ok_mk hv.1 (by show v ≤ 16; omega)
  exact put_on (x := 8) (v := v) (N := 1) (pre := [[3, A], [7, B], [5, 2], [6, 4]]) (post := zeros m) (b5_ok k1 k2 rfl rfl k5) (by decide) (by show v + 1 ≤ 16; omega) (by omega) (by intro r hr; simp at hr; rcases hr with rfl | rfl | rfl | rfl <;> rw [it_mk] <;> decide)
theorem way6 {W O : Int} {m : Nat} (h : Way W O m) : makeS (b5 [3, W - 1 - 1] [7, O - 1] [5, 2] [6, 4] [8, 1] m) 4 = (b5 [3, W - 1 - 1 - 1] [7, O - 1 - 1] [5, 2] [6, 4] [8, 1 + 1] m, 0) := by
  have hw := h.w
  have ho := h.o
  exact ingot (by omega) (by omega) rfl (by decide) (more8 (by omega) (by omega) (by decide))
theorem way7 {W O : Int} {m : Nat} (h : Way W O m) : makeS (b5 [3, W - 1 - 1 - 1] [7, O - 1 - 1] [5, 2] [6, 4] [8, 1 + 1] m) 4 = (b5 [3, W - 1 - 1 - 1 - 1] [7, O - 1 - 1 - 1] [5, 2] [6, 4] [8, 1 + 1 + 1] m, 0) := by
  have hw := h.w
  have ho := h.o
  exact ingot (by omega) (by omega) rfl (by decide) (more8 (by omega) (by omega) (by decide))
theorem way8 {W O : Int} {m : Nat} (h : Way W O m) : makeS (b5 [3, W - 1 - 1 - 1 - 1] [7, O - 1 - 1 - 1] [5, 2] [6, 4] [8, 1 + 1 + 1] m) 5 = (b5 [3, W - 1 - 1 - 1 - 1] [7, O - 1 - 1 - 1] [5, 2] [6, 2] [12, 1] m, 0) := by
  have hw := h.w
  have ho := h.o
  generalize hA : W - 1 - 1 - 1 - 1 = A
  generalize hB : O - 1 - 1 - 1 = B
  have k1 : okR [3, A] = true := ok_mk (by omega) (by show A ≤ 16; omega)
  have k2 : okR [7, B] = true := ok_mk (by omega) (by show B ≤ 16; omega)
  refine make2 (x := 6) (k := 2) (x' := 8) (k' := 3) (y := 12) (q := 1) (l0 := b5 [3, A] [7, B] [5, 2] [6, 2] [8, 3] m) (l1 := b5 [3, A] [7, B] [5, 2] [6, 2] z m) (b5_ok k1 k2 rfl rfl rfl) (by decide) rfl ?_ ?_ ?_ ?_ ?_
  · rw [b5_cnt]; simp [cntR_mk]
  · rw [b5_cnt]; simp [cntR_mk]
  · exact congrArg Prod.fst (spendS_one (x := 6) (v := 4) (N := 2) (pre := [[3, A], [7, B], [5, 2]]) (post := [8, 3] :: zeros m) (b5_ok k1 k2 rfl rfl rfl) (by decide) (by decide) (by decide) (noI_z (l := [[8, 3]]) (by decide) rfl))
  · exact congrArg Prod.fst (spendS_one (x := 8) (v := 3) (N := 3) (pre := [[3, A], [7, B], [5, 2], [6, 2]]) (post := zeros m) (b5_ok k1 k2 rfl rfl rfl) (by decide) (by decide) (by decide) (noI_z (l := []) (by decide) rfl))
  · exact put_empty (x := 12) (N := 1) (pre := [[3, A], [7, B], [5, 2], [6, 2]]) (post := zeros m) (b5_ok k1 k2 rfl rfl rfl) (by decide) (by decide) (by decide) (by intro r hr; simp at hr; rcases hr with rfl | rfl | rfl | rfl <;> exact ⟨by rw [it_mk]; decide, by rw [nn_mk]; omega⟩) (noI_z (l := []) (by decide) rfl)
end Go.Proofs.Ytibknlliackohaa
