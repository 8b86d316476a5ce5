/- What is made, plainly. -/
import Derived.Test.YtibknlliackohaaCrB
import Derived.Test.YtibknlliackohaaBagS
namespace Go.Proofs.Ytibknlliackohaa
open Go.ChangeShapes Go.WideShapes Go.ChangeAt Go.RowKit Go.Sx
theorem wfRow2 {r : List Int} (h : wfRow [.u8, .i64] r) : wfR r := by
  match r, h with
  | [a, b], ⟨ha, hb, _⟩ =>
    simp [Lit.wf, IntKind.min, IntKind.max, IntKind.signed, IntKind.bits] at ha hb
    exact ⟨rfl, by show 0 ≤ a ∧ a < 256; omega, by show _ ≤ b ∧ b ≤ _; omega⟩
theorem wfL_of {l : Rows2} (h : ∀ r ∈ l, wfRow [.u8, .i64] r) (hl : l.length ≤ 400) : wfL l := ⟨fun r hr => wfRow2 (h r hr), hl⟩
theorem wf8 {x : Int} (hx : (Lit.int .u8 x).wf = true) : 0 ≤ x ∧ x < 256 := by
  simp [Lit.wf, IntKind.min, IntKind.max, IntKind.signed, IntKind.bits] at hx
  omega
theorem wf64 {x : Int} (hx : (Lit.int .i64 x).wf = true) : i64 x := by
  simp [Lit.wf, IntKind.min, IntKind.max, IntKind.signed, IntKind.bits] at hx
  exact ⟨by omega, by omega⟩
theorem cnt_ub (x : Int) : ∀ (l : Rows2), l.all okR = true → cnt x l ≤ 16 * l.length
  | [], _ => by show (0 : Int) ≤ _; simp
  | r :: t, h => by
    rw [List.all_cons, Bool.and_eq_true] at h
    have ih := cnt_ub x t h.2
    have hb := okR_bd h.1
    have e : cntR x r ≤ 16 := by
      rw [cntR_un]; split
      · omega
      · split
        · split <;> omega
        · omega
    rw [cnt1, List.length_cons]
    omega
theorem cnt_bd {x : Int} {l : Rows2} (hw : wfL l) (h : l.all okR = true) : 0 ≤ cnt x l ∧ cnt x l ≤ 6400 := by
  have h1 := cnt_ub x l h
  have h2 := hw.2
  exact ⟨cnt_nn x l, by omega⟩
theorem cnt_app (x : Int) : ∀ (l k : Rows2), cnt x (l ++ k) = cnt x l + cnt x k
  | [], k => by have e : cnt x [] = 0 := rfl; rw [e, List.nil_append]; omega
  | r :: t, k => by rw [List.cons_append, cnt1, cnt1, cnt_app x t k]; omega
theorem cnt_more (x : Int) (l : Rows2) : cnt x (l ++ [[0, 0]]) = cnt x l := by
  rw [cnt_app, cnt1, cntR_mk]
  have e : cnt x [] = 0 := rfl
  rw [e]; split <;> (try split) <;> simp
theorem all_more {l : Rows2} (h : l.all okR = true) : (l ++ [[0, 0]]).all okR = true := by rw [List.all_append, h]; rfl
/-! ### what is spent of a recipe -/
def need (k : Int) : Rows2 → Int
  | [] => 0
  | r :: t => (if k = it r then nn r else 0) + need k t
def fine (of : Rows2) : Bool := of.all (fun r => decide (it r ≠ 0) && decide (1 ≤ nn r) && okR r && decide (0 ≤ it r) && decide (it r < 256)) && decide ((of.map it).Nodup)
theorem fine_cons {r : List Int} {t : Rows2} (h : fine (r :: t) = true) : (it r ≠ 0 ∧ 1 ≤ nn r) ∧ it r ∉ t.map it ∧ fine t = true := by
  unfold fine at h ⊢
  simp only [List.all_cons, Bool.and_eq_true, decide_eq_true_eq, List.map_cons, List.nodup_cons] at h ⊢
  exact ⟨⟨h.1.1.1.1.1.1, h.1.1.1.1.1.2⟩, h.2.1, h.1.2, h.2.2⟩
theorem spendAll_spec : ∀ {of l : Rows2}, fine of = true → wfL l → l.all okR = true → lacks l of = false →
    wfL (spendAll l of) ∧ (spendAll l of).all okR = true ∧ (spendAll l of).length = l.length ∧ ∀ k, cnt k (spendAll l of) = cnt k l - need k of
  | [], l, _, hw, h, _ => ⟨hw, h, rfl, fun k => by show cnt k l = cnt k l - 0; omega⟩
  | r :: t, l, hf, hw, h, hl => by
    obtain ⟨⟨h0, h1⟩, hn, hft⟩ := fine_cons hf
    rw [lacks, Bool.or_eq_false_iff] at hl
    have hle : ¬ cnt (it r) l < nn r := of_decide_eq_false hl.1
    obtain ⟨s1, _, s3, _, s5⟩ := spendS_spec (x := it r) (n := nn r) hw h
    have hz : (spendS l (it r) (nn r)).2 = 0 := (s3 h1).2 (by omega)
    obtain ⟨_, _, _, hc⟩ := s5 hz
    have hlt : lacks (spendS l (it r) (nn r)).1 t = false := by
      have key : ∀ (u : Rows2), it r ∉ u.map it → lacks l u = false → lacks (spendS l (it r) (nn r)).1 u = false := fun u => by
        induction u with
        | nil => exact fun _ _ => rfl
        | cons s u ih =>
          intro hnm hl2
          rw [lacks, Bool.or_eq_false_iff] at hl2 ⊢
          rw [List.map_cons, List.mem_cons, not_or] at hnm
          refine ⟨?_, ih hnm.2 hl2.2⟩
          rw [hc (it s), if_neg (fun e => hnm.1 e.symm), Int.sub_zero]
          exact hl2.1
      exact key t hn hl.2
    obtain ⟨i1, i2, i3, i4⟩ := spendAll_spec hft (spendS_wf hw) s1 hlt
    refine ⟨i1, i2, by rw [spendAll, i3, spendS_len], fun k => ?_⟩
    rw [spendAll, i4 k, hc k, need]; omega
/-- an empty slot is never spent of -/
theorem spend_keeps {x : Int} (hx : x ≠ 0) : ∀ {l : Rows2} {n : Int}, [0, 0] ∈ l → [0, 0] ∈ (spend x l n).1
  | [], _, h => by simp at h
  | r :: t, n, h => by
    rw [spend1]
    rcases List.mem_cons.1 h with e | h
    · subst e
      rw [if_neg (fun q => hx (by rw [← q.2]; rfl))]
      simp
    · split
      · exact List.mem_cons_of_mem _ (spend_keeps hx h)
      · exact List.mem_cons_of_mem _ (spend_keeps hx h)
theorem spendS_keeps {x : Int} (hx : x ≠ 0) {l : Rows2} {n : Int} (h : [0, 0] ∈ l) : [0, 0] ∈ (spendS l x n).1 := by
  unfold spendS
  split
  · exact h
  · split
    · exact h
    · split
      · exact h
      · exact spend_keeps hx h
theorem spendAll_keeps : ∀ {of l : Rows2}, fine of = true → [0, 0] ∈ l → [0, 0] ∈ spendAll l of
  | [], _, _, h => h
  | r :: t, l, hf, h => by
    obtain ⟨⟨h0, _⟩, _, hft⟩ := fine_cons hf
    rw [spendAll]
    exact spendAll_keeps hft (spendS_keeps h0 h)
/-- with an empty slot more -/
theorem spend_more {x : Int} (hx : x ≠ 0) : ∀ (l : Rows2) (n : Int), spend x (l ++ [[0, 0]]) n = ((spend x l n).1 ++ [[0, 0]], (spend x l n).2)
  | [], n => by
    show spend x ([0, 0] :: []) n = _
    rw [spend1, if_neg (fun q => hx (by rw [← q.2]; rfl))]
    rfl
  | r :: t, n => by
    rw [List.cons_append, spend1, spend1, spend_more hx t n]
    simp only
    split <;> simp
theorem spendS_more {x : Int} (hx : x ≠ 0) {l : Rows2} (n : Int) : spendS (l ++ [[0, 0]]) x n = ((spendS l x n).1 ++ [[0, 0]], (spendS l x n).2) := by
  unfold spendS
  rw [List.all_append, cnt_more, spend_more hx]
  have e : ([[0, 0]] : Rows2).all okR = true := rfl
  rw [e, Bool.and_true]
  split
  · rfl
  · split
    · rfl
    · split
      · rfl
      · rfl
theorem spendAll_more : ∀ {of : Rows2} {l : Rows2}, fine of = true → spendAll (l ++ [[0, 0]]) of = spendAll l of ++ [[0, 0]]
  | [], _, _ => rfl
  | r :: t, l, hf => by
    obtain ⟨⟨h0, _⟩, _, hft⟩ := fine_cons hf
    rw [spendAll, spendAll, spendS_more h0, spendAll_more hft]
theorem lacks_more (l : Rows2) : ∀ (of : Rows2), lacks (l ++ [[0, 0]]) of = lacks l of
  | [] => rfl
  | r :: t => by rw [lacks, lacks, cnt_more, lacks_more l t]
/-! ### recipes -/
theorem rec_fine {n : Int} (hn : ¬ (n < 0 ∨ 7 ≤ n)) : fine (recT n.toNat).1 = true ∧ (recT n.toNat).2.1 ≠ 0 ∧ (0 ≤ (recT n.toNat).2.1 ∧ (recT n.toNat).2.1 < 256) ∧ 1 ≤ (recT n.toNat).2.2 ∧ (recT n.toNat).2.2 ≤ stackT (recT n.toNat).2.1 := by
  rcases mk_range hn with rfl | rfl | rfl | rfl | rfl | rfl | rfl <;> decide
/-- what is told of a recipe that is made -/
theorem make_spec {l : Rows2} {n : Int} (hw : wfL l) (h : l.all okR = true) : (makeS l n).1.all okR = true ∧ wfL (makeS l n).1 ∧ (makeS l n).1.length = l.length ∧
    ((makeS l n).2 ≠ 0 → (makeS l n).1 = l) ∧ ((makeS l n).2 = 0 → ¬ (n < 0 ∨ 7 ≤ n) ∧ ∀ k, cnt k (makeS l n).1 = cnt k l - need k (recT n.toNat).1 + if k = (recT n.toNat).2.1 then (recT n.toNat).2.2 else 0) := by
  by_cases hn : n < 0 ∨ 7 ≤ n
  · rw [makeS_none h hn]
    exact ⟨h, hw, rfl, fun _ => rfl, fun e => by simp at e⟩
  · cases hl : lacks l (recT n.toNat).1 with
    | true => rw [makeS_lacks h hn hl]; exact ⟨h, hw, rfl, fun _ => rfl, fun e => by simp at e⟩
    | false =>
      obtain ⟨f1, f2, f3, f4, f5⟩ := rec_fine hn
      obtain ⟨s1, s2, s3, s4⟩ := spendAll_spec f1 hw h hl
      by_cases hr : 0 < (putS (spendAll l (recT n.toNat).1) (recT n.toNat).2.1 (recT n.toNat).2.2).2
      · rw [makeS_room h hn hl hr]; exact ⟨h, hw, rfl, fun _ => rfl, fun e => by simp at e⟩
      · rw [makeS_made h hn hl hr]
        obtain ⟨p1, p2, _, p4⟩ := putS_spec (x := (recT n.toNat).2.1) (n := (recT n.toNat).2.2) s2 f4 (by omega)
        have hrn := room_nn f2 s2
        have h0 : (putS (spendAll l (recT n.toNat).1) (recT n.toNat).2.1 (recT n.toNat).2.2).2 = 0 := by split at p2 <;> omega
        refine ⟨p1, putS_wf s1 f3, by rw [putS_len, s3], fun e => absurd rfl e, fun _ => ⟨hn, fun k => ?_⟩⟩
        have := p4 k
        rw [h0, s4 k, Int.sub_zero] at this
        exact this
theorem make_more {l : Rows2} {n : Int} (hw : wfL l) (h : l.all okR = true) (h0 : (makeS l n).2 = 0) : (makeS (l ++ [[0, 0]]) n).2 = 0 := by
  obtain ⟨_, _, _, _, hs⟩ := make_spec (n := n) hw h
  obtain ⟨hn, _⟩ := hs h0
  obtain ⟨f1, f2, f3, f4, f5⟩ := rec_fine hn
  cases hl : lacks l (recT n.toNat).1 with
  | true => rw [makeS_lacks h hn hl] at h0; simp at h0
  | false =>
    obtain ⟨_, s2, _, _⟩ := spendAll_spec f1 hw h hl
    by_cases hr : 0 < (putS (spendAll l (recT n.toNat).1) (recT n.toNat).2.1 (recT n.toNat).2.2).2
    · rw [makeS_room h hn hl hr] at h0; simp at h0
    · rw [makeS_made (all_more h) hn (by rw [lacks_more]; exact hl)]
      rw [spendAll_more f1, putS_more s2 hr]
      exact hr
/-- with all that it is of, and an empty slot -/
theorem make_all {l : Rows2} {n : Int} (hw : wfL (l ++ [[0, 0]] ++ (recT n.toNat).1)) (h : l.all okR = true) (hn : ¬ (n < 0 ∨ 7 ≤ n)) : (makeS (l ++ [[0, 0]] ++ (recT n.toNat).1) n).2 = 0 := by
  obtain ⟨f1, f2, f3, f4, f5⟩ := rec_fine hn
  have hrok : (recT n.toNat).1.all okR = true := by
    rcases mk_range hn with rfl | rfl | rfl | rfl | rfl | rfl | rfl <;> decide
  have hok : (l ++ [[0, 0]] ++ (recT n.toNat).1).all okR = true := by rw [List.all_append, all_more h, hrok]; rfl
  have hl : lacks (l ++ [[0, 0]] ++ (recT n.toNat).1) (recT n.toNat).1 = false := by
    have hs : ∀ r ∈ (recT n.toNat).1, nn r ≤ cnt (it r) (recT n.toNat).1 := by
      rcases mk_range hn with rfl | rfl | rfl | rfl | rfl | rfl | rfl <;> decide
    have key : ∀ (u : Rows2), (∀ r ∈ u, nn r ≤ cnt (it r) (recT n.toNat).1) → lacks (l ++ [[0, 0]] ++ (recT n.toNat).1) u = false := fun u => by
      induction u with
      | nil => exact fun _ => rfl
      | cons r t ih =>
        intro hu
        rw [lacks, ih (fun s hs => hu s (by simp [hs])), Bool.or_false, decide_eq_false_iff_not, cnt_app]
        have := hu r (by simp)
        have := cnt_nn (it r) (l ++ [[0, 0]])
        omega
    exact key _ hs
  obtain ⟨_, s2, _, _⟩ := spendAll_spec f1 hw hok hl
  have hmem : ([0, 0] : List Int) ∈ spendAll (l ++ [[0, 0]] ++ (recT n.toNat).1) (recT n.toNat).1 := spendAll_keeps f1 (by simp)
  have hg := room_ge f2 s2 _ hmem
  rw [roomR_mk, if_pos rfl] at hg
  obtain ⟨_, p2, _, _⟩ := putS_spec (x := (recT n.toNat).2.1) (n := (recT n.toNat).2.2) s2 f4 (by omega)
  rw [makeS_made hok hn hl]
  split at p2 <;> omega
end Go.Proofs.Ytibknlliackohaa
