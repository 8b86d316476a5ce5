/- The reference's contracts: who joins. A heap, and the row that it tells of. -/
import Derived.Test.YtjnnfehepbicfaaNrC
namespace Go.Proofs.Ytjnnfehepbicfaa
open Go.ChangeShapes Go.WideShapes Go.ChangeAt Go.RowKit Go.Sx
theorem tabK_ok : ∀ f g, tabK f = some g → TabOk Try.prog f g := tabs_ok fun x hx => by
  simp only [List.mem_cons, List.not_mem_nil, or_false] at hx
  rcases hx with rfl | rfl
  · exact fly_tab
  · exact find_tab
theorem m5 {α : Type} {a b c d e f : α} {l : List α} : a ∈ b :: c :: d :: e :: f :: a :: l := List.Mem.tail _ m4
theorem m6 {α : Type} {a b c d e f g : α} {l : List α} : a ∈ b :: c :: d :: e :: f :: g :: a :: l := List.Mem.tail _ m5
/-- bytes -/
def byB (d : List Int) : Prop := ∀ x ∈ d, 0 ≤ x ∧ x < 256
theorem there_back {l : List Int} (h : byB l) : List.map (fun (x : UInt8) => (x.toNat : Int)) (List.map (fun (n : Int) => UInt8.ofNat (Int.toNat n)) l) = l := by
  rw [List.map_map]
  conv => rhs; rw [← List.map_id l]
  refine List.map_congr_left fun n hn => ?_
  obtain ⟨h0, h1⟩ := h n hn
  show ((UInt8.ofNat n.toNat).toNat : Int) = n
  have : n.toNat < 256 := by omega
  simp
  omega
def joinV (N E : Int) (k : Nat) (n : Nat) : V := .tup [.agg [.sint .i64 N, .sint .i64 (E + 1), .slice k (.c 0) 4 (.s (n + 1)) (.s (n + 1))], .one (.sint .i64 0)]
def stayV (N E : Int) (n c : Nat) : V := .tup [.agg [.sint .i64 N, .sint .i64 E, .slice 0 (.c 0) 4 (.s n) (.s c)], .one (.sint .i64 2)]
def inR (N f t : Int) : Prop := (0 ≤ f ∧ f < N) ∧ 0 ≤ t ∧ t < N
theorem nd2_9 : (List.range 2 ++ [9]).Nodup := by decide
theorem nd1_12 : (List.range 1 ++ [12]).Nodup := by decide
theorem rsend_yes (N E f t : Int) (h : Rws) (d : List Int) (c k : Nat) (hc : h.length ≤ c) (hw : wf3 E h) (hd : byB d) (hdl : d.length ≤ 1048576) (hl : h.length < 4096) (hE : E < 1000000) (hr : inR N f t) :
    Works Try.prog 21 [nv N E 0 h.length c, si .i64 f, si .i64 t, bsl 1 d.length k] [r3 h, ri d] (joinV N E 2 h.length) [r3 h, ri d, o3 (([E + 1, f, t], d) :: h)] := by
  have q := congrFun (congrFun (congrFun (congrFun (congrFun (congrFun (congrFun (congrFun (congrFun rsE N) E) f) t) h) h.length) c) d) k
  rw [there_back hd] at q
  obtain ⟨⟨f0, f1⟩, t0, t1⟩ := hr
  have hE0 := hw.2.2.1.1
  refine works_of (r := [9]) tabK_ok q ?_ nd2_9 ?_ ?_
  · refine ⟨by simp, rfl, rfl, rfl, rfl, by omega, by omega, by rw [List.length_map]; omega, rfl, rfl, ⟨by omega, by omega⟩, decide_eq_false (by omega), rfl, hc, hw, decide_eq_false (by omega), decide_eq_false (by omega), decide_eq_false (by omega), decide_eq_false (by omega), decide_eq_false (by omega), trivial⟩
  · simp [joinV, leV, leL1, leV1, leL, leC, Sx.N.v, List.range, List.range.loop, Nat.add_comm]
  · simp [leBs, leB, leCells, r3, ri, o3, k3]
theorem rsend_no (N E f t : Int) (h : Rws) (d : List Int) (c k : Nat) (hc : h.length ≤ c) (hr : ¬ inR N f t) :
    Works Try.prog 21 [nv N E 0 h.length c, si .i64 f, si .i64 t, bsl 1 d.length k] [r3 h, ri d] (stayV N E h.length c) [r3 h, ri d] := by
  have lv : leV (List.range 2 ++ []) (.tup [.agg [.sint .i64 N, .sint .i64 E, .slice 0 (.c 0) 4 (.s h.length) (.s c)], .one (.int .i64 2)]) (stayV N E h.length c) := by
    simp [stayV, leV, leL1, leV1, leL, leC, Sx.N.v, List.range, List.range.loop, hc]
  have lb : leBs (List.range 2 ++ []) [r3 h, ri d] [r3 h, ri d] := by simp [leBs, leB, leCells, r3, ri]
  by_cases f0 : f < 0
  · exact works_of (r := []) tabK_ok (congrFun (congrFun (congrFun (congrFun (congrFun (congrFun (congrFun (congrFun (congrFun rsA N) E) f) t) h) h.length) c) d) k) ⟨decide_eq_true f0, trivial⟩ nd2 lv lb
  by_cases f1 : N ≤ f
  · exact works_of (r := []) tabK_ok (congrFun (congrFun (congrFun (congrFun (congrFun (congrFun (congrFun (congrFun (congrFun rsB N) E) f) t) h) h.length) c) d) k) ⟨decide_eq_true f1, decide_eq_false f0, trivial⟩ nd2 lv lb
  by_cases t0 : t < 0
  · exact works_of (r := []) tabK_ok (congrFun (congrFun (congrFun (congrFun (congrFun (congrFun (congrFun (congrFun (congrFun rsC N) E) f) t) h) h.length) c) d) k) ⟨decide_eq_true t0, decide_eq_false f1, decide_eq_false f0, trivial⟩ nd2 lv lb
  by_cases t1 : N ≤ t
  · exact works_of (r := []) tabK_ok (congrFun (congrFun (congrFun (congrFun (congrFun (congrFun (congrFun (congrFun (congrFun rsD N) E) f) t) h) h.length) c) d) k) ⟨decide_eq_true t1, decide_eq_false t0, decide_eq_false f1, decide_eq_false f0, trivial⟩ nd2 lv lb
  exact absurd ⟨⟨by omega, by omega⟩, by omega, by omega⟩ hr
def gRSend : Bool → Sx.Loc := fun b args bs => match args, bs with
  | [.v (.agg [.sint .i64 N, .sint .i64 E, .slice 0 (.c 0) 4 (.s n) (.s c)]), .v (.one (.sint .i64 f)), .v (.one (.sint .i64 t)), .v (.one (.slice 1 (.c 0) 1 (.s k) (.s _)))], [⟨false, .recB ks h⟩, ⟨false, .ints ik d⟩] => match decide (ks = k3), decide (ik = .u8), b with
    | true, true, true => some (joinV N E 2 n, [r3 h, ri d, o3 (([E + 1, f, t], d) :: h)], [n = h.length, h.length ≤ c, k = d.length, wf3 E h, byB d, d.length ≤ 1048576 ∧ h.length < 4096 ∧ E < 1000000, inR N f t])
    | true, true, false => some (stayV N E n c, [r3 h, ri d], [n = h.length, h.length ≤ c, k = d.length, ¬ inR N f t])
    | _, _, _ => none
  | _, _ => none
def wantR : List V → List Want := fun _ => [(false, .recB k3), (false, .ints .u8)]
theorem rsend_tab : TabOk Try.prog 21 (locH wantR gRSend) := by
  have key : ∀ b, TabOk Try.prog 21 (loc wantR (gRSend b)) := fun b => loc_ok fun xs bs v bs' ob hg hob hokb => by
    unfold gRSend at hg
    split at hg
    · split at hg
      · rename_i hk hi
        injection hg with hg; injection hg with e1 e2; injection e2 with e2 e3
        subst e1; subst e2; subst e3
        have hk := of_decide_eq_true hk; subst hk
        have hi := of_decide_eq_true hi; subst hi
        have hn := hob _ m0; subst hn
        have hn := hob _ m2; subst hn
        exact rsend_yes _ _ _ _ _ _ _ _ (hob _ m1) (hob _ m3) (hob _ m4) (hob _ m5).1 (hob _ m5).2.1 (hob _ m5).2.2 (hob _ m6)
      · rename_i hk hi
        injection hg with hg; injection hg with e1 e2; injection e2 with e2 e3
        subst e1; subst e2; subst e3
        have hk := of_decide_eq_true hk; subst hk
        have hi := of_decide_eq_true hi; subst hi
        have hn := hob _ m0; subst hn
        have hn := hob _ m2; subst hn
        exact rsend_no _ _ _ _ _ _ _ _ (hob _ m1) (hob _ m3)
      · cases hg
    · cases hg
  exact locH_ok (key true) (key false)
/-! ### Copy -/
def at3 (h : Rws) (p : Int) : Rw := h.getD (findS h p).toNat ([], [])
theorem findS_in {h : Rws} {p : Int} (h0 : 0 ≤ p) (h1 : p < h.length) : findS h p = (h.length : Int) - 1 - p := by unfold findS; rw [if_pos ⟨h0, h1⟩]
theorem findS_out {h : Rws} {p : Int} (hn : ¬ (0 ≤ p ∧ p < h.length)) : findS h p = -1 := by unfold findS; rw [if_neg hn]
theorem at3_mem {h : Rws} {p : Int} (h0 : 0 ≤ p) (h1 : p < h.length) : at3 h p ∈ h := by
  have hf := findS_in h0 h1
  have hlt : (findS h p).toNat < h.length := by omega
  unfold at3
  rw [row_at hlt]; exact List.getElem_mem hlt
theorem rcopy_yes (N E p : Int) (h : Rws) (c : Nat) (hc : h.length ≤ c) (hw : wf3 E h) (hd : byB (at3 h p).2) (hl : h.length < 4096) (hE : E < 1000000) (hp : 0 ≤ p ∧ p < h.length) :
    Works Try.prog 23 [nv N E 0 h.length c, si .i64 p] [r3 h] (joinV N E 1 h.length) [r3 h, o3 (([E + 1, (at3 h p).1.getD 1 0, (at3 h p).1.getD 2 0], (at3 h p).2) :: h)] := by
  have q := congrFun (congrFun (congrFun (congrFun (congrFun rcB N) E) p) h) h.length |> fun q => congrFun q c
  have hf := findS_in hp.1 hp.2
  have hm := hw.1 _ (at3_mem hp.1 hp.2)
  change _ = some (_, [_, SB.mk true (Cells.recB _ (([E + 1, (at3 h p).1.getD 1 0, (at3 h p).1.getD 2 0], List.map _ (List.map _ (at3 h p).2)) :: h))], [List.length (List.map _ (at3 h p).2) = List.length (List.map _ (List.map _ (at3 h p).2)), _, _, _, _, _, _, List.length (List.map _ (at3 h p).2) ≤ _, _, _, _, _, _, _, _, _, _, _, _, _, _, _]) at q
  rw [there_back hd] at q
  have hE0 := hw.2.2.1.1
  refine works_of (r := [12]) tabK_ok q ?_ nd1_12 ?_ ?_
  · refine ⟨by simp, rfl, rfl, rfl, rfl, by omega, by omega, by rw [List.length_map]; omega, rfl, rfl, ⟨by omega, by omega⟩, decide_eq_false (by omega), rfl, hc, hw, by omega, by omega, by omega, decide_eq_false (by omega), rfl, hc, hw, trivial⟩
  · simp [joinV, leV, leL1, leV1, leL, leC, Sx.N.v, List.range, List.range.loop, Nat.add_comm]
  · simp [leBs, leB, leCells, r3, o3, k3]
theorem rcopy_no (N E p : Int) (h : Rws) (c : Nat) (hc : h.length ≤ c) (hw : wf3 E h) (hp : ¬ (0 ≤ p ∧ p < h.length)) :
    Works Try.prog 23 [nv N E 0 h.length c, si .i64 p] [r3 h] (stayV N E h.length c) [r3 h] := by
  have hf := findS_out hp
  refine works_of (r := []) tabK_ok (congrFun (congrFun (congrFun (congrFun (congrFun (congrFun rcA N) E) p) h) h.length) c) ⟨decide_eq_true (by omega), rfl, hc, hw, trivial⟩ nd1n ?_ ?_
  · simp [stayV, leV, leL1, leV1, leL, leC, Sx.N.v, List.range, List.range.loop, hc]
  · simp [leBs, leB, leCells, r3]
def gRCopy : Bool → Sx.Loc := fun b args bs => match args, bs with
  | [.v (.agg [.sint .i64 N, .sint .i64 E, .slice 0 (.c 0) 4 (.s n) (.s c)]), .v (.one (.sint .i64 p))], [⟨false, .recB ks h⟩] => match decide (ks = k3), b with
    | true, true => some (joinV N E 1 n, [r3 h, o3 (([E + 1, (at3 h p).1.getD 1 0, (at3 h p).1.getD 2 0], (at3 h p).2) :: h)], [n = h.length, h.length ≤ c, wf3 E h, byB (at3 h p).2, h.length < 4096 ∧ E < 1000000, 0 ≤ p ∧ p < h.length])
    | true, false => some (stayV N E n c, [r3 h], [n = h.length, h.length ≤ c, wf3 E h, ¬ (0 ≤ p ∧ p < h.length)])
    | _, _ => none
  | _, _ => none
theorem rcopy_tab : TabOk Try.prog 23 (locH want3 gRCopy) := by
  have key : ∀ b, TabOk Try.prog 23 (loc want3 (gRCopy b)) := fun b => loc_ok fun xs bs v bs' ob hg hob hokb => by
    unfold gRCopy at hg
    split at hg
    · split at hg
      · rename_i hk
        injection hg with hg; injection hg with e1 e2; injection e2 with e2 e3
        subst e1; subst e2; subst e3
        have hk := of_decide_eq_true hk; subst hk
        have hn := hob _ m0; subst hn
        exact rcopy_yes _ _ _ _ _ (hob _ m1) (hob _ m2) (hob _ m3) (hob _ m4).1 (hob _ m4).2 (hob _ m5)
      · rename_i hk
        injection hg with hg; injection hg with e1 e2; injection e2 with e2 e3
        subst e1; subst e2; subst e3
        have hk := of_decide_eq_true hk; subst hk
        have hn := hob _ m0; subst hn
        exact rcopy_no _ _ _ _ _ (hob _ m1) (hob _ m2) (hob _ m3)
      · cases hg
    · cases hg
  exact locH_ok (key true) (key false)
/-- a heap as the row that it tells of -/
def prj (r : Rw) : Rw := ([r.1.getD 1 0, r.1.getD 2 0], r.2)
def proj (h : Rws) : Rws := (h.map prj).reverse
theorem proj_len (h : Rws) : (proj h).length = h.length := by unfold proj; rw [List.length_reverse, List.length_map]
theorem proj_cons (r : Rw) (h : Rws) : proj (r :: h) = proj h ++ [prj r] := by unfold proj; rw [List.map_cons, List.reverse_cons]
theorem proj_forget (h : Rws) (q : Int) : forgetS (proj h) q = proj (forget3 h q) := by
  unfold forgetS forget3 proj
  rw [List.filter_reverse, List.filter_map]; rfl
theorem proj_at {h : Rws} {p : Int} (h0 : 0 ≤ p) (h1 : p < h.length) : row (proj h) p = prj (h.getD (findS h p).toNat ([], [])) := by
  have hf : (findS h p).toNat = h.length - 1 - p.toNat := by unfold findS; rw [if_pos ⟨h0, h1⟩]; omega
  unfold row proj
  rw [hf, List.getD_eq_getElem?_getD, List.getElem?_reverse (by rw [List.length_map]; omega), List.length_map, List.getElem?_map, List.getD_eq_getElem?_getD, List.getElem?_eq_getElem (show h.length - 1 - p.toNat < h.length by omega)]
  rfl
theorem erase_rev {α : Type} : ∀ (l : List α) (i j : Nat), i + j + 1 = l.length → l.reverse.eraseIdx i = (l.eraseIdx j).reverse := by
  intro l i j h
  have e : l.reverse.eraseIdx i = l.reverse.take i ++ l.reverse.drop (i + 1) := List.eraseIdx_eq_take_drop_succ ..
  rw [e, List.eraseIdx_eq_take_drop_succ, List.reverse_append, List.take_reverse, List.drop_reverse]
  rw [show l.length - i = j + 1 by omega, show l.length - (i + 1) = j by omega]
/-- the heap without the one that has a place -/
def out3 (h : Rws) (p : Int) : Rws := h.take (findS h p).toNat ++ h.drop ((findS h p).toNat + 1)
theorem proj_drop {h : Rws} {p : Int} (h0 : 0 ≤ p) (h1 : p < h.length) : dropS (proj h) p = proj (out3 h p) := by
  have hf : (findS h p).toNat = h.length - 1 - p.toNat := by unfold findS; rw [if_pos ⟨h0, h1⟩]; omega
  unfold dropS
  rw [if_pos (by rw [proj_len]; exact ⟨h0, h1⟩)]
  unfold out3
  rw [hf, ← List.eraseIdx_eq_take_drop_succ]
  unfold proj
  rw [erase_rev (h.map prj) p.toNat (h.length - 1 - p.toNat) (by rw [List.length_map]; omega), List.eraseIdx_eq_take_drop_succ, List.eraseIdx_eq_take_drop_succ, List.map_append, List.map_take, List.map_drop]
theorem wf3_join {E : Int} {h : Rws} (hw : wf3 E h) {f t : Int} {d : List Int} (hd : d.length ≤ 1048576) (hl : h.length < 4096) (hE : E < 1000000) : wf3 (E + 1) (([E + 1, f, t], d) :: h) := by
  obtain ⟨w1, w2, w3, w4, w5⟩ := hw
  refine ⟨fun r hr => ?_, by rw [List.length_cons]; omega, ⟨by omega, by omega⟩, fun r hr => ?_, List.pairwise_cons.2 ⟨fun r hr => ?_, w5⟩⟩
  · rcases List.mem_cons.1 hr with rfl | hr
    · exact ⟨rfl, hd⟩
    · exact w1 r hr
  · rcases List.mem_cons.1 hr with rfl | hr
    · exact Int.le_refl _
    · have := w4 r hr; omega
  · have := w4 r hr
    show r.1.getD 0 0 < E + 1
    omega
theorem wf3_sub {E : Int} {h g : Rws} (hw : wf3 E h) (hs : g.Sublist h) : wf3 E g := by
  obtain ⟨w1, w2, w3, w4, w5⟩ := hw
  exact ⟨fun r hr => w1 r (hs.subset hr), Nat.le_trans hs.length_le w2, w3, fun r hr => w4 r (hs.subset hr), w5.sublist hs⟩
theorem out3_sub (h : Rws) (p : Int) : (out3 h p).Sublist h := by
  unfold out3
  rw [← List.eraseIdx_eq_take_drop_succ]
  exact List.eraseIdx_sublist ..
theorem forget3_sub (h : Rws) (q : Int) : (forget3 h q).Sublist h := List.filter_sublist
end Go.Proofs.Ytjnnfehepbicfaa
