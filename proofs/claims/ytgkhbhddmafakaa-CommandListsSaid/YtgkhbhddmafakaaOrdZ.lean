/- bytes.Blob, command.Orders: the contracts. -/
import Derived.Test.YtgkhbhddmafakaaBlobZ
namespace Go.Proofs.Ytgkhbhddmafakaa
open Go.ChangeShapes Go.WideShapes Go.ChangeAt Go.RowKit Go.Sx
theorem tabBl_ok : ∀ f g, tabBl f = some g → TabOk Try.prog f g := tabs_ok fun x hx => by
  simp only [List.mem_cons, List.not_mem_nil, or_false] at hx
  rcases hx with rfl
  exact uint_tab
theorem ndBl : (List.range 2 ++ [3]).Nodup := by decide
theorem blob_works (l b : List Int) (c n d : Nat) (hb : n ≤ b.length) (hl : l.length + n + 20 ≤ 140737488355328) : Works Try.prog 28 [bsl 0 l.length c, bsl 1 n d] [owB l, roB b] (bsl 2 (l ++ vint (n : Nat) ++ b.take n).length (l ++ vint (n : Nat) ++ b.take n).length) [⟨true, .dead⟩, roB b, owB (l ++ vint (n : Nat) ++ b.take n)] := by
  have q := congrFun (congrFun (congrFun (congrFun (congrFun bl1 l) b) c) n) d
  have ew : IntKind.wrap .u64 (n : Int) = ((n : Nat) : Int) := w64 (by omega) (by omega)
  have hv := vint_le (n := ((n : Nat) : Int)) ⟨by omega, by omega⟩
  have ht : (b.take n).length = n := by rw [List.length_take]; omega
  rw [ew, List.drop_zero] at q
  refine works_of (r := [3]) tabBl_ok q ⟨rfl, rfl, by omega, ?_, ?_, ⟨by omega, by omega⟩, rfl, by omega, trivial⟩ ndBl ?_ ?_
  · rw [List.length_append]; omega
  · rw [List.length_append]; omega
  · simp [bsl, leV, leV1, leC, N.v, List.range, List.range.loop, ht, Nat.add_assoc]
  · exact ⟨⟨fun h => h, trivial⟩, ⟨fun h => h, rfl, rfl⟩, ⟨fun h => h, rfl, rfl⟩, trivial⟩
theorem blob_tab : TabOk Try.prog 28 (loc blobW gBlob) := loc_ok fun xs bs v bs' ob hg hob hokb => by
  unfold gBlob at hg
  split at hg
  · rename_i a c m d k l k' b
    split at hg
    · rename_i hk
      rw [Bool.and_eq_true] at hk
      injection hg with hg; injection hg with e1 e2; injection e2 with e2 e3
      subst e1; subst e2; subst e3
      have h1 : k = .u8 := of_decide_eq_true hk.1
      have h2 : k' = .u8 := of_decide_eq_true hk.2
      subst h1; subst h2
      have ha := hob (a = l.length) (by simp)
      subst ha
      exact blob_works l b c m d (hob (m ≤ b.length) (by simp)) (hob (l.length + m + 20 ≤ 140737488355328) (by simp))
    · cases hg
  · cases hg
/-! ### orders -/
theorem tabO_ok : ∀ f g, tabO f = some g → TabOk Try.prog f g := tabs_ok fun x hx => by
  simp only [List.mem_cons, List.not_mem_nil, or_false] at hx
  rcases hx with rfl | rfl | rfl
  · exact uint_tab
  · exact blob_tab
  · exact bytes_tab
theorem callO_ok (d : Nat) : CallOk Try.prog (callO d) := callN_sound tabO_ok d
def cmdR (r : List Int) : List Int := cmdB (r.getD 2 0) (r.getD 3 0) (r.getD 4 0) (r.getD 5 0) (r.getD 6 0)
def rightR2 (r : List Int) : Bool := rightF (r.getD 2 0) (r.getD 3 0) (r.getD 4 0) (r.getD 5 0) (r.getD 6 0)
def rowOk (r : List Int) : Bool := rightR2 r && decide (0 ≤ r.getD 0 0 ∧ 0 ≤ r.getD 1 0 ∧ r.getD 0 0 ≤ 1073741824 ∧ r.getD 1 0 ≤ 1099511627776)
def rowB (r : List Int) : List Int := vint (r.getD 0 0) ++ vint (r.getD 1 0) ++ vint (((cmdR r).length : Nat) : Int) ++ cmdR r
def bytesO : List (List Int) → List Int
  | [] => []
  | r :: t => rowB r ++ bytesO t
/-- the bytes of orders, and the error -/
def ordS (l : List (List Int)) : List Int × Int := if 1000 < l.length ∨ l.all rowOk = false then ([], 109) else (vint ((l.length : Nat) : Int) ++ bytesO l, 0)
def wfO (l : List (List Int)) : Prop := ∀ r ∈ l, 0 ≤ r.getD 2 0 ∧ r.getD 2 0 < 256
theorem bytesO_app : ∀ (a b : List (List Int)), bytesO (a ++ b) = bytesO a ++ bytesO b
  | [], _ => rfl
  | r :: t, b => by
    show rowB r ++ bytesO (t ++ b) = rowB r ++ bytesO t ++ bytesO b
    rw [bytesO_app t b, List.append_assoc]
theorem rowB_len {r : List Int} (h : rowOk r = true) : (rowB r).length ≤ 71 := by
  unfold rowOk at h
  rw [Bool.and_eq_true] at h
  obtain ⟨h1, h2⟩ := h
  have h2 := of_decide_eq_true h2
  have hc : (cmdR r).length ≤ 41 := cmdB_len h1
  have a := vint_le (n := r.getD 0 0) ⟨by omega, by omega⟩
  have b := vint_le (n := r.getD 1 0) ⟨by omega, by omega⟩
  have c := vint_le (n := (((cmdR r).length : Nat) : Int)) ⟨by omega, by omega⟩
  unfold rowB
  rw [List.length_append, List.length_append, List.length_append]
  omega
theorem bytesO_len : ∀ {l : List (List Int)}, l.all rowOk = true → (bytesO l).length ≤ 71 * l.length
  | [], _ => by simp [bytesO]
  | r :: t, h => by
    rw [List.all_cons, Bool.and_eq_true] at h
    have a := rowB_len h.1
    have b := bytesO_len h.2
    show (rowB r ++ bytesO t).length ≤ _
    rw [List.length_append, List.length_cons]
    omega
theorem take_row {l : List (List Int)} {i : Nat} (h : i < l.length) : l.take (i + 1) = l.take i ++ [l.getD i []] := by
  rw [List.take_add_one, List.getD_eq_getElem?_getD, List.getElem?_eq_getElem h]; rfl
theorem row_in {l : List (List Int)} {i : Nat} (h : i < l.length) : l.getD i [] ∈ l := by
  rw [List.getD_eq_getElem?_getD, List.getElem?_eq_getElem h]; exact List.getElem_mem _
theorem funO : Try.prog.funcs[15]? = some FO := by kernel_rfl
theorem bodO : FO.body = some (bodyF 15) := by kernel_rfl
theorem tmpO : 1 ≤ FO.ntmps := Nat.le_of_ble_eq_true (by kernel_rfl)
def tupO (b n : Nat) (e : Int) : V := .tup [.one (.slice b (.c 0) 1 (.s n) (.s n)), .one (.sint .i64 e)]
def nilO : V := .tup [.one .nils, .one (.sint .i64 109)]
theorem nilO_le : leV (List.range 1 ++ []) (.tup [.one .nils, .one (.int .i64 109)]) nilO := ⟨trivial, ⟨rfl, rfl⟩, trivial⟩
theorem ghost_slice {f : FuncId} {args : List V} {s : SB} {e : Int} (h : Works Try.prog f args [s] (.tup [.one .nils, .one (.sint .i64 e)]) [s]) : Works Try.prog f args [s] (tupO 1 0 e) [s, owB []] := by
  intro ρ K w us hm hu
  refine (h ρ K w us hm hu).mono fun en w' ⟨u, ρ', he, hv, hm'⟩ => ?_
  have hg := hm'.beside (ghost_rel w' (.ints .u8 []) (fun ρ g i r h => by simp at h) rfl) rfl
  have hl := hm'.len
  refine ⟨u, ρ' ++ [⟨0, 0, 0⟩], he, ?_, ?_⟩
  · obtain ⟨vs, hv1, hv2⟩ := hv
    refine ⟨vs, hv1, ?_⟩
    obtain ⟨v1, s1, rfl, ⟨h1, h1'⟩, h2⟩ := hv2
    simp only [C.rel] at h1
    refine ⟨v1, s1, rfl, ⟨⟨⟨0, 0, 0⟩, ?_, .inl ⟨rfl, rfl, h1⟩⟩, h1'⟩, ?_⟩
    · rw [← List.append_assoc, List.getElem?_append_right (by rw [hl]; simp)]
      rw [hl]; rfl
    · obtain ⟨v2, _, rfl, ⟨h3, h3'⟩, h4⟩ := h2
      exact ⟨v2, _, rfl, ⟨h3, h3'⟩, h4⟩
  · rw [← List.append_assoc]; exact hg
theorem allO_nil : allP [] := trivial
theorem allO_cons {p : Prop} {r : List Prop} (h : p) (h' : allP r) : allP (p :: r) := ⟨h, h'⟩
theorem ndO : (List.range 1 ++ [6]).Nodup := by decide
theorem ndO1 : (List.range 1 ++ [1]).Nodup := by decide
theorem mn_neg (a b : Int) : (if b < a then b else a) < 0 ↔ ¬ (0 ≤ a ∧ 0 ≤ b) := by split <;> omega
theorem capO_works {f : FuncId} {b n c : Nat} {args : List V} {bs bs' : List SB} {v : V} (h : n ≤ c → Works Try.prog f (slO b n c :: args) bs v bs') : Works Try.prog f (slO b n c :: args) bs v bs' := by
  intro ρ K w us hm hu
  have hc : n ≤ c := by
    obtain ⟨u, s, _, ⟨⟨e, _, hu⟩, _⟩, _⟩ := hu
    rcases hu with ⟨h0, _⟩ | ⟨_, _, _, h1, _⟩
    · simp only [N.v] at h0; omega
    · exact h1
  exact h hc ρ K w us hm hu
set_option maxRecDepth 100000 in
/-- all are orders -/
theorem ord_yes (l : List (List Int)) (n c : Nat) (hn : n ≤ l.length) (hw : wfO l) (hm : n ≤ 1000) (hall : (l.take n).all rowOk = true) : Works Try.prog 15 [slO 0 n c] [roO l] (tupO 1 (vint ((n : Nat) : Int) ++ bytesO (l.take n)).length 0) [roO l, owB (vint ((n : Nat) : Int) ++ bytesO (l.take n))] := capO_works fun hc => by
  have ew : IntKind.wrap .u64 (n : Int) = ((n : Nat) : Int) := w64 (by omega) (by omega)
  have qE := congrFun (congrFun (congrFun orE l) n) c
  rw [ew] at qE
  refine works_loop (I := Nat) (Inv := fun i h => TO l n c (vint ((n : Nat) : Int) ++ bytesO (l.take i)) i h) (good := fun i => i ≤ n) (μ := fun i => n - i) (i := 0) (r := [1]) (callO_ok 4) funO bodO (by exact tmpO) (fun _ _ => ⟨rfl, rfl⟩)
    qE ⟨⟨by omega, by omega⟩, decide_eq_false (by omega), trivial⟩ ⟨ndO1, ?_, ?_⟩ (Nat.zero_le _) ?_
  · simp [TO, bsl, slO, leSlots, leV, leV1, leC, si, List.range, List.range.loop, N.v, bytesO, hc]
  · simp [TO, leBs, leB, leCells, roO, owB, bytesO]
  · intro i hi
    by_cases hlt : i < n
    · have q := congrFun (congrFun (congrFun (congrFun (congrFun orR l) n) c) (vint ((n : Nat) : Int) ++ bytesO (l.take i))) i
      have hil : i < l.length := by omega
      have hd := hw _ (row_in hil)
      have hr : rowOk (l.getD i []) = true := by
        refine List.all_eq_true.1 hall _ ?_
        have : l.take n = l.take i ++ l.getD i [] :: (l.take n).drop (i + 1) := by
          have h1 := List.take_append_drop (i + 1) (l.take n)
          rw [List.take_take, Nat.min_eq_left (by omega), take_row hil, List.append_assoc] at h1
          exact h1.symm
        rw [this]; simp
      have hlen : (bytesO (l.take i)).length ≤ 71 * i := by
        have : (l.take i).all rowOk = true := List.all_eq_true.2 fun x hx => List.all_eq_true.1 hall x (by
          have : l.take i = (l.take n).take i := by rw [List.take_take, Nat.min_eq_left (by omega)]
          rw [this] at hx
          exact List.mem_of_mem_take hx)
        have h := bytesO_len this
        rw [List.length_take, Nat.min_eq_left (by omega)] at h
        exact h
      have hvn := vint_le (n := ((n : Nat) : Int)) ⟨by omega, by omega⟩
      have hstep : vint ((n : Nat) : Int) ++ bytesO (l.take (i + 1)) = vint ((n : Nat) : Int) ++ bytesO (l.take i) ++ vint ((l.getD i []).getD 0 0) ++ vint ((l.getD i []).getD 1 0) ++ vint (((cmdR (l.getD i [])).length : Nat) : Int) ++ cmdR (l.getD i []) := by
        rw [take_row hil, bytesO_app]
        show _ ++ (_ ++ (rowB (l.getD i []) ++ [])) = _
        rw [List.append_nil]
        unfold rowB
        simp only [List.append_assoc]
      have hlo : (vint ((n : Nat) : Int) ++ bytesO (l.take i)).length ≤ 80000 := by rw [List.length_append]; omega
      have hrr := hr
      unfold rowOk at hrr
      rw [Bool.and_eq_true] at hrr
      obtain ⟨h1, h2⟩ := hrr
      obtain ⟨p1, p2, p3, p4⟩ := of_decide_eq_true h2
      have e0 : IntKind.wrap .u64 ((l.getD i []).getD 0 0) = (l.getD i []).getD 0 0 := w64 p1 (by omega)
      have e1 : IntKind.wrap .u64 ((l.getD i []).getD 1 0) = (l.getD i []).getD 1 0 := w64 p2 (by omega)
      have hv0 := vint_le (n := (l.getD i []).getD 0 0) ⟨by omega, by omega⟩
      have hv1 := vint_le (n := (l.getD i []).getD 1 0) ⟨by omega, by omega⟩
      have hcl : (cmdR (l.getD i [])).length ≤ 41 := cmdB_len h1
      simp only [e0, e1, List.take_length] at q
      unfold rightR2 at h1
      unfold cmdR at hstep hcl
      have fin : ∀ out' : List Int, vint ((n : Nat) : Int) ++ bytesO (l.take (i + 1)) = out' → leSlots (List.range 1 ++ [6]) [(4, bsl 6 out'.length out'.length), (16, slO 0 n c), (17, si .i64 n), (18, si .i64 ((i : Int) + 1))] (TO l n c (vint ((n : Nat) : Int) ++ bytesO (l.take (i + 1))) (i + 1) []).sl ∧
          leBs (List.range 1 ++ [6]) [roO l, owB out'] (TO l n c (vint ((n : Nat) : Int) ++ bytesO (l.take (i + 1))) (i + 1) []).m := by
        intro out' ho
        rw [ho]
        refine ⟨?_, ?_⟩
        · simp [TO, bsl, slO, leSlots, leV, leV1, leC, si, List.range, List.range.loop, N.v, hc]
        · simp [TO, leBs, leB, leCells, roO, owB]
      refine .round [true, true, false, false, false] [] _ _ [4, 16, 17, 18] [6] _ _ _ (i + 1) q ?_ ⟨ndO, (fin _ hstep).1, (fin _ hstep).2⟩ hlt (by omega)
      clear fin hstep hall q qE
      generalize (l.getD i []).getD 0 0 = P at *
      generalize (l.getD i []).getD 1 0 = Sq at *
      generalize cmdB ((l.getD i []).getD 2 0) ((l.getD i []).getD 3 0) ((l.getD i []).getD 4 0) ((l.getD i []).getD 5 0) ((l.getD i []).getD 6 0) = CM at *
      generalize vint ((n : Nat) : Int) ++ bytesO (l.take i) = out at *
      have k1 : (out ++ vint P).length ≤ 80010 := by rw [List.length_append]; omega
      have k2 : (out ++ vint P ++ vint Sq).length ≤ 80020 := by rw [List.length_append]; omega
      have k3 : decide ((if Sq < P then Sq else P) < 0) = false := decide_eq_false fun h => (mn_neg P Sq).1 h ⟨p1, p2⟩
      have k4 : (-9223372036854775808 : Int) ≤ (i : Int) + 1 ∧ (i : Int) + 1 ≤ 9223372036854775807 := by omega
      have k5 : (out ++ vint P ++ vint Sq).length + CM.length + 20 ≤ 140737488355328 := by omega
      have k6 : (out ++ vint P).length + 10 ≤ 140737488355328 := by omega
      have k7 : out.length + 10 ≤ 140737488355328 := by omega
      have k8 : u64 P := ⟨p1, by omega⟩
      have k9 : u64 Sq := ⟨p2, by omega⟩
      have k10 : (i : Int) < (n : Int) := by omega
      have k11 : (0 : Int) ≤ (i : Int) := by omega
      have k12 : decide (1099511627776 < Sq) = false := decide_eq_false (by omega)
      have k13 : decide (1073741824 < P) = false := decide_eq_false (by omega)
      repeat' (first | exact allO_nil | refine allO_cons ?_ ?_)
      all_goals first | exact Eq.refl _ | exact k3 | exact k4 | exact k5 | exact k6 | exact k7 | exact k8 | exact k9 | exact k10 | exact k11 | exact k12 | exact k13 | exact h1 | exact hd | exact hil | exact Nat.le_refl _ | exact decide_eq_true k10
    · have hin : i = n := by omega
      subst hin
      refine .stop [false] [] _ _ [1] _ _ _ (congrFun (congrFun (congrFun (congrFun (congrFun orX l) i) c) (vint ((i : Nat) : Int) ++ bytesO (l.take i))) i) ⟨decide_eq_false (by omega), trivial⟩ ndO1 ?_ ?_
      · simp [tupO, leV, leL1, leV1, leC, N.v, List.range, List.range.loop]
      · simp [leBs, leB, leCells, roO, owB]
set_option maxRecDepth 100000 in
/-- one is none -/
theorem ord_no (l : List (List Int)) (n c : Nat) (hn : n ≤ l.length) (hw : wfO l) (hm : n ≤ 1000) (hall : (l.take n).all rowOk = false) : Works Try.prog 15 [slO 0 n c] [roO l] nilO [roO l] := capO_works fun hc => by
  have ew : IntKind.wrap .u64 (n : Int) = ((n : Nat) : Int) := w64 (by omega) (by omega)
  have qE := congrFun (congrFun (congrFun orE l) n) c
  rw [ew] at qE
  refine works_loop (I := Nat) (Inv := fun i h => TO l n c (vint ((n : Nat) : Int) ++ bytesO (l.take i)) i h) (good := fun i => i ≤ n ∧ (l.take i).all rowOk = true) (μ := fun i => n - i) (i := 0) (r := [1]) (callO_ok 4) funO bodO (by exact tmpO) (fun _ _ => ⟨rfl, rfl⟩)
    qE ⟨⟨by omega, by omega⟩, decide_eq_false (by omega), trivial⟩ ⟨ndO1, ?_, ?_⟩ ⟨Nat.zero_le _, rfl⟩ ?_
  · simp [TO, bsl, slO, leSlots, leV, leV1, leC, si, List.range, List.range.loop, N.v, bytesO, hc]
  · simp [TO, leBs, leB, leCells, roO, owB, bytesO]
  · intro i ⟨hi, hok⟩
    have hlt : i < n := by
      rcases Nat.lt_or_ge i n with h | h
      · exact h
      · have : i = n := by omega
        subst this; rw [hok] at hall; cases hall
    have hil : i < l.length := by omega
    have hd := hw _ (row_in hil)
    have app : ∀ {A : Type} {f g : List (List Int) → Nat → Nat → List Int → Nat → A}, f = g → f l n c (vint ((n : Nat) : Int) ++ bytesO (l.take i)) i = g l n c (vint ((n : Nat) : Int) ++ bytesO (l.take i)) i := fun hh => by rw [hh]
    have hlen : (bytesO (l.take i)).length ≤ 71 * i := by
      have h := bytesO_len hok
      rw [List.length_take, Nat.min_eq_left (by omega)] at h
      exact h
    have hvn := vint_le (n := ((n : Nat) : Int)) ⟨by omega, by omega⟩
    have k10 : (i : Int) < (n : Int) := by omega
    have k11 : (0 : Int) ≤ (i : Int) := by omega
    have stop : ∀ (h : List Bool) (ob : List Prop), endV (List.range 1 ++ []) (rndO 0 h l n c (vint ((n : Nat) : Int) ++ bytesO (l.take i)) i) = some (.tup [.one .nils, .one (.int .i64 109)], [roO l], ob) → allP ob →
        Step Try.prog (callO 4) effO FO LO.1 LO.2 1 (fun i h => TO l n c (vint ((n : Nat) : Int) ++ bytesO (l.take i)) i h) (fun i => i ≤ n ∧ (l.take i).all rowOk = true) (fun i => n - i) nilO [roO l] i := by
      intro h ob hr hob
      exact .stop h [] 0 100000 [] _ _ _ hr hob ndG nilO_le ⟨⟨fun h => h, rfl, rfl⟩, trivial⟩
    by_cases hr : rightR2 (l.getD i []) = true
    · have hr' := hr
      unfold rightR2 at hr'
      by_cases hneg : 0 ≤ (l.getD i []).getD 0 0 ∧ 0 ≤ (l.getD i []).getD 1 0
      · have k3 : decide ((if (l.getD i []).getD 1 0 < (l.getD i []).getD 0 0 then (l.getD i []).getD 1 0 else (l.getD i []).getD 0 0) < 0) = false := decide_eq_false fun h => (mn_neg _ _).1 h hneg
        by_cases hP : 1073741824 < (l.getD i []).getD 0 0
        · exact stop _ _ (app orF2) ⟨decide_eq_true hP, k3, hr', hd, hil, k11, k10, decide_eq_true k10, trivial⟩
        · by_cases hS : 1099511627776 < (l.getD i []).getD 1 0
          · exact stop _ _ (app orF3) ⟨decide_eq_true hS, decide_eq_false hP, k3, hr', hd, hil, k11, k10, decide_eq_true k10, trivial⟩
          · have hrow : rowOk (l.getD i []) = true := by
              unfold rowOk
              rw [hr, Bool.true_and]
              exact decide_eq_true ⟨hneg.1, hneg.2, by omega, by omega⟩
            have q := app orR
            have e0 : IntKind.wrap .u64 ((l.getD i []).getD 0 0) = (l.getD i []).getD 0 0 := w64 hneg.1 (by omega)
            have e1 : IntKind.wrap .u64 ((l.getD i []).getD 1 0) = (l.getD i []).getD 1 0 := w64 hneg.2 (by omega)
            have hv0 := vint_le (n := (l.getD i []).getD 0 0) ⟨by omega, by omega⟩
            have hv1 := vint_le (n := (l.getD i []).getD 1 0) ⟨by omega, by omega⟩
            have hcl : (cmdR (l.getD i [])).length ≤ 41 := cmdB_len hr
            have hstep : vint ((n : Nat) : Int) ++ bytesO (l.take (i + 1)) = vint ((n : Nat) : Int) ++ bytesO (l.take i) ++ vint ((l.getD i []).getD 0 0) ++ vint ((l.getD i []).getD 1 0) ++ vint (((cmdR (l.getD i [])).length : Nat) : Int) ++ cmdR (l.getD i []) := by
              rw [take_row hil, bytesO_app]
              show _ ++ (_ ++ (rowB (l.getD i []) ++ [])) = _
              rw [List.append_nil]
              unfold rowB
              simp only [List.append_assoc]
            have hlo : (vint ((n : Nat) : Int) ++ bytesO (l.take i)).length ≤ 80000 := by rw [List.length_append]; omega
            simp only [e0, e1, List.take_length] at q
            unfold cmdR at hstep hcl
            have fin : ∀ out' : List Int, vint ((n : Nat) : Int) ++ bytesO (l.take (i + 1)) = out' → leSlots (List.range 1 ++ [6]) [(4, bsl 6 out'.length out'.length), (16, slO 0 n c), (17, si .i64 n), (18, si .i64 ((i : Int) + 1))] (TO l n c (vint ((n : Nat) : Int) ++ bytesO (l.take (i + 1))) (i + 1) []).sl ∧
                leBs (List.range 1 ++ [6]) [roO l, owB out'] (TO l n c (vint ((n : Nat) : Int) ++ bytesO (l.take (i + 1))) (i + 1) []).m := by
              intro out' ho
              rw [ho]
              refine ⟨?_, ?_⟩
              · simp [TO, bsl, slO, leSlots, leV, leV1, leC, si, List.range, List.range.loop, N.v, hc]
              · simp [TO, leBs, leB, leCells, roO, owB]
            have hnext : (l.take (i + 1)).all rowOk = true := by
              rw [take_row hil, List.all_append, hok, List.all_cons, hrow]; rfl
            refine .round [true, true, false, false, false] [] _ _ [4, 16, 17, 18] [6] _ _ _ (i + 1) q ?_ ⟨ndO, (fin _ hstep).1, (fin _ hstep).2⟩ ⟨hlt, hnext⟩ (by omega)
            clear fin hstep hall q qE hnext stop app
            generalize (l.getD i []).getD 0 0 = P at *
            generalize (l.getD i []).getD 1 0 = Sq at *
            generalize cmdB ((l.getD i []).getD 2 0) ((l.getD i []).getD 3 0) ((l.getD i []).getD 4 0) ((l.getD i []).getD 5 0) ((l.getD i []).getD 6 0) = CM at *
            generalize vint ((n : Nat) : Int) ++ bytesO (l.take i) = out at *
            have k1 : (out ++ vint P).length ≤ 80010 := by rw [List.length_append]; omega
            have k2 : (out ++ vint P ++ vint Sq).length ≤ 80020 := by rw [List.length_append]; omega
            have k4 : (-9223372036854775808 : Int) ≤ (i : Int) + 1 ∧ (i : Int) + 1 ≤ 9223372036854775807 := by omega
            have k5 : (out ++ vint P ++ vint Sq).length + CM.length + 20 ≤ 140737488355328 := by omega
            have k6 : (out ++ vint P).length + 10 ≤ 140737488355328 := by omega
            have k7 : out.length + 10 ≤ 140737488355328 := by omega
            have k8 : u64 P := ⟨hneg.1, by omega⟩
            have k9 : u64 Sq := ⟨hneg.2, by omega⟩
            have k12 : decide (1099511627776 < Sq) = false := decide_eq_false (by omega)
            have k13 : decide (1073741824 < P) = false := decide_eq_false (by omega)
            repeat' (first | exact allO_nil | refine allO_cons ?_ ?_)
            all_goals first | exact Eq.refl _ | exact k3 | exact k4 | exact k5 | exact k6 | exact k7 | exact k8 | exact k9 | exact k10 | exact k11 | exact k12 | exact k13 | exact hr' | exact hd | exact hil | exact Nat.le_refl _ | exact decide_eq_true k10
      · exact stop _ _ (app orF1) ⟨decide_eq_true ((mn_neg _ _).2 hneg), hr', hd, hil, k11, k10, decide_eq_true k10, trivial⟩
    · exact stop _ _ (app orF0) ⟨by unfold rightR2 at hr; exact Bool.eq_false_iff.2 hr, hd, hil, k11, k10, decide_eq_true k10, trivial⟩
theorem ord_works (l : List (List Int)) (n c : Nat) (hn : n ≤ l.length) (hw : wfO l) : Works Try.prog 15 [slO 0 n c] [roO l] (tupO 1 (ordS (l.take n)).1.length (ordS (l.take n)).2) [roO l, owB (ordS (l.take n)).1] := by
  have hl : (l.take n).length = n := by rw [List.length_take]; omega
  by_cases hb : 1000 < n
  · have e : ordS (l.take n) = ([], 109) := by unfold ordS; rw [if_pos (.inl (by omega))]
    rw [e]
    exact ghost_slice (works_of (r := []) tabO_ok (congrFun (congrFun (congrFun orBig l) n) c) ⟨decide_eq_true (by omega), trivial⟩ ndG nilO_le ⟨⟨fun h => h, rfl, rfl⟩, trivial⟩)
  · cases ha : (l.take n).all rowOk with
    | true =>
      have e : ordS (l.take n) = (vint ((n : Nat) : Int) ++ bytesO (l.take n), 0) := by
        unfold ordS; rw [if_neg (fun h => by rcases h with h | h; omega; rw [ha] at h; cases h), hl]
      rw [e]
      exact ord_yes l n c hn hw (by omega) ha
    | false =>
      have e : ordS (l.take n) = ([], 109) := by unfold ordS; rw [if_pos (.inr ha)]
      rw [e]
      exact ghost_slice (ord_no l n c hn hw (by omega) ha)
def gOrd : Sx.Loc := fun args bs => match args, bs with
  | [.v (.one (.slice 0 (.c 0) 7 (.s n) (.s _)))], [⟨false, .recs ks l⟩] => match decide (ks = ksO) with
    | true => some (tupO 1 (ordS (l.take n)).1.length (ordS (l.take n)).2, [roO l, owB (ordS (l.take n)).1], [n ≤ l.length, wfO l])
    | false => none
  | _, _ => none
def wantO : List V → List Want
  | .v (.one (.slice _ _ _ _ _)) :: _ => [(false, .recs ksO)]
  | _ => []
theorem ord_tab : TabOk Try.prog 15 (loc wantO gOrd) := loc_ok fun xs bs v bs' ob hg hob hokb => by
  unfold gOrd at hg
  split at hg
  · rename_i n c ks l
    split at hg
    · rename_i hk
      injection hg with hg; injection hg with e1 e2; injection e2 with e2 e3
      subst e1; subst e2; subst e3
      have hk' : ks = ksO := of_decide_eq_true hk
      subst hk'
      exact ord_works l n c (hob _ (by simp)) (hob (wfO l) (by simp))
    · cases hg
  · cases hg
end Go.Proofs.Ytgkhbhddmafakaa
