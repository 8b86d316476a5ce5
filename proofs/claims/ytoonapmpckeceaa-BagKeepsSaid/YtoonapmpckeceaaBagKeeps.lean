/- BagKeeps is true of any two bags and any four numbers, and leaves its arguments as they were. -/
import Derived.Test.YtoonapmpckeceaaBagKC
import Derived.Test.YtoonapmpckeceaaBagRoom
namespace Go.Proofs.Ytoonapmpckeceaa
open Go.ChangeShapes Go.WideShapes Go.ChangeAt Go.RowKit Go.Sx
theorem agg4 {l : List Int} (h : wfRow [.i64, .i64, .i64, .i64] l) : ∃ x y z w, l = [x, y, z, w] ∧ i64 x ∧ i64 y ∧ i64 z ∧ i64 w := by
  match l, h with
  | [x, y, z, w], ⟨h0, h1, h2, h3, _⟩ => exact ⟨x, y, z, w, rfl, wf64 h0, wf64 h1, wf64 h2, wf64 h3⟩
theorem putS_lf (l : Rows2) (x n : Int) : 0 ≤ (putS l x n).2 ∧ ((putS l x n).2 ≤ n ∨ (putS l x n).2 = 0) := by
  unfold putS
  by_cases h1 : n < 1
  · rw [if_pos h1]; exact ⟨Int.le_refl _, .inr rfl⟩
  · rw [if_neg h1]
    split
    · exact ⟨by simp only; omega, .inl (Int.le_refl _)⟩
    · have hA := fill_left (p := pA x) (x := x) (size := stackT x) (l := l) (n := n) (by omega)
      have hB := fill_left (p := pB) (x := x) (size := stackT x) (l := (fill (pA x) x (stackT x) l n).1) hA.1
      exact ⟨hB.1, .inl (Int.le_trans hB.2 hA.2)⟩
theorem cnt_ub (x : Int) : ∀ (l : Rows2), l.all okR = true → cnt x l ≤ 16 * l.length
  | [], _ => by show (0 : Int) ≤ _; simp
  | r :: t, h => by
    rw [List.all_cons, Bool.and_eq_true] at h
    have ih := cnt_ub x t h.2
    have hb := okR_bd h.1
    have e : cntR x r ≤ 16 := by
      rw [cntR_un]; split
      · omega
      · split
        · split <;> omega
        · omega
    rw [cnt1, List.length_cons]
    omega
theorem cnt_zero (l : Rows2) : cnt 0 l = 0 := by
  induction l with
  | nil => rfl
  | cons r t ih => rw [cnt1, ih, cntR_un, if_pos rfl]; rfl
theorem stack_pos {x : Int} (h0 : 0 ≤ x) (h1 : x < 15) : stackT x ≠ 0 ↔ (x ≠ 0 ∧ x ≤ 12) := by
  have : ∀ n : Nat, n < 15 → (stackT (n : Int) ≠ 0 ↔ ((n : Int) ≠ 0 ∧ (n : Int) ≤ 12)) := by decide
  have e : ((x.toNat : Nat) : Int) = x := by omega
  rw [← e]
  exact this x.toNat (by omega)
theorem cnt_bd {x : Int} {l : Rows2} (hw : wfL l) (h : l.all okR = true) : 0 ≤ cnt x l ∧ cnt x l ≤ 6400 := by
  have h1 := cnt_ub x l h
  have h2 := hw.2
  exact ⟨cnt_nn x l, by omega⟩
theorem keep_facts {l k : Rows2} {i x1 x2 x3 : Int} (hw : wfL l) (hr : l.all okR = true) (hwk : wfL k) (hrk : k.all okR = true) (hi : 0 ≤ i ∧ i < 256) (h1 : i64 x1) :
    KFacts l k (putS l i x1).1 (takeS l x2 x3).1 (spendS l i x1).1 (allS l k).1 x1 i (putS l i x1).2 (takeS l x2 x3).2.1.1 (takeS l x2 x3).2.1.2 (takeS l x2 x3).2.2 (spendS l i x1).2 (allS l k).2 := by
  have wa := putS_wf (n := x1) hw hi
  have oa := putS_ok (x := i) (n := x1) hr
  have la := putS_len l i x1
  have lf := putS_lf l i x1
  obtain ⟨ob, wb, lb, _, tn, tk⟩ := takeS_spec (a := x2) (n := x3) hw hr
  have wc := spendS_wf (x := i) (n := x1) hw
  have lc := spendS_len l i x1
  obtain ⟨oc, _, _, sn, sk⟩ := spendS_spec (x := i) (n := x1) hw hr
  obtain ⟨od, wd, ld, an, ak⟩ := allS_spec hr hw hrk hwk
  refine ⟨⟨hw, hwk, wa, wb, wc, wd⟩, ⟨hr, hrk, oa, ob, oc, od⟩, ⟨la.symm, lb.symm, lc.symm, ld.symm⟩, fun x => ⟨cnt_bd hw hr, cnt_bd hwk hrk, cnt_bd wa oa, cnt_bd wb ob, cnt_bd wc oc, cnt_bd wd od⟩, h1.2, ⟨lf.1, fun h => by rcases lf.2 with h2 | h2 <;> omega⟩, ?_, ?_, ?_, ?_, ?_⟩
  · constructor
    · intro h0
      obtain ⟨_, _, a3, _, a5, _⟩ := tk h0
      rw [a5]; exact a3
    · intro h0
      refine Classical.byContradiction fun hne => ?_
      rw [(tn hne).2] at h0
      exact absurd h0 (by decide)
  · intro x hx0 hx1
    by_cases hp : x1 < 1
    · have e : putS l i x1 = (l, 0) := by unfold putS; rw [if_pos hp]
      rw [e]
      exact ⟨fun h => absurd h.2.1 (by omega), fun _ => rfl⟩
    · by_cases hs : stackT i = 0
      · have e : putS l i x1 = (l, x1) := by unfold putS; rw [if_neg hp, if_pos (.inl hs)]
        rw [e]
        refine ⟨fun h => ?_, fun _ => rfl⟩
        obtain ⟨e1, _, e3, e4⟩ := h
        subst e1
        exact absurd hs ((stack_pos hx0 hx1).2 ⟨e3, e4⟩)
      · obtain ⟨_, _, _, p4⟩ := putS_spec (x := i) (n := x1) hr (by omega) hs
        have p := p4 x
        refine ⟨fun h => by rw [p, if_pos h.1], fun h => ?_⟩
        by_cases hxi : x = i
        · subst hxi
          exact absurd ⟨rfl, by omega, ((stack_pos hx0 hx1).1 hs).1, ((stack_pos hx0 hx1).1 hs).2⟩ h
        · rw [p, if_neg hxi]; omega
  · intro x _ _
    by_cases h0 : (takeS l x2 x3).2.2 = 0
    · obtain ⟨_, _, _, _, a5, _, _, _, a9⟩ := tk h0
      have p := a9 x
      rw [a5]
      exact ⟨fun h => by rw [p, if_pos h], fun h => by rw [p, if_neg h]; omega⟩
    · obtain ⟨t1, t2⟩ := tn h0
      rw [t1, t2]
      exact ⟨fun h => absurd h.1 h.2, fun _ => rfl⟩
  · intro x _ _
    by_cases h0 : (spendS l i x1).2 = 0
    · have p := (sk h0).2.2.2 x
      exact ⟨fun h => by rw [p, if_pos h.1], fun h => by rw [p, if_neg (fun q => h ⟨q, h0⟩)]; omega⟩
    · rw [sn h0]
      exact ⟨fun h => absurd h.2 h0, fun _ => rfl⟩
  · intro x _ _
    refine ⟨fun h0 => ?_, fun h0 => by rw [(an h0).2]⟩
    by_cases hx : x = 0
    · subst hx; rw [cnt_zero, cnt_zero, cnt_zero]; rfl
    · exact ak h0 x hx
theorem bagKeeps_calls (l : Rows2) (e : E) (v : Value) (k : Rows2) (e' : E) (v' : Value) (g : List Int) {W0 : World} (r : readOnly W0 (e, ro l)) (w : ∀ r ∈ l, wfRow [.u8, .i64] r) (_m : l.length ≤ maxLen) (u : ∀ (ρ : Env) (b : Nat), ρ[b]? = some e → (V.v (.one (.slice b (.c 0) 2 (.s l.length) (.s l.length)))).rel ρ v)
    (r' : readOnly W0 (e', ro k)) (w' : ∀ r ∈ k, wfRow [.u8, .i64] r) (_m' : k.length ≤ maxLen) (u' : ∀ (ρ : Env) (b : Nat), ρ[b]? = some e' → (V.v (.one (.slice b (.c 0) 2 (.s k.length) (.s k.length)))).rel ρ v')
    (wg : wfRow [.i64, .i64, .i64, .i64] g) (W : World) (hW : W0 = W := by rfl) : Calls Try.prog 6 #[v, v', .agg (ivals [.i64, .i64, .i64, .i64] g).toArray] W fun e w' => e = .returned (.bool true) ∧ Below W.heap.size W w' := by
  subst hW
  obtain ⟨x, y, z, t, rfl, hx, hy, hz, ht⟩ := agg4 wg
  have hm := mem_args (W := W0) [(e, ro l), (e', ro k)] (by intro y hy; simp at hy; rcases hy with rfl | rfl; exact r; exact r')
  have hu : relVs ([(e, ro l), (e', ro k)].map (·.1)) [sl2 0 l, sl2 1 k, ag [x, y, z, t]] [v, v', .agg (ivals [.i64, .i64, .i64, .i64] [x, y, z, t]).toArray] := ⟨_, _, rfl, u _ 0 rfl, _, _, rfl, u' _ 1 rfl, _, _, rfl, ⟨_, rfl, ⟨_, _, rfl, rfl, _, _, rfl, rfl, _, _, rfl, rfl, _, _, rfl, rfl, rfl⟩, by intro q hq; simp [ivals] at hq; rcases hq with rfl | rfl | rfl | rfl <;> rfl⟩, rfl⟩
  have app : ∀ {A : Type} {f g : Rows2 → Rows2 → Int → Int → Int → Int → A}, f = g → f l k x y z t = g l k x y z t := fun h => by rw [h]
  by_cases hl : l.length ≤ 300
  · by_cases hkl : k.length ≤ 300
    · have hw := wfL_of w (by omega)
      have hwk := wfL_of w' (by omega)
      by_cases hr : l.all okR = true
      · by_cases hrk : k.all okR = true
        · have hi : 0 ≤ IntKind.wrap .u8 x ∧ IntKind.wrap .u8 x < 256 := by
            simp [IntKind.wrap, IntKind.signed, IntKind.bits]; omega
          have K := keep_facts (x2 := z) (x3 := t) hw hr hwk hrk hi hy
          have qE := app kgE
          refine calls_goes (ρ0 := [(e, ro l), (e', ro k)].map (·.1)) (m := [ro l, ro k]) (h := []) (ob := []) funK bodK (by exact tmpK) hm hu ?_
          intro ac w1 hrel
          generalize IntKind.wrap .u8 x = i at *
          refine goes_stop (ρ0 := [e, e']) (r := [2, 3, 4, 5, 6, 7]) (T := TK l k (putS l i y).1 (takeS l z t).1 (spendS l i y).1 (allS l k).1 x y z t i (putS l i y).2 (takeS l z t).2.1.1 (takeS l z t).2.1.2 (takeS l z t).2.2 (spendS l i y).2 (allS l k).2 0 []) (S := ⟨argSlots 0 [sl2 0 l, sl2 1 k, ag [x, y, z, t]], [ro l, ro k], [false, false, true, false, true, false, true, false, true, false, true, false, true, false], []⟩) (callL_ok 4) funK qE ?_ ⟨(by decide : ([0, 1, 2, 3, 4, 5, 6, 7] : List Nat).Nodup), ?_, ?_⟩
            (fun ρ' a w hh => keep_loop K hh) ⟨hrel.sl, hrel.m⟩
          · obtain ⟨_, _, wa, wb, wc, wd⟩ := K.w
            obtain ⟨_, _, oa, ob, oc, od⟩ := K.o
            obtain ⟨na, nb, nc, nd⟩ := K.n
            simp [allP, hw, hwk, hr, hrk, wa, wb, wc, wd, oa, ob, oc, od, ← na, ← nb, ← nc, ← nd, hi, hy, hz, ht]
            omega
          · simp [TK, leSlots, leV, leV1, leC, si, sl, sl2, N.v]
          · simp [TK, leBs, leB, leCells, leL, leC, ro, ow]
        · have hrk' : k.all okR = false := by simpa using hrk
          refine law_obs tabL_ok (app kg3) ?_ hm hu
          simp only [allP, hr, hrk']; simp [hw, hwk]; omega
      · have hr' : l.all okR = false := by simpa using hr
        refine law_obs tabL_ok (app kg2) ?_ hm hu
        simp only [allP, hr']; simp [hw]; omega
    · refine law_obs tabL_ok (app kg1) ?_ hm hu
      simp [allP]; omega
  · refine law_obs tabL_ok (app kg0) ?_ hm hu
    simp [allP]; omega

set_option maxRecDepth 100000 in
theorem bagKeeps_lifted (os : Os) (started : os.Started) (H : Type) (enc : TypeId × Value → H) :
    ReturnsInHanded {} Try.checked os 6 .any (Rows.bagKeepsSpec.pre6 enc Try.prog Try.f6 Rows.bagKeepsRow.domain false) (Rows.bagKeepsSpec.post enc Try.prog Try.f6 false true false false) := by
  refine returnsInHanded_of_change (C := Try.checked) own started (by kernel_rfl) Try.func6
    (ChangeSpec.witness6 (enc := enc) (C := Try.checked) false ⟨#[], #[.slice none 0 0, .slice none 0 0, .agg #[.int .i64 0, .int .i64 0, .int .i64 0, .int .i64 0]], []⟩ 8 (by kernel_rfl) (by kernel_rfl) (by kernel_rfl) (by kernel_rfl)) ?_
  intro W base args ds gs before hval0 hW hcnd _
  have hval : ∀ (j : Nat) t v, Try.f6.params[j]? = some t → args[j]? = some v → Value.okWide Try.prog W .any base t v := hval0
  have hW' := hW
  obtain ⟨p, q, hA0, hV, hbef, hfz, hnd⟩ := hW
  have hA : DataW.TrodAll enc Try.prog W 0 (fun _ => true) true Try.f6.params.toList args.toList ds p := hA0
  rw [Try.params6] at hA hval
  obtain ⟨v0, v1, v2, d0, d1, d2, p0, p1, p2, rfl, rfl, hp, h0, h1, h2⟩ := trodAll_three hA
  obtain ⟨a0, e0, r0, w0, m0, u0⟩ := one_rows (ks := [.u8, .i64]) (d := 20) (by kernel_rfl) (hval 0 22 v0 rfl rfl) h0
  obtain ⟨a1, e1, r1, w1, m1, u1⟩ := one_rows (ks := [.u8, .i64]) (d := 20) (by kernel_rfl) (hval 1 22 v1 rfl rfl) h1
  obtain ⟨a2, w2, rfl⟩ := agg_ints (ks := [.i64, .i64, .i64, .i64]) (d := 20) (by kernel_rfl) (hval 2 44 v2 rfl rfl) h2
  refine (bagKeeps_calls a0 e0 v0 a1 e1 v1 a2 r0 w0 m0 u0 r1 w1 m1 u1 w2 W).mono fun e W' ⟨he, hb⟩ => ?_
  subst he
  exact ⟨_, rfl, post_law laidOut (by rw [Try.params6]; decide +kernel) rfl rfl (by kernel_rfl) Try.underlying4 hW' hb⟩

theorem bagKeeps_holds : Rows.BagKeepsSaid :=
  OpenClaim.holds_of_wide 6 Try.f6 rfl rfl rfl rfl rfl rfl rfl ⟨rfl, rfl, rfl, rfl, rfl⟩ rfl rfl rfl rfl rfl (by kernel_rfl) Try.func6 (by kernel_rfl)
    (of_decide_eq_true (by kernel_rfl)) (by unfold Func.isWrapper; first | (rw [if_pos (by decide +kernel)]; kernel_rfl) | (rw [if_neg (by decide +kernel)]; exact ⟨rfl, rfl⟩))
    (fun os started H enc _ => bagKeeps_lifted os started H enc)
#print axioms bagKeeps_holds

end Go.Proofs.Ytoonapmpckeceaa
