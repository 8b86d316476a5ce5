/- BytesBack: the loops that get. -/
import Derived.Test.YtjjjpflnhagfcaaWbB
namespace Go.Proofs.Ytjjjpflnhagfcaa
open Go.ChangeShapes Go.WideShapes Go.ChangeAt Go.RowKit Go.Sx
theorem tabWb_ok : ∀ f g, tabWb f = some g → TabOk Try.prog f g := tabs_ok fun x hx => by
  simp only [List.mem_cons, List.not_mem_nil, or_false] at hx
  rcases hx with rfl | rfl | rfl | rfl | rfl | rfl | rfl | rfl | rfl
  · exact yes_ok no_tabs awake_run
  · exact uint_tab
  · exact int_tab
  · exact blob_tab
  · exact seal_tab
  · exact unseal_tab
  · exact get_tab
  · exact geti_tab
  · exact getb_tab
theorem callWb_ok (d : Nat) : CallOk Try.prog (callWb d) := callN_sound tabWb_ok d
theorem funW : Try.prog.funcs[10]? = some fnW := by kernel_rfl
theorem bodW : fnW.body = some (bodyF 10) := by kernel_rfl
theorem tmpW : 3 ≤ fnW.ntmps := Nat.le_of_ble_eq_true (by kernel_rfl)
def EndW (W : World) : Ending → World → Prop := fun e w' => e = .returned (.bool true) ∧ Below W.heap.size W w'
theorem keptW {W w' : World} (h : Kept (uptoN W) W w') : Below W.heap.size W w' := ⟨h.os, h.tape, h.output, h.size, h.block⟩
theorem ap8I {α β γ δ ε ζ η θ : Type} {κ : Type} {f g : α → β → γ → δ → ε → ζ → η → θ → κ} (h : f = g) (a : α) (b : β) (c : γ) (d : δ) (e : ε) (x : ζ) (y : η) (z : θ) : f a b c d e x y z = g a b c d e x y z := by rw [h]
theorem ap9I {ω α β γ δ ε ζ η θ : Type} {κ : Type} {f g : ω → α → β → γ → δ → ε → ζ → η → θ → κ} (h : f = g) (o : ω) (a : α) (b : β) (c : γ) (d : δ) (e : ε) (x : ζ) (y : η) (z : θ) : f o a b c d e x y z = g o a b c d e x y z := by rw [h]
/-- what a round of the inner loop stands on -/
structure At (B E : List Int) (R : Rws) (n j k : Nat) (t : List Int) : Prop where
  jr : j < R.length
  je : j + 1 < E.length
  nb : n ≤ B.length
  bb : B.length ≤ 2000
  wf : wfB B
  e0 : E.getD j 0 = (k : Int)
  e1 : E.getD (j + 1) 0 = ((k + (encR (R.getD j ([], []))).length : Nat) : Int)
  dr : B.drop k = encR (R.getD j ([], [])) ++ t
  kn : k ≤ n
  ok : okR (R.getD j ([], []))
  rl : R.length ≤ 25
section
variable {B E : List Int} {R : Rws} {n j k : Nat} {t : List Int}
theorem At.mn (h : At B E R n j k t) : (if (n : Int) < E.getD j 0 then (n : Int) else E.getD j 0) = (k : Int) := by
  have := h.kn; have := h.e0
  split <;> omega
theorem j1 (j : Nat) : Int.toNat ((j : Int) + 1) = j + 1 := by omega
end
def obI (B E : List Int) (R : Rws) (n j : Nat) (got : Int × Int) (K : List Prop) : Prop := True
theorem sameU {x : List Int} : (!List.map (fun (n : Int) => UInt8.ofNat (Int.toNat n)) x == List.map (fun (n : Int) => UInt8.ofNat (Int.toNat n)) x) = false := by simp
section
variable {ρ0 : Env} {Wd : World} {l : Rws} {a B E : List Int} {R : Rws}
theorem leTI (o : Int) (l : Rws) (a B E : List Int) (R : Rws) {n K : Nat} (j : Nat) (h1 : n ≤ B.length) (h2 : K ≤ B.length) : leSlots [0, 1, 2, 3, 4] (TI o l a B E R n K j []).sl (TI o l a B E R n K j []).sl ∧ leBs [0, 1, 2, 3, 4] (TI o l a B E R n K j []).m (TI o l a B E R n K j []).m := by
  constructor
  · simp [TI, leSlots, leV, leV1, leL, leC, si, rsl, isl, csl, N.v, h1, h2]
  · simp [TI, leBs, leB, leCells, leL, leC, rr, orr, roB, owB, oiI, N.v]
theorem wi_round {o : Int} {n K j k : Nat} {t : List Int} (hρ : ρ0.length = 2) (h : At B E R n j k t) (hK : K ≤ B.length) (hn : k + (encR (R.getD j ([], []))).length ≤ n)
    (hk : ∀ ρ' a' w, RelD [] (ρ0 ++ ρ') (uptoN Wd) Wd fnW.ntmps (TI o l a B E R n K (j + 1) []) a' w → Goes Try.prog 10 (EndW Wd) KI a' w)
    {ρ' : Env} {ac : Act} {w : World} (hr : RelD [] (ρ0 ++ ρ') (uptoN Wd) Wd fnW.ntmps (TI o l a B E R n K j []) ac w) : Goes Try.prog 10 (EndW Wd) (.code LI.1 :: KI) ac w := by
  have hm := h.mn
  obtain ⟨d1, d2, d3⟩ := h.ok
  have hj1 := j1 j
  have hsl := sealS_len (R.getD j ([], [])).2
  obtain ⟨jr, je, nb, bb, wf, e0, e1, dr, kn, ok, rl⟩ := h
  have hu40 : u64 (((R.getD j ([], [])).2.length : Nat) : Int) := ⟨by omega, by omega⟩
  have hi40 : i64 (((R.getD j ([], [])).2.length : Nat) : Int) := ⟨by omega, by omega⟩
  have hi44 : i64 ((((R.getD j ([], [])).2.length : Nat) : Int) + 4) := ⟨by omega, by omega⟩
  have hlt := leTI o l a B E R (j + 1) nb hK
  by_cases k0 : kdR (R.getD j ([], [])) = 0
  · have ee : encR (R.getD j ([], [])) = vint ((R.getD j ([], [])).1.getD 1 0) := by unfold encR; rw [if_pos k0]
    rw [ee] at dr e1 hn
    have g := getU_put dr d3 hn
    have q := ap9I wbI0 o l a B E R n K j
    simp only [hm, g, hj1, e1] at q
    refine goes_stop (ρ0 := ρ0) (r := [2, 3, 4]) (T := TI o l a B E R n K (j + 1) []) (S := TI o l a B E R n K j [true, true, false, false, false, false]) (callWb_ok 9) funW (by rw [hρ]; exact q) ?_ ⟨by rw [hρ]; decide, by rw [hρ]; exact hlt.1, by rw [hρ]; exact hlt.2⟩ hk ⟨hr.sl, hr.m⟩
    unfold kdR at k0
    simp only [allP, k0]
    ((repeat' (first | exact trivial | assumption | refine And.intro ?_ ?_)) <;> first | omega | exact decide_eq_true (by omega) | exact decide_eq_false (by omega) | simp | (simp; omega))
  by_cases k1 : kdR (R.getD j ([], [])) = 1
  · have ee : encR (R.getD j ([], [])) = svint (IntKind.wrap .i64 ((R.getD j ([], [])).1.getD 1 0)) := by unfold encR; rw [if_neg k0, if_pos k1]
    rw [ee] at dr e1 hn
    have g := getI_put dr (wrapI_i64 _) hn
    have q := ap9I wbI1 o l a B E R n K j
    simp only [hm, g, hj1, e1] at q
    refine goes_stop (ρ0 := ρ0) (r := [2, 3, 4]) (T := TI o l a B E R n K (j + 1) []) (S := TI o l a B E R n K j [true, false, true, false, false, false, false]) (callWb_ok 9) funW (by rw [hρ]; exact q) ?_ ⟨by rw [hρ]; decide, by rw [hρ]; exact hlt.1, by rw [hρ]; exact hlt.2⟩ hk ⟨hr.sl, hr.m⟩
    unfold kdR at k1
    simp only [allP, k1]
    ((repeat' (first | exact trivial | assumption | refine And.intro ?_ ?_)) <;> first | omega | exact decide_eq_true (by omega) | exact decide_eq_false (by omega) | simp | (simp; omega))
  by_cases k2' : kdR (R.getD j ([], [])) = 2
  · have ee : encR (R.getD j ([], [])) = vint (((R.getD j ([], [])).2.length : Nat) : Int) ++ (R.getD j ([], [])).2 := by unfold encR; rw [if_neg k0, if_neg k1, if_pos k2']
    rw [ee, List.length_append] at e1 hn
    rw [ee, List.append_assoc] at dr
    rw [← Nat.add_assoc] at e1 hn
    have g := getB_put dr (Int.le_refl _) (by omega) hn
    have q := ap9I wbI2 o l a B E R n K j
    simp only [hm, g, hj1, e1] at q
    refine goes_stop (ρ0 := ρ0) (r := [2, 3, 4]) (T := TI o l a B E R n K (j + 1) []) (S := TI o l a B E R n K j [true, false, false, true, true, true, false, false, false, false]) (callWb_ok 9) funW (by rw [hρ]; exact q) ?_ ⟨by rw [hρ]; decide, by rw [hρ]; exact hlt.1, by rw [hρ]; exact hlt.2⟩ hk ⟨hr.sl, hr.m⟩
    unfold kdR at k2'
    simp only [allP, k2']
    ((repeat' (first | exact trivial | assumption | refine And.intro ?_ ?_)) <;> first | omega | exact decide_eq_true (by omega) | exact decide_eq_false (by omega) | simp | (simp; omega))
  · have ee : encR (R.getD j ([], [])) = vint (((sealS (R.getD j ([], [])).2).length : Nat) : Int) ++ sealS (R.getD j ([], [])).2 := by unfold encR; rw [if_neg k0, if_neg k1, if_neg k2']
    rw [ee, List.length_append] at e1 hn
    rw [ee, List.append_assoc] at dr
    rw [← Nat.add_assoc] at e1 hn
    have hw4 := sealS_wf d2
    have g := getB_put (m := (((R.getD j ([], [])).2.length : Nat) : Int) + 4) dr (by omega) (by omega) hn
    have hus := unseal_seal (R.getD j ([], [])).2
    have q := ap9I wbI3 o l a B E R n K j
    simp only [hm, g, hj1, e1, List.take_length, hus] at q
    refine goes_stop (ρ0 := ρ0) (r := [2, 3, 4]) (T := TI o l a B E R n K (j + 1) []) (S := TI o l a B E R n K j [true, false, false, false, false, true, true, false, false, false, false]) (callWb_ok 9) funW (by rw [hρ]; exact q) ?_ ⟨by rw [hρ]; decide, by rw [hρ]; exact hlt.1, by rw [hρ]; exact hlt.2⟩ hk ⟨hr.sl, hr.m⟩
    unfold kdR at k0 k1 k2'
    simp only [allP]
    ((repeat' (first | exact trivial | assumption | refine And.intro ?_ ?_)) <;> first | omega | exact decide_eq_true (by omega) | exact decide_eq_false (by omega) | simp | (simp; omega))
theorem wi_break {n K j k : Nat} {t : List Int} (hρ : ρ0.length = 2) (h : At B E R n j k t) (hn : n < k + (encR (R.getD j ([], []))).length)
    {ρ' : Env} {ac : Act} {w : World} (hr : RelD [] (ρ0 ++ ρ') (uptoN Wd) Wd fnW.ntmps (TI 1 l a B E R n K j []) ac w) : Goes Try.prog 10 (EndW Wd) (.code LI.1 :: KI) ac w := by
  have hm := h.mn
  obtain ⟨d1, d2, d3⟩ := h.ok
  have hj1 := j1 j
  have hsl := sealS_len (R.getD j ([], [])).2
  obtain ⟨jr, je, nb, bb, wf, e0, e1, dr, kn, ok, rl⟩ := h
  have hi40 : i64 (((R.getD j ([], [])).2.length : Nat) : Int) := ⟨by omega, by omega⟩
  have hi44 : i64 ((((R.getD j ([], [])).2.length : Nat) : Int) + 4) := ⟨by omega, by omega⟩
  by_cases k0 : kdR (R.getD j ([], [])) = 0
  · have ee : encR (R.getD j ([], [])) = vint ((R.getD j ([], [])).1.getD 1 0) := by unfold encR; rw [if_pos k0]
    rw [ee] at dr e1 hn
    have g := getU_cut dr d3 kn hn
    have q := ap8I wbJ0 l a B E R n K j
    simp only [hm, g, hj1, e1] at q
    refine goes_true (callWb_ok 9) funW q ?_ (fun w' h => ⟨rfl, keptW h⟩) (ρ0 := ρ0) ⟨hr.sl, hr.m⟩
    unfold kdR at k0
    simp only [allP, k0]
    ((repeat' (first | exact trivial | assumption | refine And.intro ?_ ?_)) <;> first | omega | exact decide_eq_true (by omega) | exact decide_eq_false (by omega) | simp | (simp; omega))
  by_cases k1 : kdR (R.getD j ([], [])) = 1
  · have ee : encR (R.getD j ([], [])) = svint (IntKind.wrap .i64 ((R.getD j ([], [])).1.getD 1 0)) := by unfold encR; rw [if_neg k0, if_pos k1]
    rw [ee] at dr e1 hn
    have g := getI_cut dr (wrapI_i64 _) kn hn
    have q := ap8I wbJ1 l a B E R n K j
    simp only [hm, g, hj1, e1] at q
    refine goes_true (callWb_ok 9) funW q ?_ (fun w' h => ⟨rfl, keptW h⟩) (ρ0 := ρ0) ⟨hr.sl, hr.m⟩
    unfold kdR at k1
    simp only [allP, k1]
    ((repeat' (first | exact trivial | assumption | refine And.intro ?_ ?_)) <;> first | omega | exact decide_eq_true (by omega) | exact decide_eq_false (by omega) | simp | (simp; omega))
  by_cases k2' : kdR (R.getD j ([], [])) = 2
  · have ee : encR (R.getD j ([], [])) = vint (((R.getD j ([], [])).2.length : Nat) : Int) ++ (R.getD j ([], [])).2 := by unfold encR; rw [if_neg k0, if_neg k1, if_pos k2']
    rw [ee, List.length_append] at e1 hn
    rw [ee, List.append_assoc] at dr
    rw [← Nat.add_assoc] at e1 hn
    have g := getB_cut dr (Int.le_refl _) (by omega) kn hn
    have q := ap8I wbJ2 l a B E R n K j
    simp only [hm, g, hj1, e1] at q
    refine goes_true (callWb_ok 9) funW q ?_ (fun w' h => ⟨rfl, keptW h⟩) (ρ0 := ρ0) ⟨hr.sl, hr.m⟩
    unfold kdR at k2'
    simp only [allP, k2']
    ((repeat' (first | exact trivial | assumption | refine And.intro ?_ ?_)) <;> first | omega | exact decide_eq_true (by omega) | exact decide_eq_false (by omega) | simp | (simp; omega))
  · have ee : encR (R.getD j ([], [])) = vint (((sealS (R.getD j ([], [])).2).length : Nat) : Int) ++ sealS (R.getD j ([], [])).2 := by unfold encR; rw [if_neg k0, if_neg k1, if_neg k2']
    rw [ee, List.length_append] at e1 hn
    rw [ee, List.append_assoc] at dr
    rw [← Nat.add_assoc] at e1 hn
    have g := getB_cut (m := (((R.getD j ([], [])).2.length : Nat) : Int) + 4) dr (by omega) (by omega) kn hn
    have q := ap8I wbJ3 l a B E R n K j
    simp only [hm, g, hj1, e1] at q
    refine goes_true (callWb_ok 9) funW q ?_ (fun w' h => ⟨rfl, keptW h⟩) (ρ0 := ρ0) ⟨hr.sl, hr.m⟩
    unfold kdR at k0 k1 k2'
    simp only [allP]
    ((repeat' (first | exact trivial | assumption | refine And.intro ?_ ?_)) <;> first | omega | exact decide_eq_true (by omega) | exact decide_eq_false (by omega) | simp | (simp; omega))
theorem getD_mem {α : Type} {l : List α} {i : Nat} {d : α} (h : i < l.length) : l.getD i d ∈ l := by
  rw [List.getD_eq_getElem?_getD, List.getElem?_eq_getElem h]; exact List.getElem_mem h
theorem at_of {n j : Nat} (c : Chain a B E R) (hR : R.length ≤ 25) (hB : B.length ≤ 2000) (hj : j < R.length) (hn : n ≤ B.length) (he : E.getD j 0 ≤ (n : Int)) : ∃ k t, At B E R n j k t := by
  obtain ⟨k, t, k1, k2, k3, k4, k5⟩ := c.at_ j hj
  exact ⟨k, t, hj, by have := c.eE; omega, hn, hB, c.wf, k1, k2, k3, by omega, c.ok _ (getD_mem hj), hR⟩
theorem wi_one {K : Nat} (hρ : ρ0.length = 2) (c : Chain a B E R) (hR : R.length ≤ 25) (hB : B.length ≤ 2000) (hK : K ≤ B.length) (hKa : a.length ≤ K)
    {ρ' : Env} {ac : Act} {w : World} (hr : RelD [] (ρ0 ++ ρ') (uptoN Wd) Wd fnW.ntmps (TI 1 l a B E R K K 0 []) ac w) : Goes Try.prog 10 (EndW Wd) EI ac w := by
  refine goes_loop (ρ0 := ρ0) (fun j : Nat => TI 1 l a B E R K K j []) (fun j => j ≤ R.length ∧ E.getD j 0 ≤ (K : Int)) (fun j => R.length - j) ?_ ⟨Nat.zero_le _, by rw [c.e0]; omega⟩ hr
  intro j hg ρ' ac w hri ih
  by_cases hj : j < R.length
  · obtain ⟨k, t, h⟩ := at_of c hR hB hj hK hg.2
    by_cases hn : k + (encR (R.getD j ([], []))).length ≤ K
    · exact wi_round hρ h hK hn (fun ρ' a' w hh => ih (j + 1) ⟨hj, by rw [h.e1]; omega⟩ (by omega) ρ' a' w hh) hri
    · exact wi_break hρ h (by omega) hri
  · have e : ¬ ((j : Int) < (R.length : Int)) := by omega
    refine goes_true (callWb_ok 9) funW (S := TI 1 l a B E R K K j [false]) (ap8I wbIx l a B E R K K j) ?_ (fun w' h => ⟨rfl, keptW h⟩) (ρ0 := ρ0) ⟨hri.sl, hri.m⟩
    exact ⟨decide_eq_false e, trivial⟩
theorem wi_zero {K : Nat} (hρ : ρ0.length = 2) (c : Chain a B E R) (hR : R.length ≤ 25) (hB : B.length ≤ 2000) (hK : K ≤ B.length) (hKa : a.length ≤ K)
    {ρ' : Env} {ac : Act} {w : World} (hr : RelD [] (ρ0 ++ ρ') (uptoN Wd) Wd fnW.ntmps (TI 0 l a B E R B.length K 0 []) ac w) : Goes Try.prog 10 (EndW Wd) EI ac w := by
  refine goes_loop (ρ0 := ρ0) (fun j : Nat => TI 0 l a B E R B.length K j []) (fun j => j ≤ R.length) (fun j => R.length - j) ?_ (Nat.zero_le _) hr
  intro j hg ρ' ac w hri ih
  by_cases hj : j < R.length
  · obtain ⟨k0, t0, q1, q2, q3, q4, q5⟩ := c.at_ j hj
    obtain ⟨k, t, h⟩ := at_of (n := B.length) c hR hB hj (Nat.le_refl _) (by omega)
    have he := h.e0
    exact wi_round hρ h hK (by omega) (fun ρ' a' w hh => ih (j + 1) hj (by omega) ρ' a' w hh) hri
  · have e : ¬ ((j : Int) < (R.length : Int)) := by omega
    refine goes_stop (ρ0 := ρ0) (r := [2, 3, 4]) (T := TI 1 l a B E R K K 0 []) (S := TI 0 l a B E R B.length K j [false]) (callWb_ok 9) funW (by rw [hρ]; exact ap8I wbIn l a B E R B.length K j) ?_
      ⟨by rw [hρ]; decide, ?_, ?_⟩ (fun ρ' a' w hh => wi_one hρ c hR hB hK hKa hh) ⟨hri.sl, hri.m⟩
    · exact ⟨decide_eq_false e, trivial⟩
    · rw [hρ]
      simp [TI, leSlots, leV, leV1, leL, leC, si, rsl, isl, csl, N.v, hK, List.range, List.range.loop]
    · rw [hρ]
      simp [TI, leBs, leB, leCells, leL, leC, rr, orr, roB, owB, oiI, N.v, List.range, List.range.loop]
end
end Go.Proofs.Ytjjjpflnhagfcaa
