/- NetOrder: the loop of those for a node. -/
import Derived.Test.YtjnnfehepbicfaaNoQ
namespace Go.Proofs.Ytjnnfehepbicfaa
open Go.ChangeShapes Go.WideShapes Go.ChangeAt Go.RowKit Go.Sx
section
variable {ρ0 : Env} {Wd : World} {l R S : Rws} {H : Nat → Bool} {i : Nat} {x : Rw}
theorem forget_okO {z : Int} {l : Rws} (q : Int) (h : okN z l) : okN z (forgetS l q) := by
  obtain ⟨h0, h1, h2⟩ := h
  exact ⟨h0, fun r hr => h1 r (List.mem_filter.1 hr).1, Nat.le_trans (List.length_filter_le _ _) h2⟩
theorem row_num (v : InvO R S H i) {q : Nat} (hq : q < R.length) : ∃ k : Nat, k < 90 ∧ (R.getD q ([], [])).2 = [(k : Int)] ∧ H k = true ∧ R.getD q ([], []) = S.getD k ([], []) := by
  have hm : R.getD q ([], []) ∈ R := by rw [List.getD_eq_getElem?_getD, List.getElem?_eq_getElem hq]; exact List.getElem_mem hq
  have hm' : R.getD q ([], []) ∈ lst H S 90 := by rw [← v.eR]; exact hm
  obtain ⟨k, k1, k2, k3⟩ := lst_mem hm'
  exact ⟨k, k1, by rw [k3]; exact v.num k k1 k2, k2, k3⟩
theorem InvO.forget (v : InvO R S H i) (t : Int) (hi : i < 90) : InvO (forgetS R t) S (goH H R t R.length) (i + 1) := by
  refine ⟨by omega, v.s90, ?_, ?_, ?_, ?_⟩
  · have e := v.eR
    have h1 : forgetS R t = forgetS (lst H S 90) t := by rw [← e]
    rw [h1, lst_forget]
    refine lst_congr 90 fun j hj => ⟨?_, fun _ => rfl⟩
    have := goH_end (t := t) v.num j hj
    rw [← e] at this
    rw [this]
  · intro k hk h
    exact v.num k hk ((goH_val H R t k R.length).1 h).1
  · intro k hk h
    exact v.two k hk ((goH_val H R t k R.length).1 h).1
  · intro k hk
    cases e : goH H R t R.length k with
    | false => rfl
    | true =>
      have h1 := ((goH_val H R t k R.length).1 e).1
      rw [v.off k (by omega)] at h1; cases h1
theorem goN_le (R : Rws) (t : Int) : ∀ q, goN R t q ≤ q
  | 0 => Nat.le_refl _
  | q + 1 => by have := goN_le R t q; unfold goN; split <;> omega
theorem no_forget (hρ : ρ0.length = 1) (v : InvO R S H i) (hi : i < 90)
    (hk : ∀ ρ' a' w, RelD [] (ρ0 ++ ρ') (uptoN Wd) Wd FO.ntmps (TC l (forgetS R (x.1.getD 2 0)) S (goH H R (x.1.getD 2 0) R.length) i 0 0 []) a' w → Goes Try.prog 6 (EndS Wd) EC a' w)
    {ρ' : Env} {ac : Act} {w : World} (hr : RelD [] (ρ0 ++ ρ') (uptoN Wd) Wd FO.ntmps (TF l R S H i x 0 0 []) ac w) : Goes Try.prog 6 (EndS Wd) EF ac w := by
  have hlR : R.length ≤ 90 := by rw [v.eR]; exact lst_len_le _ _ _
  have hok := v.ok
  refine goes_loop (ρ0 := ρ0) (fun q : Nat => TF l R S (goH H R (x.1.getD 2 0) q) i x (goN R (x.1.getD 2 0) q) q []) (fun q => q ≤ R.length) (fun q => R.length - q) ?_ (i := 0) (Nat.zero_le _) hr
  intro q hg ρ' ac w hri ih
  have hgn := goN_le R (x.1.getD 2 0) q
  by_cases hq : q < R.length
  · obtain ⟨k, k1, k2, _, _⟩ := row_num v hq
    have hn := hlist_len (goH H R (x.1.getD 2 0) q)
    by_cases ht : (R.getD q ([], [])).1.getD 1 0 = x.1.getD 2 0
    · have eH : goH H R (x.1.getD 2 0) (q + 1) = putH (goH H R (x.1.getD 2 0) q) (idx (R.getD q ([], []))) false := by
        rw [goH, if_pos ht]
      have eN : goN R (x.1.getD 2 0) (q + 1) = goN R (x.1.getD 2 0) q + 1 := by rw [goN, if_pos ht]
      have hd0 : (R.getD q ([], [])).2.getD 0 0 = (k : Int) := by rw [k2]; rfl
      have hdl : (R.getD q ([], [])).2.length = 1 := by rw [k2]; rfl
      have ih' := ih (q + 1) hq (by omega)
      rw [eH, eN] at ih'
      refine goes_stop (ρ0 := ρ0) (r := [1, 2, 3, 4, 5, 6, 7]) (T := TF l R S (putH (goH H R (x.1.getD 2 0) q) (idx (R.getD q ([], []))) false) i x (goN R (x.1.getD 2 0) q + 1) (q + 1) []) (S := TF l R S (goH H R (x.1.getD 2 0) q) i x (goN R (x.1.getD 2 0) q) q [true, true]) (callY_ok 9) funO (by rw [hρ]; exact ap8O noFy l R S (goH H R (x.1.getD 2 0) q) i x (goN R (x.1.getD 2 0) q) q) ?_
        ⟨by rw [hρ]; decide, ?_, ?_⟩ ih' ⟨hri.sl, hri.m⟩
      · exact ⟨⟨by omega, by omega⟩, ⟨by omega, by omega⟩, (show Int.toNat ((R.getD q ([], [])).2.getD 0 0) < (hlist (goH H R (x.1.getD 2 0) q)).length by rw [hn, hd0]; omega), by rw [hd0]; omega, by rw [hd0]; omega, by rw [hdl]; decide, by rw [hdl]; decide, decide_eq_true ht, hq, by omega, by omega, decide_eq_true (by omega), trivial⟩
      · rw [hρ]
        simp [TF, leSlots, leV, leV1, leC, si, rsl, dsl, np, ptO, N.v, List.range, List.range.loop]
      · rw [hρ]
        exact ⟨⟨id, rfl, rfl⟩, ⟨id, ⟨⟨rfl, rfl⟩, ⟨rfl, rfl, rfl, rfl, Nat.le_refl _, Nat.le_refl _⟩, trivial⟩⟩, ⟨id, rfl, rfl⟩, ⟨id, leL_H _ (putH (goH H R (x.1.getD 2 0) q) (idx (R.getD q ([], []))) false)⟩, ⟨id, rfl, rfl⟩, ⟨id, rfl⟩, ⟨id, ⟨⟨rfl, rfl⟩, ⟨rfl, rfl⟩, ⟨rfl, rfl⟩, ⟨rfl, rfl⟩, ⟨rfl, rfl, rfl, rfl, Nat.le_refl _, Nat.le_refl _⟩, trivial⟩⟩, ⟨id, rfl, rfl⟩, trivial⟩
    · have eH : goH H R (x.1.getD 2 0) (q + 1) = goH H R (x.1.getD 2 0) q := by rw [goH, if_neg ht]
      have eN : goN R (x.1.getD 2 0) (q + 1) = goN R (x.1.getD 2 0) q := by rw [goN, if_neg ht]
      have ih' := ih (q + 1) hq (by omega)
      rw [eH, eN] at ih'
      generalize goH H R (x.1.getD 2 0) q = G at *
      refine goes_stop (ρ0 := ρ0) (r := [1, 2, 3, 4, 5, 6, 7]) (T := TF l R S G i x (goN R (x.1.getD 2 0) q) (q + 1) []) (S := TF l R S G i x (goN R (x.1.getD 2 0) q) q [true, false]) (callY_ok 9) funO (by rw [hρ]; exact ap8O noFn l R S G i x (goN R (x.1.getD 2 0) q) q) ?_
        ⟨by rw [hρ]; decide, ?_, ?_⟩ ih' ⟨hri.sl, hri.m⟩
      · exact ⟨⟨by omega, by omega⟩, decide_eq_false ht, hq, by omega, by omega, decide_eq_true (by omega), trivial⟩
      · rw [hρ]
        simp [TF, leSlots, leV, leV1, leC, si, rsl, dsl, np, ptO, N.v, List.range, List.range.loop]
      · rw [hρ]
        exact ⟨⟨id, rfl, rfl⟩, ⟨id, ⟨⟨rfl, rfl⟩, ⟨rfl, rfl, rfl, rfl, Nat.le_refl _, Nat.le_refl _⟩, trivial⟩⟩, ⟨id, rfl, rfl⟩, ⟨id, leL_H _ G⟩, ⟨id, rfl, rfl⟩, ⟨id, rfl⟩, ⟨id, ⟨⟨rfl, rfl⟩, ⟨rfl, rfl⟩, ⟨rfl, rfl⟩, ⟨rfl, rfl⟩, ⟨rfl, rfl, rfl, rfl, Nat.le_refl _, Nat.le_refl _⟩, trivial⟩⟩, ⟨id, rfl, rfl⟩, trivial⟩
  · have e : q = R.length := by omega
    subst e
    have hen := goN_end R (x.1.getD 2 0)
    have hf := forget_okO (x.1.getD 2 0) hok
    generalize goH H R (x.1.getD 2 0) R.length = G at *
    generalize goN R (x.1.getD 2 0) R.length = kk at *
    refine goes_stop (ρ0 := ρ0) (r := [1, 8, 3, 4, 9]) (T := TC l (forgetS R (x.1.getD 2 0)) S G i 0 0 []) (S := TF l R S G i x kk R.length [false, false]) (callY_ok 9) funO (by rw [hρ]; exact ap8O noFx l R S G i x kk R.length) ?_
      ⟨by rw [hρ]; decide, ?_, ?_⟩ hk ⟨hri.sl, hri.m⟩
    · exact ⟨rfl, Nat.le_refl _, hf, (by rw [hen]; simp), rfl, Nat.le_refl _, hok, decide_eq_false (by omega), trivial⟩
    · rw [hρ]
      simp [TC, leSlots, leV, leV1, leC, si, rsl, dsl, np, ptO, N.v, List.range, List.range.loop]
    · rw [hρ]
      exact ⟨⟨id, rfl, rfl⟩, ⟨id, ⟨⟨rfl, rfl⟩, ⟨rfl, rfl, rfl, rfl, Nat.le_refl _, Nat.le_refl _⟩, trivial⟩⟩, ⟨id, rfl, rfl⟩, ⟨id, leL_H _ G⟩, ⟨id, rfl, rfl⟩, ⟨id, rfl, rfl⟩, trivial⟩
end
end Go.Proofs.Ytjnnfehepbicfaa
