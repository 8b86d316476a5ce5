/- NetSieve, from where the nodes are in their order. -/
import Derived.Test.YtjnnfehepbicfaaNvC
namespace Go.Proofs.Ytjnnfehepbicfaa
open Go.ChangeShapes Go.WideShapes Go.ChangeAt Go.RowKit Go.Sx
/-- the nodes in their order -/
def permA (c : Nat) : List Int := List.set [0, 1, List.getD [0, 1, 2] c 0] c 2
def permL (b c : Nat) : List Int := List.set (List.set (permA c) 1 (List.getD (permA c) b 0)) b (List.getD (permA c) 1 0)
theorem permL_len (b c : Nat) : (permL b c).length = 3 ∧ (permA c).length = 3 := by simp [permL, permA]
theorem permL_all {b c : Nat} (hb : b < 2) (hc : c < 3) {x : Int} (h0 : 0 ≤ x) (h1 : x < 3) : x = (permL b c).getD 0 0 ∨ x = (permL b c).getD 1 0 ∨ x = (permL b c).getD 2 0 := by
  have hx : x = 0 ∨ x = 1 ∨ x = 2 := by omega
  have hb' : b = 0 ∨ b = 1 := by omega
  have hc' : c = 0 ∨ c = 1 ∨ c = 2 := by omega
  rcases hx with rfl | rfl | rfl <;> rcases hb' with rfl | rfl <;> rcases hc' with rfl | rfl | rfl <;> decide
theorem want3 {l : Rws} {L : List Int} (hp : ∀ x : Int, 0 ≤ x → x < 3 → x = L.getD 0 0 ∨ x = L.getD 1 0 ∨ x = L.getD 2 0) : wantQ [L.getD 0 0, L.getD 1 0, L.getD 2 0] (laidS l) = [] := by
  unfold wantQ
  rw [List.filter_eq_nil_iff]
  intro r hr
  obtain ⟨_, _, _, h0, h1⟩ := laidG_mem hr
  simp only [stayQ, List.all_cons, List.all_nil, Bool.and_true]
  rcases hp _ h0 h1 with h | h | h
  · rw [decide_eq_true h]; simp
  · rw [decide_eq_true h]; simp
  · rw [decide_eq_true h]; simp
theorem nv_two {ρ0 : Env} {Wd : World} {l : Rws} {L : List Int} {m : Nat} (hρ : ρ0.length = 1) (hL : L.length = 3) (hm : m ≤ 3) (hp : ∀ x : Int, 0 ≤ x → x < 3 → x = L.getD 0 0 ∨ x = L.getD 1 0 ∨ x = L.getD 2 0)
    {ρ' : Env} {ac : Act} {w : World} (hr : RelD [] (ρ0 ++ ρ') (uptoN Wd) Wd FV.ntmps (TV2 l (laidS l) L m []) ac w) : Goes Try.prog 8 (EndV Wd) EV2 ac w := by
  have hlen := laidS_len l
  have hok := laidS_wf l
  have h3 := want3 (l := l) hp
  generalize laidS l = R at *
  have hw : ∀ qs, okN 3 (wantQ qs R) := fun qs => wantQ_wf hok
  have hwl : ∀ qs, (wantQ qs R).length ≤ R.length := fun qs => wantQ_len qs R
  have hm' : m = 0 ∨ m = 1 ∨ m = 2 ∨ m = 3 := by omega
  rcases hm' with rfl | rfl | rfl | rfl
  · have f0 : wantQ [] R = R := List.filter_eq_self.2 fun _ _ => rfl
    have q := ap4 nvT0 l R L 0
    refine goes_stopG (ρ0 := ρ0) (r := [1, 2, 3, 4, 5, 6, 7]) (T := TV3 l R (wantQ [] R) (wantQ [] R) [] L 0 0 0 []) (callY_ok 9) funV k2 (by rw [hρ]; exact q) ?_ ⟨by rw [hρ]; decide, ?_, ?_⟩
      (fun ρ' a w hh => nv_loop hρ (fun i st hi hs => nv_r0 hL hok hlen hi hs) ⟨[false, true, true], _, ap9 nvX0 l R _ _ _ L 0 0 _, ?_⟩ hh) (S := TV2 l R L 0 [false]) ⟨hr.sl, hr.m⟩
    · simp [allP]
    · rw [hρ]; simp [TV3, leSlots, leV, leV1, leC, si, rsl, sli, np, N.v, List.range, List.range.loop]
    · rw [hρ, f0]; simp [TV3, leBs, leB, leCells, leL, leC, nb, rr, orr, oI, N.v, List.range, List.range.loop]
    · rw [f0]; simp [allP, hok]; omega
  · have f1 : forgetS R (L.getD 0 0) = wantQ [L.getD 0 0] R := forget_all [L.getD 0 0] R
    have e10 : Int.toNat (((1 : Nat) : Int) - 1 - 0) = 0 := rfl
    have q := ap4 nvT1 l R L 1
    simp only [e10] at q
    simp only [f1] at q
    have w1 := hw [L.getD 0 0]
    have l1 := hwl [L.getD 0 0]
    refine goes_stopG (ρ0 := ρ0) (r := [1, 7, 3, 8, 5, 6, 9]) (T := TV3 l R (wantQ [L.getD 0 0] R) (wantQ [L.getD 0 0] R) [] L 1 (0 + ((R.length : Int) - ((wantQ [L.getD 0 0] R).length : Int))) 0 []) (callY_ok 9) funV k2 (by rw [hρ]; exact q) ?_ ⟨by rw [hρ]; decide, ?_, ?_⟩
      (fun ρ' a w hh => nv_loop hρ (fun i st hi hs => nv_r1 hL hok hlen hi hs) ⟨[false, true, true], _, ap9 nvX0 l R _ _ _ L 1 _ _, ?_⟩ hh) (S := TV2 l R L 1 [true, false]) ⟨hr.sl, hr.m⟩
    · generalize wantQ [L.getD 0 0] R = W1 at *
      simp [allP, hL, hok, w1]; omega
    · rw [hρ]; simp [TV3, leSlots, leV, leV1, leC, si, rsl, sli, np, N.v, List.range, List.range.loop]
    · rw [hρ]; simp [TV3, leBs, leB, leCells, leL, leC, nb, rr, orr, oI, N.v, List.range, List.range.loop]
    · generalize wantQ [L.getD 0 0] R = W1 at *
      simp [allP, w1]; omega
  · have f1 : forgetS R (L.getD 0 0) = wantQ [L.getD 0 0] R := forget_all [L.getD 0 0] R
    have f2 : forgetS (wantQ [L.getD 0 0] R) (L.getD 1 0) = wantQ [L.getD 0 0, L.getD 1 0] R := by rw [← f1]; exact forget_all [L.getD 0 0, L.getD 1 0] R
    have g1 : forgetS R (L.getD 1 0) = wantQ [L.getD 1 0] R := forget_all [L.getD 1 0] R
    have g2 : forgetS (wantQ [L.getD 1 0] R) (L.getD 0 0) = wantQ [L.getD 0 0, L.getD 1 0] R := by
      rw [← g1]; exact (forget_all [L.getD 1 0, L.getD 0 0] R).trans (wantQ_rev [L.getD 0 0, L.getD 1 0] R)
    have e10 : Int.toNat (((2 : Nat) : Int) - 1 - 0) = 1 := rfl
    have e11 : Int.toNat (((2 : Nat) : Int) - 1 - 1) = 0 := rfl
    have q := ap4 nvT2 l R L 2
    simp only [e10, e11] at q
    simp only [f1, g1] at q
    simp only [f2, g2] at q
    have w1 := hw [L.getD 0 0]
    have w1' := hw [L.getD 1 0]
    have w2 := hw [L.getD 0 0, L.getD 1 0]
    have l1 := hwl [L.getD 0 0]
    have l2 := hwl [L.getD 0 0, L.getD 1 0]
    refine goes_stopG (ρ0 := ρ0) (r := [1, 9, 3, 10, 5, 6, 11]) (T := TV3 l R (wantQ [L.getD 0 0, L.getD 1 0] R) (wantQ [L.getD 0 0, L.getD 1 0] R) [] L 2 (0 + ((R.length : Int) - ((wantQ [L.getD 0 0] R).length : Int)) + (((wantQ [L.getD 0 0] R).length : Int) - ((wantQ [L.getD 0 0, L.getD 1 0] R).length : Int))) 0 [])
      (callY_ok 9) funV k2 (by rw [hρ]; exact q) ?_ ⟨by rw [hρ]; decide, ?_, ?_⟩
      (fun ρ' a w hh => nv_loop hρ (fun i st hi hs => nv_r2 hL hok hlen hi hs) ⟨[false, true, true], _, ap9 nvX0 l R _ _ _ L 2 _ _, ?_⟩ hh) (S := TV2 l R L 2 [true, true, false]) ⟨hr.sl, hr.m⟩
    · generalize wantQ [L.getD 0 0, L.getD 1 0] R = W2 at *
      generalize wantQ [L.getD 0 0] R = W1 at *
      generalize wantQ [L.getD 1 0] R = V1 at *
      simp [allP, hL, hok, w1, w1', w2]; omega
    · rw [hρ]; simp [TV3, leSlots, leV, leV1, leC, si, rsl, sli, np, N.v, List.range, List.range.loop]
    · rw [hρ]; simp [TV3, leBs, leB, leCells, leL, leC, nb, rr, orr, oI, N.v, List.range, List.range.loop]
    · generalize wantQ [L.getD 0 0, L.getD 1 0] R = W2 at *
      generalize wantQ [L.getD 0 0] R = W1 at *
      simp [allP, w2]; omega
  · have f1 : forgetS R (L.getD 0 0) = wantQ [L.getD 0 0] R := forget_all [L.getD 0 0] R
    have f2 : forgetS (wantQ [L.getD 0 0] R) (L.getD 1 0) = wantQ [L.getD 0 0, L.getD 1 0] R := by rw [← f1]; exact forget_all [L.getD 0 0, L.getD 1 0] R
    have f3 : forgetS (wantQ [L.getD 0 0, L.getD 1 0] R) (L.getD 2 0) = wantQ [L.getD 0 0, L.getD 1 0, L.getD 2 0] R := by rw [← f2, ← f1]; exact forget_all [L.getD 0 0, L.getD 1 0, L.getD 2 0] R
    have g1 : forgetS R (L.getD 2 0) = wantQ [L.getD 2 0] R := forget_all [L.getD 2 0] R
    have g2 : forgetS (wantQ [L.getD 2 0] R) (L.getD 1 0) = wantQ [L.getD 2 0, L.getD 1 0] R := by rw [← g1]; exact forget_all [L.getD 2 0, L.getD 1 0] R
    have g3 : forgetS (wantQ [L.getD 2 0, L.getD 1 0] R) (L.getD 0 0) = wantQ [L.getD 0 0, L.getD 1 0, L.getD 2 0] R := by
      rw [← g2, ← g1]; exact (forget_all [L.getD 2 0, L.getD 1 0, L.getD 0 0] R).trans (wantQ_rev [L.getD 0 0, L.getD 1 0, L.getD 2 0] R)
    have e10 : Int.toNat (((3 : Nat) : Int) - 1 - 0) = 2 := rfl
    have e11 : Int.toNat (((3 : Nat) : Int) - 1 - 1) = 1 := rfl
    have e12 : Int.toNat (((3 : Nat) : Int) - 1 - 2) = 0 := rfl
    have q := ap4 nvT3 l R L 3
    simp only [e10, e11, e12] at q
    simp only [f1, g1] at q
    simp only [f2, g2] at q
    simp only [f3, g3] at q
    have w1 := hw [L.getD 0 0]
    have w1' := hw [L.getD 2 0]
    have w2 := hw [L.getD 0 0, L.getD 1 0]
    have w2' := hw [L.getD 2 0, L.getD 1 0]
    have w3 := hw [L.getD 0 0, L.getD 1 0, L.getD 2 0]
    have l1 := hwl [L.getD 0 0]
    have l2 := hwl [L.getD 0 0, L.getD 1 0]
    have l3 : (wantQ [L.getD 0 0, L.getD 1 0, L.getD 2 0] R).length = 0 := by rw [h3]; rfl
    refine goes_stopG (ρ0 := ρ0) (r := [1, 11, 3, 12, 5, 6, 13]) (T := TV3 l R (wantQ [L.getD 0 0, L.getD 1 0, L.getD 2 0] R) (wantQ [L.getD 0 0, L.getD 1 0, L.getD 2 0] R) [] L 3
        (0 + ((R.length : Int) - ((wantQ [L.getD 0 0] R).length : Int)) + (((wantQ [L.getD 0 0] R).length : Int) - ((wantQ [L.getD 0 0, L.getD 1 0] R).length : Int)) + (((wantQ [L.getD 0 0, L.getD 1 0] R).length : Int) - ((wantQ [L.getD 0 0, L.getD 1 0, L.getD 2 0] R).length : Int))) 0 [])
      (callY_ok 9) funV k2 (by rw [hρ]; exact q) ?_ ⟨by rw [hρ]; decide, ?_, ?_⟩
      (fun ρ' a w hh => nv_loop hρ (fun i st hi hs => nv_r3 hL hok hlen hi hs) ⟨[false, true, false, false, true], _, ap9 nvX3 l R _ _ _ L 3 _ _, ?_⟩ hh) (S := TV2 l R L 3 [true, true, true, false]) ⟨hr.sl, hr.m⟩
    · generalize wantQ [L.getD 0 0, L.getD 1 0, L.getD 2 0] R = W3 at *
      generalize wantQ [L.getD 0 0, L.getD 1 0] R = W2 at *
      generalize wantQ [L.getD 0 0] R = W1 at *
      generalize wantQ [L.getD 2 0] R = V1 at *
      generalize wantQ [L.getD 2 0, L.getD 1 0] R = V2 at *
      simp [allP, hL, hok, w1, w1', w2, w2', w3]; omega
    · rw [hρ]; simp [TV3, leSlots, leV, leV1, leC, si, rsl, sli, np, N.v, List.range, List.range.loop]
    · rw [hρ]; simp [TV3, leBs, leB, leCells, leL, leC, nb, rr, orr, oI, N.v, List.range, List.range.loop]
    · generalize wantQ [L.getD 0 0, L.getD 1 0, L.getD 2 0] R = W3 at *
      generalize wantQ [L.getD 0 0, L.getD 1 0] R = W2 at *
      generalize wantQ [L.getD 0 0] R = W1 at *
      simp only [allP]; simp [w3, l3]; omega
end Go.Proofs.Ytjnnfehepbicfaa
