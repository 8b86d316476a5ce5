/- NetOrder: the loop that compares. -/
import Derived.Test.YtjnnfehepbicfaaNoP
namespace Go.Proofs.Ytjnnfehepbicfaa
open Go.ChangeShapes Go.WideShapes Go.ChangeAt Go.RowKit Go.Sx
theorem funO : Try.prog.funcs[6]? = some FO := by kernel_rfl
theorem bodO : FO.body = some (body 6) := by kernel_rfl
theorem tmpO : 1 ≤ FO.ntmps := Nat.le_of_ble_eq_true (by kernel_rfl)
def hlist (H : Nat → Bool) : List Bool := [H 0, H 1, H 2, H 3, H 4, H 5, H 6, H 7, H 8, H 9, H 10, H 11, H 12, H 13, H 14, H 15, H 16, H 17, H 18, H 19, H 20, H 21, H 22, H 23, H 24, H 25, H 26, H 27, H 28, H 29, H 30, H 31, H 32, H 33, H 34, H 35, H 36, H 37, H 38, H 39, H 40, H 41, H 42, H 43, H 44, H 45, H 46, H 47, H 48, H 49, H 50, H 51, H 52, H 53, H 54, H 55, H 56, H 57, H 58, H 59, H 60, H 61, H 62, H 63, H 64, H 65, H 66, H 67, H 68, H 69, H 70, H 71, H 72, H 73, H 74, H 75, H 76, H 77, H 78, H 79, H 80, H 81, H 82, H 83, H 84, H 85, H 86, H 87, H 88, H 89]
theorem hlist_eq (H : Nat → Bool) : hlist H = (List.range 90).map H := by kernel_rfl
theorem hlist_len (H : Nat → Bool) : (hlist H).length = 90 := by rw [hlist_eq]; simp
theorem hlist_get (H : Nat → Bool) {k : Nat} (hk : k < 90) : (hlist H).getD k false = H k := by
  rw [hlist_eq, List.getD_eq_getElem?_getD, List.getElem?_map, List.getElem?_range hk]; rfl
def cells (H : Nat → Bool) : List C := (List.range 90).map fun j => .sbool (H j)
theorem leL_sb (sel : List Nat) (f : Nat → Bool) : ∀ L : List Nat, leL sel (L.map fun j => C.sbool (f j)) (L.map fun j => C.sbool (f j))
  | [] => trivial
  | _ :: r => ⟨rfl, leL_sb sel f r⟩
theorem leL_H (sel : List Nat) (f : Nat → Bool) : leL sel (cells f) (cells f) := leL_sb sel f _
theorem ap8O {α β γ δ ε ζ η θ : Type} {κ : Type} {f g : α → β → γ → δ → ε → ζ → η → θ → κ} (h : f = g) (a : α) (b : β) (c : γ) (d : δ) (e : ε) (x : ζ) (y : η) (z : θ) : f a b c d e x y z = g a b c d e x y z := by rw [h]
theorem ap7O {α β γ δ ε ζ η : Type} {κ : Type} {f g : α → β → γ → δ → ε → ζ → η → κ} (h : f = g) (a : α) (b : β) (c : γ) (d : δ) (e : ε) (x : ζ) (y : η) : f a b c d e x y = g a b c d e x y := by rw [h]
theorem ap5O {α β γ δ ε : Type} {κ : Type} {f g : α → β → γ → δ → ε → κ} (h : f = g) (a : α) (b : β) (c : γ) (d : δ) (e : ε) : f a b c d e = g a b c d e := by rw [h]
/-- what holds at each round's start -/
structure InvO (R S : Rws) (H : Nat → Bool) (i : Nat) : Prop where
  i90 : i ≤ 90
  s90 : S.length = 90
  eR : R = lst H S 90
  num : numd H S 90
  two : ∀ k, k < 90 → H k = true → (S.getD k ([], [])).1.length = 2
  off : ∀ k, i ≤ k → H k = false
theorem lst_len_le (H : Nat → Bool) (S : Rws) : ∀ n, (lst H S n).length ≤ n
  | 0 => Nat.le_refl _
  | n + 1 => by
    have := lst_len_le H S n
    rw [lst_len_succ]; split <;> omega
theorem InvO.ok {R S : Rws} {H : Nat → Bool} {i : Nat} (h : InvO R S H i) : okN 4 R := by
  refine ⟨by decide, fun r hr => ?_, by rw [h.eR]; exact Nat.le_trans (lst_len_le _ _ _) (by decide)⟩
  rw [h.eR] at hr
  obtain ⟨k, k1, k2, rfl⟩ := lst_mem hr
  refine ⟨h.two k k1 k2, ?_⟩
  rw [h.num k k1 k2]; show (1 : Nat) ≤ 1048576; decide
section
variable {ρ0 : Env} {Wd : World} {l R S : Rws} {H : Nat → Bool} {i : Nat}
theorem no_check (hρ : ρ0.length = 1) (v : InvO R S H (i + 1)) (hi : i < 90)
    (hk : ∀ ρ' a' w, RelD [] (ρ0 ++ ρ') (uptoN Wd) Wd FO.ntmps (TO l R S H (i + 1) []) a' w → Goes Try.prog 6 (EndS Wd) KO a' w)
    {ρ' : Env} {ac : Act} {w : World} (hr : RelD [] (ρ0 ++ ρ') (uptoN Wd) Wd FO.ntmps (TC l R S H i 0 0 []) ac w) : Goes Try.prog 6 (EndS Wd) EC ac w := by
  have hlR : R.length ≤ 90 := by rw [v.eR]; exact lst_len_le _ _ _
  refine goes_loop (ρ0 := ρ0) (fun k : Nat => TC l R S H i (lst H S k).length k []) (fun k => k ≤ 90) (fun k => 90 - k) ?_ (i := 0) (Nat.zero_le _) hr
  intro k hg ρ' ac w hri ih
  have hll := lst_len_le H S k
  by_cases h90 : k < 90
  · have hn := hlist_len H
    have hget := hlist_get H h90
    cases e : H k with
    | false =>
      refine goes_stop (ρ0 := ρ0) (r := [1, 2, 3, 4, 5]) (T := TC l R S H i (lst H S (k + 1)).length (k + 1) []) (S := TC l R S H i (lst H S k).length k [true, true]) (callY_ok 9) funO (by rw [hρ]; exact ap7O noCn l R S H i (lst H S k).length k) ?_
        ⟨by rw [hρ]; decide, ?_, ?_⟩ (fun ρ' a w hh => ih (k + 1) (by omega) (by omega) ρ' a w hh) ⟨hri.sl, hri.m⟩
      · exact ⟨⟨by omega, by omega⟩, (show (!(hlist H).getD k false) = true by rw [hget, e]; rfl), (show k < (hlist H).length by rw [hn]; exact h90), by omega, by omega, decide_eq_true (by omega), trivial⟩
      · rw [hρ, lst_len_succ, e]
        simp [TC, leSlots, leV, leV1, leC, si, rsl, dsl, np, ptO, N.v, List.range, List.range.loop]
      · rw [hρ]
        exact ⟨⟨id, rfl, rfl⟩, ⟨id, ⟨⟨rfl, rfl⟩, ⟨rfl, rfl, rfl, rfl, Nat.le_refl _, Nat.le_refl _⟩, trivial⟩⟩, ⟨id, rfl, rfl⟩, ⟨id, leL_H _ H⟩, ⟨id, rfl, rfl⟩, ⟨id, rfl, rfl⟩, trivial⟩
    | true =>
      obtain ⟨b1, b2⟩ := lst_at (S := S) h90 e
      rw [← v.eR] at b1 b2
      have hS := v.s90
      refine goes_stop (ρ0 := ρ0) (r := [1, 2, 3, 4, 5]) (T := TC l R S H i (lst H S (k + 1)).length (k + 1) []) (S := TC l R S H i (lst H S k).length k [true, false, false]) (callY_ok 9) funO (by rw [hρ]; exact ap7O noCy l R S H i (lst H S k).length k) ?_
        ⟨by rw [hρ]; decide, ?_, ?_⟩ (fun ρ' a w hh => ih (k + 1) (by omega) (by omega) ρ' a w hh) ⟨hri.sl, hri.m⟩
      · exact ⟨⟨by omega, by omega⟩, ⟨by omega, by omega⟩, ⟨by rw [b2], by rw [b2], by rw [b2]⟩, rfl, rfl, by omega, by omega, by omega, b1, by omega, by omega, decide_eq_false (by omega), (show (!(hlist H).getD k false) = false by rw [hget, e]; rfl), (show k < (hlist H).length by rw [hn]; exact h90), by omega, by omega, decide_eq_true (by omega), trivial⟩
      · rw [hρ, lst_len_succ, e]
        simp [TC, leSlots, leV, leV1, leC, si, rsl, dsl, np, ptO, N.v, List.range, List.range.loop]
      · rw [hρ]
        exact ⟨⟨id, rfl, rfl⟩, ⟨id, ⟨⟨rfl, rfl⟩, ⟨rfl, rfl, rfl, rfl, Nat.le_refl _, Nat.le_refl _⟩, trivial⟩⟩, ⟨id, rfl, rfl⟩, ⟨id, leL_H _ H⟩, ⟨id, rfl, rfl⟩, ⟨id, rfl, rfl⟩, trivial⟩
  · have e : k = 90 := by omega
    subst e
    have eR := v.eR
    rw [← v.eR] at hri
    refine goes_stop (ρ0 := ρ0) (r := [1, 2, 3, 4]) (T := TO l R S H (i + 1) []) (S := TC l R S H i R.length 90 [false, false]) (callY_ok 9) funO (by rw [hρ]; exact ap7O noCx l R S H i R.length 90) ?_
      ⟨by rw [hρ]; decide, ?_, ?_⟩ hk ⟨hri.sl, hri.m⟩
    · exact ⟨⟨by omega, by omega⟩, (by simp), decide_eq_false (by decide), trivial⟩
    · rw [hρ]
      simp [TO, leSlots, leV, leV1, leC, si, rsl, dsl, np, ptO, N.v, List.range, List.range.loop]
    · rw [hρ]
      exact ⟨⟨id, rfl, rfl⟩, ⟨id, ⟨⟨rfl, rfl⟩, ⟨rfl, rfl, rfl, rfl, Nat.le_refl _, Nat.le_refl _⟩, trivial⟩⟩, ⟨id, rfl, rfl⟩, ⟨id, leL_H _ H⟩, ⟨id, rfl, rfl⟩, trivial⟩
end
end Go.Proofs.Ytjnnfehepbicfaa
