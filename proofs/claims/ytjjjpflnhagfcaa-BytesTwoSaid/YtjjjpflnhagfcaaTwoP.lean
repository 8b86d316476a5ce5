/- The sum finds one bit that is turned, and two: in plain numbers. -/
import Derived.Test.YtjjjpflnhagfcaaBytesResidue
namespace Go.Proofs.Ytjjjpflnhagfcaa
open Go.ChangeShapes Go.WideShapes Go.ChangeAt Go.RowKit Go.Sx
/-- a bit's step -/
def step1 (z : Nat) : Nat := z / 2 ^^^ z % 2 * 3988292384
def it : Nat → Nat → Nat
  | 0, z => z
  | m + 1, z => it m (step1 z)
theorem xor_swap (a b c d : Nat) : (a ^^^ b) ^^^ (c ^^^ d) = (a ^^^ c) ^^^ (b ^^^ d) := by
  rw [Nat.xor_assoc, Nat.xor_assoc, ← Nat.xor_assoc b c d, Nat.xor_comm b c, Nat.xor_assoc c b d]
theorem mul_xor_bit {a b : Nat} (p : Nat) (ha : a < 2) (hb : b < 2) : (a ^^^ b) * p = a * p ^^^ b * p := by
  have h : (a = 0 ∨ a = 1) ∧ (b = 0 ∨ b = 1) := by omega
  obtain ⟨rfl | rfl, rfl | rfl⟩ := h <;> simp
theorem step1_xor (a b : Nat) : step1 (a ^^^ b) = step1 a ^^^ step1 b := by
  unfold step1
  have e1 : (a ^^^ b) / 2 = a / 2 ^^^ b / 2 := by
    have := Nat.shiftRight_xor_distrib (a := a) (b := b) (i := 1)
    simpa only [Nat.shiftRight_eq_div_pow, Nat.pow_one] using this
  have e2 : (a ^^^ b) % 2 = a % 2 ^^^ b % 2 := by
    have := Nat.xor_mod_two_pow (a := a) (b := b) (n := 1)
    simpa only [Nat.pow_one] using this
  rw [e1, e2, mul_xor_bit _ (Nat.mod_lt _ (by omega)) (Nat.mod_lt _ (by omega)), xor_swap]
theorem it_xor : ∀ (m a b : Nat), it m (a ^^^ b) = it m a ^^^ it m b
  | 0, _, _ => rfl
  | m + 1, a, b => by
    show it m (step1 (a ^^^ b)) = it m (step1 a) ^^^ it m (step1 b)
    rw [step1_xor, it_xor m]
theorem it_add : ∀ (m k z : Nat), it k (it m z) = it (m + k) z
  | 0, k, z => by rw [Nat.zero_add]; rfl
  | m + 1, k, z => by
    rw [show m + 1 + k = (m + k) + 1 by omega]
    exact it_add m k (step1 z)
theorem step1_two (h : Nat) : step1 (h * 2) = h := by
  unfold step1
  rw [Nat.mul_mod_left, Nat.zero_mul, Nat.xor_zero, Nat.mul_div_cancel _ (by decide)]
theorem it4_shift (h : Nat) : it 4 (h * 16) = h := by
  show step1 (step1 (step1 (step1 (h * 16)))) = h
  rw [show h * 16 = h * 8 * 2 by omega, step1_two, show h * 8 = h * 4 * 2 by omega, step1_two, show h * 4 = h * 2 * 2 by omega, step1_two, step1_two]
theorem nib_small : ∀ m : Nat, m < 16 → nib m = it 4 m := by decide
theorem split16 (h : Nat) : h = h / 16 * 16 ^^^ h % 16 := by
  apply Nat.eq_of_testBit_eq
  intro i
  rw [show (16 : Nat) = 2 ^ 4 from rfl, Nat.testBit_xor, Nat.testBit_mod_two_pow, Nat.testBit_mul_two_pow, Nat.testBit_div_two_pow]
  by_cases hi : i < 4
  · simp [hi, show ¬ 4 ≤ i by omega]
  · simp [hi, show 4 ≤ i by omega, show i - 4 + 4 = i by omega]
theorem nib_it (z : Nat) : nib z = it 4 z := by
  have e := split16 z
  have h1 := nib_shift (z / 16) (z % 16)
  have h2 := it_xor 4 (z / 16 * 16) (z % 16)
  rw [it4_shift] at h2
  rw [← e] at h1 h2
  rw [h1, h2, nib_small _ (Nat.mod_lt _ (by omega))]
theorem byteStep_it (c x : Nat) : byteStep c x = it 8 (c ^^^ x) := by
  unfold byteStep
  rw [nib_it, nib_it, it_add]
theorem crcN_xor : ∀ (l : List Int) (c d : Nat), crcN (c ^^^ d) l = crcN c l ^^^ it (8 * l.length) d
  | [], c, d => rfl
  | x :: r, c, d => by
    show crcN (byteStep (c ^^^ d) x.toNat) r = crcN (byteStep c x.toNat) r ^^^ _
    rw [byteStep_it, byteStep_it, show c ^^^ d ^^^ x.toNat = (c ^^^ x.toNat) ^^^ d by rw [Nat.xor_assoc, Nat.xor_comm d, Nat.xor_assoc], it_xor, crcN_xor r, it_add,
      show 8 * (x :: r).length = 8 + 8 * r.length by rw [List.length_cons]; omega]
theorem crcN_set : ∀ (l : List Int) (c j v : Nat), j < l.length → crcN c (l.set j (((l.getD j 0).toNat ^^^ v : Nat) : Int)) = crcN c l ^^^ it (8 * (l.length - j)) v
  | [], _, _, _, h => by simp at h
  | x :: r, c, 0, v, _ => by
    show crcN (byteStep c (Int.toNat (((x.toNat ^^^ v : Nat) : Int)))) r = crcN (byteStep c x.toNat) r ^^^ _
    rw [Int.toNat_natCast, byteStep_it, byteStep_it, ← Nat.xor_assoc, it_xor, crcN_xor, it_add]
    congr 2
    rw [List.length_cons]; omega
  | x :: r, c, j + 1, v, h => by
    have := crcN_set r (byteStep c x.toNat) j v (by simpa using h)
    show crcN (byteStep c x.toNat) (r.set j _) = crcN (byteStep c x.toNat) r ^^^ _
    rw [show ((x :: r).length - (j + 1)) = r.length - j by rw [List.length_cons]; omega]
    exact this
/-! ### no bit's sum is another one's -/
abbrev g31 : Nat := 2147483648
theorem pow_it : ∀ t : Nat, t < 32 → it (31 - t) g31 = 2 ^ t := by decide
theorem it_pow (m t : Nat) (h : t < 32) : it m (2 ^ t) = it (31 - t + m) g31 := by rw [← pow_it t h, it_add]
theorem step1_lt {z : Nat} (h : z < 4294967296) : step1 z < 4294967296 := by
  unfold step1
  exact xor_lt32 (by omega) (by omega)
theorem xor_zero_eq {a b : Nat} (h : a ^^^ b = 0) : a = b := by
  have := congrArg (· ^^^ b) h
  simpa [Nat.xor_assoc] using this
theorem it_lt : ∀ {m z : Nat}, z < 4294967296 → it m z < 4294967296
  | 0, _, h => h
  | m + 1, _, h => it_lt (m := m) (step1_lt h)
theorem step1_zero {z : Nat} (h : z < 4294967296) (h0 : step1 z = 0) : z = 0 := by
  unfold step1 at h0
  have h1 := xor_zero_eq h0
  omega
theorem it_zero : ∀ {m z : Nat}, z < 4294967296 → it m z = 0 → z = 0
  | 0, _, _, h0 => h0
  | m + 1, _, h, h0 => step1_zero h (it_zero (m := m) (step1_lt h) h0)
def chk : Nat → Nat → Bool
  | 0, _ => true
  | k + 1, z => match step1 z with
    | 0 => false
    | y + 1 => !Nat.beq (y + 1) 2147483648 && chk k (y + 1)
theorem chk_run : chk 2431 2147483648 = true := by kernel_rfl
theorem chk_spec : ∀ {k z d : Nat}, chk k z = true → 0 < d → d ≤ k → it d z ≠ g31
  | 0, _, d, _, h0, h1 => by omega
  | k + 1, z, d, h, h0, h1 => by
    unfold chk at h
    split at h
    · cases h
    · rename_i y hy
      rw [Bool.and_eq_true] at h
      cases d with
      | zero => omega
      | succ d =>
        show it d (step1 z) ≠ g31
        rw [hy]
        cases d with
        | zero =>
          intro e
          change y + 1 = 2147483648 at e
          have := h.1
          rw [e] at this
          exact absurd this (by decide)
        | succ d => exact chk_spec h.2 (by omega) (by omega)
theorem hq_ne0 (m : Nat) : it m g31 ≠ 0 := fun h => absurd (it_zero (by decide) h) (by decide)
theorem hq_lt_ne {a b : Nat} (h : a < b) (hb : b ≤ 2431) : it a g31 ^^^ it b g31 ≠ 0 := by
  rw [show b = (b - a) + a by omega, ← it_add, ← it_xor]
  intro e
  have := it_zero (xor_lt32 (by decide) (it_lt (by decide))) e
  exact chk_spec chk_run (show 0 < b - a by omega) (by omega) (xor_zero_eq this).symm
theorem hq_ne {a b : Nat} (h : a ≠ b) (ha : a ≤ 2431) (hb : b ≤ 2431) : it a g31 ^^^ it b g31 ≠ 0 := by
  rcases Nat.lt_or_gt_of_ne h with h | h
  · exact hq_lt_ne h hb
  · rw [Nat.xor_comm]; exact hq_lt_ne h ha
/-! ### sealed bytes -/
/-- four bytes, the highest one first -/
def sumH (c : Nat) : List Int := [((c / 16777216 % 256 : Nat) : Int), ((c / 65536 % 256 : Nat) : Int), ((c / 256 % 256 : Nat) : Int), ((c % 256 : Nat) : Int)]
def sealS (l : List Int) : List Int := l ++ sumH (4294967295 ^^^ crcN 4294967295 l)
def unsealS (x : List Int) : List Int × Int := if x.length < 4 then ([], 11) else if sealS (x.take (x.length - 4)) = x then (x.take (x.length - 4), 0) else ([], 12)
def be (l : List Int) : Nat := (l.getD 0 0).toNat * 2 ^ 24 ^^^ (l.getD 1 0).toNat * 2 ^ 16 ^^^ (l.getD 2 0).toNat * 2 ^ 8 ^^^ (l.getD 3 0).toNat
theorem mul_xor_pow (a b k : Nat) : (a ^^^ b) * 2 ^ k = a * 2 ^ k ^^^ b * 2 ^ k := by
  have := Nat.shiftLeft_xor_distrib (a := a) (b := b) (i := k)
  simpa only [Nat.shiftLeft_eq] using this
theorem split256 (h : Nat) : h / 256 * 256 ^^^ h % 256 = h := by
  have := low_xor h
  rw [← this, Nat.xor_assoc, Nat.xor_self, Nat.xor_zero]
theorem be_sum {c : Nat} (hc : c < 4294967296) : be (sumH c) = c := by
  show c / 16777216 % 256 * 2 ^ 24 ^^^ c / 65536 % 256 * 2 ^ 16 ^^^ c / 256 % 256 * 2 ^ 8 ^^^ c % 256 = c
  have h3 : c / 16777216 % 256 = c / 65536 / 256 := by omega
  have e1 : c / 65536 / 256 * 2 ^ 24 ^^^ c / 65536 % 256 * 2 ^ 16 = c / 65536 * 2 ^ 16 := by
    rw [show c / 65536 / 256 * 2 ^ 24 = c / 65536 / 256 * 256 * 2 ^ 16 by omega, ← mul_xor_pow, split256]
  have e2 : c / 65536 * 2 ^ 16 ^^^ c / 256 % 256 * 2 ^ 8 = c / 256 * 2 ^ 8 := by
    rw [show c / 65536 * 2 ^ 16 = c / 256 / 256 * 256 * 2 ^ 8 by omega, ← mul_xor_pow, split256]
  rw [h3, e1, e2, show (2 : Nat) ^ 8 = 256 from rfl, split256]
theorem be_set {l : List Int} {j v : Nat} (hl : l.length = 4) (hj : j < 4) : be (l.set j (((l.getD j 0).toNat ^^^ v : Nat) : Int)) = be l ^^^ v * 2 ^ (8 * (3 - j)) := by
  match l, hl with
  | [a, b, c, d], _ =>
    have h : j = 0 ∨ j = 1 ∨ j = 2 ∨ j = 3 := by omega
    obtain rfl | rfl | rfl | rfl := h
    · show (Int.toNat ((a.toNat ^^^ v : Nat) : Int)) * 2 ^ 24 ^^^ b.toNat * 2 ^ 16 ^^^ c.toNat * 2 ^ 8 ^^^ d.toNat = a.toNat * 2 ^ 24 ^^^ b.toNat * 2 ^ 16 ^^^ c.toNat * 2 ^ 8 ^^^ d.toNat ^^^ v * 2 ^ 24
      rw [Int.toNat_natCast, mul_xor_pow]
      ac_rfl
    · show a.toNat * 2 ^ 24 ^^^ (Int.toNat ((b.toNat ^^^ v : Nat) : Int)) * 2 ^ 16 ^^^ c.toNat * 2 ^ 8 ^^^ d.toNat = a.toNat * 2 ^ 24 ^^^ b.toNat * 2 ^ 16 ^^^ c.toNat * 2 ^ 8 ^^^ d.toNat ^^^ v * 2 ^ 16
      rw [Int.toNat_natCast, mul_xor_pow]
      ac_rfl
    · show a.toNat * 2 ^ 24 ^^^ b.toNat * 2 ^ 16 ^^^ (Int.toNat ((c.toNat ^^^ v : Nat) : Int)) * 2 ^ 8 ^^^ d.toNat = a.toNat * 2 ^ 24 ^^^ b.toNat * 2 ^ 16 ^^^ c.toNat * 2 ^ 8 ^^^ d.toNat ^^^ v * 2 ^ 8
      rw [Int.toNat_natCast, mul_xor_pow]
      ac_rfl
    · show a.toNat * 2 ^ 24 ^^^ b.toNat * 2 ^ 16 ^^^ c.toNat * 2 ^ 8 ^^^ (Int.toNat ((d.toNat ^^^ v : Nat) : Int)) = a.toNat * 2 ^ 24 ^^^ b.toNat * 2 ^ 16 ^^^ c.toNat * 2 ^ 8 ^^^ d.toNat ^^^ v * 2 ^ 0
      rw [Int.toNat_natCast, Nat.pow_zero, Nat.mul_one]
      ac_rfl
def syn (n : Nat) (x : List Int) : Nat := crcN 4294967295 (x.take n) ^^^ 4294967295 ^^^ be (x.drop n)
/-- a bit is turned -/
def flip (x : List Int) (p : Nat) : List Int := x.set (p / 8) (((x.getD (p / 8) 0).toNat ^^^ 2 ^ (p % 8) : Nat) : Int)
def ex (n p : Nat) : Nat := if p / 8 < n then 31 + 8 * (n - p / 8) - p % 8 else 7 + 8 * (p / 8 - n) - p % 8
theorem getD_take {l : List Int} {n j : Nat} (h : j < n) : (l.take n).getD j 0 = l.getD j 0 := by
  simp [List.getD_eq_getElem?_getD, List.getElem?_take, h]
theorem getD_drop {l : List Int} {n j : Nat} : (l.drop n).getD j 0 = l.getD (n + j) 0 := by
  simp [List.getD_eq_getElem?_getD, List.getElem?_drop]
theorem syn_flip {n : Nat} {x : List Int} (hl : x.length = n + 4) {p : Nat} (hp : p < 8 * (n + 4)) : syn n (flip x p) = syn n x ^^^ it (ex n p) g31 := by
  unfold syn flip ex
  have ht : p % 8 < 8 := Nat.mod_lt _ (by omega)
  by_cases hj : p / 8 < n
  · rw [if_pos hj, List.drop_set_of_lt hj, List.take_set]
    have hs := crcN_set (x.take n) 4294967295 (p / 8) (2 ^ (p % 8)) (by rw [List.length_take]; omega)
    rw [getD_take hj] at hs
    rw [hs, it_pow _ _ (by omega), List.length_take, Nat.min_eq_left (by omega), show 31 - p % 8 + 8 * (n - p / 8) = 31 + 8 * (n - p / 8) - p % 8 by omega]
    ac_rfl
  · rw [if_neg hj]
    have hd : (x.set (p / 8) (((x.getD (p / 8) 0).toNat ^^^ 2 ^ (p % 8) : Nat) : Int)).drop n = (x.drop n).set (p / 8 - n) (((x.getD (p / 8) 0).toNat ^^^ 2 ^ (p % 8) : Nat) : Int) := by
      rw [List.drop_set, if_neg hj]
    have htk : (x.set (p / 8) (((x.getD (p / 8) 0).toNat ^^^ 2 ^ (p % 8) : Nat) : Int)).take n = x.take n := by
      rw [List.take_set_of_le (by omega)]
    rw [hd, htk]
    have hs := be_set (l := x.drop n) (j := p / 8 - n) (v := 2 ^ (p % 8)) (by rw [List.length_drop]; omega) (by omega)
    rw [getD_drop, show n + (p / 8 - n) = p / 8 by omega] at hs
    rw [hs, ← Nat.pow_add]
    have he := pow_it (p % 8 + 8 * (3 - (p / 8 - n))) (by omega)
    rw [show 31 - (p % 8 + 8 * (3 - (p / 8 - n))) = 7 + 8 * (p / 8 - n) - p % 8 by omega] at he
    rw [he]
    ac_rfl
theorem seal_len (l : List Int) : (sealS l).length = l.length + 4 := by simp [sealS, sumH]
theorem syn_seal {l : List Int} (hw : wf8 l) : syn l.length (sealS l) = 0 := by
  unfold syn sealS
  rw [List.take_left, List.drop_left, be_sum (xor_lt32 (by decide) (crcN_lt (by decide) hw)), Nat.xor_assoc, ← Nat.xor_assoc 4294967295 4294967295, Nat.xor_self, Nat.zero_xor, Nat.xor_self]
theorem wf8_seal {l : List Int} (hw : wf8 l) : wf8 (sealS l) := wf8_app hw fun x hx => by
  unfold sumH at hx
  simp only [List.mem_cons, List.not_mem_nil, or_false] at hx
  rcases hx with rfl | rfl | rfl | rfl <;> omega
theorem flip_len (x : List Int) (p : Nat) : (flip x p).length = x.length := by simp [flip]
theorem wf8_flip {x : List Int} (hw : wf8 x) (p : Nat) : wf8 (flip x p) := by
  intro y hy
  unfold flip at hy
  rcases List.mem_or_eq_of_mem_set hy with h | h
  · exact hw y h
  · have hg := wf8_get hw (p / 8)
    have hx : (x.getD (p / 8) 0).toNat ^^^ 2 ^ (p % 8) < 2 ^ 8 := Nat.xor_lt_two_pow (by omega) (Nat.pow_lt_pow_right (by omega) (Nat.mod_lt _ (by omega)))
    rw [h]; omega
theorem flip_twice {x : List Int} (hw : wf8 x) {p : Nat} (hp : p / 8 < x.length) : flip (flip x p) p = x := by
  unfold flip
  rw [List.set_set, List.getD_eq_getElem?_getD, List.getElem?_set_self (by simpa using hp)]
  simp only [Option.getD_some, Int.toNat_natCast]
  rw [Nat.xor_assoc, Nat.xor_self, Nat.xor_zero]
  have hg := wf8_get hw (p / 8)
  rw [show (((x.getD (p / 8) 0).toNat : Nat) : Int) = x.getD (p / 8) 0 by omega, List.getD_eq_getElem?_getD, List.getElem?_eq_getElem hp]
  simp
theorem unseal_bad {n : Nat} {x : List Int} (hl : x.length = n + 4) (hw : wf8 x) (hs : syn n x ≠ 0) : unsealS x = ([], 12) := by
  unfold unsealS
  rw [if_neg (by omega), show x.length - 4 = n by omega, if_neg]
  intro e
  refine hs ?_
  have h := syn_seal (wf8_take hw n)
  rw [e, List.length_take, Nat.min_eq_left (by omega)] at h
  exact h
theorem unseal_seal (l : List Int) : unsealS (sealS l) = (l, 0) := by
  unfold unsealS
  have := seal_len l
  rw [if_neg (by omega), show (sealS l).length - 4 = l.length by omega, show (sealS l).take l.length = l from List.take_left, if_pos rfl]
theorem unseal_one {l : List Int} (hw : wf8 l) {p : Nat} (hp : p < 8 * (l.length + 4)) : unsealS (flip (sealS l) p) = ([], 12) := by
  refine unseal_bad (n := l.length) (by rw [flip_len, seal_len]) (wf8_flip (wf8_seal hw) p) ?_
  rw [syn_flip (seal_len l) hp, syn_seal hw, Nat.zero_xor]
  exact hq_ne0 _
theorem unseal_two {l : List Int} (hw : wf8 l) (h3 : l.length ≤ 300) {p q : Nat} (hp : p < 8 * (l.length + 4)) (hq : q < 8 * (l.length + 4)) (hne : p ≠ q) : unsealS (flip (flip (sealS l) p) q) = ([], 12) := by
  refine unseal_bad (n := l.length) (by rw [flip_len, flip_len, seal_len]) (wf8_flip (wf8_flip (wf8_seal hw) p) q) ?_
  rw [syn_flip (by rw [flip_len, seal_len]) hq, syn_flip (seal_len l) hp, syn_seal hw, Nat.zero_xor]
  have hb : ∀ r, r < 8 * (l.length + 4) → ex l.length r ≤ 2431 := by
    intro r hr; unfold ex; split <;> omega
  refine hq_ne ?_ (hb p hp) (hb q hq)
  unfold ex
  split <;> split <;> omega
end Go.Proofs.Ytjjjpflnhagfcaa
