/- Several texts in one: ResA, BytesResidue, TwoP, SealA, SealB, SealC, SealD. -/
import Derived.Test.YtjjjpflnhagfcaaLawU
import Derived.Test.YtjjjpflnhagfcaaCrcB
namespace Go.Proofs.Ytjjjpflnhagfcaa
section
/- BytesResidue's runs. -/
open Go.Sx
def tabS := tabs [(12, yes), (14, loc frozen8 gCrc)]
noncomputable def lwS (f : FuncId) (args : List V) (m : List SB) (h : List Bool) := obsOf (callN Try.prog tabS (fun _ => false) 100000 6 f args m h)
theorem rs0 : (fun (l : List Int) => lwS 6 [bsl 0 l.length l.length] [ri l] [true]) = fun (l : List Int) => some ([decide ((600 : Int) < (↑(List.length l) : Int)) = true]) := by kernel_rfl
theorem rs1 : (fun (l : List Int) => lwS 6 [bsl 0 l.length l.length] [ri l] [false, true, true, true]) = fun (l : List Int) => some ([decide (crcS (List.take (Nat.add (List.length l) (4 : Nat)) ([] ++ l ++ [IntKind.wrap IntKind.u8 (crcS (List.take (List.length l) l)), IntKind.wrap IntKind.u8 (Int.fdiv (crcS (List.take (List.length l) l)) (256 : Int)), IntKind.wrap IntKind.u8 (Int.fdiv (crcS (List.take (List.length l) l)) (65536 : Int)), IntKind.wrap IntKind.u8 (Int.fdiv (crcS (List.take (List.length l) l)) (16777216 : Int))])) = (558161692 : Int)) = true, Nat.add (List.length l) (4 : Nat) ≤ List.length ([] ++ l ++ [IntKind.wrap IntKind.u8 (crcS (List.take (List.length l) l)), IntKind.wrap IntKind.u8 (Int.fdiv (crcS (List.take (List.length l) l)) (256 : Int)), IntKind.wrap IntKind.u8 (Int.fdiv (crcS (List.take (List.length l) l)) (65536 : Int)), IntKind.wrap IntKind.u8 (Int.fdiv (crcS (List.take (List.length l) l)) (16777216 : Int))]), Nat.add (List.length l) (4 : Nat) ≤ (1000000 : Nat), wf8 ([] ++ l ++ [IntKind.wrap IntKind.u8 (crcS (List.take (List.length l) l)), IntKind.wrap IntKind.u8 (Int.fdiv (crcS (List.take (List.length l) l)) (256 : Int)), IntKind.wrap IntKind.u8 (Int.fdiv (crcS (List.take (List.length l) l)) (65536 : Int)), IntKind.wrap IntKind.u8 (Int.fdiv (crcS (List.take (List.length l) l)) (16777216 : Int))]), (0 : Nat) = (0 : Nat), List.length l = List.length ([] ++ l), (List.length l + (4 : Nat)) * (1 : Nat) ≤ (140737488355328 : Nat), List.length l + (4 : Nat) ≤ (9223372036854775807 : Nat), (0 : Nat) = (0 : Nat), List.length l = List.length l, List.length l * (1 : Nat) ≤ (140737488355328 : Nat), List.length l ≤ (9223372036854775807 : Nat), List.length l ≤ List.length l, List.length l ≤ (1000000 : Nat), wf8 l, decide ((600 : Int) < (↑(List.length l) : Int)) = false]) := by kernel_rfl
end
section
/- BytesResidue is true of any bytes, and leaves its argument as it was. -/
open Go.ChangeShapes Go.WideShapes Go.ChangeAt Go.RowKit Go.Sx
theorem tabS_ok : ∀ f g, tabS f = some g → TabOk Try.prog f g := tabs_ok fun x hx => by
  simp only [List.mem_cons, List.not_mem_nil, or_false] at hx
  rcases hx with rfl | rfl
  · exact yes_ok no_tabs awake_run
  · exact crc_tab
theorem low_xor (h : Nat) : h ^^^ h % 256 = h / 256 * 256 := by
  apply Nat.eq_of_testBit_eq
  intro i
  rw [show (256 : Nat) = 2 ^ 8 from rfl, Nat.testBit_xor, Nat.testBit_mod_two_pow, Nat.testBit_mul_two_pow, Nat.testBit_div_two_pow]
  by_cases hi : i < 8
  · simp [hi]; intro h8; omega
  · simp [hi, show 8 ≤ i by omega, show i - 8 + 8 = i by omega]
theorem res_step (h k : Nat) : byteStep (h ^^^ k) (255 ^^^ h % 256) = h / 256 ^^^ nib (nib (255 ^^^ k)) := by
  unfold byteStep
  rw [show h ^^^ k ^^^ (255 ^^^ h % 256) = (h ^^^ h % 256) ^^^ (255 ^^^ k) by
    rw [Nat.xor_assoc, Nat.xor_assoc]; congr 1
    rw [Nat.xor_comm 255 (h % 256), ← Nat.xor_assoc, Nat.xor_comm k, Nat.xor_assoc, Nat.xor_comm k 255], low_xor, step_shift]
theorem byte_of {c k : Nat} (hk : k ≤ 24) : (4294967295 ^^^ c) / 2 ^ k % 256 = 255 ^^^ c / 2 ^ k % 256 := by
  rw [← Nat.shiftRight_eq_div_pow, Nat.shiftRight_xor_distrib, show (256 : Nat) = 2 ^ 8 from rfl, Nat.xor_mod_two_pow, Nat.shiftRight_eq_div_pow, Nat.shiftRight_eq_div_pow]
  have : ∀ k : Nat, k < 25 → 4294967295 / 2 ^ k % 2 ^ 8 = 255 := by decide
  rw [this k (by omega)]
theorem residue (c : Nat) (hc : c < 4294967296) : crcN c [(((4294967295 ^^^ c) % 256 : Nat) : Int), (((4294967295 ^^^ c) / 256 % 256 : Nat) : Int), (((4294967295 ^^^ c) / 65536 % 256 : Nat) : Int), (((4294967295 ^^^ c) / 16777216 % 256 : Nat) : Int)] = 3736805603 := by
  have b0 := byte_of (c := c) (k := 0) (by omega)
  have b1 := byte_of (c := c) (k := 8) (by omega)
  have b2 := byte_of (c := c) (k := 16) (by omega)
  have b3 := byte_of (c := c) (k := 24) (by omega)
  simp only [Nat.reducePow, Nat.div_one] at b0 b1 b2 b3
  have s0 := res_step c 0
  have s1 := res_step (c / 256) (nib (nib (255 ^^^ 0)))
  have s2 := res_step (c / 256 / 256) (nib (nib (255 ^^^ nib (nib (255 ^^^ 0)))))
  have s3 := res_step (c / 256 / 256 / 256) (nib (nib (255 ^^^ nib (nib (255 ^^^ nib (nib (255 ^^^ 0)))))))
  rw [Nat.xor_zero] at s0
  rw [Nat.div_div_eq_div_mul] at s2 s3
  rw [Nat.div_div_eq_div_mul] at s3
  rw [show c / (256 * 256 * 256) / 256 = 0 by omega, Nat.zero_xor] at s3
  simp only [crcN, Int.toNat_natCast, b0, b1, b2, b3]
  rw [s0, s1, Nat.div_div_eq_div_mul, s2, Nat.div_div_eq_div_mul, s3]
  decide
theorem bytes_ok (c : Nat) : wf8 [((c % 256 : Nat) : Int), ((c / 256 % 256 : Nat) : Int), ((c / 65536 % 256 : Nat) : Int), ((c / 16777216 % 256 : Nat) : Int)] := by
  intro x hx
  simp only [List.mem_cons, List.not_mem_nil, or_false] at hx
  rcases hx with rfl | rfl | rfl | rfl <;> omega
theorem wf8_of {l : List Int} (h : ∀ n ∈ l, (Lit.int .u8 n).wf = true) : wf8 l := fun x hx => by
  have := h x hx
  simp [Lit.wf, IntKind.min, IntKind.max, IntKind.signed, IntKind.bits] at this
  omega
theorem wf8_app {a b : List Int} (ha : wf8 a) (hb : wf8 b) : wf8 (a ++ b) := fun x hx => by
  rcases List.mem_append.1 hx with h | h
  · exact ha x h
  · exact hb x h
/-- the sum's bytes, the lowest one first -/
def sumB (c : Nat) : List Int := [((c % 256 : Nat) : Int), ((c / 256 % 256 : Nat) : Int), ((c / 65536 % 256 : Nat) : Int), ((c / 16777216 % 256 : Nat) : Int)]
theorem sum_bytes (c : Nat) : [IntKind.wrap .u8 (c : Int), IntKind.wrap .u8 (Int.fdiv (c : Int) 256), IntKind.wrap .u8 (Int.fdiv (c : Int) 65536), IntKind.wrap .u8 (Int.fdiv (c : Int) 16777216)] = sumB c := by
  have w : ∀ n : Int, IntKind.wrap .u8 n = n % 256 := fun n => by simp [IntKind.wrap, IntKind.bits, IntKind.signed]
  simp only [w, sumB, Int.fdiv_eq_ediv_of_nonneg _ (show (0 : Int) ≤ 256 by decide), Int.fdiv_eq_ediv_of_nonneg _ (show (0 : Int) ≤ 65536 by decide), Int.fdiv_eq_ediv_of_nonneg _ (show (0 : Int) ≤ 16777216 by decide)]
  congr 1
theorem bytesResidue_calls (l : List Int) (e : E) (v : Value) {W0 : World} (r : readOnly W0 (e, ri l)) (w : ∀ n ∈ l, (Lit.int .u8 n).wf = true) (_m : l.length ≤ maxLen)
    (u : ∀ (ρ : Env) (b : Nat), ρ[b]? = some e → (V.v (.one (.slice b (.c 0) 1 (.s l.length) (.s l.length)))).rel ρ v) (W : World) (hW : W0 = W := by rfl) : Calls Try.prog 6 #[v] W fun e w' => e = .returned (.bool true) ∧ Below W.heap.size W w' := by
  subst hW
  have hm := mem_args (W := W0) [(e, ri l)] (by intro y hy; simp at hy; subst hy; exact r)
  have hu : relVs ([(e, ri l)].map (·.1)) [bsl 0 l.length l.length] [v] := ⟨_, _, rfl, u _ 0 rfl, rfl⟩
  by_cases h0 : (600 : Int) < l.length
  · refine law_obs tabS_ok (congrFun rs0 l) ?_ hm hu
    exact ⟨decide_eq_true h0, trivial⟩
  · refine law_obs tabS_ok (congrFun rs1 l) ?_ hm hu
    have hw := wf8_of w
    have hc := crcN_lt (c := 4294967295) (by omega) hw
    rw [List.take_length]
    have e1 : crcS l = ((4294967295 ^^^ crcN 4294967295 l : Nat) : Int) := rfl
    rw [e1, sum_bytes, List.nil_append]
    have hl : (l ++ sumB (4294967295 ^^^ crcN 4294967295 l)).length = l.length + 4 := by simp [sumB]
    have ht : List.take (Nat.add l.length 4) (l ++ sumB (4294967295 ^^^ crcN 4294967295 l)) = l ++ sumB (4294967295 ^^^ crcN 4294967295 l) := List.take_of_length_le (by rw [hl]; exact Nat.le_refl _)
    have hr : crcS (l ++ sumB (4294967295 ^^^ crcN 4294967295 l)) = 558161692 := by
      unfold crcS
      rw [crcN_app, show sumB (4294967295 ^^^ crcN 4294967295 l) = _ from rfl]
      unfold sumB
      rw [residue _ hc]
      decide
    rw [ht, hr, hl]
    refine ⟨by decide, Nat.le_refl _, ?_, wf8_app hw (bytes_ok _), rfl, rfl, ?_, ?_, rfl, rfl, ?_, ?_, Nat.le_refl _, ?_, hw, decide_eq_false h0, trivial⟩
    · show l.length + 4 ≤ _; omega
    · omega
    · omega
    · omega
    · omega
    · omega

set_option maxRecDepth 100000 in
theorem bytesResidue_lifted (os : Os) (started : os.Started) (H : Type) (enc : TypeId × Value → H) :
    ReturnsInHanded {} Try.checked os 6 .any (Rows.bytesResidueSpec.pre6 enc Try.prog Try.f6 Rows.bytesResidueRow.domain false) (Rows.bytesResidueSpec.post enc Try.prog Try.f6 false true false false) := by
  refine returnsInHanded_of_change (C := Try.checked) own started (by kernel_rfl) Try.func6
    (ChangeSpec.witness6 (enc := enc) (C := Try.checked) false ⟨#[], #[.slice none 0 0], []⟩ 8 (by kernel_rfl) (by kernel_rfl) (by kernel_rfl) (by kernel_rfl)) ?_
  intro W base args ds gs before hval0 hW hcnd _
  have hval : ∀ (j : Nat) t v, Try.f6.params[j]? = some t → args[j]? = some v → Value.okWide Try.prog W .any base t v := hval0
  have hW' := hW
  obtain ⟨p, q, hA0, hV, hbef, hfz, hnd⟩ := hW
  have hA : DataW.TrodAll enc Try.prog W 0 (fun _ => true) true Try.f6.params.toList args.toList ds p := hA0
  rw [Try.params6] at hA hval
  obtain ⟨v0, d0, rfl, rfl, h0⟩ := trodAll_one hA
  obtain ⟨a0, e0, r0, w0, m0, u0⟩ := one_ints (k := .u8) (d := 20) (by kernel_rfl) (hval 0 23 v0 rfl rfl) h0
  refine (bytesResidue_calls a0 e0 v0 r0 w0 m0 u0 W).mono fun e W' ⟨he, hb⟩ => ?_
  subst he
  exact ⟨_, rfl, post_law laidOut (by rw [Try.params6]; decide +kernel) rfl rfl (by kernel_rfl) Try.underlying4 hW' hb⟩

theorem bytesResidue_holds : Rows.BytesResidueSaid :=
  OpenClaim.holds_of_wide 6 Try.f6 rfl rfl rfl rfl rfl rfl rfl ⟨rfl, rfl, rfl, rfl, rfl⟩ rfl rfl rfl rfl rfl (by kernel_rfl) Try.func6 (by kernel_rfl)
    (of_decide_eq_true (by kernel_rfl)) (by unfold Func.isWrapper; first | (rw [if_pos (by decide +kernel)]; kernel_rfl) | (rw [if_neg (by decide +kernel)]; exact ⟨rfl, rfl⟩))
    (fun os started H enc _ => bytesResidue_lifted os started H enc)
#print axioms bytesResidue_holds
end
section
/- The sum finds one bit that is turned, and two: in plain numbers. -/
open Go.ChangeShapes Go.WideShapes Go.ChangeAt Go.RowKit Go.Sx
/-- a bit's step -/
def step1 (z : Nat) : Nat := z / 2 ^^^ z % 2 * 3988292384
def it : Nat → Nat → Nat
  | 0, z => z
  | m + 1, z => it m (step1 z)
theorem xor_swap (a b c d : Nat) : (a ^^^ b) ^^^ (c ^^^ d) = (a ^^^ c) ^^^ (b ^^^ d) := by
  rw [Nat.xor_assoc, Nat.xor_assoc, ← Nat.xor_assoc b c d, Nat.xor_comm b c, Nat.xor_assoc c b d]
theorem mul_xor_bit {a b : Nat} (p : Nat) (ha : a < 2) (hb : b < 2) : (a ^^^ b) * p = a * p ^^^ b * p := by
  have h : (a = 0 ∨ a = 1) ∧ (b = 0 ∨ b = 1) := by omega
  obtain ⟨rfl | rfl, rfl | rfl⟩ := h <;> simp
theorem step1_xor (a b : Nat) : step1 (a ^^^ b) = step1 a ^^^ step1 b := by
  unfold step1
  have e1 : (a ^^^ b) / 2 = a / 2 ^^^ b / 2 := by
    have := Nat.shiftRight_xor_distrib (a := a) (b := b) (i := 1)
    simpa only [Nat.shiftRight_eq_div_pow, Nat.pow_one] using this
  have e2 : (a ^^^ b) % 2 = a % 2 ^^^ b % 2 := by
    have := Nat.xor_mod_two_pow (a := a) (b := b) (n := 1)
    simpa only [Nat.pow_one] using this
  rw [e1, e2, mul_xor_bit _ (Nat.mod_lt _ (by omega)) (Nat.mod_lt _ (by omega)), xor_swap]
theorem it_xor : ∀ (m a b : Nat), it m (a ^^^ b) = it m a ^^^ it m b
  | 0, _, _ => rfl
  | m + 1, a, b => by
    show it m (step1 (a ^^^ b)) = it m (step1 a) ^^^ it m (step1 b)
    rw [step1_xor, it_xor m]
theorem it_add : ∀ (m k z : Nat), it k (it m z) = it (m + k) z
  | 0, k, z => by rw [Nat.zero_add]; rfl
  | m + 1, k, z => by
    rw [show m + 1 + k = (m + k) + 1 by omega]
    exact it_add m k (step1 z)
theorem step1_two (h : Nat) : step1 (h * 2) = h := by
  unfold step1
  rw [Nat.mul_mod_left, Nat.zero_mul, Nat.xor_zero, Nat.mul_div_cancel _ (by decide)]
theorem it4_shift (h : Nat) : it 4 (h * 16) = h := by
  show step1 (step1 (step1 (step1 (h * 16)))) = h
  rw [show h * 16 = h * 8 * 2 by omega, step1_two, show h * 8 = h * 4 * 2 by omega, step1_two, show h * 4 = h * 2 * 2 by omega, step1_two, step1_two]
theorem nib_small : ∀ m : Nat, m < 16 → nib m = it 4 m := by decide
theorem split16 (h : Nat) : h = h / 16 * 16 ^^^ h % 16 := by
  apply Nat.eq_of_testBit_eq
  intro i
  rw [show (16 : Nat) = 2 ^ 4 from rfl, Nat.testBit_xor, Nat.testBit_mod_two_pow, Nat.testBit_mul_two_pow, Nat.testBit_div_two_pow]
  by_cases hi : i < 4
  · simp [hi, show ¬ 4 ≤ i by omega]
  · simp [hi, show 4 ≤ i by omega, show i - 4 + 4 = i by omega]
theorem nib_it (z : Nat) : nib z = it 4 z := by
  have e := split16 z
  have h1 := nib_shift (z / 16) (z % 16)
  have h2 := it_xor 4 (z / 16 * 16) (z % 16)
  rw [it4_shift] at h2
  rw [← e] at h1 h2
  rw [h1, h2, nib_small _ (Nat.mod_lt _ (by omega))]
theorem byteStep_it (c x : Nat) : byteStep c x = it 8 (c ^^^ x) := by
  unfold byteStep
  rw [nib_it, nib_it, it_add]
theorem crcN_xor : ∀ (l : List Int) (c d : Nat), crcN (c ^^^ d) l = crcN c l ^^^ it (8 * l.length) d
  | [], c, d => rfl
  | x :: r, c, d => by
    show crcN (byteStep (c ^^^ d) x.toNat) r = crcN (byteStep c x.toNat) r ^^^ _
    rw [byteStep_it, byteStep_it, show c ^^^ d ^^^ x.toNat = (c ^^^ x.toNat) ^^^ d by rw [Nat.xor_assoc, Nat.xor_comm d, Nat.xor_assoc], it_xor, crcN_xor r, it_add,
      show 8 * (x :: r).length = 8 + 8 * r.length by rw [List.length_cons]; omega]
theorem crcN_set : ∀ (l : List Int) (c j v : Nat), j < l.length → crcN c (l.set j (((l.getD j 0).toNat ^^^ v : Nat) : Int)) = crcN c l ^^^ it (8 * (l.length - j)) v
  | [], _, _, _, h => by simp at h
  | x :: r, c, 0, v, _ => by
    show crcN (byteStep c (Int.toNat (((x.toNat ^^^ v : Nat) : Int)))) r = crcN (byteStep c x.toNat) r ^^^ _
    rw [Int.toNat_natCast, byteStep_it, byteStep_it, ← Nat.xor_assoc, it_xor, crcN_xor, it_add]
    congr 2
    rw [List.length_cons]; omega
  | x :: r, c, j + 1, v, h => by
    have := crcN_set r (byteStep c x.toNat) j v (by simpa using h)
    show crcN (byteStep c x.toNat) (r.set j _) = crcN (byteStep c x.toNat) r ^^^ _
    rw [show ((x :: r).length - (j + 1)) = r.length - j by rw [List.length_cons]; omega]
    exact this
/-! ### no bit's sum is another one's -/
abbrev g31 : Nat := 2147483648
theorem pow_it : ∀ t : Nat, t < 32 → it (31 - t) g31 = 2 ^ t := by decide
theorem it_pow (m t : Nat) (h : t < 32) : it m (2 ^ t) = it (31 - t + m) g31 := by rw [← pow_it t h, it_add]
theorem step1_lt {z : Nat} (h : z < 4294967296) : step1 z < 4294967296 := by
  unfold step1
  exact xor_lt32 (by omega) (by omega)
theorem xor_zero_eq {a b : Nat} (h : a ^^^ b = 0) : a = b := by
  have := congrArg (· ^^^ b) h
  simpa [Nat.xor_assoc] using this
theorem it_lt : ∀ {m z : Nat}, z < 4294967296 → it m z < 4294967296
  | 0, _, h => h
  | m + 1, _, h => it_lt (m := m) (step1_lt h)
theorem step1_zero {z : Nat} (h : z < 4294967296) (h0 : step1 z = 0) : z = 0 := by
  unfold step1 at h0
  have h1 := xor_zero_eq h0
  omega
theorem it_zero : ∀ {m z : Nat}, z < 4294967296 → it m z = 0 → z = 0
  | 0, _, _, h0 => h0
  | m + 1, _, h, h0 => step1_zero h (it_zero (m := m) (step1_lt h) h0)
def chk : Nat → Nat → Bool
  | 0, _ => true
  | k + 1, z => match step1 z with
    | 0 => false
    | y + 1 => !Nat.beq (y + 1) 2147483648 && chk k (y + 1)
theorem chk_run : chk 2431 2147483648 = true := by kernel_rfl
theorem chk_spec : ∀ {k z d : Nat}, chk k z = true → 0 < d → d ≤ k → it d z ≠ g31
  | 0, _, d, _, h0, h1 => by omega
  | k + 1, z, d, h, h0, h1 => by
    unfold chk at h
    split at h
    · cases h
    · rename_i y hy
      rw [Bool.and_eq_true] at h
      cases d with
      | zero => omega
      | succ d =>
        show it d (step1 z) ≠ g31
        rw [hy]
        cases d with
        | zero =>
          intro e
          change y + 1 = 2147483648 at e
          have := h.1
          rw [e] at this
          exact absurd this (by decide)
        | succ d => exact chk_spec h.2 (by omega) (by omega)
theorem hq_ne0 (m : Nat) : it m g31 ≠ 0 := fun h => absurd (it_zero (by decide) h) (by decide)
theorem hq_lt_ne {a b : Nat} (h : a < b) (hb : b ≤ 2431) : it a g31 ^^^ it b g31 ≠ 0 := by
  rw [show b = (b - a) + a by omega, ← it_add, ← it_xor]
  intro e
  have := it_zero (xor_lt32 (by decide) (it_lt (by decide))) e
  exact chk_spec chk_run (show 0 < b - a by omega) (by omega) (xor_zero_eq this).symm
theorem hq_ne {a b : Nat} (h : a ≠ b) (ha : a ≤ 2431) (hb : b ≤ 2431) : it a g31 ^^^ it b g31 ≠ 0 := by
  rcases Nat.lt_or_gt_of_ne h with h | h
  · exact hq_lt_ne h hb
  · rw [Nat.xor_comm]; exact hq_lt_ne h ha
/-! ### sealed bytes -/
/-- four bytes, the highest one first -/
def sumH (c : Nat) : List Int := [((c / 16777216 % 256 : Nat) : Int), ((c / 65536 % 256 : Nat) : Int), ((c / 256 % 256 : Nat) : Int), ((c % 256 : Nat) : Int)]
def sealS (l : List Int) : List Int := l ++ sumH (4294967295 ^^^ crcN 4294967295 l)
def unsealS (x : List Int) : List Int × Int := if x.length < 4 then ([], 11) else if sealS (x.take (x.length - 4)) = x then (x.take (x.length - 4), 0) else ([], 12)
def be (l : List Int) : Nat := (l.getD 0 0).toNat * 2 ^ 24 ^^^ (l.getD 1 0).toNat * 2 ^ 16 ^^^ (l.getD 2 0).toNat * 2 ^ 8 ^^^ (l.getD 3 0).toNat
theorem mul_xor_pow (a b k : Nat) : (a ^^^ b) * 2 ^ k = a * 2 ^ k ^^^ b * 2 ^ k := by
  have := Nat.shiftLeft_xor_distrib (a := a) (b := b) (i := k)
  simpa only [Nat.shiftLeft_eq] using this
theorem split256 (h : Nat) : h / 256 * 256 ^^^ h % 256 = h := by
  have := low_xor h
  rw [← this, Nat.xor_assoc, Nat.xor_self, Nat.xor_zero]
theorem be_sum {c : Nat} (hc : c < 4294967296) : be (sumH c) = c := by
  show c / 16777216 % 256 * 2 ^ 24 ^^^ c / 65536 % 256 * 2 ^ 16 ^^^ c / 256 % 256 * 2 ^ 8 ^^^ c % 256 = c
  have h3 : c / 16777216 % 256 = c / 65536 / 256 := by omega
  have e1 : c / 65536 / 256 * 2 ^ 24 ^^^ c / 65536 % 256 * 2 ^ 16 = c / 65536 * 2 ^ 16 := by
    rw [show c / 65536 / 256 * 2 ^ 24 = c / 65536 / 256 * 256 * 2 ^ 16 by omega, ← mul_xor_pow, split256]
  have e2 : c / 65536 * 2 ^ 16 ^^^ c / 256 % 256 * 2 ^ 8 = c / 256 * 2 ^ 8 := by
    rw [show c / 65536 * 2 ^ 16 = c / 256 / 256 * 256 * 2 ^ 8 by omega, ← mul_xor_pow, split256]
  rw [h3, e1, e2, show (2 : Nat) ^ 8 = 256 from rfl, split256]
theorem be_set {l : List Int} {j v : Nat} (hl : l.length = 4) (hj : j < 4) : be (l.set j (((l.getD j 0).toNat ^^^ v : Nat) : Int)) = be l ^^^ v * 2 ^ (8 * (3 - j)) := by
  match l, hl with
  | [a, b, c, d], _ =>
    have h : j = 0 ∨ j = 1 ∨ j = 2 ∨ j = 3 := by omega
    obtain rfl | rfl | rfl | rfl := h
    · show (Int.toNat ((a.toNat ^^^ v : Nat) : Int)) * 2 ^ 24 ^^^ b.toNat * 2 ^ 16 ^^^ c.toNat * 2 ^ 8 ^^^ d.toNat = a.toNat * 2 ^ 24 ^^^ b.toNat * 2 ^ 16 ^^^ c.toNat * 2 ^ 8 ^^^ d.toNat ^^^ v * 2 ^ 24
      rw [Int.toNat_natCast, mul_xor_pow]
      ac_rfl
    · show a.toNat * 2 ^ 24 ^^^ (Int.toNat ((b.toNat ^^^ v : Nat) : Int)) * 2 ^ 16 ^^^ c.toNat * 2 ^ 8 ^^^ d.toNat = a.toNat * 2 ^ 24 ^^^ b.toNat * 2 ^ 16 ^^^ c.toNat * 2 ^ 8 ^^^ d.toNat ^^^ v * 2 ^ 16
      rw [Int.toNat_natCast, mul_xor_pow]
      ac_rfl
    · show a.toNat * 2 ^ 24 ^^^ b.toNat * 2 ^ 16 ^^^ (Int.toNat ((c.toNat ^^^ v : Nat) : Int)) * 2 ^ 8 ^^^ d.toNat = a.toNat * 2 ^ 24 ^^^ b.toNat * 2 ^ 16 ^^^ c.toNat * 2 ^ 8 ^^^ d.toNat ^^^ v * 2 ^ 8
      rw [Int.toNat_natCast, mul_xor_pow]
      ac_rfl
    · show a.toNat * 2 ^ 24 ^^^ b.toNat * 2 ^ 16 ^^^ c.toNat * 2 ^ 8 ^^^ (Int.toNat ((d.toNat ^^^ v : Nat) : Int)) = a.toNat * 2 ^ 24 ^^^ b.toNat * 2 ^ 16 ^^^ c.toNat * 2 ^ 8 ^^^ d.toNat ^^^ v * 2 ^ 0
      rw [Int.toNat_natCast, Nat.pow_zero, Nat.mul_one]
      ac_rfl
def syn (n : Nat) (x : List Int) : Nat := crcN 4294967295 (x.take n) ^^^ 4294967295 ^^^ be (x.drop n)
/-- a bit is turned -/
def flip (x : List Int) (p : Nat) : List Int := x.set (p / 8) (((x.getD (p / 8) 0).toNat ^^^ 2 ^ (p % 8) : Nat) : Int)
def ex (n p : Nat) : Nat := if p / 8 < n then 31 + 8 * (n - p / 8) - p % 8 else 7 + 8 * (p / 8 - n) - p % 8
theorem getD_take {l : List Int} {n j : Nat} (h : j < n) : (l.take n).getD j 0 = l.getD j 0 := by
  simp [List.getD_eq_getElem?_getD, List.getElem?_take, h]
theorem getD_drop {l : List Int} {n j : Nat} : (l.drop n).getD j 0 = l.getD (n + j) 0 := by
  simp [List.getD_eq_getElem?_getD, List.getElem?_drop]
theorem syn_flip {n : Nat} {x : List Int} (hl : x.length = n + 4) {p : Nat} (hp : p < 8 * (n + 4)) : syn n (flip x p) = syn n x ^^^ it (ex n p) g31 := by
  unfold syn flip ex
  have ht : p % 8 < 8 := Nat.mod_lt _ (by omega)
  by_cases hj : p / 8 < n
  · rw [if_pos hj, List.drop_set_of_lt hj, List.take_set]
    have hs := crcN_set (x.take n) 4294967295 (p / 8) (2 ^ (p % 8)) (by rw [List.length_take]; omega)
    rw [getD_take hj] at hs
    rw [hs, it_pow _ _ (by omega), List.length_take, Nat.min_eq_left (by omega), show 31 - p % 8 + 8 * (n - p / 8) = 31 + 8 * (n - p / 8) - p % 8 by omega]
    ac_rfl
  · rw [if_neg hj]
    have hd : (x.set (p / 8) (((x.getD (p / 8) 0).toNat ^^^ 2 ^ (p % 8) : Nat) : Int)).drop n = (x.drop n).set (p / 8 - n) (((x.getD (p / 8) 0).toNat ^^^ 2 ^ (p % 8) : Nat) : Int) := by
      rw [List.drop_set, if_neg hj]
    have htk : (x.set (p / 8) (((x.getD (p / 8) 0).toNat ^^^ 2 ^ (p % 8) : Nat) : Int)).take n = x.take n := by
      rw [List.take_set_of_le (by omega)]
    rw [hd, htk]
    have hs := be_set (l := x.drop n) (j := p / 8 - n) (v := 2 ^ (p % 8)) (by rw [List.length_drop]; omega) (by omega)
    rw [getD_drop, show n + (p / 8 - n) = p / 8 by omega] at hs
    rw [hs, ← Nat.pow_add]
    have he := pow_it (p % 8 + 8 * (3 - (p / 8 - n))) (by omega)
    rw [show 31 - (p % 8 + 8 * (3 - (p / 8 - n))) = 7 + 8 * (p / 8 - n) - p % 8 by omega] at he
    rw [he]
    ac_rfl
theorem seal_len (l : List Int) : (sealS l).length = l.length + 4 := by simp [sealS, sumH]
theorem syn_seal {l : List Int} (hw : wf8 l) : syn l.length (sealS l) = 0 := by
  unfold syn sealS
  rw [List.take_left, List.drop_left, be_sum (xor_lt32 (by decide) (crcN_lt (by decide) hw)), Nat.xor_assoc, ← Nat.xor_assoc 4294967295 4294967295, Nat.xor_self, Nat.zero_xor, Nat.xor_self]
theorem wf8_seal {l : List Int} (hw : wf8 l) : wf8 (sealS l) := wf8_app hw fun x hx => by
  unfold sumH at hx
  simp only [List.mem_cons, List.not_mem_nil, or_false] at hx
  rcases hx with rfl | rfl | rfl | rfl <;> omega
theorem flip_len (x : List Int) (p : Nat) : (flip x p).length = x.length := by simp [flip]
theorem wf8_flip {x : List Int} (hw : wf8 x) (p : Nat) : wf8 (flip x p) := by
  intro y hy
  unfold flip at hy
  rcases List.mem_or_eq_of_mem_set hy with h | h
  · exact hw y h
  · have hg := wf8_get hw (p / 8)
    have hx : (x.getD (p / 8) 0).toNat ^^^ 2 ^ (p % 8) < 2 ^ 8 := Nat.xor_lt_two_pow (by omega) (Nat.pow_lt_pow_right (by omega) (Nat.mod_lt _ (by omega)))
    rw [h]; omega
theorem flip_twice {x : List Int} (hw : wf8 x) {p : Nat} (hp : p / 8 < x.length) : flip (flip x p) p = x := by
  unfold flip
  rw [List.set_set, List.getD_eq_getElem?_getD, List.getElem?_set_self (by simpa using hp)]
  simp only [Option.getD_some, Int.toNat_natCast]
  rw [Nat.xor_assoc, Nat.xor_self, Nat.xor_zero]
  have hg := wf8_get hw (p / 8)
  rw [show (((x.getD (p / 8) 0).toNat : Nat) : Int) = x.getD (p / 8) 0 by omega, List.getD_eq_getElem?_getD, List.getElem?_eq_getElem hp]
  simp
theorem unseal_bad {n : Nat} {x : List Int} (hl : x.length = n + 4) (hw : wf8 x) (hs : syn n x ≠ 0) : unsealS x = ([], 12) := by
  unfold unsealS
  rw [if_neg (by omega), show x.length - 4 = n by omega, if_neg]
  intro e
  refine hs ?_
  have h := syn_seal (wf8_take hw n)
  rw [e, List.length_take, Nat.min_eq_left (by omega)] at h
  exact h
theorem unseal_seal (l : List Int) : unsealS (sealS l) = (l, 0) := by
  unfold unsealS
  have := seal_len l
  rw [if_neg (by omega), show (sealS l).length - 4 = l.length by omega, show (sealS l).take l.length = l from List.take_left, if_pos rfl]
theorem unseal_one {l : List Int} (hw : wf8 l) {p : Nat} (hp : p < 8 * (l.length + 4)) : unsealS (flip (sealS l) p) = ([], 12) := by
  refine unseal_bad (n := l.length) (by rw [flip_len, seal_len]) (wf8_flip (wf8_seal hw) p) ?_
  rw [syn_flip (seal_len l) hp, syn_seal hw, Nat.zero_xor]
  exact hq_ne0 _
theorem unseal_two {l : List Int} (hw : wf8 l) (h3 : l.length ≤ 300) {p q : Nat} (hp : p < 8 * (l.length + 4)) (hq : q < 8 * (l.length + 4)) (hne : p ≠ q) : unsealS (flip (flip (sealS l) p) q) = ([], 12) := by
  refine unseal_bad (n := l.length) (by rw [flip_len, flip_len, seal_len]) (wf8_flip (wf8_flip (wf8_seal hw) p) q) ?_
  rw [syn_flip (by rw [flip_len, seal_len]) hq, syn_flip (seal_len l) hp, syn_seal hw, Nat.zero_xor]
  have hb : ∀ r, r < 8 * (l.length + 4) → ex l.length r ≤ 2431 := by
    intro r hr; unfold ex; split <;> omega
  refine hq_ne ?_ (hb p hp) (hb q hq)
  unfold ex
  split <;> split <;> omega
end
section
/- Seal's, Equal's, Clone's, Unseal's code: their runs. -/
open Go.Sx
def tabC := tabs [(14, loc frozen8 gCrc)]
noncomputable def callC (d : Nat) := callN Try.prog tabC (fun _ => false) 100000 d
def oi (l : List Int) : SB := ⟨true, .ints .u8 l⟩
theorem saS : (fun (l : List Int) (n c : Nat) => retV [0, 9] (callC 4 16 [bsl 0 n c] [ri l] [false, false, true, true, true])) = fun (l : List Int) (n : Nat) (c : Nat) => some (((V.v (V1.one (C.slice ((9 : Nat)) (N.c ((0 : Nat))) ((1 : Nat)) (N.s (n + (1 : Nat) + (1 : Nat) + (1 : Nat) + (1 : Nat))) (N.s (n + (1 : Nat) + (1 : Nat) + (1 : Nat) + (1 : Nat)))))), ([(SB.mk (false) (Cells.ints (IntKind.u8) (l))), (SB.mk (true) (Cells.ints (IntKind.u8) (List.take (n) (List.drop (0 : Nat) (List.take (if n ≤ n then n else n) (List.take n (List.drop (0 : Nat) l)) ++ List.drop (if n ≤ n then n else n) (List.replicate (Int.toNat ((↑n : Int) + (4 : Int))) (0 : Int)))) ++ [IntKind.wrap IntKind.u8 (Int.fdiv (crcS (List.take n l)) (16777216 : Int))] ++ [IntKind.wrap IntKind.u8 (Int.fdiv (crcS (List.take n l)) (65536 : Int))] ++ [IntKind.wrap IntKind.u8 (Int.fdiv (crcS (List.take n l)) (256 : Int))] ++ [IntKind.wrap IntKind.u8 (Int.fdiv (crcS (List.take n l)) (1 : Int))])))], [(0 : Nat) = (0 : Nat), Nat.add (n + (1 : Nat) + (1 : Nat)) (1 : Nat) = List.length (List.take (n) (List.drop (0 : Nat) (List.take (if n ≤ n then n else n) (List.take n (List.drop (0 : Nat) l)) ++ List.drop (if n ≤ n then n else n) (List.replicate (Int.toNat ((↑n : Int) + (4 : Int))) (0 : Int)))) ++ [IntKind.wrap IntKind.u8 (Int.fdiv (crcS (List.take n l)) (16777216 : Int))] ++ [IntKind.wrap IntKind.u8 (Int.fdiv (crcS (List.take n l)) (65536 : Int))] ++ [IntKind.wrap IntKind.u8 (Int.fdiv (crcS (List.take n l)) (256 : Int))]), (n + (1 : Nat) + (1 : Nat) + (1 : Nat) + (1 : Nat)) * (1 : Nat) ≤ (140737488355328 : Nat), n + (1 : Nat) + (1 : Nat) + (1 : Nat) + (1 : Nat) ≤ (9223372036854775807 : Nat), (0 : Nat) = (0 : Nat), Nat.add (n + (1 : Nat)) (1 : Nat) = List.length (List.take (n) (List.drop (0 : Nat) (List.take (if n ≤ n then n else n) (List.take n (List.drop (0 : Nat) l)) ++ List.drop (if n ≤ n then n else n) (List.replicate (Int.toNat ((↑n : Int) + (4 : Int))) (0 : Int)))) ++ [IntKind.wrap IntKind.u8 (Int.fdiv (crcS (List.take n l)) (16777216 : Int))] ++ [IntKind.wrap IntKind.u8 (Int.fdiv (crcS (List.take n l)) (65536 : Int))]), (n + (1 : Nat) + (1 : Nat) + (1 : Nat)) * (1 : Nat) ≤ (140737488355328 : Nat), n + (1 : Nat) + (1 : Nat) + (1 : Nat) ≤ (9223372036854775807 : Nat), (0 : Nat) = (0 : Nat), Nat.add (n) (1 : Nat) = List.length (List.take (n) (List.drop (0 : Nat) (List.take (if n ≤ n then n else n) (List.take n (List.drop (0 : Nat) l)) ++ List.drop (if n ≤ n then n else n) (List.replicate (Int.toNat ((↑n : Int) + (4 : Int))) (0 : Int)))) ++ [IntKind.wrap IntKind.u8 (Int.fdiv (crcS (List.take n l)) (16777216 : Int))]), (n + (1 : Nat) + (1 : Nat)) * (1 : Nat) ≤ (140737488355328 : Nat), n + (1 : Nat) + (1 : Nat) ≤ (9223372036854775807 : Nat), (0 : Nat) + n ≤ List.length (List.take (if n ≤ n then n else n) (List.take n (List.drop (0 : Nat) l)) ++ List.drop (if n ≤ n then n else n) (List.replicate (Int.toNat ((↑n : Int) + (4 : Int))) (0 : Int))), (n + (1 : Nat)) * (1 : Nat) ≤ (140737488355328 : Nat), n + (1 : Nat) ≤ (9223372036854775807 : Nat), n ≤ List.length l, n ≤ (1000000 : Nat), wf8 l, (0 : Nat) + n ≤ List.length l, n ≤ List.length (List.replicate (Int.toNat ((↑n : Int) + (4 : Int))) (0 : Int)), (0 : Int) ≤ (↑n : Int), (↑n : Int) ≤ (↑n : Int) + (4 : Int), Int.toNat ((↑n : Int) + (4 : Int)) * (1 : Nat) ≤ (140737488355328 : Nat), Int.toNat ((↑n : Int) + (4 : Int)) ≤ (9223372036854775807 : Nat), (-9223372036854775808 : Int) ≤ (↑n : Int) + (4 : Int) ∧ (↑n : Int) + (4 : Int) ≤ (9223372036854775807 : Int)]))) := by kernel_rfl
noncomputable def LE := loopN Try.prog 37 0
noncomputable def EE : List Item := .code (.loop LE.1) :: LE.2
noncomputable def KE : List Item := .inLoop LE.1 :: LE.2
noncomputable def FE : Go.Func := match Try.prog.funcs[37]? with | some fn => fn | none => default
def TE (l k : List Int) (n c d : Nat) (i : Nat) (h : List Bool) : St := ⟨[(0, bsl 0 n c), (1, bsl 1 n d), (12, si .i64 n), (13, si .i64 i)], [ri l, ri k], h, []⟩
noncomputable def rndE (lim : Nat) (h : List Bool) (l k : List Int) (n c d : Nat) (i : Nat) := run Try.prog (call0 4) (fun _ => false) FE lim 100000 [] (.code LE.1 :: .inLoop LE.1 :: LE.2) (TE l k n c d i h)
theorem eqN : (fun (l k : List Int) (n c m d : Nat) => retV [0, 1] (call0 4 37 [bsl 0 n c, bsl 1 m d] [ri l, ri k] [true])) = fun (l : List Int) (k : List Int) (n : Nat) (c : Nat) (m : Nat) (d : Nat) => some (((V.v (V1.one (C.bool (false)))), ([(SB.mk (false) (Cells.ints (IntKind.u8) (l))), (SB.mk (false) (Cells.ints (IntKind.u8) (k)))], [(!decide ((↑n : Int) = (↑m : Int))) = true]))) := by kernel_rfl
theorem eqE : (fun (l k : List Int) (n c m d : Nat) => stopV [0, 1, 12, 13] [0, 1] (run Try.prog (call0 4) (fun _ => false) FE 0 100000 [false] [.code (bodyF 37)] ⟨argSlots 0 [bsl 0 n c, bsl 1 m d], [ri l, ri k], [false], []⟩)) = fun (l : List Int) (k : List Int) (n : Nat) (c : Nat) (m : Nat) (d : Nat) => some ((EE, ([(((0 : Nat)), (V.v (V1.one (C.slice ((0 : Nat)) (N.c ((0 : Nat))) ((1 : Nat)) (N.s (n)) (N.s (c)))))), (((1 : Nat)), (V.v (V1.one (C.slice ((1 : Nat)) (N.c ((0 : Nat))) ((1 : Nat)) (N.s (m)) (N.s (d)))))), (((12 : Nat)), (V.v (V1.one (C.sint (IntKind.i64) ((↑n : Int)))))), (((13 : Nat)), (V.v (V1.one (C.int (IntKind.i64) ((0 : Int))))))], ([(SB.mk (false) (Cells.ints (IntKind.u8) (l))), (SB.mk (false) (Cells.ints (IntKind.u8) (k)))], [(!decide ((↑n : Int) = (↑m : Int))) = false])))) := by kernel_rfl
theorem eqR : (fun (l k : List Int) (n c d : Nat) (i : Nat) => stopV [0, 1, 12, 13] [0, 1] (rndE (LE.2.length + 1) [true, false] l k n c d i)) = fun (l : List Int) (k : List Int) (n : Nat) (c : Nat) (d : Nat) (i : Nat) => some ((KE, ([(((0 : Nat)), (V.v (V1.one (C.slice ((0 : Nat)) (N.c ((0 : Nat))) ((1 : Nat)) (N.s (n)) (N.s (c)))))), (((1 : Nat)), (V.v (V1.one (C.slice ((1 : Nat)) (N.c ((0 : Nat))) ((1 : Nat)) (N.s (n)) (N.s (d)))))), (((12 : Nat)), (V.v (V1.one (C.sint (IntKind.i64) ((↑n : Int)))))), (((13 : Nat)), (V.v (V1.one (C.sint (IntKind.i64) ((↑i : Int) + (1 : Int))))))], ([(SB.mk (false) (Cells.ints (IntKind.u8) (l))), (SB.mk (false) (Cells.ints (IntKind.u8) (k)))], [(-9223372036854775808 : Int) ≤ (↑i : Int) + (1 : Int) ∧ (↑i : Int) + (1 : Int) ≤ (9223372036854775807 : Int), (!decide (List.getD l (i) (0 : Int) = List.getD k (i) (0 : Int))) = false, i < List.length k, (0 : Int) ≤ (↑i : Int), (↑i : Int) < (↑n : Int), i < List.length l, (0 : Int) ≤ (↑i : Int), (↑i : Int) < (↑n : Int), decide ((↑i : Int) < (↑n : Int)) = true])))) := by kernel_rfl
theorem eqX0 : (fun (l k : List Int) (n c d : Nat) (i : Nat) => endV [0, 1] (rndE 0 [true, true] l k n c d i)) = fun (l : List Int) (k : List Int) (n : Nat) (c : Nat) (d : Nat) (i : Nat) => some (((V.v (V1.one (C.bool (false)))), ([(SB.mk (false) (Cells.ints (IntKind.u8) (l))), (SB.mk (false) (Cells.ints (IntKind.u8) (k)))], [(!decide (List.getD l (i) (0 : Int) = List.getD k (i) (0 : Int))) = true, i < List.length k, (0 : Int) ≤ (↑i : Int), (↑i : Int) < (↑n : Int), i < List.length l, (0 : Int) ≤ (↑i : Int), (↑i : Int) < (↑n : Int), decide ((↑i : Int) < (↑n : Int)) = true]))) := by kernel_rfl
theorem eqX1 : (fun (l k : List Int) (n c d : Nat) (i : Nat) => endV [0, 1] (rndE 0 [false] l k n c d i)) = fun (l : List Int) (k : List Int) (n : Nat) (c : Nat) (d : Nat) (i : Nat) => some (((V.v (V1.one (C.bool (true)))), ([(SB.mk (false) (Cells.ints (IntKind.u8) (l))), (SB.mk (false) (Cells.ints (IntKind.u8) (k)))], [decide ((↑i : Int) < (↑n : Int)) = false]))) := by kernel_rfl
theorem cl1 : (fun (l : List Int) (n c : Nat) => retV [0, 2] (call0 4 38 [bsl 0 n c] [ri l] [false])) = fun (l : List Int) (n : Nat) (c : Nat) => some (((V.v (V1.one (C.slice ((2 : Nat)) (N.c ((0 : Nat))) ((1 : Nat)) (N.s (n)) (N.s (n))))), ([(SB.mk (false) (Cells.ints (IntKind.u8) (l))), (SB.mk (true) (Cells.ints (IntKind.u8) ([] ++ List.take n (List.drop (0 : Nat) l))))], [(0 : Nat) + n ≤ List.length l, n * (1 : Nat) ≤ (140737488355328 : Nat), n ≤ (9223372036854775807 : Nat), (0 : Nat) < n]))) := by kernel_rfl
theorem cl2 : (fun (l : List Int) => retV [0] (call0 4 38 [.v (.one .nils)] [ri l] [])) = fun (l : List Int) => some (((V.v (V1.one (C.nils))), ([(SB.mk (false) (Cells.ints (IntKind.u8) (l)))], []))) := by kernel_rfl
theorem cl3 : (fun (l : List Int) (a : Addr) (c : Nat) => retV [0, 2] (call0 4 38 [.v (.one (.raw (.slice (some a) 0 c)))] [ri l] [])) = fun (l : List Int) (a : Go.Addr) (c : Nat) => some (((V.v (V1.one (C.slice ((2 : Nat)) (N.c ((0 : Nat))) ((1 : Nat)) (N.c ((0 : Nat))) (N.c ((0 : Nat)))))), ([(SB.mk (false) (Cells.ints (IntKind.u8) (l))), (SB.mk (true) (Cells.exp []))], []))) := by kernel_rfl
end
section
/- Seal, Equal, Clone: the contracts. -/
open Go.ChangeShapes Go.WideShapes Go.ChangeAt Go.RowKit Go.Sx
theorem tabC_ok : ∀ f g, tabC f = some g → TabOk Try.prog f g := tabs_ok fun x hx => by
  simp only [List.mem_cons, List.not_mem_nil, or_false] at hx
  rcases hx with rfl
  exact crc_tab
theorem sum_high (a : List Int) (c : Nat) : a ++ [IntKind.wrap .u8 (Int.fdiv (c : Int) 16777216)] ++ [IntKind.wrap .u8 (Int.fdiv (c : Int) 65536)] ++ [IntKind.wrap .u8 (Int.fdiv (c : Int) 256)] ++ [IntKind.wrap .u8 (Int.fdiv (c : Int) 1)] = a ++ sumH c := by
  have w : ∀ n : Int, IntKind.wrap .u8 n = n % 256 := fun n => by simp [IntKind.wrap, IntKind.bits, IntKind.signed]
  simp only [w, sumH, Int.fdiv_eq_ediv_of_nonneg _ (show (0 : Int) ≤ 256 by decide), Int.fdiv_eq_ediv_of_nonneg _ (show (0 : Int) ≤ 65536 by decide), Int.fdiv_eq_ediv_of_nonneg _ (show (0 : Int) ≤ 16777216 by decide), Int.fdiv_eq_ediv_of_nonneg _ (show (0 : Int) ≤ 1 by decide), List.append_assoc, List.cons_append, List.nil_append]
  congr 1
  simp
theorem nd9 : (List.range 1 ++ [9]).Nodup := by decide
theorem seal_works (l : List Int) (n c : Nat) (hn : n ≤ l.length) (hm : n ≤ 1000000) (hw : wf8 l) : Works Try.prog 16 [bsl 0 n c] [ri l] (bsl 1 (n + 4) (n + 4)) [ri l, oi (sealS (l.take n))] := by
  have q := congrFun (congrFun (congrFun saS l) n) c
  have hbig : List.take n (List.drop 0 (List.take (if n ≤ n then n else n) (List.take n (List.drop 0 l)) ++ List.drop (if n ≤ n then n else n) (List.replicate (Int.toNat ((n : Int) + 4)) (0 : Int)))) = l.take n := by
    rw [if_pos (Nat.le_refl n), List.drop_zero, List.drop_zero, List.take_take, Nat.min_self]
    exact List.take_left' (by rw [List.length_take]; omega)
  have hl : (l.take n).length = n := by rw [List.length_take]; omega
  have hs : crcS (l.take n) = ((4294967295 ^^^ crcN 4294967295 (l.take n) : Nat) : Int) := rfl
  have hlen : ∀ a b : List Int, (List.take n l ++ a).length = n + a.length := fun a _ => by rw [List.length_append, hl]
  rw [hbig, hs, sum_high] at q
  refine works_of (r := [9]) tabC_ok q ?_ nd9 ?_ ?_
  · have hr : (List.take (if n ≤ n then n else n) (List.take n (List.drop 0 l)) ++ List.drop (if n ≤ n then n else n) (List.replicate (Int.toNat ((n : Int) + 4)) (0 : Int))).length = n + 4 := by
      rw [if_pos (Nat.le_refl n), List.drop_zero, List.take_take, Nat.min_self, List.length_append, hl, List.length_drop, List.length_replicate]; omega
    refine ⟨rfl, ?_, ?_, ?_, rfl, ?_, ?_, ?_, rfl, ?_, ?_, ?_, ?_, ?_, ?_, hn, hm, hw, ?_, ?_, ?_, ?_, ?_, ?_, ?_, trivial⟩
    · simp [hl]
    · omega
    · omega
    · simp [hl]
    · omega
    · omega
    · simp [hl]
    · omega
    · omega
    · rw [hr]; omega
    · omega
    · omega
    · omega
    · rw [List.length_replicate]; omega
    · omega
    · omega
    · omega
    · omega
    · omega
  · simp [bsl, leV, leV1, leC, N.v, List.range, List.range.loop]
  · simp [leBs, leB, leCells, ri, oi, sealS]
def gSeal : Sx.Loc := fun args bs => match args, bs with
  | [.v (.one (.slice 0 (.c 0) 1 (.s n) (.s _)))], [⟨false, .ints k l⟩] => match decide (k = .u8) with
    | true => some (bsl 1 (n + 4) (n + 4), [ri l, oi (sealS (l.take n))], [n ≤ l.length, n ≤ 1000000, wf8 l])
    | false => none
  | _, _ => none
theorem seal_tab : TabOk Try.prog 16 (loc frozen8 gSeal) := loc_ok fun xs bs v bs' ob hg hob hokb => by
  unfold gSeal at hg
  split at hg
  · rename_i n c k l
    split at hg
    · rename_i hk
      injection hg with hg; injection hg with e1 e2; injection e2 with e2 e3
      subst e1; subst e2; subst e3
      have hk' : k = .u8 := of_decide_eq_true hk
      subst hk'
      exact seal_works l n c (hob _ (by simp)) (hob (n ≤ 1000000) (by simp)) (hob (wf8 l) (by simp))
    · cases hg
  · cases hg
/-! ### two lists of bytes -/
theorem funE : Try.prog.funcs[37]? = some FE := by kernel_rfl
theorem bodE : FE.body = some (bodyF 37) := by kernel_rfl
theorem tmpE : 2 ≤ FE.ntmps := Nat.le_of_ble_eq_true (by kernel_rfl)
theorem nd2 : (List.range 2 ++ ([] : List Nat)).Nodup := by decide
theorem cap2_works {f : FuncId} {b n c b' n' c' : Nat} {args : List V} {bs bs' : List SB} {v : V} (h : n ≤ c → n' ≤ c' → Works Try.prog f (bsl b n c :: bsl b' n' c' :: args) bs v bs') : Works Try.prog f (bsl b n c :: bsl b' n' c' :: args) bs v bs' := cap_works fun hc => by
  intro ρ K w us hm hu
  have hd : n' ≤ c' := by
    obtain ⟨_, s, _, _, u, s', _, ⟨⟨e, _, hu⟩, _⟩, _⟩ := hu
    rcases hu with ⟨h0, _⟩ | ⟨_, _, _, h1, _⟩
    · simp only [N.v] at h0; omega
    · exact h1
  exact h hc hd ρ K w us hm hu
theorem take_eq_iff {l k : List Int} {n : Nat} (hl : n ≤ l.length) (hk : n ≤ k.length) : l.take n = k.take n ↔ ∀ i, i < n → l.getD i 0 = k.getD i 0 := by
  constructor
  · intro h i hi
    rw [← getD_take (l := l) hi, ← getD_take (l := k) hi, h]
  · intro h
    refine List.ext_getElem (by rw [List.length_take, List.length_take]; omega) fun i h1 h2 => ?_
    have hi : i < n := by rw [List.length_take] at h1; omega
    have := h i hi
    rw [List.getD_eq_getElem?_getD, List.getD_eq_getElem?_getD, List.getElem?_eq_getElem (by omega), List.getElem?_eq_getElem (by omega)] at this
    simpa using this
theorem equal_works (l k : List Int) (n c m d : Nat) (hn : n ≤ l.length) (hk : m ≤ k.length) (hx : n ≤ 1000000000) : Works Try.prog 37 [bsl 0 n c, bsl 1 m d] [ri l, ri k] (.v (.one (.sbool (decide (l.take n = k.take m))))) [ri l, ri k] := cap2_works fun hc hd => by
  by_cases hnm : n = m
  · subst hnm
    have hiff := take_eq_iff hn hk
    refine works_loop (I := Nat) (Inv := fun i h => TE l k n c d i h) (good := fun i => i ≤ n ∧ ∀ j, j < i → l.getD j 0 = k.getD j 0) (μ := fun i => n - i) (i := 0) (r := []) (call0_ok 4) funE bodE (by exact tmpE) (fun _ _ => ⟨rfl, rfl⟩)
      (congrFun (congrFun (congrFun (congrFun (congrFun (congrFun eqE l) k) n) c) n) d) (by simp [allP]) ⟨nd2, ?_, ?_⟩ ⟨Nat.zero_le _, fun j h => by omega⟩ ?_
    · simp [TE, bsl, leSlots, leV, leV1, leC, si, List.range, List.range.loop, N.v, hc, hd]
    · simp [TE, leBs, leB, leCells, ri]
    · intro i ⟨hi, hall⟩
      by_cases hlt : i < n
      · have q0 := congrFun (congrFun (congrFun (congrFun (congrFun (congrFun eqR l) k) n) c) d) i
        have q1 := congrFun (congrFun (congrFun (congrFun (congrFun (congrFun eqX0 l) k) n) c) d) i
        by_cases he : l.getD i 0 = k.getD i 0
        · refine .round [true, false] [] _ _ [0, 1, 12, 13] [] _ _ _ (i + 1) q0 ?_ ⟨nd2, ?_, ?_⟩ ⟨hlt, fun j hj => ?_⟩ (by omega)
          · refine ⟨by omega, by simp only [he, decide_true, Bool.not_true], by omega, by omega, by omega, by omega, by omega, by omega, decide_eq_true (by omega), trivial⟩
          · simp [TE, bsl, leSlots, leV, leV1, leC, si, List.range, List.range.loop, N.v, hc, hd]
          · simp [TE, leBs, leB, leCells, ri]
          · by_cases hji : j = i
            · subst hji; exact he
            · exact hall j (by omega)
        · refine .stop [true, true] [] _ _ [] _ _ _ q1 ?_ nd2 ?_ ?_
          · refine ⟨by simp only [decide_eq_false he]; rfl, by omega, by omega, by omega, by omega, by omega, by omega, decide_eq_true (by omega), trivial⟩
          · have : ¬ l.take n = k.take n := fun h => he (hiff.1 h i hlt)
            simp [leV, leV1, leC, this]
          · simp [leBs, leB, leCells, ri]
      · have hin : i = n := by omega
        subst hin
        refine .stop [false] [] _ _ [] _ _ _ (congrFun (congrFun (congrFun (congrFun (congrFun (congrFun eqX1 l) k) i) c) d) i) ?_ nd2 ?_ ?_
        · simp [allP]
        · simp only [leV, leV1, leC, decide_eq_true (hiff.2 hall)]
        · simp [leBs, leB, leCells, ri]
  · refine works_of (r := []) no_tabs (congrFun (congrFun (congrFun (congrFun (congrFun (congrFun eqN l) k) n) c) m) d) ?_ nd2 ?_ ?_
    · have : ¬ (n : Int) = m := by omega
      exact ⟨by simp only [decide_eq_false this]; rfl, trivial⟩
    · have : ¬ l.take n = k.take m := fun h => by
        have := congrArg List.length h
        rw [List.length_take, List.length_take] at this
        omega
      simp [leV, leV1, leC, this]
    · simp [leBs, leB, leCells, ri]
def gEq : Sx.Loc := fun args bs => match args, bs with
  | [.v (.one (.slice 0 (.c 0) 1 (.s n) (.s _))), .v (.one (.slice 1 (.c 0) 1 (.s m) (.s _)))], [⟨false, .ints k l⟩, ⟨false, .ints k' l'⟩] => match decide (k = .u8) && decide (k' = .u8) with
    | true => some (.v (.one (.sbool (decide (l.take n = l'.take m)))), [ri l, ri l'], [n ≤ l.length, m ≤ l'.length, n ≤ 1000000000])
    | false => none
  | _, _ => none
def frozen88 : List V → List Want := fun _ => [(false, .ints .u8), (false, .ints .u8)]
theorem equal_tab : TabOk Try.prog 37 (loc frozen88 gEq) := loc_ok fun xs bs v bs' ob hg hob hokb => by
  unfold gEq at hg
  split at hg
  · rename_i n c m d k l k' l'
    split at hg
    · rename_i hk
      rw [Bool.and_eq_true] at hk
      injection hg with hg; injection hg with e1 e2; injection e2 with e2 e3
      subst e1; subst e2; subst e3
      have h1 : k = .u8 := of_decide_eq_true hk.1
      have h2 : k' = .u8 := of_decide_eq_true hk.2
      subst h1; subst h2
      exact equal_works l l' n c m d (hob _ (by simp)) (hob (m ≤ l'.length) (by simp)) (hob (n ≤ 1000000000) (by simp))
    · cases hg
  · cases hg
/-! ### a copy -/
theorem nd12 : (List.range 1 ++ [2]).Nodup := by decide
theorem nd1z : (List.range 1 ++ ([] : List Nat)).Nodup := by decide
theorem cloneB_works (l : List Int) (n c : Nat) (hn : n ≤ l.length) (hx : n ≤ 1000000000) : Works Try.prog 38 [bsl 0 n c] [ri l] (bsl 1 n n) [ri l, oi (l.take n)] := by
  by_cases h0 : n = 0
  · subst h0
    intro ρ K w us hm hu
    obtain ⟨u, s, rfl, ⟨⟨e, he, hu⟩, h1c⟩, hs⟩ := hu
    simp only [relVs] at hs; subst hs
    rcases hu with ⟨_, _, rfl⟩ | ⟨o, cap, rfl, _⟩
    · refine (works_of (r := []) (bs := [ri l]) (args := [.v (.one .nils)]) (v := .v (.one .nils)) (bs' := [ri l]) no_tabs (congrFun cl2 l) trivial nd1z trivial ⟨⟨fun h => h, rfl, rfl⟩, trivial⟩ ρ K w [.slice none 0 0] hm ⟨_, _, rfl, ⟨rfl, rfl⟩, rfl⟩).mono fun e w' ⟨u, ρ', he, hv, hm'⟩ => ?_
      have hg := hm'.beside (ghost_rel w' (.ints .u8 []) (fun ρ g i r h => by simp at h) rfl) rfl
      have hl := hm'.len
      refine ⟨u, ρ' ++ [⟨0, 0, 0⟩], he, ?_, ?_⟩
      · obtain ⟨hv1, hv2⟩ := hv
        simp only [C.rel] at hv1
        refine ⟨⟨⟨0, 0, 0⟩, ?_, .inl ⟨rfl, rfl, hv1⟩⟩, hv2⟩
        rw [← List.append_assoc, List.getElem?_append_right (by rw [hl]; simp)]
        rw [hl]; rfl
      · rw [← List.append_assoc]; exact hg
    · refine (works_of (r := [2]) (bs := [ri l]) (v := bsl 1 0 0) (bs' := [ri l, oi []]) no_tabs (congrFun (congrFun (congrFun cl3 l) ⟨e.blk, o, none⟩) cap) trivial nd12 ⟨rfl, rfl, rfl, rfl, Nat.le_refl _, Nat.le_refl _⟩ ⟨⟨fun h => h, rfl, rfl⟩, ⟨fun h => h, trivial⟩, trivial⟩ ρ K w _ hm ⟨_, _, rfl, ⟨rfl, h1c⟩, rfl⟩)
  · refine works_of (r := [2]) no_tabs (congrFun (congrFun (congrFun cl1 l) n) c) ⟨by omega, by omega, by omega, by omega, trivial⟩ nd12 ⟨rfl, rfl, rfl, rfl, Nat.le_refl _, Nat.le_refl _⟩ ⟨⟨fun h => h, rfl, rfl⟩, ⟨fun h => h, rfl, rfl⟩, trivial⟩
def gCloneB : Sx.Loc := fun args bs => match args, bs with
  | [.v (.one (.slice 0 (.c 0) 1 (.s n) (.s _)))], [⟨false, .ints k l⟩] => match decide (k = .u8) with
    | true => some (bsl 1 n n, [ri l, oi (l.take n)], [n ≤ l.length, n ≤ 1000000000])
    | false => none
  | _, _ => none
theorem cloneB_tab : TabOk Try.prog 38 (loc frozen8 gCloneB) := loc_ok fun xs bs v bs' ob hg hob hokb => by
  unfold gCloneB at hg
  split at hg
  · rename_i n c k l
    split at hg
    · rename_i hk
      injection hg with hg; injection hg with e1 e2; injection e2 with e2 e3
      subst e1; subst e2; subst e3
      have hk' : k = .u8 := of_decide_eq_true hk
      subst hk'
      exact cloneB_works l n c (hob _ (by simp)) (hob (n ≤ 1000000000) (by simp))
    · cases hg
  · cases hg
end
section
/- Unseal's code: its runs. -/
open Go.Sx
def tabUn := tabs [(16, loc frozen8 gSeal), (37, loc frozen88 gEq), (38, loc frozen8 gCloneB)]
noncomputable def callUn (d : Nat) := callN Try.prog tabUn (fun _ => false) 100000 d
theorem un0 : (fun (l : List Int) (n c : Nat) => retV [0] (callUn 4 17 [bsl 0 n c] [ri l] [true])) = fun (l : List Int) (n : Nat) (c : Nat) => some (((V.tup [(V1.one (C.nils)), (V1.one (C.int (IntKind.i64) ((11 : Int))))]), ([(SB.mk (false) (Cells.ints (IntKind.u8) (l)))], [decide ((↑n : Int) - (4 : Int) < (0 : Int)) = true, (-9223372036854775808 : Int) ≤ (↑n : Int) - (4 : Int) ∧ (↑n : Int) - (4 : Int) ≤ (9223372036854775807 : Int)]))) := by kernel_rfl
theorem un1 : (fun (l : List Int) (n c : Nat) => retV [0] (callUn 4 17 [bsl 0 n c] [ri l] [false, true])) = fun (l : List Int) (n : Nat) (c : Nat) => some (((V.tup [(V1.one (C.nils)), (V1.one (C.int (IntKind.i64) ((12 : Int))))]), ([(SB.mk (false) (Cells.ints (IntKind.u8) (l)))], [(!decide (List.take (Nat.add (Int.toNat ((↑n : Int) - (4 : Int))) (4 : Nat)) (sealS (List.take (Int.toNat ((↑n : Int) - (4 : Int))) l)) = List.take n l)) = true, Nat.add (Int.toNat ((↑n : Int) - (4 : Int))) (4 : Nat) ≤ List.length (sealS (List.take (Int.toNat ((↑n : Int) - (4 : Int))) l)), n ≤ List.length l, Nat.add (Int.toNat ((↑n : Int) - (4 : Int))) (4 : Nat) ≤ (1000000000 : Nat), Int.toNat ((↑n : Int) - (4 : Int)) ≤ List.length l, Int.toNat ((↑n : Int) - (4 : Int)) ≤ (1000000 : Nat), wf8 l, (0 : Int) ≤ (↑n : Int) - (4 : Int), (↑n : Int) - (4 : Int) ≤ (↑c : Int), decide ((↑n : Int) - (4 : Int) < (0 : Int)) = false, (-9223372036854775808 : Int) ≤ (↑n : Int) - (4 : Int) ∧ (↑n : Int) - (4 : Int) ≤ (9223372036854775807 : Int)]))) := by kernel_rfl
theorem un2 : (fun (l : List Int) (n c : Nat) => retV [0, 2] (callUn 4 17 [bsl 0 n c] [ri l] [false, false])) = fun (l : List Int) (n : Nat) (c : Nat) => some (((V.tup [(V1.one (C.slice ((2 : Nat)) (N.c ((0 : Nat))) ((1 : Nat)) (N.s (Int.toNat ((↑n : Int) - (4 : Int)))) (N.s (Int.toNat ((↑n : Int) - (4 : Int)))))), (V1.one (C.int (IntKind.i64) ((0 : Int))))]), ([(SB.mk (false) (Cells.ints (IntKind.u8) (l))), (SB.mk (true) (Cells.ints (IntKind.u8) (List.take (Int.toNat ((↑n : Int) - (4 : Int))) l)))], [Int.toNat ((↑n : Int) - (4 : Int)) ≤ List.length l, Int.toNat ((↑n : Int) - (4 : Int)) ≤ (1000000000 : Nat), (0 : Int) ≤ (↑n : Int) - (4 : Int), (↑n : Int) - (4 : Int) ≤ (↑c : Int), (!decide (List.take (Nat.add (Int.toNat ((↑n : Int) - (4 : Int))) (4 : Nat)) (sealS (List.take (Int.toNat ((↑n : Int) - (4 : Int))) l)) = List.take n l)) = false, Nat.add (Int.toNat ((↑n : Int) - (4 : Int))) (4 : Nat) ≤ List.length (sealS (List.take (Int.toNat ((↑n : Int) - (4 : Int))) l)), n ≤ List.length l, Nat.add (Int.toNat ((↑n : Int) - (4 : Int))) (4 : Nat) ≤ (1000000000 : Nat), Int.toNat ((↑n : Int) - (4 : Int)) ≤ List.length l, Int.toNat ((↑n : Int) - (4 : Int)) ≤ (1000000 : Nat), wf8 l, (0 : Int) ≤ (↑n : Int) - (4 : Int), (↑n : Int) - (4 : Int) ≤ (↑c : Int), decide ((↑n : Int) - (4 : Int) < (0 : Int)) = false, (-9223372036854775808 : Int) ≤ (↑n : Int) - (4 : Int) ∧ (↑n : Int) - (4 : Int) ≤ (9223372036854775807 : Int)]))) := by kernel_rfl
end
section
/- Unseal: the contract. -/
open Go.ChangeShapes Go.WideShapes Go.ChangeAt Go.RowKit Go.Sx
theorem tabUn_ok : ∀ f g, tabUn f = some g → TabOk Try.prog f g := tabs_ok fun x hx => by
  simp only [List.mem_cons, List.not_mem_nil, or_false] at hx
  rcases hx with rfl | rfl | rfl
  · exact seal_tab
  · exact equal_tab
  · exact cloneB_tab
def tupB (b n : Nat) (e : Int) : V := .tup [.one (.slice b (.c 0) 1 (.s n) (.s n)), .one (.sint .i64 e)]
theorem ghost_tup {f : FuncId} {args : List V} {l : List Int} {e : Int} (h : Works Try.prog f args [ri l] (.tup [.one .nils, .one (.sint .i64 e)]) [ri l]) : Works Try.prog f args [ri l] (tupB 1 0 e) [ri l, oi []] := by
  intro ρ K w us hm hu
  refine (h ρ K w us hm hu).mono fun en w' ⟨u, ρ', he, hv, hm'⟩ => ?_
  have hg := hm'.beside (ghost_rel w' (.ints .u8 []) (fun ρ g i r h => by simp at h) rfl) rfl
  have hl := hm'.len
  refine ⟨u, ρ' ++ [⟨0, 0, 0⟩], he, ?_, ?_⟩
  · obtain ⟨vs, hv1, hv2⟩ := hv
    refine ⟨vs, hv1, ?_⟩
    obtain ⟨v1, s1, rfl, ⟨h1, h1'⟩, h2⟩ := hv2
    simp only [C.rel] at h1
    refine ⟨v1, s1, rfl, ⟨⟨⟨0, 0, 0⟩, ?_, .inl ⟨rfl, rfl, h1⟩⟩, h1'⟩, ?_⟩
    · rw [← List.append_assoc, List.getElem?_append_right (by rw [hl]; simp)]
      rw [hl]; rfl
    · obtain ⟨v2, s2, rfl, ⟨h3, h3'⟩, h4⟩ := h2
      exact ⟨v2, s2, rfl, ⟨h3, h3'⟩, h4⟩
  · rw [← List.append_assoc]; exact hg
theorem unseal_works (l : List Int) (n c : Nat) (hn : n ≤ l.length) (hm : n ≤ 1000000) (hw : wf8 l) : Works Try.prog 17 [bsl 0 n c] [ri l] (tupB 1 (unsealS (l.take n)).1.length (unsealS (l.take n)).2) [ri l, oi (unsealS (l.take n)).1] := cap_works fun hc => by
  have hl : (l.take n).length = n := by rw [List.length_take]; omega
  have q0 := congrFun (congrFun (congrFun un0 l) n) c
  have q1 := congrFun (congrFun (congrFun un1 l) n) c
  have q2 := congrFun (congrFun (congrFun un2 l) n) c
  by_cases h4 : n < 4
  · have e : unsealS (l.take n) = ([], 11) := by unfold unsealS; rw [if_pos (by omega)]
    rw [e]
    refine ghost_tup (works_of (r := []) tabUn_ok q0 ⟨decide_eq_true (by omega), by omega, trivial⟩ nd1z ?_ ?_)
    · simp [leV, leL1, leV1, leC]
    · simp [leBs, leB, leCells, ri]
  · have e1 : Int.toNat ((n : Int) - 4) = n - 4 := by omega
    have e2 : (sealS (l.take (n - 4))).length = n := by rw [seal_len, List.length_take]; omega
    have e3 : Nat.add (n - 4) 4 = n := by show n - 4 + 4 = n; omega
    have e4 : List.take n (sealS (l.take (n - 4))) = sealS (l.take (n - 4)) := List.take_of_length_le (by omega)
    have e5 : (l.take n).take ((l.take n).length - 4) = l.take (n - 4) := by rw [hl, List.take_take, Nat.min_eq_left (by omega)]
    rw [e1, e3, e4] at q1 q2
    by_cases hs : sealS (l.take (n - 4)) = l.take n
    · have e : unsealS (l.take n) = (l.take (n - 4), 0) := by unfold unsealS; rw [if_neg (by omega), e5, if_pos hs]
      rw [e]
      have hl4 : (l.take (n - 4)).length = n - 4 := by rw [List.length_take]; omega
      refine works_of (r := [2]) tabUn_ok q2 ⟨by omega, by omega, by omega, by omega, by rw [decide_eq_true hs]; rfl, by omega, hn, by omega, by omega, by omega, hw, by omega, by omega, decide_eq_false (by omega), by omega, trivial⟩ nd12 ?_ ?_
      · simp [tupB, leV, leL1, leV1, leC, N.v, List.range, List.range.loop, hl4]
      · simp [leBs, leB, leCells, ri, oi]
    · have e : unsealS (l.take n) = ([], 12) := by unfold unsealS; rw [if_neg (by omega), e5, if_neg hs]
      rw [e]
      refine ghost_tup (works_of (r := []) tabUn_ok q1 ⟨by rw [decide_eq_false hs]; rfl, by omega, hn, by omega, by omega, by omega, hw, by omega, by omega, decide_eq_false (by omega), by omega, trivial⟩ nd1z ?_ ?_)
      · simp [leV, leL1, leV1, leC]
      · simp [leBs, leB, leCells, ri]
def gUnseal : Sx.Loc := fun args bs => match args, bs with
  | [.v (.one (.slice 0 (.c 0) 1 (.s n) (.s _)))], [⟨false, .ints k l⟩] => match decide (k = .u8) with
    | true => some (tupB 1 (unsealS (l.take n)).1.length (unsealS (l.take n)).2, [ri l, oi (unsealS (l.take n)).1], [n ≤ l.length, n ≤ 1000000, wf8 l])
    | false => none
  | _, _ => none
theorem unseal_tab : TabOk Try.prog 17 (loc frozen8 gUnseal) := loc_ok fun xs bs v bs' ob hg hob hokb => by
  unfold gUnseal at hg
  split at hg
  · rename_i n c k l
    split at hg
    · rename_i hk
      injection hg with hg; injection hg with e1 e2; injection e2 with e2 e3
      subst e1; subst e2; subst e3
      have hk' : k = .u8 := of_decide_eq_true hk
      subst hk'
      exact unseal_works l n c (hob _ (by simp)) (hob (n ≤ 1000000) (by simp)) (hob (wf8 l) (by simp))
    · cases hg
  · cases hg
end
end Go.Proofs.Ytjjjpflnhagfcaa
