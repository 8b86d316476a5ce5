/- BytesResidue is true of any bytes, and leaves its argument as it was. -/
import Derived.Test.YtjjjpflnhagfcaaResA
namespace Go.Proofs.Ytjjjpflnhagfcaa
open Go.ChangeShapes Go.WideShapes Go.ChangeAt Go.RowKit Go.Sx
theorem tabS_ok : ∀ f g, tabS f = some g → TabOk Try.prog f g := tabs_ok fun x hx => by
  simp only [List.mem_cons, List.not_mem_nil, or_false] at hx
  rcases hx with rfl | rfl
  · exact yes_ok no_tabs awake_run
  · exact crc_tab
theorem low_xor (h : Nat) : h ^^^ h % 256 = h / 256 * 256 := by
  apply Nat.eq_of_testBit_eq
  intro i
  rw [show (256 : Nat) = 2 ^ 8 from rfl, Nat.testBit_xor, Nat.testBit_mod_two_pow, Nat.testBit_mul_two_pow, Nat.testBit_div_two_pow]
  by_cases hi : i < 8
  · simp [hi]; intro h8; omega
  · simp [hi, show 8 ≤ i by omega, show i - 8 + 8 = i by omega]
theorem res_step (h k : Nat) : byteStep (h ^^^ k) (255 ^^^ h % 256) = h / 256 ^^^ nib (nib (255 ^^^ k)) := by
  unfold byteStep
  rw [show h ^^^ k ^^^ (255 ^^^ h % 256) = (h ^^^ h % 256) ^^^ (255 ^^^ k) by
    rw [Nat.xor_assoc, Nat.xor_assoc]; congr 1
    rw [Nat.xor_comm 255 (h % 256), ← Nat.xor_assoc, Nat.xor_comm k, Nat.xor_assoc, Nat.xor_comm k 255], low_xor, step_shift]
theorem byte_of {c k : Nat} (hk : k ≤ 24) : (4294967295 ^^^ c) / 2 ^ k % 256 = 255 ^^^ c / 2 ^ k % 256 := by
  rw [← Nat.shiftRight_eq_div_pow, Nat.shiftRight_xor_distrib, show (256 : Nat) = 2 ^ 8 from rfl, Nat.xor_mod_two_pow, Nat.shiftRight_eq_div_pow, Nat.shiftRight_eq_div_pow]
  have : ∀ k : Nat, k < 25 → 4294967295 / 2 ^ k % 2 ^ 8 = 255 := by decide
  rw [this k (by omega)]
theorem residue (c : Nat) (hc : c < 4294967296) : crcN c [(((4294967295 ^^^ c) % 256 : Nat) : Int), (((4294967295 ^^^ c) / 256 % 256 : Nat) : Int), (((4294967295 ^^^ c) / 65536 % 256 : Nat) : Int), (((4294967295 ^^^ c) / 16777216 % 256 : Nat) : Int)] = 3736805603 := by
  have b0 := byte_of (c := c) (k := 0) (by omega)
  have b1 := byte_of (c := c) (k := 8) (by omega)
  have b2 := byte_of (c := c) (k := 16) (by omega)
  have b3 := byte_of (c := c) (k := 24) (by omega)
  simp only [Nat.reducePow, Nat.div_one] at b0 b1 b2 b3
  have s0 := res_step c 0
  have s1 := res_step (c / 256) (nib (nib (255 ^^^ 0)))
  have s2 := res_step (c / 256 / 256) (nib (nib (255 ^^^ nib (nib (255 ^^^ 0)))))
  have s3 := res_step (c / 256 / 256 / 256) (nib (nib (255 ^^^ nib (nib (255 ^^^ nib (nib (255 ^^^ 0)))))))
  rw [Nat.xor_zero] at s0
  rw [Nat.div_div_eq_div_mul] at s2 s3
  rw [Nat.div_div_eq_div_mul] at s3
  rw [show c / (256 * 256 * 256) / 256 = 0 by omega, Nat.zero_xor] at s3
  simp only [crcN, Int.toNat_natCast, b0, b1, b2, b3]
  rw [s0, s1, Nat.div_div_eq_div_mul, s2, Nat.div_div_eq_div_mul, s3]
  decide
theorem bytes_ok (c : Nat) : wf8 [((c % 256 : Nat) : Int), ((c / 256 % 256 : Nat) : Int), ((c / 65536 % 256 : Nat) : Int), ((c / 16777216 % 256 : Nat) : Int)] := by
  intro x hx
  simp only [List.mem_cons, List.not_mem_nil, or_false] at hx
  rcases hx with rfl | rfl | rfl | rfl <;> omega
theorem wf8_of {l : List Int} (h : ∀ n ∈ l, (Lit.int .u8 n).wf = true) : wf8 l := fun x hx => by
  have := h x hx
  simp [Lit.wf, IntKind.min, IntKind.max, IntKind.signed, IntKind.bits] at this
  omega
theorem wf8_app {a b : List Int} (ha : wf8 a) (hb : wf8 b) : wf8 (a ++ b) := fun x hx => by
  rcases List.mem_append.1 hx with h | h
  · exact ha x h
  · exact hb x h
/-- the sum's bytes, the lowest one first -/
def sumB (c : Nat) : List Int := [((c % 256 : Nat) : Int), ((c / 256 % 256 : Nat) : Int), ((c / 65536 % 256 : Nat) : Int), ((c / 16777216 % 256 : Nat) : Int)]
theorem sum_bytes (c : Nat) : [IntKind.wrap .u8 (c : Int), IntKind.wrap .u8 (Int.fdiv (c : Int) 256), IntKind.wrap .u8 (Int.fdiv (c : Int) 65536), IntKind.wrap .u8 (Int.fdiv (c : Int) 16777216)] = sumB c := by
  have w : ∀ n : Int, IntKind.wrap .u8 n = n % 256 := fun n => by simp [IntKind.wrap, IntKind.bits, IntKind.signed]
  simp only [w, sumB, Int.fdiv_eq_ediv_of_nonneg _ (show (0 : Int) ≤ 256 by decide), Int.fdiv_eq_ediv_of_nonneg _ (show (0 : Int) ≤ 65536 by decide), Int.fdiv_eq_ediv_of_nonneg _ (show (0 : Int) ≤ 16777216 by decide)]
  congr 1
theorem bytesResidue_calls (l : List Int) (e : E) (v : Value) {W0 : World} (r : readOnly W0 (e, ri l)) (w : ∀ n ∈ l, (Lit.int .u8 n).wf = true) (_m : l.length ≤ maxLen)
    (u : ∀ (ρ : Env) (b : Nat), ρ[b]? = some e → (V.v (.one (.slice b (.c 0) 1 (.s l.length) (.s l.length)))).rel ρ v) (W : World) (hW : W0 = W := by rfl) : Calls Try.prog 6 #[v] W fun e w' => e = .returned (.bool true) ∧ Below W.heap.size W w' := by
  subst hW
  have hm := mem_args (W := W0) [(e, ri l)] (by intro y hy; simp at hy; subst hy; exact r)
  have hu : relVs ([(e, ri l)].map (·.1)) [bsl 0 l.length l.length] [v] := ⟨_, _, rfl, u _ 0 rfl, rfl⟩
  by_cases h0 : (600 : Int) < l.length
  · refine law_obs tabS_ok (congrFun rs0 l) ?_ hm hu
    exact ⟨decide_eq_true h0, trivial⟩
  · refine law_obs tabS_ok (congrFun rs1 l) ?_ hm hu
    have hw := wf8_of w
    have hc := crcN_lt (c := 4294967295) (by omega) hw
    rw [List.take_length]
    have e1 : crcS l = ((4294967295 ^^^ crcN 4294967295 l : Nat) : Int) := rfl
    rw [e1, sum_bytes, List.nil_append]
    have hl : (l ++ sumB (4294967295 ^^^ crcN 4294967295 l)).length = l.length + 4 := by simp [sumB]
    have ht : List.take (Nat.add l.length 4) (l ++ sumB (4294967295 ^^^ crcN 4294967295 l)) = l ++ sumB (4294967295 ^^^ crcN 4294967295 l) := List.take_of_length_le (by rw [hl]; exact Nat.le_refl _)
    have hr : crcS (l ++ sumB (4294967295 ^^^ crcN 4294967295 l)) = 558161692 := by
      unfold crcS
      rw [crcN_app, show sumB (4294967295 ^^^ crcN 4294967295 l) = _ from rfl]
      unfold sumB
      rw [residue _ hc]
      decide
    rw [ht, hr, hl]
    refine ⟨by decide, Nat.le_refl _, ?_, wf8_app hw (bytes_ok _), rfl, rfl, ?_, ?_, rfl, rfl, ?_, ?_, Nat.le_refl _, ?_, hw, decide_eq_false h0, trivial⟩
    · show l.length + 4 ≤ _; omega
    · omega
    · omega
    · omega
    · omega
    · omega

set_option maxRecDepth 100000 in
theorem bytesResidue_lifted (os : Os) (started : os.Started) (H : Type) (enc : TypeId × Value → H) :
    ReturnsInHanded {} Try.checked os 6 .any (Rows.bytesResidueSpec.pre6 enc Try.prog Try.f6 Rows.bytesResidueRow.domain false) (Rows.bytesResidueSpec.post enc Try.prog Try.f6 false true false false) := by
  refine returnsInHanded_of_change (C := Try.checked) own started (by kernel_rfl) Try.func6
    (ChangeSpec.witness6 (enc := enc) (C := Try.checked) false ⟨#[], #[.slice none 0 0], []⟩ 8 (by kernel_rfl) (by kernel_rfl) (by kernel_rfl) (by kernel_rfl)) ?_
  intro W base args ds gs before hval0 hW hcnd _
  have hval : ∀ (j : Nat) t v, Try.f6.params[j]? = some t → args[j]? = some v → Value.okWide Try.prog W .any base t v := hval0
  have hW' := hW
  obtain ⟨p, q, hA0, hV, hbef, hfz, hnd⟩ := hW
  have hA : DataW.TrodAll enc Try.prog W 0 (fun _ => true) true Try.f6.params.toList args.toList ds p := hA0
  rw [Try.params6] at hA hval
  obtain ⟨v0, d0, rfl, rfl, h0⟩ := trodAll_one hA
  obtain ⟨a0, e0, r0, w0, m0, u0⟩ := one_ints (k := .u8) (d := 20) (by kernel_rfl) (hval 0 23 v0 rfl rfl) h0
  refine (bytesResidue_calls a0 e0 v0 r0 w0 m0 u0 W).mono fun e W' ⟨he, hb⟩ => ?_
  subst he
  exact ⟨_, rfl, post_law laidOut (by rw [Try.params6]; decide +kernel) rfl rfl (by kernel_rfl) Try.underlying4 hW' hb⟩

theorem bytesResidue_holds : Rows.BytesResidueSaid :=
  OpenClaim.holds_of_wide 6 Try.f6 rfl rfl rfl rfl rfl rfl rfl ⟨rfl, rfl, rfl, rfl, rfl⟩ rfl rfl rfl rfl rfl (by kernel_rfl) Try.func6 (by kernel_rfl)
    (of_decide_eq_true (by kernel_rfl)) (by unfold Func.isWrapper; first | (rw [if_pos (by decide +kernel)]; kernel_rfl) | (rw [if_neg (by decide +kernel)]; exact ⟨rfl, rfl⟩))
    (fun os started H enc _ => bytesResidue_lifted os started H enc)
#print axioms bytesResidue_holds

end Go.Proofs.Ytjjjpflnhagfcaa
