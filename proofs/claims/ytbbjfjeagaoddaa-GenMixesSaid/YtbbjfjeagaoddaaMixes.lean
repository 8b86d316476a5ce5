/- GenMixes is true of any seed and any two numbers, and leaves its arguments as they were. -/
import Derived.Test.YtbbjfjeagaoddaaTell
namespace Go.Proofs.Ytbbjfjeagaoddaa
open Go.ChangeShapes Go.WideShapes Go.ChangeAt Go.RowKit Go.Sx
def xr (a b : Int) : Int := bits .xor .u64 a b
def bkS (x d y : Int) : Int := xr x (y.fdiv d)
def bk3 (x d : Int) : Int := bkS x d (bkS x d (bkS x d x))
def unmix (s m : Int) : Int := w64 (w64 (w64 (bk3 (w64 (bk3 (w64 (bk3 m 2147483648 * 3573116690164977347)) 134217728 * 10871156337175269513)) 1073741824 - s) * 17428512612931826493) - 1)
theorem mixes0 : (fun s n o : Int => obsOf (call3 6 4 [si .u64 s, si .u64 n, si .u64 o] [] [false, true])) = fun s n o => some [decide (unmix s (mixF s n) = n) = true, (!decide (n = o)) = false] := by kernel_rfl
theorem mixes1 : (fun s n o : Int => obsOf (call3 6 4 [si .u64 s, si .u64 n, si .u64 o] [] [true, false, true])) = fun s n o => some [decide (unmix s (mixF s n) = n) = true, decide (mixF s o = mixF s n) = false, (!decide (n = o)) = true] := by kernel_rfl
theorem w64_eq (x : Int) : w64 x = x % 18446744073709551616 := by
  simp [w64, IntKind.wrap, IntKind.signed, IntKind.bits]
theorem xr_nat {a b : Nat} (ha : a < 2 ^ 64) (hb : b < 2 ^ 64) : xr a b = ((a ^^^ b : Nat) : Int) := by
  have e : ∀ k : Nat, BitVec.ofInt 64 ((k : Nat) : Int) = BitVec.ofNat 64 k := fun k => by simp
  show IntKind.wrap .u64 (((BitVec.ofInt 64 (a : Int) ^^^ BitVec.ofInt 64 (b : Int)).toNat : Nat) : Int) = _
  rw [e, e, BitVec.toNat_xor, BitVec.toNat_ofNat, BitVec.toNat_ofNat, Nat.mod_eq_of_lt ha, Nat.mod_eq_of_lt hb]
  have := Nat.xor_lt_two_pow ha hb
  have h := w64_eq ((a ^^^ b : Nat) : Int)
  unfold w64 at h
  rw [h, Int.emod_eq_of_lt (by omega) (by omega)]
theorem sh_nat (a k : Nat) : ((a : Nat) : Int).fdiv ((2 ^ k : Nat) : Int) = ((a >>> k : Nat) : Int) := by
  rw [Int.fdiv_eq_ediv_of_nonneg _ (Int.natCast_nonneg _), Nat.shiftRight_eq_div_pow]
  exact (Int.natCast_ediv _ _).symm
theorem shr_lt {a : Nat} (k : Nat) (h : a < 2 ^ 64) : a >>> k < 2 ^ 64 := Nat.lt_of_le_of_lt (Nat.shiftRight_le _ _) h
theorem bkS_nat {x y : Nat} (k : Nat) (hx : x < 2 ^ 64) (hy : y < 2 ^ 64) : bkS x ((2 ^ k : Nat) : Int) y = ((x ^^^ (y >>> k) : Nat) : Int) := by
  unfold bkS
  rw [sh_nat, xr_nat hx (shr_lt k hy)]
theorem xor_mid (a b c : Nat) : a ^^^ b ^^^ (b ^^^ c) = a ^^^ c := by
  rw [Nat.xor_assoc, ← Nat.xor_assoc b b c, Nat.xor_self, Nat.zero_xor]
theorem bk3_nat {x : Nat} (k : Nat) (hx : x < 2 ^ 64) (hk : 16 ≤ k) : bk3 ((x ^^^ (x >>> k) : Nat) : Int) ((2 ^ k : Nat) : Int) = (x : Int) := by
  have hz : x ^^^ (x >>> k) < 2 ^ 64 := Nat.xor_lt_two_pow hx (shr_lt k hx)
  have h1 : (x ^^^ (x >>> k)) ^^^ ((x ^^^ (x >>> k)) >>> k) = x ^^^ (x >>> (2 * k)) := by
    rw [Nat.shiftRight_xor_distrib, xor_mid, ← Nat.shiftRight_add]
    congr 2; omega
  have h2 : (x ^^^ (x >>> k)) ^^^ ((x ^^^ (x >>> (2 * k))) >>> k) = x ^^^ (x >>> (3 * k)) := by
    rw [Nat.shiftRight_xor_distrib, xor_mid, ← Nat.shiftRight_add]
    congr 2; omega
  have h3 : (x ^^^ (x >>> k)) ^^^ ((x ^^^ (x >>> (3 * k))) >>> k) = x := by
    rw [Nat.shiftRight_xor_distrib, xor_mid, ← Nat.shiftRight_add]
    have : x >>> (3 * k + k) = 0 := by
      rw [Nat.shiftRight_eq_div_pow]
      refine Nat.div_eq_of_lt (Nat.lt_of_lt_of_le hx (Nat.pow_le_pow_right (by decide) (by omega)))
    rw [this, Nat.xor_zero]
  unfold bk3
  rw [bkS_nat k hz hz, h1, bkS_nat k hz (Nat.xor_lt_two_pow hx (shr_lt _ hx)), h2, bkS_nat k hz (Nat.xor_lt_two_pow hx (shr_lt _ hx)), h3]
theorem bk3_int {x : Int} (k : Nat) (h0 : 0 ≤ x) (h1 : x ≤ 18446744073709551615) (hk : 16 ≤ k) : bk3 (xr x (x.fdiv ((2 ^ k : Nat) : Int))) ((2 ^ k : Nat) : Int) = x := by
  obtain ⟨a, rfl, ha⟩ : ∃ a : Nat, x = a ∧ a < 2 ^ 64 := ⟨x.toNat, by omega, by omega⟩
  rw [sh_nat, xr_nat ha (shr_lt k ha)]
  exact bk3_nat k ha hk
theorem xr_range (a b : Int) : 0 ≤ xr a b ∧ xr a b ≤ 18446744073709551615 := w64_range _
theorem mul_back {a K U : Int} (h : K * U % 18446744073709551616 = 1) (ha : 0 ≤ a ∧ a ≤ 18446744073709551615) : w64 (w64 (a * K) * U) = a := by
  rw [w64_eq, w64_eq, Int.mul_emod, Int.emod_emod, ← Int.mul_emod, Int.mul_assoc, Int.mul_emod, h, Int.mul_one, Int.emod_emod, Int.emod_eq_of_lt ha.1 (by omega)]
theorem unmix_mix {s n : Int} (hs : 0 ≤ s ∧ s ≤ 18446744073709551615) (hn : 0 ≤ n ∧ n ≤ 18446744073709551615) : unmix s (mixF s n) = n := by
  have r0 : 0 ≤ x0 s n ∧ x0 s n ≤ 18446744073709551615 := w64_range _
  have r1 : 0 ≤ turn (x0 s n) 1073741824 13787848793156543929 ∧ turn (x0 s n) 1073741824 13787848793156543929 ≤ 18446744073709551615 := w64_range _
  have r2 : 0 ≤ turn (turn (x0 s n) 1073741824 13787848793156543929) 134217728 10723151780598845931 ∧ turn (turn (x0 s n) 1073741824 13787848793156543929) 134217728 10723151780598845931 ≤ 18446744073709551615 := w64_range _
  have e1 : bk3 (mixF s n) 2147483648 = turn (turn (x0 s n) 1073741824 13787848793156543929) 134217728 10723151780598845931 := bk3_int 31 r2.1 r2.2 (by omega)
  have e2 : w64 (turn (turn (x0 s n) 1073741824 13787848793156543929) 134217728 10723151780598845931 * 3573116690164977347) = xr (turn (x0 s n) 1073741824 13787848793156543929) ((turn (x0 s n) 1073741824 13787848793156543929).fdiv 134217728) :=
    mul_back (K := 10723151780598845931) (by decide) (xr_range _ _)
  have e3 : bk3 (xr (turn (x0 s n) 1073741824 13787848793156543929) ((turn (x0 s n) 1073741824 13787848793156543929).fdiv 134217728)) 134217728 = turn (x0 s n) 1073741824 13787848793156543929 := bk3_int 27 r1.1 r1.2 (by omega)
  have e4 : w64 (turn (x0 s n) 1073741824 13787848793156543929 * 10871156337175269513) = xr (x0 s n) ((x0 s n).fdiv 1073741824) := mul_back (K := 13787848793156543929) (by decide) (xr_range _ _)
  have e5 : bk3 (xr (x0 s n) ((x0 s n).fdiv 1073741824)) 1073741824 = x0 s n := bk3_int 30 r0.1 r0.2 (by omega)
  have e6 : w64 (x0 s n - s) = w64 (w64 (n + 1) * 11400714819323198485) := by
    unfold x0
    rw [w64_eq, w64_eq (s + _), w64_eq (w64 (n + 1) * _)]
    omega
  have e7 : w64 (w64 (w64 (n + 1) * 11400714819323198485) * 17428512612931826493) = w64 (n + 1) := mul_back (by decide) (w64_range _)
  unfold unmix
  rw [e1, e2, e3, e4, e5, e6, e7, w64_eq, w64_eq]
  omega
theorem genMixes_calls (s n o : Int) (ws : (Lit.int .u64 s).wf = true) (wn : (Lit.int .u64 n).wf = true) (wo : (Lit.int .u64 o).wf = true) (W : World) :
    Calls Try.prog 4 #[.int .u64 s, .int .u64 n, .int .u64 o] W fun e w' => e = .returned (.bool true) ∧ Below W.heap.size W w' := by
  have hu : relVs [] [si .u64 s, si .u64 n, si .u64 o] [.int .u64 s, .int .u64 n, .int .u64 o] := ⟨_, _, rfl, ⟨rfl, rfl⟩, _, _, rfl, ⟨rfl, rfl⟩, _, _, rfl, ⟨rfl, rfl⟩, rfl⟩
  have h1 := unmix_mix (wf_u64 ws) (wf_u64 wn)
  have h2 := unmix_mix (wf_u64 ws) (wf_u64 wo)
  by_cases h : n = o
  · exact law_obs tab3_ok (congrFun (congrFun (congrFun mixes0 s) n) o) (by simp [allP, h1, h]; rw [← h]; exact h1) (MemRel.nil W) hu
  · have hne : mixF s o ≠ mixF s n := fun he => h (by rw [← h1, ← h2, he])
    exact law_obs tab3_ok (congrFun (congrFun (congrFun mixes1 s) n) o) (by simp [allP, h1, h, hne]) (MemRel.nil W) hu

set_option maxRecDepth 100000 in
theorem genMixes_lifted (os : Os) (started : os.Started) (H : Type) (enc : TypeId × Value → H) :
    ReturnsInHanded {} Try.checked os 4 .any (Rows.genMixesSpec.pre6 enc Try.prog Try.f4 Rows.genMixesRow.domain false) (Rows.genMixesSpec.post enc Try.prog Try.f4 false true false false) := by
  refine returnsInHanded_of_change (C := Try.checked) own started (by kernel_rfl) Try.func4
    (ChangeSpec.witness6 (enc := enc) (C := Try.checked) false ⟨#[], #[.int .u64 0, .int .u64 0, .int .u64 0], []⟩ 8 (by kernel_rfl) (by kernel_rfl) (by kernel_rfl) (by kernel_rfl)) ?_
  intro W base args ds gs before hval0 hW hcnd _
  have hval : ∀ (j : Nat) t v, Try.f4.params[j]? = some t → args[j]? = some v → Value.okWide Try.prog W .any base t v := hval0
  have hW' := hW
  obtain ⟨p, q, hA0, hV, hbef, hfz, hnd⟩ := hW
  have hA : DataW.TrodAll enc Try.prog W 0 (fun _ => true) true Try.f4.params.toList args.toList ds p := hA0
  rw [Try.params4] at hA hval
  obtain ⟨v0, v1, v2, d0, d1, d2, p0, p1, p2, rfl, rfl, hp, h0, h1, h2⟩ := trodAll_three hA
  obtain ⟨a0, rfl, rfl, _, w0⟩ := open_int Try.underlying22 (hval 0 22 v0 rfl rfl) h0
  obtain ⟨a1, rfl, rfl, _, w1⟩ := open_int Try.underlying22 (hval 1 22 v1 rfl rfl) h1
  obtain ⟨a2, rfl, rfl, _, w2⟩ := open_int Try.underlying22 (hval 2 22 v2 rfl rfl) h2
  refine (genMixes_calls a0 a1 a2 w0 w1 w2 W).mono fun e W' ⟨he, hb⟩ => ?_
  subst he
  exact ⟨_, rfl, post_law laidOut (by rw [Try.params4]; decide +kernel) rfl rfl (by kernel_rfl) Try.underlying4 hW' hb⟩

theorem genMixes_holds : Rows.GenMixesSaid :=
  OpenClaim.holds_of_wide 4 Try.f4 rfl rfl rfl rfl rfl rfl rfl ⟨rfl, rfl, rfl, rfl, rfl⟩ rfl rfl rfl rfl rfl (by kernel_rfl) Try.func4 (by kernel_rfl)
    (of_decide_eq_true (by kernel_rfl)) (by unfold Func.isWrapper; first | (rw [if_pos (by decide +kernel)]; kernel_rfl) | (rw [if_neg (by decide +kernel)]; exact ⟨rfl, rfl⟩))
    (fun os started H enc _ => genMixes_lifted os started H enc)
#print axioms genMixes_holds

end Go.Proofs.Ytbbjfjeagaoddaa
