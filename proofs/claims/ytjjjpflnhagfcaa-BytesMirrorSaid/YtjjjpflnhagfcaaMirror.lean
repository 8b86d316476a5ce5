/- BytesMirror is true of any number, and leaves its argument as it was. -/
import Derived.Test.YtjjjpflnhagfcaaLadder
namespace Go.Proofs.Ytjjjpflnhagfcaa
open Go.ChangeShapes Go.WideShapes Go.ChangeAt Go.RowKit Go.Sx
theorem xor_pairs : allF (fun k => decide (bits .xor .u8 (2 * (k : Int)) (2 * (k : Int) + 1) = 1)) 0 128 = true := by kernel_rfl
theorem xor_pair {x : Int} (h0 : 0 ≤ x) (h1 : x < 256) (h2 : x % 2 = 0) : bits .xor .u8 x (x + 1) = 1 := by
  have := allF_spec xor_pairs (x / 2).toNat (by omega) (by omega)
  have e : 2 * (((x / 2).toNat : Nat) : Int) = x := by omega
  rw [e] at this
  exact of_decide_eq_true this
/-- a number and the next, of an even one: apart in the first byte alone -/
theorem vint_pair (n : Int) (hn : 0 ≤ n) : ∃ (x : Int) (r : List Int), vint (2 * n) = x :: r ∧ vint (2 * n + 1) = (x + 1) :: r ∧ 0 ≤ x ∧ x < 255 ∧ x % 2 = 0 := by
  by_cases h : 2 * n < 128
  · exact ⟨2 * n, [], vint_small ⟨by omega, h⟩, vint_small ⟨by omega, by omega⟩, by omega, by omega, by omega⟩
  · refine ⟨128 + (2 * n) % 128, vint (2 * n / 128), ?_, ?_, by omega, by omega, by omega⟩
    · unfold vint
      rw [vintN_big (by omega)]
      congr 1
      · omega
      · congr 1; omega
    · unfold vint
      rw [vintN_big (by omega)]
      congr 1
      · omega
      · congr 1; omega
theorem mirror_ok (n : Int) (h0 : 0 ≤ n) (h1 : n ≤ 9223372036854775807) : ∃ (x : Int) (r : List Int), svint n = x :: r ∧ svint (-1 - n) = (x + 1) :: r ∧ vint (IntKind.wrap .u64 (2 * IntKind.wrap .u64 n)) = x :: r ∧ bits .xor .u8 x (x + 1) = 1 ∧ r.length ≤ 9 := by
  obtain ⟨x, r, k1, k2, k3, k4, k5⟩ := vint_pair n h0
  have e1 : zz n = 2 * n := by unfold zz; rw [if_neg (by omega)]
  have e2 : zz (-1 - n) = 2 * n + 1 := by unfold zz; rw [if_pos (by omega)]; omega
  have e3 : IntKind.wrap .u64 (2 * IntKind.wrap .u64 n) = 2 * n := by rw [w64 (n := n) h0 (by omega), w64 (by omega) (by omega)]
  refine ⟨x, r, by unfold svint; rw [e1]; exact k1, by unfold svint; rw [e2]; exact k2, by rw [e3]; exact k1, xor_pair k3 (by omega) k5, ?_⟩
  have := vint_le (n := 2 * n) ⟨by omega, by omega⟩
  rw [k1] at this
  simpa using this
theorem bytesMirror_calls (n : Int) (wn : (Lit.int .i64 n).wf = true) (W : World) :
    Calls Try.prog 5 #[.int .i64 n] W fun e w' => e = .returned (.bool true) ∧ Below W.heap.size W w' := by
  have hn := wf_i64 wn
  have hu : relVs [] [si .i64 n] [.int .i64 n] := ⟨_, _, rfl, ⟨rfl, rfl⟩, rfl⟩
  by_cases h : n < 0
  · refine law_obs tabL_ok (congrFun mirror1 n) ?_ (MemRel.nil W) hu
    obtain ⟨x, r, k1, k2, k3, k4, k5⟩ := mirror_ok (-1 - n) (by omega) (by omega)
    simp only [allP, k1, k2, k3, k4]
    have w := w64 (n := -1 - n) (by omega) (by omega)
    have w' := w64 (n := 2 * (-1 - n)) (by omega) (by omega)
    simp [h, u64, i64, w, w']
    omega
  · refine law_obs tabL_ok (congrFun mirror0 n) ?_ (MemRel.nil W) hu
    obtain ⟨x, r, k1, k2, k3, k4, k5⟩ := mirror_ok n (by omega) (by omega)
    simp only [allP, k1, k2, k3, k4]
    have w := w64 (n := n) (by omega) (by omega)
    have w' := w64 (n := 2 * n) (by omega) (by omega)
    simp [h, u64, i64, w, w']
    omega

set_option maxRecDepth 100000 in
theorem bytesMirror_lifted (os : Os) (started : os.Started) (H : Type) (enc : TypeId × Value → H) :
    ReturnsInHanded {} Try.checked os 5 .any (Rows.bytesMirrorSpec.pre6 enc Try.prog Try.f5 Rows.bytesMirrorRow.domain false) (Rows.bytesMirrorSpec.post enc Try.prog Try.f5 false true false false) := by
  refine returnsInHanded_of_change (C := Try.checked) own started (by kernel_rfl) Try.func5
    (ChangeSpec.witness6 (enc := enc) (C := Try.checked) false ⟨#[], #[.int .i64 0], []⟩ 8 (by kernel_rfl) (by kernel_rfl) (by kernel_rfl) (by kernel_rfl)) ?_
  intro W base args ds gs before hval0 hW hcnd _
  have hval : ∀ (j : Nat) t v, Try.f5.params[j]? = some t → args[j]? = some v → Value.okWide Try.prog W .any base t v := hval0
  have hW' := hW
  obtain ⟨p, q, hA0, hV, hbef, hfz, hnd⟩ := hW
  have hA : DataW.TrodAll enc Try.prog W 0 (fun _ => true) true Try.f5.params.toList args.toList ds p := hA0
  rw [Try.params5] at hA hval
  obtain ⟨v0, d0, rfl, rfl, h0⟩ := trodAll_one hA
  obtain ⟨a0, rfl, rfl, _, w0⟩ := open_int Try.underlying2 (hval 0 2 v0 rfl rfl) h0
  refine (bytesMirror_calls a0 w0 W).mono fun e W' ⟨he, hb⟩ => ?_
  subst he
  exact ⟨_, rfl, post_law laidOut (by rw [Try.params5]; decide +kernel) rfl rfl (by kernel_rfl) Try.underlying4 hW' hb⟩

theorem bytesMirror_holds : Rows.BytesMirrorSaid :=
  OpenClaim.holds_of_wide 5 Try.f5 rfl rfl rfl rfl rfl rfl rfl ⟨rfl, rfl, rfl, rfl, rfl⟩ rfl rfl rfl rfl rfl (by kernel_rfl) Try.func5 (by kernel_rfl)
    (of_decide_eq_true (by kernel_rfl)) (by unfold Func.isWrapper; first | (rw [if_pos (by decide +kernel)]; kernel_rfl) | (rw [if_neg (by decide +kernel)]; exact ⟨rfl, rfl⟩))
    (fun os started H enc _ => bytesMirror_lifted os started H enc)
#print axioms bytesMirror_holds

end Go.Proofs.Ytjjjpflnhagfcaa
