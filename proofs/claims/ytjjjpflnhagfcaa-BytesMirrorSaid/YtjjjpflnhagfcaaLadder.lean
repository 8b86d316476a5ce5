/- BytesLadder is true of any number below 2^57 and any seven bits, and leaves its arguments as they were. -/
import Derived.Test.YtjjjpflnhagfcaaLawU
import Derived.Test.YtjjjpflnhagfcaaVint
namespace Go.Proofs.Ytjjjpflnhagfcaa
open Go.ChangeShapes Go.WideShapes Go.ChangeAt Go.RowKit Go.Sx
theorem tabL_ok : ∀ f g, tabL f = some g → TabOk Try.prog f g := tabs_ok fun x hx => by
  simp only [List.mem_cons, List.not_mem_nil, or_false] at hx
  rcases hx with rfl | rfl | rfl
  · exact yes_ok no_tabs awake_run
  · exact uint_tab
  · exact int_tab
theorem bytesLadder_calls (n d : Int) (wn : (Lit.int .u64 n).wf = true) (wd : (Lit.int .u8 d).wf = true) (W : World) :
    Calls Try.prog 3 #[.int .u64 n, .int .u8 d] W fun e w' => e = .returned (.bool true) ∧ Below W.heap.size W w' := by
  have hn := wf_u64 wn
  have hd := wf_u8 wd
  have hu : relVs [] [si .u64 n, si .u8 d] [.int .u64 n, .int .u8 d] := ⟨_, _, rfl, ⟨rfl, rfl⟩, _, _, rfl, ⟨rfl, rfl⟩, rfl⟩
  have e1 : n.tmod 144115188075855872 = n % 144115188075855872 := Int.tmod_eq_emod_of_nonneg hn.1
  have e2 : d.tmod 128 = d % 128 := Int.tmod_eq_emod_of_nonneg hd.1
  have e3 : IntKind.wrap .u64 (n % 144115188075855872 * 128) = n % 144115188075855872 * 128 := w64 (by omega) (by omega)
  have e4 : IntKind.wrap .u64 (n % 144115188075855872 * 128 + d % 128) = n % 144115188075855872 * 128 + d % 128 := w64 (by omega) (by omega)
  have e5 : IntKind.wrap .u8 (d % 128 + 128) = d % 128 + 128 := w8 (by omega) (by omega)
  have hu1 : u64 (n % 144115188075855872) := ⟨by omega, by omega⟩
  have hu2 : u64 (n % 144115188075855872 * 128 + d % 128) := ⟨by omega, by omega⟩
  by_cases h : n % 144115188075855872 = 0
  · refine law_obs tabL_ok (congrFun (congrFun ladder0 n) d) ?_ (MemRel.nil W) hu
    have hs := vint_small (d := d % 128) ⟨by omega, by omega⟩
    simp only [allP, e1, e2, e3, e4]
    simp only [h, Int.zero_mul, Int.zero_add, hs]
    simp [u64]; omega
  · refine law_obs tabL_ok (congrFun (congrFun ladder1 n) d) ?_ (MemRel.nil W) hu
    have hlad := vint_ladder (n := n % 144115188075855872) (d := d % 128) (by omega) ⟨by omega, by omega⟩
    have hle := vint_le hu1
    simp only [allP, e1, e2, e3, e4, e5, hlad, and_true]
    simp [h, hu1, hu2]
    omega

set_option maxRecDepth 100000 in
theorem bytesLadder_lifted (os : Os) (started : os.Started) (H : Type) (enc : TypeId × Value → H) :
    ReturnsInHanded {} Try.checked os 3 .any (Rows.bytesLadderSpec.pre6 enc Try.prog Try.f3 Rows.bytesLadderRow.domain false) (Rows.bytesLadderSpec.post enc Try.prog Try.f3 false true false false) := by
  refine returnsInHanded_of_change (C := Try.checked) own started (by kernel_rfl) Try.func3
    (ChangeSpec.witness6 (enc := enc) (C := Try.checked) false ⟨#[], #[.int .u64 0, .int .u8 0], []⟩ 8 (by kernel_rfl) (by kernel_rfl) (by kernel_rfl) (by kernel_rfl)) ?_
  intro W base args ds gs before hval0 hW hcnd _
  have hval : ∀ (j : Nat) t v, Try.f3.params[j]? = some t → args[j]? = some v → Value.okWide Try.prog W .any base t v := hval0
  have hW' := hW
  obtain ⟨p, q, hA0, hV, hbef, hfz, hnd⟩ := hW
  have hA : DataW.TrodAll enc Try.prog W 0 (fun _ => true) true Try.f3.params.toList args.toList ds p := hA0
  rw [Try.params3] at hA hval
  obtain ⟨v0, v1, d0, d1, p0, p1, rfl, rfl, hp, h0, h1⟩ := trodAll_two hA
  obtain ⟨a0, rfl, rfl, _, w0⟩ := open_int Try.underlying22 (hval 0 22 v0 rfl rfl) h0
  obtain ⟨a1, rfl, rfl, _, w1⟩ := open_int Try.underlying5 (hval 1 5 v1 rfl rfl) h1
  refine (bytesLadder_calls a0 a1 w0 w1 W).mono fun e W' ⟨he, hb⟩ => ?_
  subst he
  exact ⟨_, rfl, post_law laidOut (by rw [Try.params3]; decide +kernel) rfl rfl (by kernel_rfl) Try.underlying4 hW' hb⟩

theorem bytesLadder_holds : Rows.BytesLadderSaid :=
  OpenClaim.holds_of_wide 3 Try.f3 rfl rfl rfl rfl rfl rfl rfl ⟨rfl, rfl, rfl, rfl, rfl⟩ rfl rfl rfl rfl rfl (by kernel_rfl) Try.func3 (by kernel_rfl)
    (of_decide_eq_true (by kernel_rfl)) (by unfold Func.isWrapper; first | (rw [if_pos (by decide +kernel)]; kernel_rfl) | (rw [if_neg (by decide +kernel)]; exact ⟨rfl, rfl⟩))
    (fun os started H enc _ => bytesLadder_lifted os started H enc)
#print axioms bytesLadder_holds

end Go.Proofs.Ytjjjpflnhagfcaa
