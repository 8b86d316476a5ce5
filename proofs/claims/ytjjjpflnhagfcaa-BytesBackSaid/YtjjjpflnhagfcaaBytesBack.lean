/- BytesBack is true of any things, bytes and cut, and leaves its arguments as they were. -/
import Derived.Test.YtjjjpflnhagfcaaWbD
namespace Go.Proofs.Ytjjjpflnhagfcaa
open Go.ChangeShapes Go.WideShapes Go.ChangeAt Go.RowKit Go.Sx
theorem bb_rows {l : Rws} (w : ∀ r ∈ l, Go.Sx.wfB k2 r) : ∀ r ∈ l, wf8 r.2 ∧ u64 (r.1.getD 1 0) := by
  intro r hr
  obtain ⟨h1, h2, _, h4⟩ := w r hr
  constructor
  · intro x hx
    have := h2 x hx
    simp [Lit.wf, IntKind.min, IntKind.max, IntKind.signed, IntKind.bits] at this
    omega
  · match hr1 : r.1, h1, h4 with
    | [x, y], h1, _ => exact wf_u64 h1.2.1
theorem bytesBack_calls (l : Rws) (e : E) (v : Value) (a : List Int) (e2 : E) (v2 : Value) (cut : Int) {W0 : World} (r : readN W0 (e, rr l)) (w : ∀ r ∈ l, Go.Sx.wfB k2 r) (_m : l.length ≤ maxLen)
    (u : ∀ (ρ : Env) (b : Nat), ρ[b]? = some e → (V.v (.one (.slice b (.c 0) 3 (.s l.length) (.s l.length)))).rel ρ v)
    (r2 : readOnly W0 (e2, roB a)) (w2 : ∀ n ∈ a, (Lit.int .u8 n).wf = true) (_m2 : a.length ≤ maxLen) (u2 : ∀ (ρ : Env) (b : Nat), ρ[b]? = some e2 → (V.v (.one (.slice b (.c 0) 1 (.s a.length) (.s a.length)))).rel ρ v2)
    (wc : (Lit.int .u16 cut).wf = true) (W : World) (hW : W0 = W := by rfl) :
    Calls Try.prog 10 #[v, v2, .int .u16 cut] W fun e w' => e = .returned (.bool true) ∧ Below W.heap.size W w' := by
  subst hW
  have hm := mem_argsN (W := W0) [(e, rr l), (e2, roB a)] (by
    intro y hy; simp at hy
    rcases hy with rfl | rfl
    · exact r
    · exact r2.nest)
  have hu : relVs ([(e, rr l), (e2, roB a)].map (·.1)) [rsl 0 l.length l.length, bsl 1 a.length a.length, si .u16 cut] [v, v2, .int .u16 cut] := ⟨_, _, rfl, u _ 0 rfl, _, _, rfl, u2 _ 1 rfl, _, _, rfl, ⟨rfl, rfl⟩, rfl⟩
  have hwa : wfB a := fun x hx => by
    have := w2 x hx
    simp [Lit.wf, IntKind.min, IntKind.max, IntKind.signed, IntKind.bits] at this
    omega
  by_cases h50 : (50 : Int) < (a.length : Int)
  · exact law_obsN tabWb_ok (congrFun (congrFun (congrFun wb0 l) a) cut) ⟨decide_eq_true h50, trivial⟩ hm hu
  · have ha : a.length ≤ 50 := by omega
    refine calls_goes (h := []) (ob := []) funW bodW (by exact tmpW) hm hu ?_
    intro ac w' hrel
    refine goes_stop (ρ0 := [(e, rr l), (e2, roB a)].map (·.1)) (r := [3, 4]) (T := TA l a cut [(a.length : Int)] 0 []) (S := ⟨argSlots 0 [rsl 0 l.length l.length, bsl 1 a.length a.length, si .u16 cut], [rr l, roB a], [false, true], []⟩) (callWb_ok 9) funW (congrFun (congrFun (congrFun wbE l) a) cut) ?_
      ⟨show ([0, 1, 3, 4] : List Nat).Nodup by decide, ?_, ?_⟩ (fun ρ' a' w3 hh => w1_loop rfl hwa ha (wf_u16 wc) (bb_rows w) hh) ⟨hrel.sl, hrel.m⟩
    · exact ⟨rfl, rfl, by omega, by omega, decide_eq_false h50, trivial⟩
    · simp [TA, leSlots, leV, leV1, leL, leC, si, rsl, isl, bsl, N.v, List.range, List.range.loop]
    · simp [TA, leBs, leB, leCells, leL, leC, rr, roB, owB, oiI, N.v, List.range, List.range.loop]

set_option maxRecDepth 100000 in
theorem bytesBack_lifted (os : Os) (started : os.Started) (H : Type) (enc : TypeId × Value → H) :
    ReturnsInHanded {} Try.checked os 10 .any (Rows.bytesBackSpec.pre6 enc Try.prog Try.f10 Rows.bytesBackRow.domain false) (Rows.bytesBackSpec.post enc Try.prog Try.f10 false true false false) := by
  refine returnsInHanded_of_change (C := Try.checked) own started (by kernel_rfl) Try.func10
    (ChangeSpec.witness6 (enc := enc) (C := Try.checked) false ⟨#[], #[.slice none 0 0, .slice none 0 0, .int .u16 0], []⟩ 8 (by kernel_rfl) (by kernel_rfl) (by kernel_rfl) (by kernel_rfl)) ?_
  intro W base args ds gs before hval0 hW hcnd _
  have hval : ∀ (j : Nat) t v, Try.f10.params[j]? = some t → args[j]? = some v → Value.okWide Try.prog W .any base t v := hval0
  have hW' := hW
  obtain ⟨p, q, hA0, hV, hbef, hfz, hnd⟩ := hW
  have hA : DataW.TrodAll enc Try.prog W 0 (fun _ => true) true Try.f10.params.toList args.toList ds p := hA0
  rw [Try.params10] at hA hval
  obtain ⟨v0, v1, v2, d0, d1, d2, p0, p1, p2, rfl, rfl, hp, h0, h1, h2⟩ := trodAll_three hA
  obtain ⟨a0, e0, r0, w0, m0, u0⟩ := one_rowB (ks := [.u8, .u64]) (d := 20) (by kernel_rfl) (hval 0 49 v0 rfl rfl) h0
  obtain ⟨a1, e1, r1, w1, m1, u1⟩ := one_ints (k := .u8) (d := 20) (by kernel_rfl) (hval 1 23 v1 rfl rfl) h1
  obtain ⟨a2, rfl, rfl, _, w2⟩ := open_int Try.underlying35 (hval 2 35 v2 rfl rfl) h2
  refine (bytesBack_calls a0 e0 v0 a1 e1 v1 a2 r0 w0 m0 u0 r1 w1 m1 u1 w2 W).mono fun e W' ⟨he, hb⟩ => ?_
  subst he
  exact ⟨_, rfl, post_law laidOut (by rw [Try.params10]; decide +kernel) rfl rfl (by kernel_rfl) Try.underlying4 hW' hb⟩

theorem bytesBack_holds : Rows.BytesBackSaid :=
  OpenClaim.holds_of_wide 10 Try.f10 rfl rfl rfl rfl rfl rfl rfl ⟨rfl, rfl, rfl, rfl, rfl⟩ rfl rfl rfl rfl rfl (by kernel_rfl) Try.func10 (by kernel_rfl)
    (of_decide_eq_true (by kernel_rfl)) (by unfold Func.isWrapper; first | (rw [if_pos (by decide +kernel)]; kernel_rfl) | (rw [if_neg (by decide +kernel)]; exact ⟨rfl, rfl⟩))
    (fun os started H enc _ => bytesBack_lifted os started H enc)
#print axioms bytesBack_holds

end Go.Proofs.Ytjjjpflnhagfcaa
