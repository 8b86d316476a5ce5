/- CraftChains is true of any three numbers. -/
import Derived.Test.YtibknlliackohaaCrCh
import Derived.Test.YtibknlliackohaaCrCq
namespace Go.Proofs.Ytibknlliackohaa
open Go.ChangeShapes Go.WideShapes Go.ChangeAt Go.RowKit Go.Sx
theorem craftChains_calls (a b c : Int) (wa : (Lit.int .u8 a).wf = true) (wb : (Lit.int .u8 b).wf = true) (wc : (Lit.int .u8 c).wf = true) (W : World) : Calls Try.prog 8 #[.int .u8 a, .int .u8 b, .int .u8 c] W fun e w' => e = .returned (.bool true) ∧ Below W.heap.size W w' := by
  have ha := wf8 wa
  have hb := wf8 wb
  have hc := wf8 wc
  have hu : relVs [] [si .u8 a, si .u8 b, si .u8 c] [.int .u8 a, .int .u8 b, .int .u8 c] := ⟨_, _, rfl, ⟨rfl, rfl⟩, _, _, rfl, ⟨rfl, rfl⟩, _, _, rfl, ⟨rfl, rfl⟩, rfl⟩
  have q := congrFun (congrFun (congrFun ch0 a) b) c
  have ra : 0 ≤ a.tmod 8 ∧ a.tmod 8 < 8 := ⟨Int.tmod_nonneg _ ha.1, Int.tmod_lt_of_pos _ (by decide)⟩
  have rb : 0 ≤ b.tmod 12 ∧ b.tmod 12 < 12 := ⟨Int.tmod_nonneg _ hb.1, Int.tmod_lt_of_pos _ (by decide)⟩
  have rc : 0 ≤ c.tmod 12 ∧ c.tmod 12 < 12 := ⟨Int.tmod_nonneg _ hc.1, Int.tmod_lt_of_pos _ (by decide)⟩
  refine law_obs tabL_ok q ?_ (MemRel.nil W) hu
  clear q hu
  generalize a.tmod 8 = A at *
  generalize b.tmod 12 = B at *
  generalize c.tmod 12 = C at *
  have hE : (if (64 : Int) < (if (9 : Int) + C < 0 then 0 else 9 + C) then 64 else if (9 : Int) + C < 0 then 0 else 9 + C) = 9 + C := by
    rw [if_neg (show ¬ (9 : Int) + C < 0 by omega), if_neg (by omega)]
  obtain ⟨m, hm⟩ : ∃ m : Nat, C + 4 = m := ⟨(C + 4).toNat, by omega⟩
  have hn : (9 + C).toNat = m + 5 := by omega
  have hz : List.replicate (m + 5) (List.map (fun (_ : Go.IntKind) => (0 : Int)) [IntKind.u8, IntKind.i64]) = b5 z z z z z m := rfl
  have way : Way (8 + A) (4 + B) m := ⟨by omega, by omega, by omega⟩
  have e1 := way1 way
  have e2 := way2 way
  have e3 := way3 way
  have e4 := way4 way
  have e5 := way5 way
  have e6 := way6 way
  have e7 := way7 way
  have e8 := way8 way
  have hm2 : m ≤ 100 := by omega
  have w0 : wfL (b5 z z z z z m) := b5_wf ⟨rfl, by decide, by decide⟩ ⟨rfl, by decide, by decide⟩ ⟨rfl, by decide, by decide⟩ ⟨rfl, by decide, by decide⟩ ⟨rfl, by decide, by decide⟩ hm2
  have zz : wfR z := ⟨rfl, by decide, by decide⟩
  have w1 : wfL (b5 [3, 8 + A] z z z z m) := b5_wf (wf_mk (by decide) (by omega)) zz zz zz zz hm2
  have w2 : wfL (b5 [3, 8 + A] [7, 4 + B] z z z m) := b5_wf (wf_mk (by decide) (by omega)) (wf_mk (by decide) (by omega)) zz zz zz hm2
  have w3 : wfL (b5 [3, 8 + A - 1] [7, 4 + B] [5, 4] z z m) := b5_wf (wf_mk (by decide) (by omega)) (wf_mk (by decide) (by omega)) (wf_mk (by decide) (by decide)) zz zz hm2
  have w4 : wfL (b5 [3, 8 + A - 1] [7, 4 + B] [5, 2] [6, 4] z m) := b5_wf (wf_mk (by decide) (by omega)) (wf_mk (by decide) (by omega)) (wf_mk (by decide) (by decide)) (wf_mk (by decide) (by decide)) zz hm2
  have w5 : wfL (b5 [3, 8 + A - 1 - 1] [7, 4 + B - 1] [5, 2] [6, 4] [8, 1] m) := b5_wf (wf_mk (by decide) (by omega)) (wf_mk (by decide) (by omega)) (wf_mk (by decide) (by decide)) (wf_mk (by decide) (by decide)) (wf_mk (by decide) (by decide)) hm2
  have w6 : wfL (b5 [3, 8 + A - 1 - 1 - 1] [7, 4 + B - 1 - 1] [5, 2] [6, 4] [8, 1 + 1] m) := b5_wf (wf_mk (by decide) (by omega)) (wf_mk (by decide) (by omega)) (wf_mk (by decide) (by decide)) (wf_mk (by decide) (by decide)) (wf_mk (by decide) (by decide)) hm2
  have w7 : wfL (b5 [3, 8 + A - 1 - 1 - 1 - 1] [7, 4 + B - 1 - 1 - 1] [5, 2] [6, 4] [8, 1 + 1 + 1] m) := b5_wf (wf_mk (by decide) (by omega)) (wf_mk (by decide) (by omega)) (wf_mk (by decide) (by decide)) (wf_mk (by decide) (by decide)) (wf_mk (by decide) (by decide)) hm2
  have w8 : wfL (b5 [3, 8 + A - 1 - 1 - 1 - 1] [7, 4 + B - 1 - 1 - 1] [5, 2] [6, 2] [12, 1] m) := b5_wf (wf_mk (by decide) (by omega)) (wf_mk (by decide) (by omega)) (wf_mk (by decide) (by decide)) (wf_mk (by decide) (by decide)) (wf_mk (by decide) (by decide)) hm2
  have ok : (b5 [3, 8 + A - 1 - 1 - 1 - 1] [7, 4 + B - 1 - 1 - 1] [5, 2] [6, 2] [12, 1] m).all okR = true := b5_ok (ok_mk (by omega) (by show 8 + A - 1 - 1 - 1 - 1 ≤ 16; omega)) (ok_mk (by omega) (by show 4 + B - 1 - 1 - 1 ≤ 16; omega)) rfl rfl rfl
  have c3 : cnt 3 (b5 [3, 8 + A - 1 - 1 - 1 - 1] [7, 4 + B - 1 - 1 - 1] [5, 2] [6, 2] [12, 1] m) = 4 + A := by rw [b5_cnt]; simp [cntR_mk]; split <;> omega
  have c7 : cnt 7 (b5 [3, 8 + A - 1 - 1 - 1 - 1] [7, 4 + B - 1 - 1 - 1] [5, 2] [6, 2] [12, 1] m) = 1 + B := by rw [b5_cnt]; simp [cntR_mk]; split <;> omega
  have c8 : cnt 8 (b5 [3, 8 + A - 1 - 1 - 1 - 1] [7, 4 + B - 1 - 1 - 1] [5, 2] [6, 2] [12, 1] m) = 0 := by rw [b5_cnt]; simp [cntR_mk]
  have c12 : cnt 12 (b5 [3, 8 + A - 1 - 1 - 1 - 1] [7, 4 + B - 1 - 1 - 1] [5, 2] [6, 2] [12, 1] m) = 1 := by rw [b5_cnt]; simp [cntR_mk]
  simp only [allP, hE, hn, hz, e1, e2, e3, e4, e5, e6, e7, e8, w0, w1, w2, w3, w4, w5, w6, w7, w8, ok, c3, c7, c8, c12, b5_len]
  simp [i64]
  omega

set_option maxRecDepth 100000 in
theorem craftChains_lifted (os : Os) (started : os.Started) (H : Type) (enc : TypeId × Value → H) :
    ReturnsInHanded {} Try.checked os 8 .any (Rows.craftChainsSpec.pre6 enc Try.prog Try.f8 Rows.craftChainsRow.domain false) (Rows.craftChainsSpec.post enc Try.prog Try.f8 false true false false) := by
  refine returnsInHanded_of_change (C := Try.checked) own started (by kernel_rfl) Try.func8
    (ChangeSpec.witness6 (enc := enc) (C := Try.checked) false ⟨#[], #[.int .u8 0, .int .u8 0, .int .u8 0], []⟩ 8 (by kernel_rfl) (by kernel_rfl) (by kernel_rfl) (by kernel_rfl)) ?_
  intro W base args ds gs before hval0 hW hcnd _
  have hval : ∀ (j : Nat) t v, Try.f8.params[j]? = some t → args[j]? = some v → Value.okWide Try.prog W .any base t v := hval0
  have hW' := hW
  obtain ⟨p, q, hA0, hV, hbef, hfz, hnd⟩ := hW
  have hA : DataW.TrodAll enc Try.prog W 0 (fun _ => true) true Try.f8.params.toList args.toList ds p := hA0
  rw [Try.params8] at hA hval
  obtain ⟨v0, v1, v2, d0, d1, d2, p0, p1, p2, rfl, rfl, hp, h0, h1, h2⟩ := trodAll_three hA
  obtain ⟨a0, rfl, rfl, _, w0⟩ := open_int Try.underlying5 (hval 0 5 v0 rfl rfl) h0
  obtain ⟨a1, rfl, rfl, _, w1⟩ := open_int Try.underlying5 (hval 1 5 v1 rfl rfl) h1
  obtain ⟨a2, rfl, rfl, _, w2⟩ := open_int Try.underlying5 (hval 2 5 v2 rfl rfl) h2
  refine (craftChains_calls a0 a1 a2 w0 w1 w2 W).mono fun e W' ⟨he, hb⟩ => ?_
  subst he
  exact ⟨_, rfl, post_law laidOut (by rw [Try.params8]; decide +kernel) rfl rfl (by kernel_rfl) Try.underlying4 hW' hb⟩

theorem craftChains_holds : Rows.CraftChainsSaid :=
  OpenClaim.holds_of_wide 8 Try.f8 rfl rfl rfl rfl rfl rfl rfl ⟨rfl, rfl, rfl, rfl, rfl⟩ rfl rfl rfl rfl rfl (by kernel_rfl) Try.func8 (by kernel_rfl)
    (of_decide_eq_true (by kernel_rfl)) (by unfold Func.isWrapper; first | (rw [if_pos (by decide +kernel)]; kernel_rfl) | (rw [if_neg (by decide +kernel)]; exact ⟨rfl, rfl⟩))
    (fun os started H enc _ => craftChains_lifted os started H enc)
#print axioms craftChains_holds

end Go.Proofs.Ytibknlliackohaa
