/- TextBounds is true of any three bytes. -/
import Derived.Test.YtbamfolinbehiaaBoC
import Derived.Test.YtbamfolinbehiaaBoD
import Derived.Test.YtbamfolinbehiaaBoE
namespace Go.Proofs.Ytbamfolinbehiaa
open Go.ChangeShapes Go.WideShapes Go.ChangeAt Go.RowKit Go.Sx
theorem cl0_tab : TabOk Try.prog 30 (loc By.wantRo gCl0) := loc_ok fun xs bs v bs' ob hg hob hokb => by
  unfold gCl0 at hg
  split at hg
  · rename_i i n c l
    split at hg
    · rename_i hi
      simp only [Bool.and_eq_true] at hi
      have hn := Nat.eq_of_beq_eq_true hi.1
      injection hg with hg; injection hg with e1 e2; injection e2 with e2 e3
      subst e1; subst e2; subst e3
      intro ρ K w us hm hu
      obtain ⟨u1, s1, rfl, k1, k2⟩ := hu
      exact By.cloneO_works l i.v 0 c.v (by have := Nat.le_of_ble_eq_true hi.2; omega) (by omega) ρ K w _ hm ⟨u1, _, rfl, by have k4 := slH_rel k1; rw [hn] at k4; exact k4, k2⟩
    · cases hg
  · cases hg
theorem be0_works (l : List Int) (c : Nat) : Works Try.prog 12 [.v (.one (.slice 0 (.c 0) 1 (.s 0) (.s c))), .v (.one .nils)] [roH l] (.v (.one (.sbool true))) [roH l] := by
  have q := congrFun (congrFun (congrFun be0 l) 0) c
  exact works_of (r := []) no_tabs q (by simp [allP]) (by decide : (List.range 1 ++ ([] : List Nat)).Nodup) rfl ⟨⟨fun h => h, rfl, rfl⟩, trivial⟩
theorem be1_works : Works Try.prog 12 [.v (.one .nils), .v (.one .nils)] [] (.v (.one (.bool true))) [] :=
  works_of (r := []) no_tabs (congrFun be1 0) trivial (by decide : (List.range 0 ++ ([] : List Nat)).Nodup) rfl trivial
theorem be0_tab : TabOk Try.prog 12 (loc wantBo gBe0) := loc_ok fun xs bs v bs' ob hg hob hokb => by
  unfold gBe0 at hg
  split at hg
  · rename_i n c l
    split at hg
    · rename_i hi
      have hn := Nat.eq_of_beq_eq_true hi
      injection hg with hg; injection hg with e1 e2; injection e2 with e2 e3
      subst e1; subst e2; subst e3
      intro ρ K w us hm hu
      obtain ⟨u1, s1, rfl, k1, k3⟩ := hu
      exact be0_works l c.v ρ K w _ hm ⟨u1, _, rfl, by have k4 : V.rel ρ (.v (.one (.slice 0 (.c 0) 1 (.s n.v) (.s c.v)))) u1 := k1; rw [hn] at k4; exact k4, k3⟩
    · cases hg
  · injection hg with hg; injection hg with e1 e2; injection e2 with e2 e3
    subst e1; subst e2; subst e3
    exact be1_works
  · cases hg
theorem tabBo_ok : ∀ f g, tabBo f = some g → TabOk Try.prog f g := tabs_ok fun x hx => by
  simp only [List.mem_cons, List.not_mem_nil, or_false] at hx
  rcases hx with rfl | rfl | rfl
  · exact cl0_tab
  · exact be0_tab
  · exact yes_tab
theorem callBo_ok : CallOk Try.prog (callBo 8) := callN_sound tabBo_ok 8
theorem funBo : Try.prog.funcs[3]? = some fnBo := by kernel_rfl
theorem bodBo : fnBo.body = some bodyBo := by kernel_rfl
abbrev EndB (W : World) : Ending → World → Prop := fun e w' => e = .returned (.bool true) ∧ Below W.heap.size W w'
theorem tmod_lt {x n : Int} (h : 0 ≤ x) (hn : 0 < n) : 0 ≤ x.tmod n ∧ x.tmod n < n := ⟨Int.tmod_nonneg _ h, Int.tmod_lt_of_pos _ hn⟩
theorem wf_b8 {n : Int} (h : (Lit.int .u8 n).wf = true) : 0 ≤ n ∧ n < 256 := by
  simp [Lit.wf, IntKind.min, IntKind.max, IntKind.signed, IntKind.bits] at h
  omega
theorem wrap_b8 {n : Int} (h : 0 ≤ n) (h2 : n < 256) : IntKind.wrap .u8 n = n := by
  simp [IntKind.wrap, IntKind.signed, IntKind.bits]
  omega
theorem b3_all : ∀ k f j, 1 ≤ k → k ≤ 8 → f < 6 → j < 5 → fin3 k (f * 5 + j) = true
  | 0, _, _, h, _, _, _ => absurd h (by omega)
  | 1, 0, j, _, _, _, h => allF_spec b3_1_0 (0 * 5 + j) (by omega) (by omega)
  | 1, 1, j, _, _, _, h => allF_spec b3_1_1 (1 * 5 + j) (by omega) (by omega)
  | 1, 2, j, _, _, _, h => allF_spec b3_1_2 (2 * 5 + j) (by omega) (by omega)
  | 1, 3, j, _, _, _, h => allF_spec b3_1_3 (3 * 5 + j) (by omega) (by omega)
  | 1, 4, j, _, _, _, h => allF_spec b3_1_4 (4 * 5 + j) (by omega) (by omega)
  | 1, 5, j, _, _, _, h => allF_spec b3_1_5 (5 * 5 + j) (by omega) (by omega)
  | 1, _ + 6, _, _, _, h, _ => absurd h (by omega)
  | 2, 0, j, _, _, _, h => allF_spec b3_2_0 (0 * 5 + j) (by omega) (by omega)
  | 2, 1, j, _, _, _, h => allF_spec b3_2_1 (1 * 5 + j) (by omega) (by omega)
  | 2, 2, j, _, _, _, h => allF_spec b3_2_2 (2 * 5 + j) (by omega) (by omega)
  | 2, 3, j, _, _, _, h => allF_spec b3_2_3 (3 * 5 + j) (by omega) (by omega)
  | 2, 4, j, _, _, _, h => allF_spec b3_2_4 (4 * 5 + j) (by omega) (by omega)
  | 2, 5, j, _, _, _, h => allF_spec b3_2_5 (5 * 5 + j) (by omega) (by omega)
  | 2, _ + 6, _, _, _, h, _ => absurd h (by omega)
  | 3, 0, j, _, _, _, h => allF_spec b3_3_0 (0 * 5 + j) (by omega) (by omega)
  | 3, 1, j, _, _, _, h => allF_spec b3_3_1 (1 * 5 + j) (by omega) (by omega)
  | 3, 2, j, _, _, _, h => allF_spec b3_3_2 (2 * 5 + j) (by omega) (by omega)
  | 3, 3, j, _, _, _, h => allF_spec b3_3_3 (3 * 5 + j) (by omega) (by omega)
  | 3, 4, j, _, _, _, h => allF_spec b3_3_4 (4 * 5 + j) (by omega) (by omega)
  | 3, 5, j, _, _, _, h => allF_spec b3_3_5 (5 * 5 + j) (by omega) (by omega)
  | 3, _ + 6, _, _, _, h, _ => absurd h (by omega)
  | 4, 0, j, _, _, _, h => allF_spec b3_4_0 (0 * 5 + j) (by omega) (by omega)
  | 4, 1, j, _, _, _, h => allF_spec b3_4_1 (1 * 5 + j) (by omega) (by omega)
  | 4, 2, j, _, _, _, h => allF_spec b3_4_2 (2 * 5 + j) (by omega) (by omega)
  | 4, 3, j, _, _, _, h => allF_spec b3_4_3 (3 * 5 + j) (by omega) (by omega)
  | 4, 4, j, _, _, _, h => allF_spec b3_4_4 (4 * 5 + j) (by omega) (by omega)
  | 4, 5, j, _, _, _, h => allF_spec b3_4_5 (5 * 5 + j) (by omega) (by omega)
  | 4, _ + 6, _, _, _, h, _ => absurd h (by omega)
  | 5, 0, j, _, _, _, h => allF_spec b3_5_0 (0 * 5 + j) (by omega) (by omega)
  | 5, 1, j, _, _, _, h => allF_spec b3_5_1 (1 * 5 + j) (by omega) (by omega)
  | 5, 2, j, _, _, _, h => allF_spec b3_5_2 (2 * 5 + j) (by omega) (by omega)
  | 5, 3, j, _, _, _, h => allF_spec b3_5_3 (3 * 5 + j) (by omega) (by omega)
  | 5, 4, j, _, _, _, h => allF_spec b3_5_4 (4 * 5 + j) (by omega) (by omega)
  | 5, 5, j, _, _, _, h => allF_spec b3_5_5 (5 * 5 + j) (by omega) (by omega)
  | 5, _ + 6, _, _, _, h, _ => absurd h (by omega)
  | 6, 0, j, _, _, _, h => allF_spec b3_6_0 (0 * 5 + j) (by omega) (by omega)
  | 6, 1, j, _, _, _, h => allF_spec b3_6_1 (1 * 5 + j) (by omega) (by omega)
  | 6, 2, j, _, _, _, h => allF_spec b3_6_2 (2 * 5 + j) (by omega) (by omega)
  | 6, 3, j, _, _, _, h => allF_spec b3_6_3 (3 * 5 + j) (by omega) (by omega)
  | 6, 4, j, _, _, _, h => allF_spec b3_6_4 (4 * 5 + j) (by omega) (by omega)
  | 6, 5, j, _, _, _, h => allF_spec b3_6_5 (5 * 5 + j) (by omega) (by omega)
  | 6, _ + 6, _, _, _, h, _ => absurd h (by omega)
  | 7, 0, j, _, _, _, h => allF_spec b3_7_0 (0 * 5 + j) (by omega) (by omega)
  | 7, 1, j, _, _, _, h => allF_spec b3_7_1 (1 * 5 + j) (by omega) (by omega)
  | 7, 2, j, _, _, _, h => allF_spec b3_7_2 (2 * 5 + j) (by omega) (by omega)
  | 7, 3, j, _, _, _, h => allF_spec b3_7_3 (3 * 5 + j) (by omega) (by omega)
  | 7, 4, j, _, _, _, h => allF_spec b3_7_4 (4 * 5 + j) (by omega) (by omega)
  | 7, 5, j, _, _, _, h => allF_spec b3_7_5 (5 * 5 + j) (by omega) (by omega)
  | 7, _ + 6, _, _, _, h, _ => absurd h (by omega)
  | 8, 0, j, _, _, _, h => allF_spec b3_8_0 (0 * 5 + j) (by omega) (by omega)
  | 8, 1, j, _, _, _, h => allF_spec b3_8_1 (1 * 5 + j) (by omega) (by omega)
  | 8, 2, j, _, _, _, h => allF_spec b3_8_2 (2 * 5 + j) (by omega) (by omega)
  | 8, 3, j, _, _, _, h => allF_spec b3_8_3 (3 * 5 + j) (by omega) (by omega)
  | 8, 4, j, _, _, _, h => allF_spec b3_8_4 (4 * 5 + j) (by omega) (by omega)
  | 8, 5, j, _, _, _, h => allF_spec b3_8_5 (5 * 5 + j) (by omega) (by omega)
  | 8, _ + 6, _, _, _, h, _ => absurd h (by omega)
  | _ + 9, _, _, _, h, _, _ => absurd h (by omega)
theorem textBounds_calls (x f w : Int) (wx : (Lit.int .u8 x).wf = true) (wf : (Lit.int .u8 f).wf = true) (ww : (Lit.int .u8 w).wf = true) (W : World) :
    Calls Try.prog 3 #[.int .u8 x, .int .u8 f, .int .u8 w] W (EndB W) := by
  have hx := tmod_lt (x := x) (n := 8) (wf_b8 wx).1 (by decide)
  have hf := tmod_lt (x := f) (n := 6) (wf_b8 wf).1 (by decide)
  have hw := tmod_lt (x := w) (n := 5) (wf_b8 ww).1 (by decide)
  obtain ⟨k, hk, hk1, hk2⟩ : ∃ k : Nat, x.tmod 8 + 1 = k ∧ 1 ≤ k ∧ k ≤ 8 := ⟨(x.tmod 8 + 1).toNat, by omega, by omega, by omega⟩
  obtain ⟨g, hg, hg1⟩ : ∃ g : Nat, f.tmod 6 = g ∧ g < 6 := ⟨(f.tmod 6).toNat, by omega, by omega⟩
  obtain ⟨j, hj, hj1⟩ : ∃ j : Nat, w.tmod 5 = j ∧ j < 5 := ⟨(w.tmod 5).toNat, by omega, by omega⟩
  have e8 : IntKind.wrap .u8 (x.tmod 8 + 1) = k := by rw [hk]; exact wrap_b8 (by omega) (by omega)
  refine calls_goes (ρ0 := []) (us := [.int .u8 x, .int .u8 f, .int .u8 w]) (args := [si .u8 x, si .u8 f, si .u8 w]) (m := []) (h := []) (ob := []) funBo bodBo (by show 3 ≤ Go.Func.ntmps _; decide +kernel) (MemRel.nil W)
    ⟨_, _, rfl, ⟨rfl, rfl⟩, _, _, rfl, ⟨rfl, rfl⟩, _, _, rfl, ⟨rfl, rfl⟩, rfl⟩ ?_
  intro ac w0 hrel
  refine goes_stop (ρ0 := []) (r := []) (T := TB1 k g w) callBo_ok funBo (congrFun (congrFun (congrFun b1 x) f) w) ⟨by simp [inK, IntKind.min, IntKind.max, IntKind.signed, IntKind.bits]; omega, trivial⟩ ⟨by simp, ?_, trivial⟩ ?_ hrel
  · simp [sl1, TB1, leSlots, leV, leV1, leC, si, icb, icu, ic, e8, hg]
  intro ρ' ac w1 hr1
  refine goes_stop (ρ0 := []) (r := []) (T := TB2 k g ((nB k g).getD j 0)) callBo_ok funBo (b2_all w k g hk1 hk2 hg1) ?_ ⟨by simp, ?_, trivial⟩ ?_ hr1
  · simp [allP, OB2]; omega
  · simp [sl2, TB2, leSlots, leV, leV1, leC, si, icb, icu, ic, hj]
  intro ρ' ac w2 hr2
  have h4 := b3_all k g j hk1 hk2 hg1 hj1
  have e1 : (g * 5 + j) / 5 = g := by omega
  have e2 : (g * 5 + j) % 5 = j := by omega
  simp only [fin3, e1, e2] at h4
  exact goes_true callBo_ok funBo (isO_spec h4) trivial (fun w' h => ⟨rfl, h.toBelow⟩) (ρ0 := []) hr2

set_option maxRecDepth 100000 in
theorem textBounds_lifted (os : Os) (started : os.Started) (H : Type) (enc : TypeId × Value → H) :
    ReturnsInHanded {} Try.checked os 3 .any (Rows.textBoundsSpec.pre6 enc Try.prog Try.f3 Rows.textBoundsRow.domain false) (Rows.textBoundsSpec.post enc Try.prog Try.f3 false true false false) := by
  refine returnsInHanded_of_change (C := Try.checked) own started (by kernel_rfl) Try.func3
    (ChangeSpec.witness6 (enc := enc) (C := Try.checked) false ⟨#[], #[.int .u8 0, .int .u8 0, .int .u8 0], []⟩ 8 (by kernel_rfl) (by kernel_rfl) (by kernel_rfl) (by kernel_rfl)) ?_
  intro W base args ds gs before hval0 hW hcnd _
  have hval : ∀ (j : Nat) t v, Try.f3.params[j]? = some t → args[j]? = some v → Value.okWide Try.prog W .any base t v := hval0
  have hW' := hW
  obtain ⟨p, q, hA0, hV, hbef, hfz, hnd⟩ := hW
  have hA : DataW.TrodAll enc Try.prog W 0 (fun _ => true) true Try.f3.params.toList args.toList ds p := hA0
  rw [Try.params3] at hA hval
  obtain ⟨v0, v1, v2, d0, d1, d2, p0, p1, p2, rfl, rfl, hp, h0, h1, h2⟩ := trodAll_three hA
  obtain ⟨a0, rfl, rfl, _, w0⟩ := open_int Try.underlying5 (hval 0 5 v0 rfl rfl) h0
  obtain ⟨a1, rfl, rfl, _, w1⟩ := open_int Try.underlying5 (hval 1 5 v1 rfl rfl) h1
  obtain ⟨a2, rfl, rfl, _, w2⟩ := open_int Try.underlying5 (hval 2 5 v2 rfl rfl) h2
  refine (textBounds_calls a0 a1 a2 w0 w1 w2 W).mono fun e W' ⟨he, hb⟩ => ?_
  subst he
  exact ⟨_, rfl, post_law laidOut (by rw [Try.params3]; decide +kernel) rfl rfl (by kernel_rfl) Try.underlying4 hW' hb⟩

theorem textBounds_holds : Rows.TextBoundsSaid :=
  OpenClaim.holds_of_wide 3 Try.f3 rfl rfl rfl rfl rfl rfl rfl ⟨rfl, rfl, rfl, rfl, rfl⟩ rfl rfl rfl rfl rfl (by kernel_rfl) Try.func3 (by kernel_rfl)
    (of_decide_eq_true (by kernel_rfl)) (by unfold Func.isWrapper; first | (rw [if_pos (by decide +kernel)]; kernel_rfl) | (rw [if_neg (by decide +kernel)]; exact ⟨rfl, rfl⟩))
    (fun os started H enc _ => textBounds_lifted os started H enc)
#print axioms textBounds_holds
end Go.Proofs.Ytbamfolinbehiaa
