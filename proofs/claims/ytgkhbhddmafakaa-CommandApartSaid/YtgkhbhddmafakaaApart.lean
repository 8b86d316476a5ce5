/- CommandApart is true of any two commands, and leaves its arguments as they were. -/
import Derived.Test.YtgkhbhddmafakaaApartA
namespace Go.Proofs.Ytgkhbhddmafakaa
open Go.ChangeShapes Go.WideShapes Go.ChangeAt Go.RowKit Go.Sx
theorem tabC_ok : ∀ f g, tabC f = some g → TabOk Try.prog f g := tabs_ok fun x hx => by
  simp only [List.mem_cons, List.not_mem_nil, or_false] at hx
  rcases hx with rfl | rfl | rfl
  · exact yes_ok no_tabs awake_run
  · exact bytes_tab
  · exact right_tab
theorem same_iff {d A B C N d' A' B' C' N' : Int} : cmdB d A B C N = cmdB d' A' B' C' N' ↔ d = d' ∧ A = A' ∧ B = B' ∧ C = C' ∧ N = N' := by
  refine ⟨fun h => ?_, fun ⟨h0, h1, h2, h3, h4⟩ => by rw [h0, h1, h2, h3, h4]⟩
  have e : cmdB d A B C N ++ [] = cmdB d' A' B' C' N' ++ [] := by rw [h]
  obtain ⟨h0, h1, h2, h3, h4, _⟩ := cmdB_prefix e
  exact ⟨h0, h1, h2, h3, h4⟩
/-- the beginning of another's, as long as one's own, is one's own just if the commands are the same -/
theorem take_iff {d A B C N d' A' B' C' N' : Int} : (cmdB d A B C N = (cmdB d' A' B' C' N').take (cmdB d A B C N).length) ↔ d = d' ∧ A = A' ∧ B = B' ∧ C = C' ∧ N = N' := by
  refine ⟨fun h => ?_, fun h => ?_⟩
  · have e := List.take_append_drop (cmdB d A B C N).length (cmdB d' A' B' C' N')
    rw [← h] at e
    have e' : cmdB d A B C N ++ (cmdB d' A' B' C' N').drop (cmdB d A B C N).length = cmdB d' A' B' C' N' ++ [] := e.trans (List.append_nil _).symm
    obtain ⟨h0, h1, h2, h3, h4, _⟩ := cmdB_prefix e'
    exact ⟨h0, h1, h2, h3, h4⟩
  · have := same_iff.2 h
    rw [this, List.take_length]
theorem map_u8s (l : List Int) : (l.map fun (n : Int) => UInt8.ofNat n.toNat) = u8s l := rfl
theorem apart_calls (d A B C N d' A' B' C' N' : Int) (hd : 0 ≤ d ∧ d < 256) (hd' : 0 ≤ d' ∧ d' < 256) (W : World) :
    Calls Try.prog 3 #[.agg #[.int .u8 d, .int .i64 A, .int .i64 B, .int .i64 C, .int .i64 N], .agg #[.int .u8 d', .int .i64 A', .int .i64 B', .int .i64 C', .int .i64 N']] W fun e w' => e = .returned (.bool true) ∧ Below W.heap.size W w' := by
  have hu : relVs [] [cmdS d A B C N, cmdS d' A' B' C' N'] [.agg #[.int .u8 d, .int .i64 A, .int .i64 B, .int .i64 C, .int .i64 N], .agg #[.int .u8 d', .int .i64 A', .int .i64 B', .int .i64 C', .int .i64 N']] := by
    obtain ⟨u, s, h1, h2, h3⟩ := cmd_rel (dc := .sint .u8 d) (d := d) A B C N rfl
    injection h1 with h1 h1'; subst h1; subst h1'
    obtain ⟨u', s', g1, g2, g3⟩ := cmd_rel (dc := .sint .u8 d') (d := d') A' B' C' N' rfl
    injection g1 with g1 g1'; subst g1; subst g1'
    exact ⟨_, _, rfl, h2, _, _, rfl, g2, rfl⟩
  have app : ∀ {f g : Int → Int → Int → Int → Int → Int → Int → Int → Int → Int → Option (List Prop)}, f = g → f d A B C N d' A' B' C' N' = g d A B C N d' A' B' C' N' := fun h => by rw [h]
  cases hr : rightF d A B C N
  · cases hr' : rightF d' A' B' C' N'
    · exact law_obs tabC_ok (app aNN) (by simp [allP, hr, hr', hd, hd']) (MemRel.nil W) hu
    · exact law_obs tabC_ok (app aNY) (by simp [allP, hr, hr', hd, hd']) (MemRel.nil W) hu
  · cases hr' : rightF d' A' B' C' N'
    · exact law_obs tabC_ok (app aYN) (by simp [allP, hr, hr', hd, hd']) (MemRel.nil W) hu
    · have ba := isB_cmdB (A := A) (B := B) (C := C) (N := N) hd
      have bb := isB_cmdB (A := A') (B := B') (C := C') (N := N') hd'
      have same : (decide (d = d') && (decide (A = A') && (decide (B = B') && (decide (C = C') && (decide (N = N') && true))))) = decide (d = d' ∧ A = A' ∧ B = B' ∧ C = C' ∧ N = N') := by
        simp [Bool.decide_and]
      have t1 := take_iff (d := d) (A := A) (B := B) (C := C) (N := N) (d' := d') (A' := A') (B' := B') (C' := C') (N' := N')
      have t2 := take_iff (d := d') (A := A') (B := B') (C := C') (N := N') (d' := d) (A' := A) (B' := B) (C' := C) (N' := N)
      generalize ha : cmdB d A B C N = a at *
      generalize hb : cmdB d' A' B' C' N' = b at *
      by_cases hl : (a.length : Int) ≤ b.length
      · have hmin : (if (b.length : Int) < a.length then (b.length : Int) else (a.length : Int)) = a.length := if_neg (by omega)
        have heq : (u8s a == u8s (b.take a.length)) = decide (d = d' ∧ A = A' ∧ B = B' ∧ C = C' ∧ N = N') := by
          rw [u8s_beq ba (isB_take _ bb)]
          exact decide_eq_decide.2 t1
        by_cases hs : d = d' ∧ A = A' ∧ B = B' ∧ C = C' ∧ N = N'
        · refine law_obs tabC_ok (app a1) ?_ (MemRel.nil W) hu
          simp only [allP, ha, hb, hmin, map_u8s, List.drop_zero, Int.toNat_natCast, heq, same, hr, hr', hd, hd']
          simp [hs]
          omega
        · by_cases hl2 : (b.length : Int) ≤ a.length
          · have hle : a.length = b.length := by omega
            have heq2 : (u8s b == u8s (a.take a.length)) = false := by
              have := t2
              rw [u8s_beq bb (isB_take _ ba), hle]
              simp only [decide_eq_false_iff_not]
              rw [this]
              exact fun ⟨h0, h1, h2, h3, h4⟩ => hs ⟨h0.symm, h1.symm, h2.symm, h3.symm, h4.symm⟩
            refine law_obs tabC_ok (app a3) ?_ (MemRel.nil W) hu
            simp only [allP, ha, hb, hmin, map_u8s, List.drop_zero, Int.toNat_natCast, heq, heq2, same, hr, hr', hd, hd']
            simp [hs]
            omega
          · refine law_obs tabC_ok (app a2) ?_ (MemRel.nil W) hu
            simp only [allP, ha, hb, hmin, map_u8s, List.drop_zero, Int.toNat_natCast, heq, same, hr, hr', hd, hd']
            simp [hs]
            omega
      · have hmin : (if (b.length : Int) < a.length then (b.length : Int) else (a.length : Int)) = b.length := if_pos (by omega)
        have heq : (u8s b == u8s (a.take b.length)) = decide (d = d' ∧ A = A' ∧ B = B' ∧ C = C' ∧ N = N') := by
          rw [u8s_beq bb (isB_take _ ba)]
          refine decide_eq_decide.2 (t2.trans ⟨fun ⟨h0, h1, h2, h3, h4⟩ => ⟨h0.symm, h1.symm, h2.symm, h3.symm, h4.symm⟩, fun ⟨h0, h1, h2, h3, h4⟩ => ⟨h0.symm, h1.symm, h2.symm, h3.symm, h4.symm⟩⟩)
        refine law_obs tabC_ok (app a4) ?_ (MemRel.nil W) hu
        simp only [allP, ha, hb, hmin, map_u8s, List.drop_zero, Int.toNat_natCast, heq, same, hr, hr', hd, hd']
        simp
        omega
theorem commandApart_calls (l m : List Int) (w1 : wfRow [.u8, .i64, .i64, .i64, .i64] l) (w2 : wfRow [.u8, .i64, .i64, .i64, .i64] m) (W : World) :
    Calls Try.prog 3 #[.agg (ivals [.u8, .i64, .i64, .i64, .i64] l).toArray, .agg (ivals [.u8, .i64, .i64, .i64, .i64] m).toArray] W fun e w' => e = .returned (.bool true) ∧ Below W.heap.size W w' := by
  obtain ⟨d, A, B, C, N, rfl, hd, _⟩ := wf5 w1
  obtain ⟨d', A', B', C', N', rfl, hd', _⟩ := wf5 w2
  exact apart_calls d A B C N d' A' B' C' N' (wf_u8 hd) (wf_u8 hd') W

set_option maxRecDepth 100000 in
theorem commandApart_lifted (os : Os) (started : os.Started) (H : Type) (enc : TypeId × Value → H) :
    ReturnsInHanded {} Try.checked os 3 .any (Rows.commandApartSpec.pre6 enc Try.prog Try.f3 Rows.commandApartRow.domain false) (Rows.commandApartSpec.post enc Try.prog Try.f3 false true false false) := by
  refine returnsInHanded_of_change (C := Try.checked) own started (by kernel_rfl) Try.func3
    (ChangeSpec.witness6 (enc := enc) (C := Try.checked) false ⟨#[], #[.agg #[.int .u8 0, .int .i64 0, .int .i64 0, .int .i64 0, .int .i64 0], .agg #[.int .u8 0, .int .i64 0, .int .i64 0, .int .i64 0, .int .i64 0]], []⟩ 8 (by kernel_rfl) (by kernel_rfl) (by kernel_rfl) (by kernel_rfl)) ?_
  intro W base args ds gs before hval0 hW hcnd _
  have hval : ∀ (j : Nat) t v, Try.f3.params[j]? = some t → args[j]? = some v → Value.okWide Try.prog W .any base t v := hval0
  have hW' := hW
  obtain ⟨p, q, hA0, hV, hbef, hfz, hnd⟩ := hW
  have hA : DataW.TrodAll enc Try.prog W 0 (fun _ => true) true Try.f3.params.toList args.toList ds p := hA0
  rw [Try.params3] at hA hval
  obtain ⟨v0, v1, d0, d1, p0, p1, rfl, rfl, hp, h0, h1⟩ := trodAll_two hA
  obtain ⟨a0, w0, rfl⟩ := agg_ints (ks := [.u8, .i64, .i64, .i64, .i64]) (d := 20) (by kernel_rfl) (hval 0 24 v0 rfl rfl) h0
  obtain ⟨a1, w1, rfl⟩ := agg_ints (ks := [.u8, .i64, .i64, .i64, .i64]) (d := 20) (by kernel_rfl) (hval 1 24 v1 rfl rfl) h1
  refine (commandApart_calls a0 a1 w0 w1 W).mono fun e W' ⟨he, hb⟩ => ?_
  subst he
  exact ⟨_, rfl, post_law laidOut (by rw [Try.params3]; decide +kernel) rfl rfl (by kernel_rfl) Try.underlying4 hW' hb⟩

theorem commandApart_holds : Rows.CommandApartSaid :=
  OpenClaim.holds_of_wide 3 Try.f3 rfl rfl rfl rfl rfl rfl rfl ⟨rfl, rfl, rfl, rfl, rfl⟩ rfl rfl rfl rfl rfl (by kernel_rfl) Try.func3 (by kernel_rfl)
    (of_decide_eq_true (by kernel_rfl)) (by unfold Func.isWrapper; first | (rw [if_pos (by decide +kernel)]; kernel_rfl) | (rw [if_neg (by decide +kernel)]; exact ⟨rfl, rfl⟩))
    (fun os started H enc _ => commandApart_lifted os started H enc)
#print axioms commandApart_holds

end Go.Proofs.Ytgkhbhddmafakaa
