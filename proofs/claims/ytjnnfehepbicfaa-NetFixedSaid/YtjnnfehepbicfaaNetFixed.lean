/- NetFixed is true. -/
import Derived.Test.YtjnnfehepbicfaaNfB
namespace Go.Proofs.Ytjnnfehepbicfaa
open Go.ChangeShapes Go.WideShapes Go.ChangeAt Go.RowKit Go.Sx
theorem dq {l : Rws} {q : Int} (h : ¬ (0 ≤ q ∧ q < l.length)) : dropS l q = l := by unfold dropS; rw [if_neg h]
theorem netFixed_calls {W0 : World} (W : World) (hW : W0 = W := by rfl) :
    Calls Try.prog 3 #[] W fun e w' => e = .returned (.bool true) ∧ Below W.heap.size W w' := by
  subst hW
  have hm := mem_argsN (W := W0) [] (by intro y hy; cases hy)
  have q := congrFun fqE 0
  have hD0 : (List.replicate 1048576 (0 : Int)).length = 1048576 := List.length_replicate ..
  have hE0 : (List.replicate 1048577 (0 : Int)).length = 1048577 := List.length_replicate ..
  generalize List.replicate 1048577 (0 : Int) = D2 at *
  generalize List.replicate 1048576 (0 : Int) = D at *
  simp only [List.nil_append, List.cons_append] at q
  have E1 : dropS [([0, 63], []), ([63, 0], D)] (-1) = [([0, 63], []), ([63, 0], D)] := dq (by simp)
  have E2 : dropS [([0, 63], []), ([63, 0], D)] 2 = [([0, 63], []), ([63, 0], D)] := dq (by simp)
  have E3 : dropS [([0, 63], []), ([63, 0], D)] 1099511627776 = [([0, 63], []), ([63, 0], D)] := dq (by simp)
  have E4 : dropS [([0, 63], []), ([63, 0], D)] 1 = [([0, 63], [])] := by unfold dropS; rw [if_pos (by simp)]; rfl
  simp only [E1, E2, E3, E4] at q
  have o0 : okN 64 [] := ⟨by decide, fun r hr => (by cases hr), Nat.zero_le _⟩
  have o1 : okN 64 [([0, 63], [])] := ⟨by decide, fun r hr => (by rw [List.mem_singleton.1 hr]; exact ⟨rfl, Nat.zero_le _⟩), by decide⟩
  have o2 : okN 64 [([0, 63], []), ([63, 0], D)] := ⟨by decide, fun r hr => (by
    rcases List.mem_cons.1 hr with rfl | hr
    · exact ⟨rfl, Nat.zero_le _⟩
    · rw [List.mem_singleton.1 hr]; exact ⟨rfl, Nat.le_of_eq hD0⟩), show (2 : Nat) ≤ 4096 by decide⟩
  refine calls_goes (args := []) (h := []) (ob := []) funQ bodQ (by exact tmpQ) hm rfl ?_
  intro ac w' hrel
  refine goes_stop (ρ0 := []) (r := [1, 15]) (T := TQ (rowsQ 0) 1 []) (S := ⟨[], [], hintQ, []⟩) (callY_ok 9) funQ q ?_
    ⟨by decide, ?_, ?_⟩ (fun ρ' a w hh => fq_loop hh) ⟨hrel.sl, hrel.m⟩
  · clear q hrel
    simp only [allP, sendE_cases, copyE, hD0, hE0]
    simp [o0, o1, o2, hD0, hE0]
  · simp [TQ, leSlots, leV, leV1, leC, si, np, N.v, List.range, List.range.loop]
  · simp [TQ, rowsQ, leBs, leB, leCells, leL, leC, nb, orr, N.v, List.range, List.range.loop]

set_option maxRecDepth 100000 in
theorem netFixed_lifted (os : Os) (started : os.Started) (H : Type) (enc : TypeId × Value → H) :
    ReturnsInHanded {} Try.checked os 3 .any (Rows.netFixedSpec.pre6 enc Try.prog Try.f3 Rows.netFixedRow.domain false) (Rows.netFixedSpec.post enc Try.prog Try.f3 false true false false) := by
  refine returnsInHanded_of_change (C := Try.checked) own started (by kernel_rfl) Try.func3
    (ChangeSpec.witness6 (enc := enc) (C := Try.checked) false ⟨#[], #[], []⟩ 8 (by kernel_rfl) (by kernel_rfl) (by kernel_rfl) (by kernel_rfl)) ?_
  intro W base args ds gs before hval0 hW hcnd _
  have hval : ∀ (j : Nat) t v, Try.f3.params[j]? = some t → args[j]? = some v → Value.okWide Try.prog W .any base t v := hval0
  have hW' := hW
  obtain ⟨p, q, hA0, hV, hbef, hfz, hnd⟩ := hW
  have hA : DataW.TrodAll enc Try.prog W 0 (fun _ => true) true Try.f3.params.toList args.toList ds p := hA0
  rw [Try.params3] at hA
  have hargs : args = #[] := by
    have : args.toList = [] := by
      cases h : args.toList with
      | nil => rfl
      | cons x r => rw [h] at hA; exact hA.elim
    simpa using this
  subst hargs
  have hds : ds = [] := by
    cases ds with
    | nil => rfl
    | cons _ _ => exact hA.elim
  subst hds
  refine (netFixed_calls W).mono fun e W' ⟨he, hb⟩ => ?_
  subst he
  exact ⟨_, rfl, post_law laidOut (by rw [Try.params3]; decide +kernel) rfl rfl (by kernel_rfl) Try.underlying4 hW' hb⟩

theorem netFixed_holds : Rows.NetFixedSaid :=
  OpenClaim.holds_of_wide 3 Try.f3 rfl rfl rfl rfl rfl rfl rfl ⟨rfl, rfl, rfl, rfl, rfl⟩ rfl rfl rfl rfl rfl (by kernel_rfl) Try.func3 (by kernel_rfl)
    (of_decide_eq_true (by kernel_rfl)) (by unfold Func.isWrapper; first | (rw [if_pos (by decide +kernel)]; kernel_rfl) | (rw [if_neg (by decide +kernel)]; exact ⟨rfl, rfl⟩))
    (fun os started H enc _ => netFixed_lifted os started H enc)
#print axioms netFixed_holds

end Go.Proofs.Ytjnnfehepbicfaa
