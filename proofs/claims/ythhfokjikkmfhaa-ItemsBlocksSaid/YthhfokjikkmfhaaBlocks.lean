/- ItemsBlocks is true of every number as an item, and leaves its argument as it was. -/
import Derived.Test.YthhfokjikkmfhaaRows
import Derived.Test.YthhfokjikkmfhaaRows
import Derived.Test.YthhfokjikkmfhaaSxX
namespace Go.Proofs.Ythhfokjikkmfhaa
open Go.ChangeShapes Go.WideShapes Go.ChangeAt Go.RowKit Go.Sx

theorem own : ownKnob Try.prog.godebug = none := by kernel_rfl
theorem laidOut : laidOutB Try.prog = true := by kernel_rfl
theorem awake_true : isT (callN Try.prog (fun _ => none) (fun _ => false) 100000 5 11 [] [] []) = true := by kernel_rfl
noncomputable def callB (d : Nat) := callN Try.prog (awk 11) (fun _ => false) 100000 d
theorem blocks0 : allF (fun n => isT (callB 5 3 [.v (.one (.int .u8 n))] [] [])) 0 16 = true := by kernel_rfl
theorem blocks1 : allF (fun n => isT (callB 5 3 [.v (.one (.int .u8 n))] [] [])) 16 16 = true := by kernel_rfl
theorem blocks2 : allF (fun n => isT (callB 5 3 [.v (.one (.int .u8 n))] [] [])) 32 16 = true := by kernel_rfl
theorem blocks3 : allF (fun n => isT (callB 5 3 [.v (.one (.int .u8 n))] [] [])) 48 16 = true := by kernel_rfl
theorem blocks4 : allF (fun n => isT (callB 5 3 [.v (.one (.int .u8 n))] [] [])) 64 16 = true := by kernel_rfl
theorem blocks5 : allF (fun n => isT (callB 5 3 [.v (.one (.int .u8 n))] [] [])) 80 16 = true := by kernel_rfl
theorem blocks6 : allF (fun n => isT (callB 5 3 [.v (.one (.int .u8 n))] [] [])) 96 16 = true := by kernel_rfl
theorem blocks7 : allF (fun n => isT (callB 5 3 [.v (.one (.int .u8 n))] [] [])) 112 16 = true := by kernel_rfl
theorem blocks8 : allF (fun n => isT (callB 5 3 [.v (.one (.int .u8 n))] [] [])) 128 16 = true := by kernel_rfl
theorem blocks9 : allF (fun n => isT (callB 5 3 [.v (.one (.int .u8 n))] [] [])) 144 16 = true := by kernel_rfl
theorem blocks10 : allF (fun n => isT (callB 5 3 [.v (.one (.int .u8 n))] [] [])) 160 16 = true := by kernel_rfl
theorem blocks11 : allF (fun n => isT (callB 5 3 [.v (.one (.int .u8 n))] [] [])) 176 16 = true := by kernel_rfl
theorem blocks12 : allF (fun n => isT (callB 5 3 [.v (.one (.int .u8 n))] [] [])) 192 16 = true := by kernel_rfl
theorem blocks13 : allF (fun n => isT (callB 5 3 [.v (.one (.int .u8 n))] [] [])) 208 16 = true := by kernel_rfl
theorem blocks14 : allF (fun n => isT (callB 5 3 [.v (.one (.int .u8 n))] [] [])) 224 16 = true := by kernel_rfl
theorem blocks15 : allF (fun n => isT (callB 5 3 [.v (.one (.int .u8 n))] [] [])) 240 16 = true := by kernel_rfl
theorem blocks_all (i : Nat) (hi : i < 256) : isT (callB 5 3 [.v (.one (.int .u8 i))] [] []) = true := by
  rcases Nat.lt_or_ge i 16 with h | h
  · exact allF_spec blocks0 i (by omega) (by omega)
  rcases Nat.lt_or_ge i 32 with h | h
  · exact allF_spec blocks1 i (by omega) (by omega)
  rcases Nat.lt_or_ge i 48 with h | h
  · exact allF_spec blocks2 i (by omega) (by omega)
  rcases Nat.lt_or_ge i 64 with h | h
  · exact allF_spec blocks3 i (by omega) (by omega)
  rcases Nat.lt_or_ge i 80 with h | h
  · exact allF_spec blocks4 i (by omega) (by omega)
  rcases Nat.lt_or_ge i 96 with h | h
  · exact allF_spec blocks5 i (by omega) (by omega)
  rcases Nat.lt_or_ge i 112 with h | h
  · exact allF_spec blocks6 i (by omega) (by omega)
  rcases Nat.lt_or_ge i 128 with h | h
  · exact allF_spec blocks7 i (by omega) (by omega)
  rcases Nat.lt_or_ge i 144 with h | h
  · exact allF_spec blocks8 i (by omega) (by omega)
  rcases Nat.lt_or_ge i 160 with h | h
  · exact allF_spec blocks9 i (by omega) (by omega)
  rcases Nat.lt_or_ge i 176 with h | h
  · exact allF_spec blocks10 i (by omega) (by omega)
  rcases Nat.lt_or_ge i 192 with h | h
  · exact allF_spec blocks11 i (by omega) (by omega)
  rcases Nat.lt_or_ge i 208 with h | h
  · exact allF_spec blocks12 i (by omega) (by omega)
  rcases Nat.lt_or_ge i 224 with h | h
  · exact allF_spec blocks13 i (by omega) (by omega)
  rcases Nat.lt_or_ge i 240 with h | h
  · exact allF_spec blocks14 i (by omega) (by omega)
  rcases Nat.lt_or_ge i 256 with h | h
  · exact allF_spec blocks15 i (by omega) (by omega)
  omega

theorem blocks_calls (x : Int) (hx : (Lit.int .u8 x).wf = true) (W : World) : Calls Try.prog 3 #[.int .u8 x] W fun e w' => e = .returned (.bool true) ∧ Below W.heap.size W w' := by
  have h : 0 ≤ x ∧ x ≤ 255 := by
    simp [Lit.wf, IntKind.min, IntKind.max, IntKind.signed, IntKind.bits] at hx
    omega
  have h1 := blocks_all x.toNat (by omega)
  have hn : ((x.toNat : Nat) : Int) = x := by omega
  rw [hn] at h1
  exact law_isT' (us := [.int .u8 x]) (awk_ok awake_true) h1 ⟨_, _, rfl, ⟨rfl, rfl⟩, rfl⟩

set_option maxRecDepth 100000 in
theorem itemsBlocks_lifted (os : Os) (started : os.Started) (H : Type) (enc : TypeId × Value → H) :
    ReturnsInHanded {} Try.checked os 3 .any (Rows.itemsBlocksSpec.pre6 enc Try.prog Try.f3 Rows.itemsBlocksRow.domain false) (Rows.itemsBlocksSpec.post enc Try.prog Try.f3 false true false false) := by
  refine returnsInHanded_of_change (C := Try.checked) own started (by kernel_rfl) Try.func3
    (ChangeSpec.witness6 (enc := enc) (C := Try.checked) false ⟨#[], #[.int .u8 0], []⟩ 8 (by kernel_rfl) (by kernel_rfl) (by kernel_rfl) (by kernel_rfl)) ?_
  intro W base args ds gs before hval0 hW hcnd _
  have hval : ∀ (j : Nat) t v, Try.f3.params[j]? = some t → args[j]? = some v → Value.okWide Try.prog W .any base t v := hval0
  have hW' := hW
  obtain ⟨p, q, hA0, hV, hbef, hfz, hnd⟩ := hW
  have hA : DataW.TrodAll enc Try.prog W 0 (fun _ => true) true Try.f3.params.toList args.toList ds p := hA0
  rw [Try.params3] at hA hval
  obtain ⟨v0, d0, rfl, rfl, h0⟩ := trodAll_one hA
  obtain ⟨a, rfl, rfl, rfl, w0⟩ := open_int Try.underlying5 (hval 0 5 v0 rfl rfl) h0
  refine (blocks_calls a w0 W).mono fun e W' ⟨he, hb⟩ => ?_
  subst he
  exact ⟨_, rfl, post_law laidOut (by rw [Try.params3]; decide +kernel) rfl rfl (by kernel_rfl) Try.underlying4 hW' hb⟩

theorem itemsBlocks_holds : Rows.ItemsBlocksSaid :=
  OpenClaim.holds_of_wide 3 Try.f3 rfl rfl rfl rfl rfl rfl rfl ⟨rfl, rfl, rfl, rfl, rfl⟩ rfl rfl rfl rfl rfl (by kernel_rfl) Try.func3 (by kernel_rfl)
    (of_decide_eq_true (by kernel_rfl)) (by unfold Func.isWrapper; first | (rw [if_pos (by decide +kernel)]; kernel_rfl) | (rw [if_neg (by decide +kernel)]; exact ⟨rfl, rfl⟩))
    (fun os started H enc _ => itemsBlocks_lifted os started H enc)
#print axioms itemsBlocks_holds
end Go.Proofs.Ythhfokjikkmfhaa
