/- GenSame: what a right chunk is: the contract. -/
import Derived.Test.YtbbjfjeagaoddaaGsB
namespace Go.Proofs.Ytbbjfjeagaoddaa
open Go.ChangeShapes Go.WideShapes Go.ChangeAt Go.RowKit Go.Sx
theorem bl0 : allF (fun n => okV (gB (n : Nat)) (callN Try.prog (fun _ => none) (fun _ => false) 100000 4 24 [.v (.one (.int .u8 (n : Nat)))] [] [])) 0 64 = true := by kernel_rfl
theorem bl1 : allF (fun n => okV (gB (n : Nat)) (callN Try.prog (fun _ => none) (fun _ => false) 100000 4 24 [.v (.one (.int .u8 (n : Nat)))] [] [])) 64 64 = true := by kernel_rfl
theorem bl2 : allF (fun n => okV (gB (n : Nat)) (callN Try.prog (fun _ => none) (fun _ => false) 100000 4 24 [.v (.one (.int .u8 (n : Nat)))] [] [])) 128 64 = true := by kernel_rfl
theorem bl3 : allF (fun n => okV (gB (n : Nat)) (callN Try.prog (fun _ => none) (fun _ => false) 100000 4 24 [.v (.one (.int .u8 (n : Nat)))] [] [])) 192 64 = true := by kernel_rfl
theorem block_tab : TabOk Try.prog 24 (byteTab gB) := byteTab_ok no_tabs (allF_four bl0 bl1 bl2 bl3)
theorem tabB_ok : ∀ f g, tabB f = some g → TabOk Try.prog f g := tabs_ok fun x hx => by
  simp only [List.mem_cons, List.not_mem_nil, or_false] at hx
  rcases hx with rfl
  exact block_tab
theorem callB_ok (d : Nat) : CallOk Try.prog (callB d) := callN_sound tabB_ok d
theorem funG : Try.prog.funcs[19]? = some FG := by kernel_rfl
theorem bodG : FG.body = some (bodyF 19) := by kernel_rfl
theorem tmpG : 1 ≤ FG.ntmps := Nat.le_of_ble_eq_true (by kernel_rfl)
theorem okC_cases {c : Int} (h0 : 0 ≤ c) (h1 : c < 8) (h : okC c = true) : c = 0 ∨ (c ≠ 0 ∧ c ≠ 9 ∧ blockT c = true) := by
  have : ∀ n : Nat, n < 8 → okC (n : Int) = true → (n : Int) = 0 ∨ ((n : Int) ≠ 0 ∧ (n : Int) ≠ 9 ∧ blockT (n : Int) = true) := by decide
  have e : ((c.toNat : Nat) : Int) = c := by omega
  have := this c.toNat (by omega) (by rw [e]; exact h)
  rwa [e] at this
theorem nd1G : (List.range 1 ++ [1]).Nodup := by decide
theorem nd0G : (List.range 1 ++ ([] : List Nat)).Nodup := by decide
theorem right_works (x y : Int) (l : List Int) (hx : inCh x y) (hl : l.length = 64) (hc : ∀ c ∈ l, 0 ≤ c ∧ c < 8 ∧ okC c = true) : Works Try.prog 19 [chV x y 0] [ri l] (.v (.one (.bool true))) [ri l] := by
  have hin : 0 ≤ x ∧ x < 16 ∧ 0 ≤ y ∧ y < 16 := by unfold inCh at hx; omega
  refine works_loop (I := Nat) (Inv := fun i h => TG x y l i h) (good := fun i => i ≤ 64) (μ := fun i => 64 - i) (i := 0) (r := [1]) (callB_ok 4) funG bodG (by exact tmpG) (fun _ _ => ⟨rfl, rfl⟩)
    (congrFun (congrFun (congrFun gsE x) y) l) ?_ ⟨nd1G, ?_, ?_⟩ (Nat.zero_le _) ?_
  · simp [allP]; constructor <;> split <;> omega
  · simp [TG, leSlots, leV, leV1, leC, si, List.range, List.range.loop, N.v]
  · simp [TG, leBs, leB, leCells, leL, leC, ri, bx, List.range, List.range.loop, N.v]
  · intro i hi
    by_cases hlt : i < 64
    · have q0 := congrFun (congrFun (congrFun (congrFun gsR0 x) y) l) i
      have q1 := congrFun (congrFun (congrFun (congrFun gsR1 x) y) l) i
      have hm : l.getD i 0 ∈ l := by
        rw [List.getD_eq_getElem?_getD, List.getElem?_eq_getElem (by omega)]; exact List.getElem_mem _
      obtain ⟨b0, b1, b2⟩ := hc _ hm
      have hk := okC_cases b0 b1 b2
      generalize l.getD i 0 = c at *
      rcases hk with h0 | ⟨h0, h9, hb⟩
      · refine .round [true, false, true] [] _ _ [1, 3, 35, 36, 37] [1] _ _ _ (i + 1) q0 ?_ ⟨nd1G, ?_, ?_⟩ hlt (by omega)
        · simp [allP, h0]; omega
        · simp [TG, leSlots, leV, leV1, leC, si, List.range, List.range.loop, N.v]
        · simp [TG, leBs, leB, leCells, leL, leC, ri, bx, List.range, List.range.loop, N.v]
      · refine .round [true, true, false, true] [] _ _ [1, 3, 35, 36, 37] [1] _ _ _ (i + 1) q1 ?_ ⟨nd1G, ?_, ?_⟩ hlt (by omega)
        · simp [allP, h0, h9, hb]; omega
        · simp [TG, leSlots, leV, leV1, leC, si, List.range, List.range.loop, N.v]
        · simp [TG, leBs, leB, leCells, leL, leC, ri, bx, List.range, List.range.loop, N.v]
    · refine .stop [false] [] _ _ [] _ _ _ (congrFun (congrFun (congrFun (congrFun gsX x) y) l) i) ?_ nd0G ?_ ?_
      · simp [allP]; omega
      · simp [leV, leV1, leC]
      · simp [leBs, leB, leCells, ri]
theorem rightC_tab : TabOk Try.prog 19 (loc wC gRightC) := loc_ok fun xs bs v bs' ob hg hob hokb => by
  unfold gRightC at hg
  split at hg
  · rename_i x y n c k l
    split at hg
    · rename_i hk
      injection hg with hg; injection hg with e1 e2; injection e2 with e2 e3
      subst e1; subst e2; subst e3
      have hk' : k = .u8 := of_decide_eq_true hk
      subst hk'
      have h1 := hob (n = 64) (by simp)
      have h2 := hob (c = 64) (by simp)
      have h3 := hob (inCh x y) (by simp)
      have h4 := hob (l.length = 64) (by simp)
      have h5 := hob (∀ c ∈ l, 0 ≤ c ∧ c < 8 ∧ okC c = true) (by simp)
      subst h1; subst h2
      exact right_works x y l h3 h4 h5
    · cases hg
  · cases hg
end Go.Proofs.Ytbbjfjeagaoddaa
