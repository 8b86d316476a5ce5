/- NetMoved's loop. -/
import Derived.Test.YtjnnfehepbicfaaNmA
import Derived.Test.YtjnnfehepbicfaaNsP
namespace Go.Proofs.Ytjnnfehepbicfaa
open Go.ChangeShapes Go.WideShapes Go.ChangeAt Go.RowKit Go.Sx
theorem funM : Try.prog.funcs[7]? = some FM := by kernel_rfl
theorem bodM : FM.body = some (body 7) := by kernel_rfl
theorem tmpM : 2 ≤ FM.ntmps := Nat.le_of_ble_eq_true (by kernel_rfl)
def EndS (W : World) : Ending → World → Prop := fun e w' => e = .returned (.bool true) ∧ Below W.heap.size W w'
theorem keptN {W w' : World} (h : Kept (uptoN W) W w') : Below W.heap.size W w' := ⟨h.os, h.tape, h.output, h.size, h.block⟩
/-- so far round -/
def rotL (W : Rws) (i : Nat) : Rws := W.drop i ++ W.take i
theorem rotL_len {W : Rws} {i : Nat} (h : i ≤ W.length) : (rotL W i).length = W.length := by simp [rotL]; omega
theorem rotL_step {W : Rws} {i : Nat} (h : i < W.length) : dropS (rotL W i ++ [row (rotL W i) 0]) 0 = rotL W (i + 1) := by
  have e : rotL W i = W[i] :: (W.drop (i + 1) ++ W.take i) := by
    unfold rotL; rw [List.drop_eq_getElem_cons h]; rfl
  rw [e]
  unfold dropS
  rw [if_pos (by simp; omega)]
  have e2 : row (W[i] :: (W.drop (i + 1) ++ W.take i)) 0 = W[i] := by simp [row]
  rw [e2]
  unfold rotL
  rw [List.take_add_one]
  simp [h]
theorem rotL_wf {W : Rws} {i : Nat} (h : okN 3 W) (hi : i ≤ W.length) : okN 3 (rotL W i) := by
  obtain ⟨h0, h1, h2⟩ := h
  refine ⟨h0, fun r hr => h1 r ?_, by rw [rotL_len hi]; exact h2⟩
  unfold rotL at hr
  rcases List.mem_append.1 hr with h | h
  · exact List.mem_of_mem_drop h
  · exact List.mem_of_mem_take h
theorem wf_app {l : Rws} {r : Rw} (h : okN 3 l) (hr : r ∈ l) (hl : l.length < 4096) : okN 3 (l ++ [r]) := by
  obtain ⟨h0, h1, h2⟩ := h
  refine ⟨h0, fun x hx => ?_, by simp; omega⟩
  rcases List.mem_append.1 hx with hx | hx
  · exact h1 x hx
  · rw [List.mem_singleton.1 hx]; exact h1 r hr
theorem row_mem {l : Rws} {i : Int} (h0 : 0 ≤ i) (h1 : i < l.length) : row l i ∈ l := by
  have hlt : i.toNat < l.length := by omega
  unfold row
  rw [row_at hlt]
  exact List.getElem_mem hlt
theorem nm_loop {ρ0 : Env} {Wd : World} {l W : Rws} (hρ : ρ0.length = 1) (hw : okN 3 W) (hl : W.length ≤ 30) {ρ' : Env} {ac : Act} {w : World} (hr : RelD [] (ρ0 ++ ρ') (uptoN Wd) Wd FM.ntmps (TM l W W 0 []) ac w) :
    Goes Try.prog 7 (EndS Wd) (.code (.loop LM.1) :: LM.2) ac w := by
  have h0 : TM l W W 0 [] = TM l W (rotL W 0) 0 [] := by simp [rotL]
  rw [h0] at hr
  refine goes_loop (ρ0 := ρ0) (fun i : Nat => TM l W (rotL W i) i []) (fun i => i ≤ W.length) (fun i => W.length - i) ?_ (Nat.zero_le _) hr
  intro i hg ρ' ac w hri ih
  have hlen := rotL_len hg
  have hwf := rotL_wf hw hg
  by_cases hi : i < W.length
  · have q := congrFun (congrFun (congrFun (congrFun nmR l) W) (rotL W i)) i
    have hmem : row (rotL W i) 0 ∈ rotL W i := row_mem (by omega) (by omega)
    have hce : copyE (rotL W i) 0 = 0 := by unfold copyE; rw [if_neg (by omega), if_neg (by omega)]
    have hwa := wf_app hwf hmem (by omega)
    rw [rotL_step hi] at q
    refine goes_stop (ρ0 := ρ0) (r := [1, 5, 3]) (T := TM l W (rotL W (i + 1)) (i + 1) []) (callY_ok 9) funM (by rw [hρ]; exact q) ?_ ⟨by rw [hρ]; decide, ?_, ?_⟩
      (fun ρ' a w hh => ih (i + 1) (by omega) (by omega) ρ' a w hh) (S := TM l W (rotL W i) i [true, true, false, false]) ⟨hri.sl, hri.m⟩
    · generalize rotL W i = C at *
      generalize row C 0 = r0 at *
      simp only [allP, hce]
      simp [hwf, hwa]; omega
    · rw [hρ]
      simp [TM, leSlots, leV, leV1, leC, si, rsl, np, N.v, List.range, List.range.loop]
    · rw [hρ]
      simp [TM, leBs, leB, leCells, leL, leC, nb, rr, orr, N.v, List.range, List.range.loop]
  · have e : i = W.length := by omega
    subst e
    have hrot : rotL W W.length = W := by simp [rotL]
    rw [hrot] at hri hwf
    refine goes_true (callY_ok 9) funM (S := TM l W W W.length [false]) (congrFun (congrFun (congrFun (congrFun nmX l) W) W) W.length) ?_ (fun w' h => ⟨rfl, keptN h⟩) (ρ0 := ρ0) ⟨hri.sl, hri.m⟩
    simp [allP, hwf]; omega
theorem drop_last (R : Rws) (r : Rw) : dropS (R ++ [r]) (R.length : Int) = R := by
  unfold dropS
  rw [if_pos (by simp; omega), Int.toNat_natCast, List.eraseIdx_append_of_length_le (Nat.le_refl _)]
  simp
theorem drop_mid (R : Rws) (r : Rw) {k : Int} (h0 : 0 ≤ k) (h1 : k < R.length) : dropS (R ++ [r]) k = R.eraseIdx k.toNat ++ [r] := by
  unfold dropS
  rw [if_pos (by simp; omega), List.eraseIdx_append_of_lt_length (by omega)]
end Go.Proofs.Ytjnnfehepbicfaa
