/- NetSieve's loops. -/
import Derived.Test.YtjnnfehepbicfaaNvA
import Derived.Test.YtjnnfehepbicfaaNsP
namespace Go.Proofs.Ytjnnfehepbicfaa
open Go.ChangeShapes Go.WideShapes Go.ChangeAt Go.RowKit Go.Sx
theorem funV : Try.prog.funcs[8]? = some FV := by kernel_rfl
theorem bodV : FV.body = some (body 8) := by kernel_rfl
theorem tmpV : 4 ≤ FV.ntmps := Nat.le_of_ble_eq_true (by kernel_rfl)
def EndV (W : World) : Ending → World → Prop := fun e w' => e = .returned (.bool true) ∧ Below W.heap.size W w'
theorem keptV {W w' : World} (h : Kept (uptoN W) W w') : Below W.heap.size W w' := ⟨h.os, h.tape, h.output, h.size, h.block⟩
theorem ap9 {A B C D E F G H I α : Type} {f g : A → B → C → D → E → F → G → H → I → α} (h : f = g) (a : A) (b : B) (c : C) (d : D) (e : E) (x : F) (y : G) (z : H) (i : I) : f a b c d e x y z i = g a b c d e x y z i := by rw [h]
theorem ap4 {A B C D α : Type} {f g : A → B → C → D → α} (h : f = g) (a : A) (b : B) (c : C) (d : D) : f a b c d = g a b c d := by rw [h]
/-! ### who stays -/
def stayQ (qs : List Int) (r : Rw) : Bool := qs.all fun q => !decide (r.1.getD 1 0 = q)
def wantQ (qs : List Int) (l : Rws) : Rws := l.filter (stayQ qs)
theorem forget_all : ∀ (qs : List Int) (R : Rws), qs.foldl forgetS R = wantQ qs R
  | [], R => (List.filter_eq_self.2 fun _ _ => rfl).symm
  | q :: qs, R => by
    rw [List.foldl_cons, forget_all qs]
    unfold wantQ forgetS
    rw [List.filter_filter]
    congr 1
    funext r
    simp only [stayQ, List.all_cons]
    exact Bool.and_comm _ _
theorem wantQ_rev (qs : List Int) (R : Rws) : wantQ qs.reverse R = wantQ qs R := by
  unfold wantQ stayQ
  congr 1
  funext r
  simp
theorem wantQ_round {qs : List Int} {l : Rws} {i : Nat} (h : i < l.length) : wantQ qs (l.take (i + 1)) = match stayQ qs (l.getD i ([], [])) with
  | true => wantQ qs (l.take i) ++ [l.getD i ([], [])]
  | false => wantQ qs (l.take i) := by
  rw [take_row h]
  unfold wantQ
  rw [List.filter_append]
  cases hd : stayQ qs (l.getD i ([], [])) with
  | true => simp only [List.filter_cons, hd]; rfl
  | false => simp only [List.filter_cons, hd]; simp
theorem wantQ_len (qs : List Int) (l : Rws) : (wantQ qs l).length ≤ l.length := List.length_filter_le ..
theorem wantQ_wf {qs : List Int} {l : Rws} (h : okN 3 l) : okN 3 (wantQ qs l) := by
  have := wantQ_len qs l
  exact ⟨h.1, fun r hr => h.2.1 r (List.mem_filter.1 hr).1, by have := h.2.2; omega⟩
/-! ### the loop over all -/
def GoR (l R W st st' : Rws) (L : List Int) (m : Nat) (gone : Int) (i : Nat) : Prop := ∃ (h : List Bool) (a : Slots) (b : List SB) (ob : List Prop) (k : Nat), 6 < k ∧
  stopV [9, 11, 13, 14, 17, 20, 116, 117, 118] [0, 1, 2, 3, 4, 5, 6, k] (rndV (LV3.2.length + 1) h l R W W st L m gone i) = some (KV3, a, b, ob) ∧ allP ob ∧
  leSlots [0, 1, 2, 3, 4, 5, 6, k] a (TV3 l R W W st' L m gone (i + 1) []).sl ∧ leBs [0, 1, 2, 3, 4, 5, 6, k] b (TV3 l R W W st' L m gone (i + 1) []).m
theorem nv_loop {ρ0 : Env} {Wd : World} {l R : Rws} {L qs : List Int} {m : Nat} {gone : Int} (hρ : ρ0.length = 1)
    (hround : ∀ (i : Nat) (st : Rws), i < R.length → st.length ≤ i → GoR l R (wantQ qs R) st (match stayQ qs (R.getD i ([], [])) with | true => st ++ [R.getD i ([], [])] | false => st) L m gone i)
    (hexit : ∃ (h : List Bool) (ob : List Prop), obsO (rndV 0 h l R (wantQ qs R) (wantQ qs R) (wantQ qs R) L m gone R.length) = some ob ∧ allP ob)
    {ρ' : Env} {ac : Act} {w : World} (hr : RelD [] (ρ0 ++ ρ') (uptoN Wd) Wd FV.ntmps (TV3 l R (wantQ qs R) (wantQ qs R) [] L m gone 0 []) ac w) :
    Goes Try.prog 8 (EndV Wd) (.code (.loop LV3.1) :: LV3.2) ac w := by
  have h0 : ([] : Rws) = wantQ qs (R.take 0) := by simp [wantQ]
  rw [h0] at hr
  refine goes_loop (ρ0 := ρ0) (fun i : Nat => TV3 l R (wantQ qs R) (wantQ qs R) (wantQ qs (R.take i)) L m gone i []) (fun i => i ≤ R.length) (fun i => R.length - i) ?_ (Nat.zero_le _) hr
  intro i hg ρ' ac w hri ih
  by_cases hi : i < R.length
  · have hst := wantQ_len qs (R.take i)
    rw [List.length_take] at hst
    obtain ⟨h, a, b, ob, k, hk, q, hob, ha, hb⟩ := hround i (wantQ qs (R.take i)) hi (by omega)
    have hrd := wantQ_round (qs := qs) hi
    have hrd' : (match stayQ qs (R.getD i ([], [])) with | true => wantQ qs (R.take i) ++ [R.getD i ([], [])] | false => wantQ qs (R.take i)) = wantQ qs (R.take (i + 1)) := hrd.symm
    rw [hrd'] at ha hb
    refine goes_stop (ρ0 := ρ0) (r := [1, 2, 3, 4, 5, 6, k]) (T := TV3 l R (wantQ qs R) (wantQ qs R) (wantQ qs (R.take (i + 1))) L m gone (i + 1) []) (callY_ok 9) funV (by rw [hρ]; exact q) hob ⟨by rw [hρ]; simp [List.range, List.range.loop]; omega, by rw [hρ]; exact ha, by rw [hρ]; exact hb⟩
      (fun ρ' a w hh => ih (i + 1) (by omega) (by omega) ρ' a w hh) (S := TV3 l R (wantQ qs R) (wantQ qs R) (wantQ qs (R.take i)) L m gone i h) ⟨hri.sl, hri.m⟩
  · have e : i = R.length := by omega
    subst e
    rw [List.take_length] at hri
    obtain ⟨h, ob, q, hob⟩ := hexit
    exact goes_true (callY_ok 9) funV (S := TV3 l R (wantQ qs R) (wantQ qs R) (wantQ qs R) L m gone R.length h) q hob (fun w' h => ⟨rfl, keptV h⟩) (ρ0 := ρ0) ⟨hri.sl, hri.m⟩
end Go.Proofs.Ytjnnfehepbicfaa
