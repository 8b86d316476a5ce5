/- The bag's contracts, the last: putting all. -/
import Derived.Test.YtibknlliackohaaBagH
namespace Go.Proofs.Ytibknlliackohaa
open Go.ChangeShapes Go.WideShapes Go.ChangeAt Go.RowKit Go.Sx
theorem fill_wf {p : List Int → Bool} {x size : Int} (hx : 0 ≤ x ∧ x < 256) (hs : size ≤ 16) : ∀ {l : Rows2} {n : Int}, (∀ r ∈ l, 0 ≤ nn r ∧ nn r ≤ 16) → (∀ r ∈ l, wfR r) → 0 ≤ n → ∀ r ∈ (fill p x size l n).1, wfR r
  | [], n, _, _, _ => fun r hr => by simp [fill] at hr
  | r :: t, n, hb, h, h0 => by
    have hr := h r (by simp)
    have hbr := hb r (by simp)
    have ha := amt_bd (p := p) (size := size) (r := r) h0
    have ih := fill_wf (p := p) (size := size) hx hs (l := t) (n := n - amt p size r n) (fun s hs => hb s (by simp [hs])) (fun s hs => h s (by simp [hs])) (by omega)
    have hbd := fill_bd (p := p) (x := x) (size := size) (l := r :: t) (n := n) hb h0 hs
    intro s hsm
    have hsb := hbd s hsm
    simp only [fill, List.mem_cons] at hsm
    rcases hsm with e | hsm
    · unfold putR at e
      by_cases hz : amt p size r n = 0
      · rw [if_pos hz] at e; subst e; exact hr
      · rw [if_neg hz] at e; subst e
        exact ⟨rfl, hx, by omega, by omega⟩
    · exact ih s hsm
theorem putS_wf {l : Rows2} {i n : Int} (hw : wfL l) (hi : 0 ≤ i ∧ i < 256) : wfL (putS l i n).1 := by
  refine ⟨?_, by rw [putS_len]; exact hw.2⟩
  unfold putS
  split
  · exact hw.1
  · rename_i h1
    split
    · exact hw.1
    · rename_i h2
      have h3 : l.all okR = true := by
        cases h : l.all okR with
        | true => rfl
        | false => exact absurd (.inr h) h2
      have hst := stackT_bd i
      have hb := okl_bd h3
      exact fill_wf hi hst.2 (fill_bd hb (by omega) hst.2) (fill_wf hi hst.2 hb hw.1 (by omega)) (fill_left (by omega)).1
end Go.Proofs.Ytibknlliackohaa
