/- The laws' table holds. -/
import Derived.Test.YtibknlliackohaaCrL
import Derived.Test.YtibknlliackohaaCrP
namespace Go.Proofs.Ytibknlliackohaa
open Go.ChangeShapes Go.WideShapes Go.ChangeAt Go.RowKit Go.Sx
theorem awake_run : isT (callN Try.prog (fun _ => none) ef2 100000 16 9 [] [] []) = true := by kernel_rfl
theorem no_tabs : ∀ f g, (fun _ : FuncId => (none : Option (List V → List SB → List Bool → Option CallR))) f = some g → TabOk Try.prog f g := fun _ _ h => by cases h
theorem tabL_ok : ∀ f g, tabL f = some g → TabOk Try.prog f g := tabs_ok fun x hx => by
  simp only [List.mem_cons, List.not_mem_nil, or_false] at hx
  rcases hx with rfl | rfl | rfl | rfl | rfl | rfl | rfl | rfl | rfl
  · exact yes_ok no_tabs awake_run
  · exact stack_tab
  · exact right_tab
  · exact count_tab
  · exact same_tab
  · exact put_tab
  · exact spend_tab
  · exact clone_tab
  · exact make_tab
theorem rel1 {W0 : World} {e : E} {l : Rows2} {v : Value} (u : ∀ (ρ : Env) (b : Nat), ρ[b]? = some e → (V.v (.one (.slice b (.c 0) 2 (.s l.length) (.s l.length)))).rel ρ v) : (sl2 0 l).rel [e] v := u [e] 0 rfl
theorem nd {a b : Int} (h : a = b) : (!decide (a = b)) = false := by rw [decide_eq_true h]; rfl
end Go.Proofs.Ytibknlliackohaa
