/- Recipes: what each is of and makes, and how many there are, as tables. -/
import Derived.Test.YthhfokjikkmfhaaTabs
import Derived.Test.YthhfokjikkmfhaaSxAC
namespace Go.Proofs.Ythhfokjikkmfhaa
open Go.ChangeShapes Go.WideShapes Go.ChangeAt Go.RowKit Go.Sx
def ic (n : Nat) : V := .v (.one (.int .i64 n))
def is (n : Int) : V := .v (.one (.sint .i64 n))
def iu (n : Int) : V := .v (.one (.sint .u8 n))
def slots : List (Nat × Nat) → List C
  | [] => []
  | (i, n) :: r => .int .u8 i :: .int .i64 n :: slots r
def recOf (k : Nat) : List (Nat × Nat) := [[(3, 1)], [(5, 2)], [(5, 8)], [(6, 1), (7, 1)], [(7, 1), (3, 1)], [(6, 2), (8, 3)], [(2, 4), (1, 1)]].getD k []
def recMk (k : Nat) : Nat × Nat := [(5, 4), (6, 4), (9, 1), (10, 4), (8, 1), (12, 1), (7, 1)].getD k (0, 0)
def recV (k : Nat) : V := .tup [.one (.slice 0 (.c 0) 2 (.c (recOf k).length) (.c (recOf k).length)), .agg (slots [recMk k]), .one (.bool true)]
def recB (k : Nat) : List SB := [⟨true, .exp (slots (recOf k))⟩]
def recL : List (List Int × V × List SB) := [([0], recV 0, recB 0), ([1], recV 1, recB 1), ([2], recV 2, recB 2), ([3], recV 3, recB 3), ([4], recV 4, recB 4), ([5], recV 5, recB 5), ([6], recV 6, recB 6)]
def recW (k : Nat) : V := .tup [.one (.slice (k + 1) (.c 0) 2 (.c (recOf k).length) (.c (recOf k).length)), .agg (slots [recMk k]), .one (.bool true)]
theorem rec0 : retV [1] (call0 5 12 [ic 0] [] []) = some (recW 0, recB 0, []) := by kernel_rfl
theorem rec1 : retV [2] (call0 5 12 [ic 1] [] []) = some (recW 1, recB 1, []) := by kernel_rfl
theorem rec2 : retV [3] (call0 5 12 [ic 2] [] []) = some (recW 2, recB 2, []) := by kernel_rfl
theorem rec3 : retV [4] (call0 5 12 [ic 3] [] []) = some (recW 3, recB 3, []) := by kernel_rfl
theorem rec4 : retV [5] (call0 5 12 [ic 4] [] []) = some (recW 4, recB 4, []) := by kernel_rfl
theorem rec5 : retV [6] (call0 5 12 [ic 5] [] []) = some (recW 5, recB 5, []) := by kernel_rfl
theorem rec6 : retV [7] (call0 5 12 [ic 6] [] []) = some (recW 6, recB 6, []) := by kernel_rfl
theorem recs_run : retV [] (call0 5 13 [] [] []) = some (ic 7, [], []) := by kernel_rfl
theorem slots_le (sel : List Nat) : ∀ l, leL sel (slots l) (slots l)
  | [] => trivial
  | (_, _) :: r => ⟨⟨rfl, rfl⟩, ⟨rfl, rfl⟩, slots_le sel r⟩
theorem rec_makes {k : Nat} (h : retV [k + 1] (call0 5 12 [ic k] [] []) = some (recW k, recB k, [])) : Makes Try.prog 12 (ivals [.i64] [(k : Int)]) (recV k) (recB k) :=
  makes_of (v := recV k) (bs := recB k) no_tabs h trivial (by simp) ⟨⟨rfl, rfl, rfl, rfl, Nat.le_refl _, Nat.le_refl _⟩, slots_le _ _, rfl, trivial⟩ ⟨⟨fun h => h, slots_le _ _⟩, trivial⟩ ⟨_, _, rfl, ⟨rfl, rfl⟩, rfl⟩
theorem rec_tab : TabOk Try.prog 12 (closedTab [.i64] recL) := closedTab_ok fun ns v bs h => by
  simp only [recL, List.mem_cons, List.not_mem_nil, or_false, Prod.mk.injEq] at h
  rcases h with ⟨rfl, rfl, rfl⟩ | ⟨rfl, rfl, rfl⟩ | ⟨rfl, rfl, rfl⟩ | ⟨rfl, rfl, rfl⟩ | ⟨rfl, rfl, rfl⟩ | ⟨rfl, rfl, rfl⟩ | ⟨rfl, rfl, rfl⟩
  · exact ⟨rfl, rec_makes rec0⟩
  · exact ⟨rfl, rec_makes rec1⟩
  · exact ⟨rfl, rec_makes rec2⟩
  · exact ⟨rfl, rec_makes rec3⟩
  · exact ⟨rfl, rec_makes rec4⟩
  · exact ⟨rfl, rec_makes rec5⟩
  · exact ⟨rfl, rec_makes rec6⟩
def recN : V := .tup [.one .nils, .agg [.int .u8 0, .int .i64 0], .one (.bool false)]
theorem recNeg : (fun n : Int => retV [] (call0 5 12 [is n] [] [true])) = fun n => some (recN, [], [decide (n < 0) = true]) := by kernel_rfl
theorem recPos : (fun n : Int => retV [] (call0 5 12 [is n] [] [false, true])) = fun n => some (recN, [], [decide (7 ≤ n) = true, decide (n < 0) = false]) := by kernel_rfl
def gRecN : List Int → V × List SB × List Prop
  | [n] => (recN, [], [n < 0 ∨ 7 ≤ n])
  | _ => (.tup [], [], [False])
theorem recN_tab : TabOk Try.prog 12 (numTab [.i64] gRecN) := numTab_ok fun ns hl hp => by
  match ns, hl with
  | [n], _ =>
    have hr : leV [] recN recN := ⟨trivial, ⟨⟨rfl, rfl⟩, ⟨rfl, rfl⟩, trivial⟩, rfl, trivial⟩
    refine ⟨rfl, ?_⟩
    rcases (hp _ (by simp [gRecN]) : n < 0 ∨ 7 ≤ n) with h | h
    · exact makes_of (v := recN) (bs := []) no_tabs (congrFun recNeg n) (by simp [allP, h]) (by simp) hr trivial ⟨_, _, rfl, ⟨rfl, rfl⟩, rfl⟩
    · exact makes_of (v := recN) (bs := []) no_tabs (congrFun recPos n) (by simp [allP, h]; omega) (by simp) hr trivial ⟨_, _, rfl, ⟨rfl, rfl⟩, rfl⟩
theorem recs_tab : TabOk Try.prog 13 (closedTab [] [([], ic 7, [])]) := closedTab_ok fun ns v bs h => by
  simp only [List.mem_cons, List.not_mem_nil, or_false, Prod.mk.injEq] at h
  obtain ⟨rfl, rfl, rfl⟩ := h
  exact ⟨rfl, makes_of (v := ic 7) (bs := []) no_tabs recs_run trivial (by simp) ⟨rfl, rfl⟩ trivial rfl⟩
def tabR := tabs [(11, yes), (10, byteTab gS), (9, byteTab gB), (8, byteTab gG), (14, byteTab gN), (17, byteTab gS), (18, byteTab gB), (19, byteTab gG), (20, byteTab gN), (12, orTab (closedTab [.i64] recL) (numTab [.i64] gRecN)), (13, closedTab [] [([], ic 7, [])])]
noncomputable def callR (d : Nat) := callN Try.prog tabR (fun _ => false) 100000 d
theorem tabR_ok : ∀ f g, tabR f = some g → TabOk Try.prog f g := tabs_ok fun x hx => by
  simp only [List.mem_cons, List.not_mem_nil, or_false] at hx
  rcases hx with rfl | rfl | rfl | rfl | rfl | rfl | rfl | rfl | rfl | rfl | rfl
  · exact yes_ok no_tabs awake_true
  · exact byteTab_ok no_tabs (allF_four c10a c10b c10c c10d)
  · exact byteTab_ok no_tabs (allF_four c9a c9b c9c c9d)
  · exact byteTab_ok no_tabs (allF_four c8a c8b c8c c8d)
  · exact byteTab_ok no_tabs (allF_four c14a c14b c14c c14d)
  · exact byteTab_ok no_tabs (allF_four c17a c17b c17c c17d)
  · exact byteTab_ok no_tabs (allF_four c18a c18b c18c c18d)
  · exact byteTab_ok no_tabs (allF_four c19a c19b c19c c19d)
  · exact byteTab_ok no_tabs (allF_four c20a c20b c20c c20d)
  · exact orTab_ok rec_tab recN_tab
  · exact recs_tab
end Go.Proofs.Ythhfokjikkmfhaa
