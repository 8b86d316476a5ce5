/- Which commands may be, as the program tells it. -/
import Derived.Test.YtgkhbhddmafakaaVint
namespace Go.Proofs.Ytgkhbhddmafakaa
open Go.ChangeShapes Go.WideShapes Go.ChangeAt Go.RowKit Go.Sx
def ic8 (k : Nat) : V := .v (.one (.int .u8 k))
def loL : Nat → Int
  | 109 => -1
  | 110 => 1
  | _ => 0
def hiL : Nat → Int
  | 109 => 1
  | 112 => 127
  | 105 => 1073741824
  | 115 => 7
  | 110 => 1000
  | 114 => 1000
  | _ => 0
def inR (k : Nat) (n : Int) : Bool := decide (loL k ≤ n) && decide (n ≤ hiL k)
noncomputable def may (k : Nat) (h : List Bool) (n : Int) := retV [] (call0 3 23 [ic8 k, si .i64 n] [] h)
theorem mT45 : (fun n => may 45 [true] n) = fun n => some (.v (.one (.sbool (decide (n ≤ hiL 45)))), [], [decide (loL 45 ≤ n) = true]) := by kernel_rfl
theorem mF45 : (fun n => may 45 [false] n) = fun n => some (.v (.one (.bool false)), [], [decide (loL 45 ≤ n) = false]) := by kernel_rfl
theorem mT109 : (fun n => may 109 [true] n) = fun n => some (.v (.one (.sbool (decide (n ≤ hiL 109)))), [], [decide (loL 109 ≤ n) = true]) := by kernel_rfl
theorem mF109 : (fun n => may 109 [false] n) = fun n => some (.v (.one (.bool false)), [], [decide (loL 109 ≤ n) = false]) := by kernel_rfl
theorem mT112 : (fun n => may 112 [true] n) = fun n => some (.v (.one (.sbool (decide (n ≤ hiL 112)))), [], [decide (loL 112 ≤ n) = true]) := by kernel_rfl
theorem mF112 : (fun n => may 112 [false] n) = fun n => some (.v (.one (.bool false)), [], [decide (loL 112 ≤ n) = false]) := by kernel_rfl
theorem mT105 : (fun n => may 105 [true] n) = fun n => some (.v (.one (.sbool (decide (n ≤ hiL 105)))), [], [decide (loL 105 ≤ n) = true]) := by kernel_rfl
theorem mF105 : (fun n => may 105 [false] n) = fun n => some (.v (.one (.bool false)), [], [decide (loL 105 ≤ n) = false]) := by kernel_rfl
theorem mT115 : (fun n => may 115 [true] n) = fun n => some (.v (.one (.sbool (decide (n ≤ hiL 115)))), [], [decide (loL 115 ≤ n) = true]) := by kernel_rfl
theorem mF115 : (fun n => may 115 [false] n) = fun n => some (.v (.one (.bool false)), [], [decide (loL 115 ≤ n) = false]) := by kernel_rfl
theorem mT110 : (fun n => may 110 [true] n) = fun n => some (.v (.one (.sbool (decide (n ≤ hiL 110)))), [], [decide (loL 110 ≤ n) = true]) := by kernel_rfl
theorem mF110 : (fun n => may 110 [false] n) = fun n => some (.v (.one (.bool false)), [], [decide (loL 110 ≤ n) = false]) := by kernel_rfl
theorem mT114 : (fun n => may 114 [true] n) = fun n => some (.v (.one (.sbool (decide (n ≤ hiL 114)))), [], [decide (loL 114 ≤ n) = true]) := by kernel_rfl
theorem mF114 : (fun n => may 114 [false] n) = fun n => some (.v (.one (.bool false)), [], [decide (loL 114 ≤ n) = false]) := by kernel_rfl
def isLL : List Nat → Int → Option Nat
  | [], _ => none
  | a :: r, k => match decide (k = a) with
    | true => some a
    | false => isLL r k
theorem isLL_spec : ∀ {l : List Nat} {k : Int} {n : Nat}, isLL l k = some n → k = n ∧ n ∈ l
  | [], _, _, h => by cases h
  | a :: r, k, n, h => by
    simp only [isLL] at h
    split at h
    · rename_i hk; injection h with h; subst h; exact ⟨of_decide_eq_true hk, by simp⟩
    · obtain ⟨h1, h2⟩ := isLL_spec h; exact ⟨h1, by simp [h2]⟩
def isL (k : Int) : Option Nat := isLL [45, 109, 112, 105, 115, 110, 114] k
theorem isL_spec {k : Int} {n : Nat} (h : isL k = some n) : k = n ∧ (n = 45 ∨ n = 109 ∨ n = 112 ∨ n = 105 ∨ n = 115 ∨ n = 110 ∨ n = 114) := by
  obtain ⟨h1, h2⟩ := isLL_spec h
  exact ⟨h1, by simpa using h2⟩
def gMay : List V → List Bool → Option Made := fun args h => match args with
  | [.v (.one (.int .u8 k)), .v (.one (.sint .i64 n))] => match isL k with
    | some l => some (.v (.one (.sbool (inR l n))), [], h, [])
    | none => none
  | _ => none
theorem may_of {k : Nat} {n : Int} (h1 : may k [true] n = some (.v (.one (.sbool (decide (n ≤ hiL k)))), [], [decide (loL k ≤ n) = true])) (h2 : may k [false] n = some (.v (.one (.bool false)), [], [decide (loL k ≤ n) = false])) :
    Makes Try.prog 23 [.int .u8 k, .int .i64 n] (.v (.one (.sbool (inR k n)))) [] := by
  have hu : relVs [] [ic8 k, si .i64 n] [.int .u8 k, .int .i64 n] := ⟨_, _, rfl, ⟨rfl, rfl⟩, _, _, rfl, ⟨rfl, rfl⟩, rfl⟩
  by_cases h : loL k ≤ n
  · exact makes_of (v := .v (.one (.sbool (inR k n)))) (bs := []) no_tabs h1 (by simp [allP, h]) (by simp) (show decide (n ≤ hiL k) = inR k n by simp [inR, h]) trivial hu
  · exact makes_of (v := .v (.one (.sbool (inR k n)))) (bs := []) no_tabs h2 (by simp [allP, h]) (by simp) (show false = inR k n by simp [inR, h]) trivial hu
theorem may_tab : TabOk Try.prog 23 (fresh gMay) := fresh_ok fun args h v bs h' ob hg hob => by
  unfold gMay at hg
  split at hg
  · rename_i k n
    split at hg
    · rename_i l hl
      injection hg with hg; injection hg with e1 e2; injection e2 with e2 e3; injection e3 with e3 e4
      subst e1; subst e2; subst e3; subst e4
      obtain ⟨hk, hq⟩ := isL_spec hl
      subst hk
      refine ⟨rfl, fun ρ us hu => ?_⟩
      obtain ⟨u, s, rfl, ⟨h1, _⟩, u', s', rfl, ⟨h2, _⟩, h3⟩ := hu
      simp only [relVs] at h3; subst h3
      simp only [C.rel] at h1 h2; subst h1; subst h2
      clear hl
      rcases hq with rfl | rfl | rfl | rfl | rfl | rfl | rfl
      · exact may_of (congrFun mT45 n) (congrFun mF45 n)
      · exact may_of (congrFun mT109 n) (congrFun mF109 n)
      · exact may_of (congrFun mT112 n) (congrFun mF112 n)
      · exact may_of (congrFun mT105 n) (congrFun mF105 n)
      · exact may_of (congrFun mT115 n) (congrFun mF115 n)
      · exact may_of (congrFun mT110 n) (congrFun mF110 n)
      · exact may_of (congrFun mT114 n) (congrFun mF114 n)
    · cases hg
  · cases hg
def tabM := tabs [(23, fresh gMay)]
theorem tabM_ok : ∀ f g, tabM f = some g → TabOk Try.prog f g := tabs_ok fun x hx => by
  simp only [List.mem_cons, List.not_mem_nil, or_false] at hx
  subst hx
  exact may_tab
noncomputable def callM (d : Nat) := callN Try.prog tabM (fun _ => false) 100000 d
def cmd (d : Sx.C) (A B C N : Int) : V := .v (.agg [d, .sint .i64 A, .sint .i64 B, .sint .i64 C, .sint .i64 N])
noncomputable def rightR (d : Sx.C) (h : List Bool) (A B C N : Int) := retV [] (callM 4 11 [cmd d A B C N] [] h)
def shapeL (d : Nat) : List Nat := [[], [45, 45, 45, 45], [109, 109, 45, 45], [112, 112, 45, 45], [112, 112, 115, 45], [45, 45, 45, 45], [45, 45, 115, 110], [112, 112, 115, 110], [112, 112, 115, 110], [45, 45, 114, 45], [45, 45, 45, 45], [105, 45, 115, 110], [45, 45, 45, 45], [45, 45, 45, 45]].getD d []
def rightF (d A B C N : Int) : Bool := match shapeL d.toNat with
  | [a, b, c, e] => inR a A && (inR b B && (inR c C && inR e N))
  | _ => false
def tf (b : Bool) : Option (V × List SB × List Prop) → Option (List Prop)
  | some (.v (.one (.bool b')), [], ob) => match b == b' with
    | true => some ob
    | false => none
  | _ => none
theorem tf_spec {b : Bool} {r : Option (V × List SB × List Prop)} {ob : List Prop} (h : tf b r = some ob) : r = some (.v (.one (.bool b)), [], ob) := by
  unfold tf at h
  split at h
  · split at h
    · rename_i hb; injection h with h; subst h
      have := eq_of_beq hb; subst this; rfl
    · cases h
  · cases h
theorem rBig : (fun d A B C N => tf false (rightR (.sint .u8 d) [true] A B C N)) = fun d _ _ _ _ => some [decide (14 ≤ d) = true, inK .i64 d] := by kernel_rfl
theorem rNone : (fun A B C N => tf false (rightR (.int .u8 0) [] A B C N)) = fun _ _ _ _ => some [] := by kernel_rfl
theorem r1_0 : (fun A B C N => tf false (rightR (.int .u8 1) [true] A B C N)) = fun A _ _ _ => some [(!inR 45 A) = true] := by kernel_rfl
theorem r1_1 : (fun A B C N => tf false (rightR (.int .u8 1) [false, true] A B C N)) = fun A B _ _ => some [(!inR 45 B) = true, (!inR 45 A) = false] := by kernel_rfl
theorem r1_2 : (fun A B C N => tf false (rightR (.int .u8 1) [false, false, true] A B C N)) = fun A B C _ => some [(!inR 45 C) = true, (!inR 45 B) = false, (!inR 45 A) = false] := by kernel_rfl
theorem r1_3 : (fun A B C N => tf false (rightR (.int .u8 1) [false, false, false, true] A B C N)) = fun A B C N => some [(!inR 45 N) = true, (!inR 45 C) = false, (!inR 45 B) = false, (!inR 45 A) = false] := by kernel_rfl
theorem r1_4 : (fun A B C N => tf true (rightR (.int .u8 1) [false, false, false, false] A B C N)) = fun A B C N => some [(!inR 45 N) = false, (!inR 45 C) = false, (!inR 45 B) = false, (!inR 45 A) = false] := by kernel_rfl
theorem r2_0 : (fun A B C N => tf false (rightR (.int .u8 2) [true] A B C N)) = fun A _ _ _ => some [(!inR 109 A) = true] := by kernel_rfl
theorem r2_1 : (fun A B C N => tf false (rightR (.int .u8 2) [false, true] A B C N)) = fun A B _ _ => some [(!inR 109 B) = true, (!inR 109 A) = false] := by kernel_rfl
theorem r2_2 : (fun A B C N => tf false (rightR (.int .u8 2) [false, false, true] A B C N)) = fun A B C _ => some [(!inR 45 C) = true, (!inR 109 B) = false, (!inR 109 A) = false] := by kernel_rfl
theorem r2_3 : (fun A B C N => tf false (rightR (.int .u8 2) [false, false, false, true] A B C N)) = fun A B C N => some [(!inR 45 N) = true, (!inR 45 C) = false, (!inR 109 B) = false, (!inR 109 A) = false] := by kernel_rfl
theorem r2_4 : (fun A B C N => tf true (rightR (.int .u8 2) [false, false, false, false] A B C N)) = fun A B C N => some [(!inR 45 N) = false, (!inR 45 C) = false, (!inR 109 B) = false, (!inR 109 A) = false] := by kernel_rfl
theorem r3_0 : (fun A B C N => tf false (rightR (.int .u8 3) [true] A B C N)) = fun A _ _ _ => some [(!inR 112 A) = true] := by kernel_rfl
theorem r3_1 : (fun A B C N => tf false (rightR (.int .u8 3) [false, true] A B C N)) = fun A B _ _ => some [(!inR 112 B) = true, (!inR 112 A) = false] := by kernel_rfl
theorem r3_2 : (fun A B C N => tf false (rightR (.int .u8 3) [false, false, true] A B C N)) = fun A B C _ => some [(!inR 45 C) = true, (!inR 112 B) = false, (!inR 112 A) = false] := by kernel_rfl
theorem r3_3 : (fun A B C N => tf false (rightR (.int .u8 3) [false, false, false, true] A B C N)) = fun A B C N => some [(!inR 45 N) = true, (!inR 45 C) = false, (!inR 112 B) = false, (!inR 112 A) = false] := by kernel_rfl
theorem r3_4 : (fun A B C N => tf true (rightR (.int .u8 3) [false, false, false, false] A B C N)) = fun A B C N => some [(!inR 45 N) = false, (!inR 45 C) = false, (!inR 112 B) = false, (!inR 112 A) = false] := by kernel_rfl
theorem r4_0 : (fun A B C N => tf false (rightR (.int .u8 4) [true] A B C N)) = fun A _ _ _ => some [(!inR 112 A) = true] := by kernel_rfl
theorem r4_1 : (fun A B C N => tf false (rightR (.int .u8 4) [false, true] A B C N)) = fun A B _ _ => some [(!inR 112 B) = true, (!inR 112 A) = false] := by kernel_rfl
theorem r4_2 : (fun A B C N => tf false (rightR (.int .u8 4) [false, false, true] A B C N)) = fun A B C _ => some [(!inR 115 C) = true, (!inR 112 B) = false, (!inR 112 A) = false] := by kernel_rfl
theorem r4_3 : (fun A B C N => tf false (rightR (.int .u8 4) [false, false, false, true] A B C N)) = fun A B C N => some [(!inR 45 N) = true, (!inR 115 C) = false, (!inR 112 B) = false, (!inR 112 A) = false] := by kernel_rfl
theorem r4_4 : (fun A B C N => tf true (rightR (.int .u8 4) [false, false, false, false] A B C N)) = fun A B C N => some [(!inR 45 N) = false, (!inR 115 C) = false, (!inR 112 B) = false, (!inR 112 A) = false] := by kernel_rfl
theorem r5_0 : (fun A B C N => tf false (rightR (.int .u8 5) [true] A B C N)) = fun A _ _ _ => some [(!inR 45 A) = true] := by kernel_rfl
theorem r5_1 : (fun A B C N => tf false (rightR (.int .u8 5) [false, true] A B C N)) = fun A B _ _ => some [(!inR 45 B) = true, (!inR 45 A) = false] := by kernel_rfl
theorem r5_2 : (fun A B C N => tf false (rightR (.int .u8 5) [false, false, true] A B C N)) = fun A B C _ => some [(!inR 45 C) = true, (!inR 45 B) = false, (!inR 45 A) = false] := by kernel_rfl
theorem r5_3 : (fun A B C N => tf false (rightR (.int .u8 5) [false, false, false, true] A B C N)) = fun A B C N => some [(!inR 45 N) = true, (!inR 45 C) = false, (!inR 45 B) = false, (!inR 45 A) = false] := by kernel_rfl
theorem r5_4 : (fun A B C N => tf true (rightR (.int .u8 5) [false, false, false, false] A B C N)) = fun A B C N => some [(!inR 45 N) = false, (!inR 45 C) = false, (!inR 45 B) = false, (!inR 45 A) = false] := by kernel_rfl
theorem r6_0 : (fun A B C N => tf false (rightR (.int .u8 6) [true] A B C N)) = fun A _ _ _ => some [(!inR 45 A) = true] := by kernel_rfl
theorem r6_1 : (fun A B C N => tf false (rightR (.int .u8 6) [false, true] A B C N)) = fun A B _ _ => some [(!inR 45 B) = true, (!inR 45 A) = false] := by kernel_rfl
theorem r6_2 : (fun A B C N => tf false (rightR (.int .u8 6) [false, false, true] A B C N)) = fun A B C _ => some [(!inR 115 C) = true, (!inR 45 B) = false, (!inR 45 A) = false] := by kernel_rfl
theorem r6_3 : (fun A B C N => tf false (rightR (.int .u8 6) [false, false, false, true] A B C N)) = fun A B C N => some [(!inR 110 N) = true, (!inR 115 C) = false, (!inR 45 B) = false, (!inR 45 A) = false] := by kernel_rfl
theorem r6_4 : (fun A B C N => tf true (rightR (.int .u8 6) [false, false, false, false] A B C N)) = fun A B C N => some [(!inR 110 N) = false, (!inR 115 C) = false, (!inR 45 B) = false, (!inR 45 A) = false] := by kernel_rfl
theorem r7_0 : (fun A B C N => tf false (rightR (.int .u8 7) [true] A B C N)) = fun A _ _ _ => some [(!inR 112 A) = true] := by kernel_rfl
theorem r7_1 : (fun A B C N => tf false (rightR (.int .u8 7) [false, true] A B C N)) = fun A B _ _ => some [(!inR 112 B) = true, (!inR 112 A) = false] := by kernel_rfl
theorem r7_2 : (fun A B C N => tf false (rightR (.int .u8 7) [false, false, true] A B C N)) = fun A B C _ => some [(!inR 115 C) = true, (!inR 112 B) = false, (!inR 112 A) = false] := by kernel_rfl
theorem r7_3 : (fun A B C N => tf false (rightR (.int .u8 7) [false, false, false, true] A B C N)) = fun A B C N => some [(!inR 110 N) = true, (!inR 115 C) = false, (!inR 112 B) = false, (!inR 112 A) = false] := by kernel_rfl
theorem r7_4 : (fun A B C N => tf true (rightR (.int .u8 7) [false, false, false, false] A B C N)) = fun A B C N => some [(!inR 110 N) = false, (!inR 115 C) = false, (!inR 112 B) = false, (!inR 112 A) = false] := by kernel_rfl
theorem r8_0 : (fun A B C N => tf false (rightR (.int .u8 8) [true] A B C N)) = fun A _ _ _ => some [(!inR 112 A) = true] := by kernel_rfl
theorem r8_1 : (fun A B C N => tf false (rightR (.int .u8 8) [false, true] A B C N)) = fun A B _ _ => some [(!inR 112 B) = true, (!inR 112 A) = false] := by kernel_rfl
theorem r8_2 : (fun A B C N => tf false (rightR (.int .u8 8) [false, false, true] A B C N)) = fun A B C _ => some [(!inR 115 C) = true, (!inR 112 B) = false, (!inR 112 A) = false] := by kernel_rfl
theorem r8_3 : (fun A B C N => tf false (rightR (.int .u8 8) [false, false, false, true] A B C N)) = fun A B C N => some [(!inR 110 N) = true, (!inR 115 C) = false, (!inR 112 B) = false, (!inR 112 A) = false] := by kernel_rfl
theorem r8_4 : (fun A B C N => tf true (rightR (.int .u8 8) [false, false, false, false] A B C N)) = fun A B C N => some [(!inR 110 N) = false, (!inR 115 C) = false, (!inR 112 B) = false, (!inR 112 A) = false] := by kernel_rfl
theorem r9_0 : (fun A B C N => tf false (rightR (.int .u8 9) [true] A B C N)) = fun A _ _ _ => some [(!inR 45 A) = true] := by kernel_rfl
theorem r9_1 : (fun A B C N => tf false (rightR (.int .u8 9) [false, true] A B C N)) = fun A B _ _ => some [(!inR 45 B) = true, (!inR 45 A) = false] := by kernel_rfl
theorem r9_2 : (fun A B C N => tf false (rightR (.int .u8 9) [false, false, true] A B C N)) = fun A B C _ => some [(!inR 114 C) = true, (!inR 45 B) = false, (!inR 45 A) = false] := by kernel_rfl
theorem r9_3 : (fun A B C N => tf false (rightR (.int .u8 9) [false, false, false, true] A B C N)) = fun A B C N => some [(!inR 45 N) = true, (!inR 114 C) = false, (!inR 45 B) = false, (!inR 45 A) = false] := by kernel_rfl
theorem r9_4 : (fun A B C N => tf true (rightR (.int .u8 9) [false, false, false, false] A B C N)) = fun A B C N => some [(!inR 45 N) = false, (!inR 114 C) = false, (!inR 45 B) = false, (!inR 45 A) = false] := by kernel_rfl
theorem r10_0 : (fun A B C N => tf false (rightR (.int .u8 10) [true] A B C N)) = fun A _ _ _ => some [(!inR 45 A) = true] := by kernel_rfl
theorem r10_1 : (fun A B C N => tf false (rightR (.int .u8 10) [false, true] A B C N)) = fun A B _ _ => some [(!inR 45 B) = true, (!inR 45 A) = false] := by kernel_rfl
theorem r10_2 : (fun A B C N => tf false (rightR (.int .u8 10) [false, false, true] A B C N)) = fun A B C _ => some [(!inR 45 C) = true, (!inR 45 B) = false, (!inR 45 A) = false] := by kernel_rfl
theorem r10_3 : (fun A B C N => tf false (rightR (.int .u8 10) [false, false, false, true] A B C N)) = fun A B C N => some [(!inR 45 N) = true, (!inR 45 C) = false, (!inR 45 B) = false, (!inR 45 A) = false] := by kernel_rfl
theorem r10_4 : (fun A B C N => tf true (rightR (.int .u8 10) [false, false, false, false] A B C N)) = fun A B C N => some [(!inR 45 N) = false, (!inR 45 C) = false, (!inR 45 B) = false, (!inR 45 A) = false] := by kernel_rfl
theorem r11_0 : (fun A B C N => tf false (rightR (.int .u8 11) [true] A B C N)) = fun A _ _ _ => some [(!inR 105 A) = true] := by kernel_rfl
theorem r11_1 : (fun A B C N => tf false (rightR (.int .u8 11) [false, true] A B C N)) = fun A B _ _ => some [(!inR 45 B) = true, (!inR 105 A) = false] := by kernel_rfl
theorem r11_2 : (fun A B C N => tf false (rightR (.int .u8 11) [false, false, true] A B C N)) = fun A B C _ => some [(!inR 115 C) = true, (!inR 45 B) = false, (!inR 105 A) = false] := by kernel_rfl
theorem r11_3 : (fun A B C N => tf false (rightR (.int .u8 11) [false, false, false, true] A B C N)) = fun A B C N => some [(!inR 110 N) = true, (!inR 115 C) = false, (!inR 45 B) = false, (!inR 105 A) = false] := by kernel_rfl
theorem r11_4 : (fun A B C N => tf true (rightR (.int .u8 11) [false, false, false, false] A B C N)) = fun A B C N => some [(!inR 110 N) = false, (!inR 115 C) = false, (!inR 45 B) = false, (!inR 105 A) = false] := by kernel_rfl
theorem r12_0 : (fun A B C N => tf false (rightR (.int .u8 12) [true] A B C N)) = fun A _ _ _ => some [(!inR 45 A) = true] := by kernel_rfl
theorem r12_1 : (fun A B C N => tf false (rightR (.int .u8 12) [false, true] A B C N)) = fun A B _ _ => some [(!inR 45 B) = true, (!inR 45 A) = false] := by kernel_rfl
theorem r12_2 : (fun A B C N => tf false (rightR (.int .u8 12) [false, false, true] A B C N)) = fun A B C _ => some [(!inR 45 C) = true, (!inR 45 B) = false, (!inR 45 A) = false] := by kernel_rfl
theorem r12_3 : (fun A B C N => tf false (rightR (.int .u8 12) [false, false, false, true] A B C N)) = fun A B C N => some [(!inR 45 N) = true, (!inR 45 C) = false, (!inR 45 B) = false, (!inR 45 A) = false] := by kernel_rfl
theorem r12_4 : (fun A B C N => tf true (rightR (.int .u8 12) [false, false, false, false] A B C N)) = fun A B C N => some [(!inR 45 N) = false, (!inR 45 C) = false, (!inR 45 B) = false, (!inR 45 A) = false] := by kernel_rfl
theorem r13_0 : (fun A B C N => tf false (rightR (.int .u8 13) [true] A B C N)) = fun A _ _ _ => some [(!inR 45 A) = true] := by kernel_rfl
theorem r13_1 : (fun A B C N => tf false (rightR (.int .u8 13) [false, true] A B C N)) = fun A B _ _ => some [(!inR 45 B) = true, (!inR 45 A) = false] := by kernel_rfl
theorem r13_2 : (fun A B C N => tf false (rightR (.int .u8 13) [false, false, true] A B C N)) = fun A B C _ => some [(!inR 45 C) = true, (!inR 45 B) = false, (!inR 45 A) = false] := by kernel_rfl
theorem r13_3 : (fun A B C N => tf false (rightR (.int .u8 13) [false, false, false, true] A B C N)) = fun A B C N => some [(!inR 45 N) = true, (!inR 45 C) = false, (!inR 45 B) = false, (!inR 45 A) = false] := by kernel_rfl
theorem r13_4 : (fun A B C N => tf true (rightR (.int .u8 13) [false, false, false, false] A B C N)) = fun A B C N => some [(!inR 45 N) = false, (!inR 45 C) = false, (!inR 45 B) = false, (!inR 45 A) = false] := by kernel_rfl
theorem cmd_rel {dc : Sx.C} {d : Int} (A B C N : Int) (h : dc.rel [] (.int .u8 d)) : relVs [] [cmd dc A B C N] [.agg #[.int .u8 d, .int .i64 A, .int .i64 B, .int .i64 C, .int .i64 N]] :=
  ⟨_, _, rfl, ⟨_, rfl, ⟨_, _, rfl, h, _, _, rfl, rfl, _, _, rfl, rfl, _, _, rfl, rfl, _, _, rfl, rfl, rfl⟩, by simp [Value.oneCell']⟩, rfl⟩
theorem right_path {dc : Sx.C} {d : Int} {A B C N : Int} {h : List Bool} {b : Bool} {ob : List Prop} (hd : dc.rel [] (.int .u8 d)) (hr : tf b (rightR dc h A B C N) = some ob) (hob : allP ob) (hb : b = rightF d A B C N) :
    Makes Try.prog 11 [.agg #[.int .u8 d, .int .i64 A, .int .i64 B, .int .i64 C, .int .i64 N]] (.v (.one (.sbool (rightF d A B C N)))) [] :=
  makes_of (v := .v (.one (.sbool (rightF d A B C N)))) (bs := []) tabM_ok (tf_spec hr) hob (by simp) hb trivial (cmd_rel A B C N hd)
theorem right_of {k : Nat} {a b c e : Nat} (hk : shapeL k = [a, b, c, e]) {A B C N : Int} (h0 : tf false (rightR (.int .u8 k) [true] A B C N) = some [(!inR a A) = true]) (h1 : tf false (rightR (.int .u8 k) [false, true] A B C N) = some [(!inR b B) = true, (!inR a A) = false])
    (h2 : tf false (rightR (.int .u8 k) [false, false, true] A B C N) = some [(!inR c C) = true, (!inR b B) = false, (!inR a A) = false])
    (h3 : tf false (rightR (.int .u8 k) [false, false, false, true] A B C N) = some [(!inR e N) = true, (!inR c C) = false, (!inR b B) = false, (!inR a A) = false])
    (h4 : tf true (rightR (.int .u8 k) [false, false, false, false] A B C N) = some [(!inR e N) = false, (!inR c C) = false, (!inR b B) = false, (!inR a A) = false]) :
    Makes Try.prog 11 [.agg #[.int .u8 k, .int .i64 A, .int .i64 B, .int .i64 C, .int .i64 N]] (.v (.one (.sbool (rightF k A B C N)))) [] := by
  have hF : rightF k A B C N = (inR a A && (inR b B && (inR c C && inR e N))) := by
    unfold rightF
    rw [show ((k : Int)).toNat = k by omega, hk]
  cases ha : inR a A
  · exact right_path (dc := .int .u8 k) rfl h0 (by simp [allP, ha]) (by rw [hF, ha]; rfl)
  cases hb : inR b B
  · exact right_path (dc := .int .u8 k) rfl h1 (by simp [allP, ha, hb]) (by rw [hF, ha, hb]; rfl)
  cases hc : inR c C
  · exact right_path (dc := .int .u8 k) rfl h2 (by simp [allP, ha, hb, hc]) (by rw [hF, ha, hb, hc]; rfl)
  cases he : inR e N
  · exact right_path (dc := .int .u8 k) rfl h3 (by simp [allP, ha, hb, hc, he]) (by rw [hF, ha, hb, hc, he]; rfl)
  · exact right_path (dc := .int .u8 k) rfl h4 (by simp [allP, ha, hb, hc, he]) (by rw [hF, ha, hb, hc, he]; rfl)
theorem right_makes (d A B C N : Int) (hd : 0 ≤ d ∧ d < 256) : Makes Try.prog 11 [.agg #[.int .u8 d, .int .i64 A, .int .i64 B, .int .i64 C, .int .i64 N]] (.v (.one (.sbool (rightF d A B C N)))) [] := by
  by_cases h : 14 ≤ d
  · refine right_path (dc := .sint .u8 d) rfl (congrFun (congrFun (congrFun (congrFun (congrFun rBig d) A) B) C) N) ⟨by simp [h], ⟨by simp [IntKind.min, IntKind.signed, IntKind.bits]; omega, by simp [IntKind.max, IntKind.signed, IntKind.bits]; omega⟩, trivial⟩ ?_
    unfold rightF
    have : shapeL d.toNat = [] := by unfold shapeL; rw [List.getD, List.getElem?_eq_none (by simp; omega)]; rfl
    rw [this]
  · have : d = 0 ∨ d = 1 ∨ d = 2 ∨ d = 3 ∨ d = 4 ∨ d = 5 ∨ d = 6 ∨ d = 7 ∨ d = 8 ∨ d = 9 ∨ d = 10 ∨ d = 11 ∨ d = 12 ∨ d = 13 := by omega
    rcases this with rfl | rfl | rfl | rfl | rfl | rfl | rfl | rfl | rfl | rfl | rfl | rfl | rfl | rfl
    · exact right_path (dc := .int .u8 0) rfl (congrFun (congrFun (congrFun (congrFun rNone A) B) C) N) trivial rfl
    · exact right_of (k := 1) rfl (congrFun (congrFun (congrFun (congrFun r1_0 A) B) C) N) (congrFun (congrFun (congrFun (congrFun r1_1 A) B) C) N) (congrFun (congrFun (congrFun (congrFun r1_2 A) B) C) N) (congrFun (congrFun (congrFun (congrFun r1_3 A) B) C) N) (congrFun (congrFun (congrFun (congrFun r1_4 A) B) C) N)
    · exact right_of (k := 2) rfl (congrFun (congrFun (congrFun (congrFun r2_0 A) B) C) N) (congrFun (congrFun (congrFun (congrFun r2_1 A) B) C) N) (congrFun (congrFun (congrFun (congrFun r2_2 A) B) C) N) (congrFun (congrFun (congrFun (congrFun r2_3 A) B) C) N) (congrFun (congrFun (congrFun (congrFun r2_4 A) B) C) N)
    · exact right_of (k := 3) rfl (congrFun (congrFun (congrFun (congrFun r3_0 A) B) C) N) (congrFun (congrFun (congrFun (congrFun r3_1 A) B) C) N) (congrFun (congrFun (congrFun (congrFun r3_2 A) B) C) N) (congrFun (congrFun (congrFun (congrFun r3_3 A) B) C) N) (congrFun (congrFun (congrFun (congrFun r3_4 A) B) C) N)
    · exact right_of (k := 4) rfl (congrFun (congrFun (congrFun (congrFun r4_0 A) B) C) N) (congrFun (congrFun (congrFun (congrFun r4_1 A) B) C) N) (congrFun (congrFun (congrFun (congrFun r4_2 A) B) C) N) (congrFun (congrFun (congrFun (congrFun r4_3 A) B) C) N) (congrFun (congrFun (congrFun (congrFun r4_4 A) B) C) N)
    · exact right_of (k := 5) rfl (congrFun (congrFun (congrFun (congrFun r5_0 A) B) C) N) (congrFun (congrFun (congrFun (congrFun r5_1 A) B) C) N) (congrFun (congrFun (congrFun (congrFun r5_2 A) B) C) N) (congrFun (congrFun (congrFun (congrFun r5_3 A) B) C) N) (congrFun (congrFun (congrFun (congrFun r5_4 A) B) C) N)
    · exact right_of (k := 6) rfl (congrFun (congrFun (congrFun (congrFun r6_0 A) B) C) N) (congrFun (congrFun (congrFun (congrFun r6_1 A) B) C) N) (congrFun (congrFun (congrFun (congrFun r6_2 A) B) C) N) (congrFun (congrFun (congrFun (congrFun r6_3 A) B) C) N) (congrFun (congrFun (congrFun (congrFun r6_4 A) B) C) N)
    · exact right_of (k := 7) rfl (congrFun (congrFun (congrFun (congrFun r7_0 A) B) C) N) (congrFun (congrFun (congrFun (congrFun r7_1 A) B) C) N) (congrFun (congrFun (congrFun (congrFun r7_2 A) B) C) N) (congrFun (congrFun (congrFun (congrFun r7_3 A) B) C) N) (congrFun (congrFun (congrFun (congrFun r7_4 A) B) C) N)
    · exact right_of (k := 8) rfl (congrFun (congrFun (congrFun (congrFun r8_0 A) B) C) N) (congrFun (congrFun (congrFun (congrFun r8_1 A) B) C) N) (congrFun (congrFun (congrFun (congrFun r8_2 A) B) C) N) (congrFun (congrFun (congrFun (congrFun r8_3 A) B) C) N) (congrFun (congrFun (congrFun (congrFun r8_4 A) B) C) N)
    · exact right_of (k := 9) rfl (congrFun (congrFun (congrFun (congrFun r9_0 A) B) C) N) (congrFun (congrFun (congrFun (congrFun r9_1 A) B) C) N) (congrFun (congrFun (congrFun (congrFun r9_2 A) B) C) N) (congrFun (congrFun (congrFun (congrFun r9_3 A) B) C) N) (congrFun (congrFun (congrFun (congrFun r9_4 A) B) C) N)
    · exact right_of (k := 10) rfl (congrFun (congrFun (congrFun (congrFun r10_0 A) B) C) N) (congrFun (congrFun (congrFun (congrFun r10_1 A) B) C) N) (congrFun (congrFun (congrFun (congrFun r10_2 A) B) C) N) (congrFun (congrFun (congrFun (congrFun r10_3 A) B) C) N) (congrFun (congrFun (congrFun (congrFun r10_4 A) B) C) N)
    · exact right_of (k := 11) rfl (congrFun (congrFun (congrFun (congrFun r11_0 A) B) C) N) (congrFun (congrFun (congrFun (congrFun r11_1 A) B) C) N) (congrFun (congrFun (congrFun (congrFun r11_2 A) B) C) N) (congrFun (congrFun (congrFun (congrFun r11_3 A) B) C) N) (congrFun (congrFun (congrFun (congrFun r11_4 A) B) C) N)
    · exact right_of (k := 12) rfl (congrFun (congrFun (congrFun (congrFun r12_0 A) B) C) N) (congrFun (congrFun (congrFun (congrFun r12_1 A) B) C) N) (congrFun (congrFun (congrFun (congrFun r12_2 A) B) C) N) (congrFun (congrFun (congrFun (congrFun r12_3 A) B) C) N) (congrFun (congrFun (congrFun (congrFun r12_4 A) B) C) N)
    · exact right_of (k := 13) rfl (congrFun (congrFun (congrFun (congrFun r13_0 A) B) C) N) (congrFun (congrFun (congrFun (congrFun r13_1 A) B) C) N) (congrFun (congrFun (congrFun (congrFun r13_2 A) B) C) N) (congrFun (congrFun (congrFun (congrFun r13_3 A) B) C) N) (congrFun (congrFun (congrFun (congrFun r13_4 A) B) C) N)
/-- a command, out of its cells -/
def cmdOf : V → Option (Int × Int × Int × Int × Int)
  | .v (.agg [.sint .u8 d, .sint .i64 A, .sint .i64 B, .sint .i64 C, .sint .i64 N]) => some (d, A, B, C, N)
  | _ => none
def gRight : Sx.Loc := fun args bs => match args, bs with
  | [v], [] => match cmdOf v with
    | some (d, A, B, C, N) => some (.v (.one (.sbool (rightF d A B C N))), [], [0 ≤ d ∧ d < 256])
    | none => none
  | _, _ => none
theorem cmdOf_rel {ρ : Env} {v : V} {d A B C N : Int} (h : cmdOf v = some (d, A, B, C, N)) {u : Value} (hr : v.rel ρ u) : u = .agg #[.int .u8 d, .int .i64 A, .int .i64 B, .int .i64 C, .int .i64 N] := by
  unfold cmdOf at h
  split at h
  · injection h with h; injection h with e1 h; injection h with e2 h; injection h with e3 h; injection h with e4 e5
    subst e1; subst e2; subst e3; subst e4; subst e5
    obtain ⟨us, rfl, hl, _⟩ := hr
    obtain ⟨u0, r0, rfl, h0, u1, r1, rfl, h1, u2, r2, rfl, h2, u3, r3, rfl, h3, u4, r4, rfl, h4, h5⟩ := hl
    simp only [relL] at h5; subst h5
    simp only [C.rel] at h0 h1 h2 h3 h4
    subst h0; subst h1; subst h2; subst h3; subst h4
    rfl
  · cases h
/-- what makes no memory, works so -/
theorem Makes.works {f : FuncId} {us : List Value} {v : V} {xs : List V} (h : Makes Try.prog f us v []) (hu : ∀ ρ us', relVs ρ xs us' → us' = us) (hn : noRef v = true) : Works Try.prog f xs [] v [] := by
  intro ρ K w us' hm hr
  rw [hu ρ us' hr]
  refine (h w).mono fun e w' ⟨u, ρ', he, hv, hm'⟩ => ⟨u, [], he, noRef_rel hn hv, ?_⟩
  rw [List.append_nil]
  exact hm.ext ⟨hm'.below.size, hm'.below.block⟩ (hm.below.trans (hm'.below.mono fun k hk => hm.base k hk))
theorem right_tab : TabOk Try.prog 11 (loc (fun _ => []) gRight) := loc_ok fun xs bs v bs' ob hg hob hok => by
  clear hok
  unfold gRight at hg
  split at hg
  · rename_i v0
    split at hg
    · rename_i d A B C N hc
      injection hg with hg; injection hg with e1 e2; injection e2 with e2 e3
      subst e1; subst e2; subst e3
      refine Makes.works (right_makes d A B C N (hob _ (by simp))) (fun ρ us' hr => ?_) rfl
      obtain ⟨u, s, rfl, h1, h2⟩ := hr
      simp only [relVs] at h2; subst h2
      rw [cmdOf_rel hc h1]
    · cases hg
  · cases hg
end Go.Proofs.Ytgkhbhddmafakaa
