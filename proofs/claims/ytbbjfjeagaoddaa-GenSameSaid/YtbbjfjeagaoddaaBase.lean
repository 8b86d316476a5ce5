/- How two numbers are mixed, and each cell at first: what the program and the document come to, as one function of numbers. -/
import Derived.Test.YtbbjfjeagaoddaaRows
import Derived.Test.YtbbjfjeagaoddaaSxAE
namespace Go.Proofs.Ytbbjfjeagaoddaa
open Go.ChangeShapes Go.WideShapes Go.ChangeAt Go.RowKit Go.Sx

theorem own : ownKnob Try.prog.godebug = none := by kernel_rfl
theorem laidOut : laidOutB Try.prog = true := by kernel_rfl
noncomputable def call0 (d : Nat) := callN Try.prog (fun _ => none) (fun _ => false) 100000 d
def si (k : IntKind) (n : Int) : V := .v (.one (.sint k n))
def w64 (x : Int) : Int := IntKind.wrap .u64 x
def turn (x d k : Int) : Int := w64 (bits .xor .u64 x (x.fdiv d) * k)
def fin (x : Int) : Int := bits .xor .u64 x (x.fdiv 2147483648)
def turnR (x d k : Int) : Int := w64 (bits .xor .u64 x (x.tdiv d) * k)
def finR (x : Int) : Int := bits .xor .u64 x (x.tdiv 2147483648)
def x0 (s n : Int) : Int := w64 (s + w64 (w64 (n + 1) * 11400714819323198485))
def mixF (s n : Int) : Int := fin (turn (turn (x0 s n) 1073741824 13787848793156543929) 134217728 10723151780598845931)
def x1 (s n : Int) : Int := turnR (x0 s n) 1073741824 13787848793156543929
def x2 (s n : Int) : Int := turnR (x1 s n) 134217728 10723151780598845931
def mixR (s n : Int) : Int := finR (x2 s n)
theorem mix_run : (fun s n => retV [] (call0 5 8 [si .u64 s, si .u64 n] [] [])) = fun s n => some (si .u64 (mixF s n), [], []) := by kernel_rfl
theorem mixR_run : (fun s n => retV [] (call0 5 9 [si .u64 s, si .u64 n] [] [])) = fun s n => some (si .u64 (mixR s n), [],
  [inK .u64 ((x2 s n).tdiv 2147483648), inK .u64 ((x1 s n).tdiv 134217728), inK .u64 ((x0 s n).tdiv 1073741824)]) := by kernel_rfl

theorem w64_range (x : Int) : 0 ≤ w64 x ∧ w64 x ≤ 18446744073709551615 := by
  unfold w64 IntKind.wrap
  simp [IntKind.signed, IntKind.bits]
  omega
theorem fdiv_tdiv {x : Int} (h : 0 ≤ x) (d : Int) (hd : 0 ≤ d) : x.fdiv d = x.tdiv d := by
  rw [Int.fdiv_eq_ediv_of_nonneg _ hd, Int.tdiv_eq_ediv_of_nonneg h]
theorem inK_tdiv {x : Int} (h : 0 ≤ x ∧ x ≤ 18446744073709551615) (d : Int) (hd : 0 < d) : inK .u64 (x.tdiv d) := by
  rw [Int.tdiv_eq_ediv_of_nonneg h.1]
  have h1 : 0 ≤ x / d := Int.ediv_nonneg h.1 (Int.le_of_lt hd)
  have h2 : x / d ≤ x := Int.ediv_le_self _ h.1
  simp only [inK, IntKind.min, IntKind.max, IntKind.signed, IntKind.bits]
  simp
  omega
theorem mixR_eq (s n : Int) : mixR s n = mixF s n := by
  have h0 := w64_range (s + w64 (w64 (n + 1) * 11400714819323198485))
  have t1 : ∀ x d k, 0 ≤ x → 0 ≤ d → turnR x d k = turn x d k := fun x d k hx hd => by unfold turnR turn; rw [fdiv_tdiv hx d hd]
  have e1 : x1 s n = turn (x0 s n) 1073741824 13787848793156543929 := t1 _ _ _ h0.1 (by omega)
  have h1 : 0 ≤ turn (x0 s n) 1073741824 13787848793156543929 := (w64_range _).1
  have e2 : x2 s n = turn (turn (x0 s n) 1073741824 13787848793156543929) 134217728 10723151780598845931 := by
    unfold x2; rw [e1]; exact t1 _ _ _ h1 (by omega)
  unfold mixR mixF
  rw [e2]
  unfold finR fin
  have h2 : 0 ≤ turn (turn (x0 s n) 1073741824 13787848793156543929) 134217728 10723151780598845931 := (w64_range _).1
  rw [fdiv_tdiv h2 _ (by omega)]
def gMix : List Int → V × List SB × List Prop
  | [s, n] => (si .u64 (mixF s n), [], [])
  | _ => (.tup [], [], [False])
theorem mix_tab : TabOk Try.prog 8 (numTab [.u64, .u64] gMix) := numTab_ok fun ns hl hp => by
  match ns, hl with
  | [s, n], _ => exact ⟨rfl, makes_of no_tabs (sel := []) (v := si .u64 (mixF s n)) (bs := []) (congrFun (congrFun mix_run s) n) trivial (by decide) ⟨rfl, rfl⟩ trivial ⟨_, _, rfl, ⟨rfl, rfl⟩, _, _, rfl, ⟨rfl, rfl⟩, rfl⟩⟩
theorem mixR_tab : TabOk Try.prog 9 (numTab [.u64, .u64] gMix) := numTab_ok fun ns hl hp => by
  match ns, hl with
  | [s, n], _ =>
    refine ⟨rfl, makes_of no_tabs (sel := []) (v := si .u64 (mixF s n)) (bs := []) (congrFun (congrFun mixR_run s) n) ?_ (by decide) ⟨rfl, mixR_eq s n⟩ trivial ⟨_, _, rfl, ⟨rfl, rfl⟩, _, _, rfl, ⟨rfl, rfl⟩, rfl⟩⟩
    exact ⟨inK_tdiv (w64_range _) _ (by decide), inK_tdiv (w64_range _) _ (by decide), inK_tdiv (w64_range _) _ (by decide), trivial⟩
def tab1 := tabs [(8, numTab [.u64, .u64] gMix), (9, numTab [.u64, .u64] gMix)]
theorem tab1_ok : ∀ f g, tab1 f = some g → TabOk Try.prog f g := tabs_ok fun x hx => by
  simp only [List.mem_cons, List.not_mem_nil, or_false] at hx
  rcases hx with rfl | rfl
  · exact mix_tab
  · exact mixR_tab
end Go.Proofs.Ytbbjfjeagaoddaa
