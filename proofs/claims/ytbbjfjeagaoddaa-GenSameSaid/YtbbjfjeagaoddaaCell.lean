/- Each cell at first: what the program and the document come to, as one function of numbers. -/
import Derived.Test.YtbbjfjeagaoddaaCellA
namespace Go.Proofs.Ytbbjfjeagaoddaa
open Go.ChangeShapes Go.WideShapes Go.ChangeAt Go.RowKit Go.Sx

theorem mixF_range (s n : Int) : 0 ≤ mixF s n ∧ mixF s n ≤ 18446744073709551615 := by
  unfold mixF fin bits
  exact w64_range _
def hgt (s x : Int) : Int := 40 + (mixF s (IntKind.wrap .u64 (100000 + x.tdiv 8))).tmod 32
theorem tmod_range {m : Int} (h : 0 ≤ m) (d : Int) (hd : 0 < d) : 0 ≤ m.tmod d ∧ m.tmod d < d := by
  rw [Int.tmod_eq_emod_of_nonneg h]
  exact ⟨Int.emod_nonneg _ (by omega), Int.emod_lt_of_pos _ hd⟩
theorem hgt_range (s x : Int) : 40 ≤ hgt s x ∧ hgt s x ≤ 71 := by
  have := tmod_range (mixF_range s (IntKind.wrap .u64 (100000 + x.tdiv 8))).1 32 (by decide)
  unfold hgt; omega
def cellF (s x y : Int) : Int :=
  if x < 0 ∨ y < 0 ∨ 128 ≤ x ∨ 128 ≤ y then 0 else
  if y - hgt s x = -1 ∧ (mixF s (IntKind.wrap .u64 (y * 128 + x))).tmod 11 = 0 then 4 else
  if y - hgt s x = -1 ∧ (mixF s (IntKind.wrap .u64 (y * 128 + x))).tmod 11 = 1 then 3 else
  if y - hgt s x < 0 then 0 else if y - hgt s x ≤ 2 then 1 else if (mixF s (IntKind.wrap .u64 (y * 128 + x))).tmod 7 = 0 then 7 else 2
theorem min64 : IntKind.min .i64 = -9223372036854775808 := rfl
theorem max64 : IntKind.max .i64 = 9223372036854775807 := rfl
theorem wrap_h (s x : Int) : 40 + IntKind.wrap .i64 ((mixF s (IntKind.wrap .u64 (100000 + x.tdiv 8))).tmod 32) = hgt s x := by
  have := tmod_range (mixF_range s (IntKind.wrap .u64 (100000 + x.tdiv 8))).1 32 (by decide)
  unfold hgt
  rw [wrap_in ⟨by rw [min64]; omega, by rw [max64]; omega⟩]
def gCell : List Int → V × List SB × List Prop
  | [s, x, y] => (si .u8 (cellF s x y), [], [])
  | _ => (.tup [], [], [False])
theorem cell_args (s x y : Int) : relVs [] [si .u64 s, si .i64 x, si .i64 y] [.int .u64 s, .int .i64 x, .int .i64 y] := ⟨_, _, rfl, ⟨rfl, rfl⟩, _, _, rfl, ⟨rfl, rfl⟩, _, _, rfl, ⟨rfl, rfl⟩, rfl⟩
theorem cell_of {f : FuncId} {s x y v : Int} {h : List Bool} {ob : List Prop} (hr : cellR f h s x y = some (.v (.one (.int .u8 v)), [], ob)) (hob : allP ob) (hv : v = cellF s x y) :
    Makes Try.prog f [.int .u64 s, .int .i64 x, .int .i64 y] (si .u8 (cellF s x y)) [] :=
  makes_of (v := si .u8 (cellF s x y)) (bs := []) tab1_ok hr hob (by simp) ⟨rfl, hv⟩ trivial (cell_args s x y)
theorem cell_in {s x y : Int} (hin : 0 ≤ x ∧ x < 128 ∧ 0 ≤ y ∧ y < 128) : cellF s x y = if y - hgt s x = -1 ∧ (mixF s (IntKind.wrap .u64 (y * 128 + x))).tmod 11 = 0 then 4 else
      if y - hgt s x = -1 ∧ (mixF s (IntKind.wrap .u64 (y * 128 + x))).tmod 11 = 1 then 3 else
      if y - hgt s x < 0 then 0 else if y - hgt s x ≤ 2 then 1 else if (mixF s (IntKind.wrap .u64 (y * 128 + x))).tmod 7 = 0 then 7 else 2 := by
  unfold cellF; rw [if_neg (by omega)]
theorem mm_f (x y : Int) : mmI false x y < 0 ↔ x < 0 ∨ y < 0 := by
  show (if y < x then y else x) < 0 ↔ _
  split <;> omega
theorem mm_t (x y n : Int) : n ≤ mmI true x y ↔ n ≤ x ∨ n ≤ y := by
  show n ≤ (if x < y then y else x) ↔ _
  split <;> omega
theorem cell_makes (s x y : Int) : Makes Try.prog 10 [.int .u64 s, .int .i64 x, .int .i64 y] (si .u8 (cellF s x y)) [] := by
  by_cases h0 : mmI false x y < 0
  · exact cell_of (congrFun (congrFun (congrFun p1 s) x) y) ⟨by simpa using h0, trivial⟩ (by
      rw [mm_f] at h0; unfold cellF; rw [if_pos (by omega)])
  by_cases h1 : 128 ≤ mmI true x y
  · exact cell_of (congrFun (congrFun (congrFun p2 s) x) y) ⟨by simpa using h1, by simpa using h0, trivial⟩ (by
      rw [mm_t] at h1; unfold cellF; rw [if_pos (by omega)])
  have hin : 0 ≤ x ∧ x < 128 ∧ 0 ≤ y ∧ y < 128 := by rw [mm_f] at h0; rw [mm_t] at h1; omega
  rw [mm_f] at h0; rw [mm_t] at h1
  have hc := cell_in (s := s) hin
  have hh := hgt_range s x
  have hx : 0 ≤ x.tdiv 8 ∧ x.tdiv 8 ≤ 15 := by rw [Int.tdiv_eq_ediv_of_nonneg hin.1]; omega
  by_cases hu : y - hgt s x = -1
  · by_cases hm : (mixF s (IntKind.wrap .u64 (y * 128 + x))).tmod 11 = 0
    · exact cell_of (congrFun (congrFun (congrFun p3 s) x) y) (by simp only [allP, wrap_h, min64, max64, mm_f, mm_t, decide_eq_true_eq, decide_eq_false_iff_not, and_true]; omega) (by rw [hc]; rw [if_pos ⟨hu, hm⟩])
    by_cases hm1 : (mixF s (IntKind.wrap .u64 (y * 128 + x))).tmod 11 = 1
    · exact cell_of (congrFun (congrFun (congrFun p4 s) x) y) (by simp only [allP, wrap_h, min64, max64, mm_f, mm_t, decide_eq_true_eq, decide_eq_false_iff_not, and_true]; omega) (by rw [hc]; rw [if_neg (by omega), if_pos ⟨hu, hm1⟩])
    · exact cell_of (congrFun (congrFun (congrFun p5 s) x) y) (by simp only [allP, wrap_h, min64, max64, mm_f, mm_t, decide_eq_true_eq, decide_eq_false_iff_not, and_true]; omega) (by rw [hc]; rw [if_neg (by omega), if_neg (by omega), if_pos (by omega)])
  by_cases hn : y - hgt s x < 0
  · exact cell_of (congrFun (congrFun (congrFun p6 s) x) y) (by simp only [allP, wrap_h, min64, max64, mm_f, mm_t, decide_eq_true_eq, decide_eq_false_iff_not, and_true]; omega) (by rw [hc]; rw [if_neg (by omega), if_neg (by omega), if_pos hn])
  by_cases h2 : y - hgt s x ≤ 2
  · exact cell_of (congrFun (congrFun (congrFun p7 s) x) y) (by simp only [allP, wrap_h, min64, max64, mm_f, mm_t, decide_eq_true_eq, decide_eq_false_iff_not, and_true]; omega) (by rw [hc]; rw [if_neg (by omega), if_neg (by omega), if_neg hn, if_pos h2])
  by_cases h7 : (mixF s (IntKind.wrap .u64 (y * 128 + x))).tmod 7 = 0
  · exact cell_of (congrFun (congrFun (congrFun p8 s) x) y) (by simp only [allP, wrap_h, min64, max64, mm_f, mm_t, decide_eq_true_eq, decide_eq_false_iff_not, and_true]; omega) (by rw [hc]; rw [if_neg (by omega), if_neg (by omega), if_neg hn, if_neg h2, if_pos h7])
  · exact cell_of (congrFun (congrFun (congrFun p9 s) x) y) (by simp only [allP, wrap_h, min64, max64, mm_f, mm_t, decide_eq_true_eq, decide_eq_false_iff_not, and_true]; omega) (by rw [hc]; rw [if_neg (by omega), if_neg (by omega), if_neg hn, if_neg h2, if_neg h7])
theorem ref_makes (s x y : Int) : Makes Try.prog 11 [.int .u64 s, .int .i64 x, .int .i64 y] (si .u8 (cellF s x y)) [] := by
  by_cases hr1 : x < 0
  · exact cell_of (congrFun (congrFun (congrFun r1 s) x) y) (by simp only [allP, decide_eq_true_eq, decide_eq_false_iff_not, and_true]; omega) (by unfold cellF; rw [if_pos (by omega)])
  by_cases hr2 : 127 < x
  · exact cell_of (congrFun (congrFun (congrFun r2 s) x) y) (by simp only [allP, decide_eq_true_eq, decide_eq_false_iff_not, and_true]; omega) (by unfold cellF; rw [if_pos (by omega)])
  by_cases hr3 : y < 0
  · exact cell_of (congrFun (congrFun (congrFun r3 s) x) y) (by simp only [allP, decide_eq_true_eq, decide_eq_false_iff_not, and_true]; omega) (by unfold cellF; rw [if_pos (by omega)])
  by_cases hr4 : 127 < y
  · exact cell_of (congrFun (congrFun (congrFun r4 s) x) y) (by simp only [allP, decide_eq_true_eq, decide_eq_false_iff_not, and_true]; omega) (by unfold cellF; rw [if_pos (by omega)])
  have hin : 0 ≤ x ∧ x < 128 ∧ 0 ≤ y ∧ y < 128 := by omega
  have hc := cell_in (s := s) hin
  have hh := hgt_range s x
  have hx : 0 ≤ x.tdiv 8 ∧ x.tdiv 8 ≤ 15 := by rw [Int.tdiv_eq_ediv_of_nonneg hin.1]; omega
  by_cases hn : y < hgt s x
  · by_cases hu : y - hgt s x = -1
    · by_cases hm : (mixF s (IntKind.wrap .u64 (y * 128 + x))).tmod 11 = 0
      · exact cell_of (congrFun (congrFun (congrFun r5 s) x) y) (by simp only [allP, wrap_h, min64, max64, mm_f, mm_t, decide_eq_true_eq, decide_eq_false_iff_not, and_true]; omega) (by rw [hc]; rw [if_pos ⟨hu, hm⟩])
      by_cases hm1 : (mixF s (IntKind.wrap .u64 (y * 128 + x))).tmod 11 = 1
      · exact cell_of (congrFun (congrFun (congrFun r6 s) x) y) (by simp only [allP, wrap_h, min64, max64, mm_f, mm_t, decide_eq_true_eq, decide_eq_false_iff_not, and_true]; omega) (by rw [hc]; rw [if_neg (by omega), if_pos ⟨hu, hm1⟩])
      · exact cell_of (congrFun (congrFun (congrFun r7 s) x) y) (by simp only [allP, wrap_h, min64, max64, mm_f, mm_t, decide_eq_true_eq, decide_eq_false_iff_not, and_true]; omega) (by rw [hc]; rw [if_neg (by omega), if_neg (by omega), if_pos (by omega)])
    · exact cell_of (congrFun (congrFun (congrFun r8 s) x) y) (by simp only [allP, wrap_h, min64, max64, mm_f, mm_t, decide_eq_true_eq, decide_eq_false_iff_not, and_true]; omega) (by rw [hc]; rw [if_neg (by omega), if_neg (by omega), if_pos (by omega)])
  by_cases h2 : y ≤ hgt s x + 2
  · exact cell_of (congrFun (congrFun (congrFun r9 s) x) y) (by simp only [allP, wrap_h, min64, max64, mm_f, mm_t, decide_eq_true_eq, decide_eq_false_iff_not, and_true]; omega) (by rw [hc]; rw [if_neg (by omega), if_neg (by omega), if_neg (by omega), if_pos (by omega)])
  by_cases h7 : (mixF s (IntKind.wrap .u64 (y * 128 + x))).tmod 7 = 0
  · exact cell_of (congrFun (congrFun (congrFun r10 s) x) y) (by simp only [allP, wrap_h, min64, max64, mm_f, mm_t, decide_eq_true_eq, decide_eq_false_iff_not, and_true]; omega) (by rw [hc]; rw [if_neg (by omega), if_neg (by omega), if_neg (by omega), if_neg (by omega), if_pos h7])
  · exact cell_of (congrFun (congrFun (congrFun r11 s) x) y) (by simp only [allP, wrap_h, min64, max64, mm_f, mm_t, decide_eq_true_eq, decide_eq_false_iff_not, and_true]; omega) (by rw [hc]; rw [if_neg (by omega), if_neg (by omega), if_neg (by omega), if_neg (by omega), if_neg h7])
theorem cell_tab {f : FuncId} (h : ∀ s x y, Makes Try.prog f [.int .u64 s, .int .i64 x, .int .i64 y] (si .u8 (cellF s x y)) []) : TabOk Try.prog f (numTab [.u64, .i64, .i64] gCell) := numTab_ok fun ns hl hp => by
  match ns, hl with
  | [s, x, y], _ => exact ⟨rfl, h s x y⟩
def tab2 := tabs [(8, numTab [.u64, .u64] gMix), (9, numTab [.u64, .u64] gMix), (10, numTab [.u64, .i64, .i64] gCell), (11, numTab [.u64, .i64, .i64] gCell)]
theorem tab2_ok : ∀ f g, tab2 f = some g → TabOk Try.prog f g := tabs_ok fun x hx => by
  simp only [List.mem_cons, List.not_mem_nil, or_false] at hx
  rcases hx with rfl | rfl | rfl | rfl
  · exact mix_tab
  · exact mixR_tab
  · exact cell_tab cell_makes
  · exact cell_tab ref_makes
end Go.Proofs.Ytbbjfjeagaoddaa
