/- The reference's Right: the contract. The reference's Bytes: its runs. The reference's Bytes: the contract. The reference's Read: its runs; the one ahead of its last assignment is cut there. The reference's Read: the contract. The reference's Orders: its runs. The reference's Orders: the contract. The reference's Listed: its runs. The reference's Listed: the contract. -/
import Derived.Test.YtgkhbhddmafakaaRrA
import Derived.Test.YtgkhbhddmafakaaUc
import Derived.Test.YtgkhbhddmafakaaUb
namespace Go.Proofs.Ytgkhbhddmafakaa
section
open Go.ChangeShapes Go.WideShapes Go.ChangeAt Go.RowKit Go.Sx
theorem in_tab : TabOk Try.prog 30 (numTab [.i64, .i64, .i64] gInN) := numTab_ok fun ns hl hp => by
  match ns, hl with
  | [n, lo, hi], _ =>
    refine ⟨rfl, ?_⟩
    have hu : relVs [] [si .i64 n, si .i64 lo, si .i64 hi] [.int .i64 n, .int .i64 lo, .int .i64 hi] := ⟨_, _, rfl, ⟨rfl, rfl⟩, _, _, rfl, ⟨rfl, rfl⟩, _, _, rfl, ⟨rfl, rfl⟩, rfl⟩
    by_cases h : lo ≤ n
    · exact makes_of (v := .v (.one (.sbool (inB n lo hi)))) (bs := []) no_tabs (congrFun (congrFun (congrFun inT n) lo) hi) ⟨decide_eq_true h, trivial⟩ (by simp) (show decide (n ≤ hi) = inB n lo hi by simp [inB, h]) trivial hu
    · exact makes_of (v := .v (.one (.sbool (inB n lo hi)))) (bs := []) no_tabs (congrFun (congrFun (congrFun inF n) lo) hi) ⟨decide_eq_false h, trivial⟩ (by simp) (show false = inB n lo hi by simp [inB, h]) trivial hu
theorem tabIn_ok : ∀ f g, tabIn f = some g → TabOk Try.prog f g := tabs_ok fun x hx => by
  simp only [List.mem_cons, List.not_mem_nil, or_false] at hx
  subst hx
  exact in_tab
theorem tv_spec {r : Option (V × List SB × List Prop)} {p : Bool} {ob : List Prop} (h : tv r = some (p, ob)) : r = some (.v (.one (.sbool p)), [], ob) ∨ r = some (.v (.one (.bool p)), [], ob) := by
  unfold tv at h
  split at h
  · injection h with h; injection h with e1 e2; subst e1; subst e2; exact .inl rfl
  · injection h with h; injection h with e1 e2; subst e1; subst e2; exact .inr rfl
  · cases h
theorem ref_path {dc : Sx.C} {d : Int} {A B C N : Int} {h : List Bool} {p : Bool} {ob : List Prop} (hd : dc.rel [] (.int .u8 d)) (hr : tv (rightQ dc h A B C N) = some (p, ob)) (hob : allP ob) (hb : p = rightF d A B C N) :
    Makes Try.prog 19 [.agg #[.int .u8 d, .int .i64 A, .int .i64 B, .int .i64 C, .int .i64 N]] (.v (.one (.sbool (rightF d A B C N)))) [] := by
  rcases tv_spec hr with hr | hr
  · exact makes_of (v := .v (.one (.sbool (rightF d A B C N)))) (bs := []) tabIn_ok hr hob (by simp) hb trivial (cmd_rel A B C N hd)
  · exact makes_of (v := .v (.one (.sbool (rightF d A B C N)))) (bs := []) tabIn_ok hr hob (by simp) hb trivial (cmd_rel A B C N hd)
theorem shape_eq {k a b c e : Nat} (hk : shapeL k = [a, b, c, e]) (A B C N : Int) : rightF k A B C N = (inR a A && (inR b B && (inR c C && inR e N))) := by
  unfold rightF
  rw [show ((k : Int)).toNat = k by omega, hk]
theorem rq1 (A B C N : Int) : Makes Try.prog 19 [.agg #[.int .u8 1, .int .i64 A, .int .i64 B, .int .i64 C, .int .i64 N]] (.v (.one (.sbool (rightF 1 A B C N)))) [] := by
  by_cases h1 : 0 ≤ A ∧ A ≤ 127
  · by_cases h2 : A = 0
    · skip
      by_cases k2 : B = 0
      · skip
        by_cases k3 : C = 0
        · skip
          exact ref_path (dc := .int .u8 1) rfl (congrFun (congrFun (congrFun (congrFun rq1_0 A) B) C) N) (by simp [allP, inB]; omega) (by rw [show rightF 1 A B C N = _ from shape_eq (k := 1) rfl A B C N, Bool.eq_iff_iff]; simp [inR, loL, hiL]; omega)
        · skip
          exact ref_path (dc := .int .u8 1) rfl (congrFun (congrFun (congrFun (congrFun rq1_1 A) B) C) N) (by simp [allP, inB]; omega) (by rw [show rightF 1 A B C N = _ from shape_eq (k := 1) rfl A B C N, Bool.eq_iff_iff]; simp [inR, loL, hiL]; omega)
      · skip
        exact ref_path (dc := .int .u8 1) rfl (congrFun (congrFun (congrFun (congrFun rq1_2 A) B) C) N) (by simp [allP, inB]; omega) (by rw [show rightF 1 A B C N = _ from shape_eq (k := 1) rfl A B C N, Bool.eq_iff_iff]; simp [inR, loL, hiL]; omega)
    · skip
      exact ref_path (dc := .int .u8 1) rfl (congrFun (congrFun (congrFun (congrFun rq1_3 A) B) C) N) (by simp [allP, inB]; omega) (by rw [show rightF 1 A B C N = _ from shape_eq (k := 1) rfl A B C N, Bool.eq_iff_iff]; simp [inR, loL, hiL]; omega)
  · by_cases h2 : A = 0
    · skip
      by_cases k2 : B = 0
      · skip
        by_cases k3 : C = 0
        · skip
          exact ref_path (dc := .int .u8 1) rfl (congrFun (congrFun (congrFun (congrFun rq1_4 A) B) C) N) (by simp [allP, inB]; omega) (by rw [show rightF 1 A B C N = _ from shape_eq (k := 1) rfl A B C N, Bool.eq_iff_iff]; simp [inR, loL, hiL]; omega)
        · skip
          exact ref_path (dc := .int .u8 1) rfl (congrFun (congrFun (congrFun (congrFun rq1_5 A) B) C) N) (by simp [allP, inB]; omega) (by rw [show rightF 1 A B C N = _ from shape_eq (k := 1) rfl A B C N, Bool.eq_iff_iff]; simp [inR, loL, hiL]; omega)
      · skip
        exact ref_path (dc := .int .u8 1) rfl (congrFun (congrFun (congrFun (congrFun rq1_6 A) B) C) N) (by simp [allP, inB]; omega) (by rw [show rightF 1 A B C N = _ from shape_eq (k := 1) rfl A B C N, Bool.eq_iff_iff]; simp [inR, loL, hiL]; omega)
    · skip
      exact ref_path (dc := .int .u8 1) rfl (congrFun (congrFun (congrFun (congrFun rq1_7 A) B) C) N) (by simp [allP, inB]; omega) (by rw [show rightF 1 A B C N = _ from shape_eq (k := 1) rfl A B C N, Bool.eq_iff_iff]; simp [inR, loL, hiL]; omega)
theorem rq2 (A B C N : Int) : Makes Try.prog 19 [.agg #[.int .u8 2, .int .i64 A, .int .i64 B, .int .i64 C, .int .i64 N]] (.v (.one (.sbool (rightF 2 A B C N)))) [] := by
  by_cases h1 : 0 ≤ A ∧ A ≤ 127
  · by_cases h2 : A = 0
    · skip
      by_cases k2 : -1 ≤ A ∧ A ≤ 1
      · skip
        by_cases k3 : -1 ≤ B ∧ B ≤ 1
        · skip
          by_cases k4 : C = 0
          · skip
            exact ref_path (dc := .int .u8 2) rfl (congrFun (congrFun (congrFun (congrFun rq2_8 A) B) C) N) (by simp [allP, inB]; omega) (by rw [show rightF 2 A B C N = _ from shape_eq (k := 2) rfl A B C N, Bool.eq_iff_iff]; simp [inR, loL, hiL]; omega)
          · skip
            exact ref_path (dc := .int .u8 2) rfl (congrFun (congrFun (congrFun (congrFun rq2_9 A) B) C) N) (by simp [allP, inB]; omega) (by rw [show rightF 2 A B C N = _ from shape_eq (k := 2) rfl A B C N, Bool.eq_iff_iff]; simp [inR, loL, hiL]; omega)
        · skip
          exact ref_path (dc := .int .u8 2) rfl (congrFun (congrFun (congrFun (congrFun rq2_10 A) B) C) N) (by simp [allP, inB]; omega) (by rw [show rightF 2 A B C N = _ from shape_eq (k := 2) rfl A B C N, Bool.eq_iff_iff]; simp [inR, loL, hiL]; omega)
      · skip
        exact ref_path (dc := .int .u8 2) rfl (congrFun (congrFun (congrFun (congrFun rq2_11 A) B) C) N) (by simp [allP, inB]; omega) (by rw [show rightF 2 A B C N = _ from shape_eq (k := 2) rfl A B C N, Bool.eq_iff_iff]; simp [inR, loL, hiL]; omega)
    · skip
      by_cases k2 : -1 ≤ A ∧ A ≤ 1
      · skip
        by_cases k3 : -1 ≤ B ∧ B ≤ 1
        · skip
          by_cases k4 : C = 0
          · skip
            exact ref_path (dc := .int .u8 2) rfl (congrFun (congrFun (congrFun (congrFun rq2_12 A) B) C) N) (by simp [allP, inB]; omega) (by rw [show rightF 2 A B C N = _ from shape_eq (k := 2) rfl A B C N, Bool.eq_iff_iff]; simp [inR, loL, hiL]; omega)
          · skip
            exact ref_path (dc := .int .u8 2) rfl (congrFun (congrFun (congrFun (congrFun rq2_13 A) B) C) N) (by simp [allP, inB]; omega) (by rw [show rightF 2 A B C N = _ from shape_eq (k := 2) rfl A B C N, Bool.eq_iff_iff]; simp [inR, loL, hiL]; omega)
        · skip
          exact ref_path (dc := .int .u8 2) rfl (congrFun (congrFun (congrFun (congrFun rq2_14 A) B) C) N) (by simp [allP, inB]; omega) (by rw [show rightF 2 A B C N = _ from shape_eq (k := 2) rfl A B C N, Bool.eq_iff_iff]; simp [inR, loL, hiL]; omega)
      · skip
        exact ref_path (dc := .int .u8 2) rfl (congrFun (congrFun (congrFun (congrFun rq2_15 A) B) C) N) (by simp [allP, inB]; omega) (by rw [show rightF 2 A B C N = _ from shape_eq (k := 2) rfl A B C N, Bool.eq_iff_iff]; simp [inR, loL, hiL]; omega)
  · by_cases h2 : A = 0
    · skip
      by_cases k2 : -1 ≤ A ∧ A ≤ 1
      · skip
        by_cases k3 : -1 ≤ B ∧ B ≤ 1
        · skip
          by_cases k4 : C = 0
          · skip
            exact ref_path (dc := .int .u8 2) rfl (congrFun (congrFun (congrFun (congrFun rq2_16 A) B) C) N) (by simp [allP, inB]; omega) (by rw [show rightF 2 A B C N = _ from shape_eq (k := 2) rfl A B C N, Bool.eq_iff_iff]; simp [inR, loL, hiL]; omega)
          · skip
            exact ref_path (dc := .int .u8 2) rfl (congrFun (congrFun (congrFun (congrFun rq2_17 A) B) C) N) (by simp [allP, inB]; omega) (by rw [show rightF 2 A B C N = _ from shape_eq (k := 2) rfl A B C N, Bool.eq_iff_iff]; simp [inR, loL, hiL]; omega)
        · skip
          exact ref_path (dc := .int .u8 2) rfl (congrFun (congrFun (congrFun (congrFun rq2_18 A) B) C) N) (by simp [allP, inB]; omega) (by rw [show rightF 2 A B C N = _ from shape_eq (k := 2) rfl A B C N, Bool.eq_iff_iff]; simp [inR, loL, hiL]; omega)
      · skip
        exact ref_path (dc := .int .u8 2) rfl (congrFun (congrFun (congrFun (congrFun rq2_19 A) B) C) N) (by simp [allP, inB]; omega) (by rw [show rightF 2 A B C N = _ from shape_eq (k := 2) rfl A B C N, Bool.eq_iff_iff]; simp [inR, loL, hiL]; omega)
    · skip
      by_cases k2 : -1 ≤ A ∧ A ≤ 1
      · skip
        by_cases k3 : -1 ≤ B ∧ B ≤ 1
        · skip
          by_cases k4 : C = 0
          · skip
            exact ref_path (dc := .int .u8 2) rfl (congrFun (congrFun (congrFun (congrFun rq2_20 A) B) C) N) (by simp [allP, inB]; omega) (by rw [show rightF 2 A B C N = _ from shape_eq (k := 2) rfl A B C N, Bool.eq_iff_iff]; simp [inR, loL, hiL]; omega)
          · skip
            exact ref_path (dc := .int .u8 2) rfl (congrFun (congrFun (congrFun (congrFun rq2_21 A) B) C) N) (by simp [allP, inB]; omega) (by rw [show rightF 2 A B C N = _ from shape_eq (k := 2) rfl A B C N, Bool.eq_iff_iff]; simp [inR, loL, hiL]; omega)
        · skip
          exact ref_path (dc := .int .u8 2) rfl (congrFun (congrFun (congrFun (congrFun rq2_22 A) B) C) N) (by simp [allP, inB]; omega) (by rw [show rightF 2 A B C N = _ from shape_eq (k := 2) rfl A B C N, Bool.eq_iff_iff]; simp [inR, loL, hiL]; omega)
      · skip
        exact ref_path (dc := .int .u8 2) rfl (congrFun (congrFun (congrFun (congrFun rq2_23 A) B) C) N) (by simp [allP, inB]; omega) (by rw [show rightF 2 A B C N = _ from shape_eq (k := 2) rfl A B C N, Bool.eq_iff_iff]; simp [inR, loL, hiL]; omega)
theorem rq3 (A B C N : Int) : Makes Try.prog 19 [.agg #[.int .u8 3, .int .i64 A, .int .i64 B, .int .i64 C, .int .i64 N]] (.v (.one (.sbool (rightF 3 A B C N)))) [] := by
  by_cases h1 : 0 ≤ A ∧ A ≤ 127
  · by_cases h2 : A = 0
    · skip
      by_cases k2 : 0 ≤ B ∧ B ≤ 127
      · skip
        by_cases k3 : C = 0
        · skip
          exact ref_path (dc := .int .u8 3) rfl (congrFun (congrFun (congrFun (congrFun rq3_24 A) B) C) N) (by simp [allP, inB]; omega) (by rw [show rightF 3 A B C N = _ from shape_eq (k := 3) rfl A B C N, Bool.eq_iff_iff]; simp [inR, loL, hiL]; omega)
        · skip
          exact ref_path (dc := .int .u8 3) rfl (congrFun (congrFun (congrFun (congrFun rq3_25 A) B) C) N) (by simp [allP, inB]; omega) (by rw [show rightF 3 A B C N = _ from shape_eq (k := 3) rfl A B C N, Bool.eq_iff_iff]; simp [inR, loL, hiL]; omega)
      · skip
        exact ref_path (dc := .int .u8 3) rfl (congrFun (congrFun (congrFun (congrFun rq3_26 A) B) C) N) (by simp [allP, inB]; omega) (by rw [show rightF 3 A B C N = _ from shape_eq (k := 3) rfl A B C N, Bool.eq_iff_iff]; simp [inR, loL, hiL]; omega)
    · skip
      by_cases k2 : 0 ≤ B ∧ B ≤ 127
      · skip
        by_cases k3 : C = 0
        · skip
          exact ref_path (dc := .int .u8 3) rfl (congrFun (congrFun (congrFun (congrFun rq3_27 A) B) C) N) (by simp [allP, inB]; omega) (by rw [show rightF 3 A B C N = _ from shape_eq (k := 3) rfl A B C N, Bool.eq_iff_iff]; simp [inR, loL, hiL]; omega)
        · skip
          exact ref_path (dc := .int .u8 3) rfl (congrFun (congrFun (congrFun (congrFun rq3_28 A) B) C) N) (by simp [allP, inB]; omega) (by rw [show rightF 3 A B C N = _ from shape_eq (k := 3) rfl A B C N, Bool.eq_iff_iff]; simp [inR, loL, hiL]; omega)
      · skip
        exact ref_path (dc := .int .u8 3) rfl (congrFun (congrFun (congrFun (congrFun rq3_29 A) B) C) N) (by simp [allP, inB]; omega) (by rw [show rightF 3 A B C N = _ from shape_eq (k := 3) rfl A B C N, Bool.eq_iff_iff]; simp [inR, loL, hiL]; omega)
  · by_cases h2 : A = 0
    · skip
      exact ref_path (dc := .int .u8 3) rfl (congrFun (congrFun (congrFun (congrFun rq3_30 A) B) C) N) (by simp [allP, inB]; omega) (by rw [show rightF 3 A B C N = _ from shape_eq (k := 3) rfl A B C N, Bool.eq_iff_iff]; simp [inR, loL, hiL]; omega)
    · skip
      exact ref_path (dc := .int .u8 3) rfl (congrFun (congrFun (congrFun (congrFun rq3_31 A) B) C) N) (by simp [allP, inB]; omega) (by rw [show rightF 3 A B C N = _ from shape_eq (k := 3) rfl A B C N, Bool.eq_iff_iff]; simp [inR, loL, hiL]; omega)
theorem rq4 (A B C N : Int) : Makes Try.prog 19 [.agg #[.int .u8 4, .int .i64 A, .int .i64 B, .int .i64 C, .int .i64 N]] (.v (.one (.sbool (rightF 4 A B C N)))) [] := by
  by_cases h1 : 0 ≤ A ∧ A ≤ 127
  · by_cases h2 : A = 0
    · skip
      by_cases k2 : 0 ≤ B ∧ B ≤ 127
      · skip
        by_cases k3 : 0 ≤ C ∧ C ≤ 7
        · skip
          exact ref_path (dc := .int .u8 4) rfl (congrFun (congrFun (congrFun (congrFun rq4_32 A) B) C) N) (by simp [allP, inB]; omega) (by rw [show rightF 4 A B C N = _ from shape_eq (k := 4) rfl A B C N, Bool.eq_iff_iff]; simp [inR, loL, hiL]; omega)
        · skip
          exact ref_path (dc := .int .u8 4) rfl (congrFun (congrFun (congrFun (congrFun rq4_33 A) B) C) N) (by simp [allP, inB]; omega) (by rw [show rightF 4 A B C N = _ from shape_eq (k := 4) rfl A B C N, Bool.eq_iff_iff]; simp [inR, loL, hiL]; omega)
      · skip
        exact ref_path (dc := .int .u8 4) rfl (congrFun (congrFun (congrFun (congrFun rq4_34 A) B) C) N) (by simp [allP, inB]; omega) (by rw [show rightF 4 A B C N = _ from shape_eq (k := 4) rfl A B C N, Bool.eq_iff_iff]; simp [inR, loL, hiL]; omega)
    · skip
      by_cases k2 : 0 ≤ B ∧ B ≤ 127
      · skip
        by_cases k3 : 0 ≤ C ∧ C ≤ 7
        · skip
          exact ref_path (dc := .int .u8 4) rfl (congrFun (congrFun (congrFun (congrFun rq4_35 A) B) C) N) (by simp [allP, inB]; omega) (by rw [show rightF 4 A B C N = _ from shape_eq (k := 4) rfl A B C N, Bool.eq_iff_iff]; simp [inR, loL, hiL]; omega)
        · skip
          exact ref_path (dc := .int .u8 4) rfl (congrFun (congrFun (congrFun (congrFun rq4_36 A) B) C) N) (by simp [allP, inB]; omega) (by rw [show rightF 4 A B C N = _ from shape_eq (k := 4) rfl A B C N, Bool.eq_iff_iff]; simp [inR, loL, hiL]; omega)
      · skip
        exact ref_path (dc := .int .u8 4) rfl (congrFun (congrFun (congrFun (congrFun rq4_37 A) B) C) N) (by simp [allP, inB]; omega) (by rw [show rightF 4 A B C N = _ from shape_eq (k := 4) rfl A B C N, Bool.eq_iff_iff]; simp [inR, loL, hiL]; omega)
  · by_cases h2 : A = 0
    · skip
      exact ref_path (dc := .int .u8 4) rfl (congrFun (congrFun (congrFun (congrFun rq4_38 A) B) C) N) (by simp [allP, inB]; omega) (by rw [show rightF 4 A B C N = _ from shape_eq (k := 4) rfl A B C N, Bool.eq_iff_iff]; simp [inR, loL, hiL]; omega)
    · skip
      exact ref_path (dc := .int .u8 4) rfl (congrFun (congrFun (congrFun (congrFun rq4_39 A) B) C) N) (by simp [allP, inB]; omega) (by rw [show rightF 4 A B C N = _ from shape_eq (k := 4) rfl A B C N, Bool.eq_iff_iff]; simp [inR, loL, hiL]; omega)
theorem rq5 (A B C N : Int) : Makes Try.prog 19 [.agg #[.int .u8 5, .int .i64 A, .int .i64 B, .int .i64 C, .int .i64 N]] (.v (.one (.sbool (rightF 5 A B C N)))) [] := by
  by_cases h1 : 0 ≤ A ∧ A ≤ 127
  · by_cases h2 : A = 0
    · skip
      by_cases k2 : B = 0
      · skip
        by_cases k3 : C = 0
        · skip
          exact ref_path (dc := .int .u8 5) rfl (congrFun (congrFun (congrFun (congrFun rq5_40 A) B) C) N) (by simp [allP, inB]; omega) (by rw [show rightF 5 A B C N = _ from shape_eq (k := 5) rfl A B C N, Bool.eq_iff_iff]; simp [inR, loL, hiL]; omega)
        · skip
          exact ref_path (dc := .int .u8 5) rfl (congrFun (congrFun (congrFun (congrFun rq5_41 A) B) C) N) (by simp [allP, inB]; omega) (by rw [show rightF 5 A B C N = _ from shape_eq (k := 5) rfl A B C N, Bool.eq_iff_iff]; simp [inR, loL, hiL]; omega)
      · skip
        exact ref_path (dc := .int .u8 5) rfl (congrFun (congrFun (congrFun (congrFun rq5_42 A) B) C) N) (by simp [allP, inB]; omega) (by rw [show rightF 5 A B C N = _ from shape_eq (k := 5) rfl A B C N, Bool.eq_iff_iff]; simp [inR, loL, hiL]; omega)
    · skip
      exact ref_path (dc := .int .u8 5) rfl (congrFun (congrFun (congrFun (congrFun rq5_43 A) B) C) N) (by simp [allP, inB]; omega) (by rw [show rightF 5 A B C N = _ from shape_eq (k := 5) rfl A B C N, Bool.eq_iff_iff]; simp [inR, loL, hiL]; omega)
  · by_cases h2 : A = 0
    · skip
      by_cases k2 : B = 0
      · skip
        by_cases k3 : C = 0
        · skip
          exact ref_path (dc := .int .u8 5) rfl (congrFun (congrFun (congrFun (congrFun rq5_44 A) B) C) N) (by simp [allP, inB]; omega) (by rw [show rightF 5 A B C N = _ from shape_eq (k := 5) rfl A B C N, Bool.eq_iff_iff]; simp [inR, loL, hiL]; omega)
        · skip
          exact ref_path (dc := .int .u8 5) rfl (congrFun (congrFun (congrFun (congrFun rq5_45 A) B) C) N) (by simp [allP, inB]; omega) (by rw [show rightF 5 A B C N = _ from shape_eq (k := 5) rfl A B C N, Bool.eq_iff_iff]; simp [inR, loL, hiL]; omega)
      · skip
        exact ref_path (dc := .int .u8 5) rfl (congrFun (congrFun (congrFun (congrFun rq5_46 A) B) C) N) (by simp [allP, inB]; omega) (by rw [show rightF 5 A B C N = _ from shape_eq (k := 5) rfl A B C N, Bool.eq_iff_iff]; simp [inR, loL, hiL]; omega)
    · skip
      exact ref_path (dc := .int .u8 5) rfl (congrFun (congrFun (congrFun (congrFun rq5_47 A) B) C) N) (by simp [allP, inB]; omega) (by rw [show rightF 5 A B C N = _ from shape_eq (k := 5) rfl A B C N, Bool.eq_iff_iff]; simp [inR, loL, hiL]; omega)
theorem rq6 (A B C N : Int) : Makes Try.prog 19 [.agg #[.int .u8 6, .int .i64 A, .int .i64 B, .int .i64 C, .int .i64 N]] (.v (.one (.sbool (rightF 6 A B C N)))) [] := by
  by_cases h1 : 0 ≤ A ∧ A ≤ 127
  · by_cases h2 : A = 0
    · skip
      by_cases k2 : B = 0
      · skip
        by_cases k3 : 0 ≤ C ∧ C ≤ 7
        · skip
          exact ref_path (dc := .int .u8 6) rfl (congrFun (congrFun (congrFun (congrFun rq6_48 A) B) C) N) (by simp [allP, inB]; omega) (by rw [show rightF 6 A B C N = _ from shape_eq (k := 6) rfl A B C N, Bool.eq_iff_iff]; simp [inR, loL, hiL, inB]; omega)
        · skip
          exact ref_path (dc := .int .u8 6) rfl (congrFun (congrFun (congrFun (congrFun rq6_49 A) B) C) N) (by simp [allP, inB]; omega) (by rw [show rightF 6 A B C N = _ from shape_eq (k := 6) rfl A B C N, Bool.eq_iff_iff]; simp [inR, loL, hiL]; omega)
      · skip
        exact ref_path (dc := .int .u8 6) rfl (congrFun (congrFun (congrFun (congrFun rq6_50 A) B) C) N) (by simp [allP, inB]; omega) (by rw [show rightF 6 A B C N = _ from shape_eq (k := 6) rfl A B C N, Bool.eq_iff_iff]; simp [inR, loL, hiL]; omega)
    · skip
      exact ref_path (dc := .int .u8 6) rfl (congrFun (congrFun (congrFun (congrFun rq6_51 A) B) C) N) (by simp [allP, inB]; omega) (by rw [show rightF 6 A B C N = _ from shape_eq (k := 6) rfl A B C N, Bool.eq_iff_iff]; simp [inR, loL, hiL]; omega)
  · by_cases h2 : A = 0
    · skip
      by_cases k2 : B = 0
      · skip
        by_cases k3 : 0 ≤ C ∧ C ≤ 7
        · skip
          exact ref_path (dc := .int .u8 6) rfl (congrFun (congrFun (congrFun (congrFun rq6_52 A) B) C) N) (by simp [allP, inB]; omega) (by rw [show rightF 6 A B C N = _ from shape_eq (k := 6) rfl A B C N, Bool.eq_iff_iff]; simp [inR, loL, hiL, inB]; omega)
        · skip
          exact ref_path (dc := .int .u8 6) rfl (congrFun (congrFun (congrFun (congrFun rq6_53 A) B) C) N) (by simp [allP, inB]; omega) (by rw [show rightF 6 A B C N = _ from shape_eq (k := 6) rfl A B C N, Bool.eq_iff_iff]; simp [inR, loL, hiL]; omega)
      · skip
        exact ref_path (dc := .int .u8 6) rfl (congrFun (congrFun (congrFun (congrFun rq6_54 A) B) C) N) (by simp [allP, inB]; omega) (by rw [show rightF 6 A B C N = _ from shape_eq (k := 6) rfl A B C N, Bool.eq_iff_iff]; simp [inR, loL, hiL]; omega)
    · skip
      exact ref_path (dc := .int .u8 6) rfl (congrFun (congrFun (congrFun (congrFun rq6_55 A) B) C) N) (by simp [allP, inB]; omega) (by rw [show rightF 6 A B C N = _ from shape_eq (k := 6) rfl A B C N, Bool.eq_iff_iff]; simp [inR, loL, hiL]; omega)
theorem rq7 (A B C N : Int) : Makes Try.prog 19 [.agg #[.int .u8 7, .int .i64 A, .int .i64 B, .int .i64 C, .int .i64 N]] (.v (.one (.sbool (rightF 7 A B C N)))) [] := by
  by_cases h1 : 0 ≤ A ∧ A ≤ 127
  · by_cases h2 : A = 0
    · skip
      by_cases k2 : 0 ≤ B ∧ B ≤ 127
      · skip
        by_cases k3 : 0 ≤ C ∧ C ≤ 7
        · skip
          exact ref_path (dc := .int .u8 7) rfl (congrFun (congrFun (congrFun (congrFun rq7_56 A) B) C) N) (by simp [allP, inB]; omega) (by rw [show rightF 7 A B C N = _ from shape_eq (k := 7) rfl A B C N, Bool.eq_iff_iff]; simp [inR, loL, hiL, inB]; omega)
        · skip
          exact ref_path (dc := .int .u8 7) rfl (congrFun (congrFun (congrFun (congrFun rq7_57 A) B) C) N) (by simp [allP, inB]; omega) (by rw [show rightF 7 A B C N = _ from shape_eq (k := 7) rfl A B C N, Bool.eq_iff_iff]; simp [inR, loL, hiL]; omega)
      · skip
        exact ref_path (dc := .int .u8 7) rfl (congrFun (congrFun (congrFun (congrFun rq7_58 A) B) C) N) (by simp [allP, inB]; omega) (by rw [show rightF 7 A B C N = _ from shape_eq (k := 7) rfl A B C N, Bool.eq_iff_iff]; simp [inR, loL, hiL]; omega)
    · skip
      by_cases k2 : 0 ≤ B ∧ B ≤ 127
      · skip
        by_cases k3 : 0 ≤ C ∧ C ≤ 7
        · skip
          exact ref_path (dc := .int .u8 7) rfl (congrFun (congrFun (congrFun (congrFun rq7_59 A) B) C) N) (by simp [allP, inB]; omega) (by rw [show rightF 7 A B C N = _ from shape_eq (k := 7) rfl A B C N, Bool.eq_iff_iff]; simp [inR, loL, hiL, inB]; omega)
        · skip
          exact ref_path (dc := .int .u8 7) rfl (congrFun (congrFun (congrFun (congrFun rq7_60 A) B) C) N) (by simp [allP, inB]; omega) (by rw [show rightF 7 A B C N = _ from shape_eq (k := 7) rfl A B C N, Bool.eq_iff_iff]; simp [inR, loL, hiL]; omega)
      · skip
        exact ref_path (dc := .int .u8 7) rfl (congrFun (congrFun (congrFun (congrFun rq7_61 A) B) C) N) (by simp [allP, inB]; omega) (by rw [show rightF 7 A B C N = _ from shape_eq (k := 7) rfl A B C N, Bool.eq_iff_iff]; simp [inR, loL, hiL]; omega)
  · by_cases h2 : A = 0
    · skip
      exact ref_path (dc := .int .u8 7) rfl (congrFun (congrFun (congrFun (congrFun rq7_62 A) B) C) N) (by simp [allP, inB]; omega) (by rw [show rightF 7 A B C N = _ from shape_eq (k := 7) rfl A B C N, Bool.eq_iff_iff]; simp [inR, loL, hiL]; omega)
    · skip
      exact ref_path (dc := .int .u8 7) rfl (congrFun (congrFun (congrFun (congrFun rq7_63 A) B) C) N) (by simp [allP, inB]; omega) (by rw [show rightF 7 A B C N = _ from shape_eq (k := 7) rfl A B C N, Bool.eq_iff_iff]; simp [inR, loL, hiL]; omega)
theorem rq8 (A B C N : Int) : Makes Try.prog 19 [.agg #[.int .u8 8, .int .i64 A, .int .i64 B, .int .i64 C, .int .i64 N]] (.v (.one (.sbool (rightF 8 A B C N)))) [] := by
  by_cases h1 : 0 ≤ A ∧ A ≤ 127
  · by_cases h2 : A = 0
    · skip
      by_cases k2 : 0 ≤ B ∧ B ≤ 127
      · skip
        by_cases k3 : 0 ≤ C ∧ C ≤ 7
        · skip
          exact ref_path (dc := .int .u8 8) rfl (congrFun (congrFun (congrFun (congrFun rq8_64 A) B) C) N) (by simp [allP, inB]; omega) (by rw [show rightF 8 A B C N = _ from shape_eq (k := 8) rfl A B C N, Bool.eq_iff_iff]; simp [inR, loL, hiL, inB]; omega)
        · skip
          exact ref_path (dc := .int .u8 8) rfl (congrFun (congrFun (congrFun (congrFun rq8_65 A) B) C) N) (by simp [allP, inB]; omega) (by rw [show rightF 8 A B C N = _ from shape_eq (k := 8) rfl A B C N, Bool.eq_iff_iff]; simp [inR, loL, hiL]; omega)
      · skip
        exact ref_path (dc := .int .u8 8) rfl (congrFun (congrFun (congrFun (congrFun rq8_66 A) B) C) N) (by simp [allP, inB]; omega) (by rw [show rightF 8 A B C N = _ from shape_eq (k := 8) rfl A B C N, Bool.eq_iff_iff]; simp [inR, loL, hiL]; omega)
    · skip
      by_cases k2 : 0 ≤ B ∧ B ≤ 127
      · skip
        by_cases k3 : 0 ≤ C ∧ C ≤ 7
        · skip
          exact ref_path (dc := .int .u8 8) rfl (congrFun (congrFun (congrFun (congrFun rq8_67 A) B) C) N) (by simp [allP, inB]; omega) (by rw [show rightF 8 A B C N = _ from shape_eq (k := 8) rfl A B C N, Bool.eq_iff_iff]; simp [inR, loL, hiL, inB]; omega)
        · skip
          exact ref_path (dc := .int .u8 8) rfl (congrFun (congrFun (congrFun (congrFun rq8_68 A) B) C) N) (by simp [allP, inB]; omega) (by rw [show rightF 8 A B C N = _ from shape_eq (k := 8) rfl A B C N, Bool.eq_iff_iff]; simp [inR, loL, hiL]; omega)
      · skip
        exact ref_path (dc := .int .u8 8) rfl (congrFun (congrFun (congrFun (congrFun rq8_69 A) B) C) N) (by simp [allP, inB]; omega) (by rw [show rightF 8 A B C N = _ from shape_eq (k := 8) rfl A B C N, Bool.eq_iff_iff]; simp [inR, loL, hiL]; omega)
  · by_cases h2 : A = 0
    · skip
      exact ref_path (dc := .int .u8 8) rfl (congrFun (congrFun (congrFun (congrFun rq8_70 A) B) C) N) (by simp [allP, inB]; omega) (by rw [show rightF 8 A B C N = _ from shape_eq (k := 8) rfl A B C N, Bool.eq_iff_iff]; simp [inR, loL, hiL]; omega)
    · skip
      exact ref_path (dc := .int .u8 8) rfl (congrFun (congrFun (congrFun (congrFun rq8_71 A) B) C) N) (by simp [allP, inB]; omega) (by rw [show rightF 8 A B C N = _ from shape_eq (k := 8) rfl A B C N, Bool.eq_iff_iff]; simp [inR, loL, hiL]; omega)
theorem rq9 (A B C N : Int) : Makes Try.prog 19 [.agg #[.int .u8 9, .int .i64 A, .int .i64 B, .int .i64 C, .int .i64 N]] (.v (.one (.sbool (rightF 9 A B C N)))) [] := by
  by_cases h1 : 0 ≤ A ∧ A ≤ 127
  · by_cases h2 : A = 0
    · skip
      by_cases k2 : B = 0
      · skip
        by_cases k3 : 0 ≤ C ∧ C ≤ 1000
        · skip
          exact ref_path (dc := .int .u8 9) rfl (congrFun (congrFun (congrFun (congrFun rq9_72 A) B) C) N) (by simp [allP, inB]; omega) (by rw [show rightF 9 A B C N = _ from shape_eq (k := 9) rfl A B C N, Bool.eq_iff_iff]; simp [inR, loL, hiL]; omega)
        · skip
          exact ref_path (dc := .int .u8 9) rfl (congrFun (congrFun (congrFun (congrFun rq9_73 A) B) C) N) (by simp [allP, inB]; omega) (by rw [show rightF 9 A B C N = _ from shape_eq (k := 9) rfl A B C N, Bool.eq_iff_iff]; simp [inR, loL, hiL]; omega)
      · skip
        exact ref_path (dc := .int .u8 9) rfl (congrFun (congrFun (congrFun (congrFun rq9_74 A) B) C) N) (by simp [allP, inB]; omega) (by rw [show rightF 9 A B C N = _ from shape_eq (k := 9) rfl A B C N, Bool.eq_iff_iff]; simp [inR, loL, hiL]; omega)
    · skip
      exact ref_path (dc := .int .u8 9) rfl (congrFun (congrFun (congrFun (congrFun rq9_75 A) B) C) N) (by simp [allP, inB]; omega) (by rw [show rightF 9 A B C N = _ from shape_eq (k := 9) rfl A B C N, Bool.eq_iff_iff]; simp [inR, loL, hiL]; omega)
  · by_cases h2 : A = 0
    · skip
      by_cases k2 : B = 0
      · skip
        by_cases k3 : 0 ≤ C ∧ C ≤ 1000
        · skip
          exact ref_path (dc := .int .u8 9) rfl (congrFun (congrFun (congrFun (congrFun rq9_76 A) B) C) N) (by simp [allP, inB]; omega) (by rw [show rightF 9 A B C N = _ from shape_eq (k := 9) rfl A B C N, Bool.eq_iff_iff]; simp [inR, loL, hiL]; omega)
        · skip
          exact ref_path (dc := .int .u8 9) rfl (congrFun (congrFun (congrFun (congrFun rq9_77 A) B) C) N) (by simp [allP, inB]; omega) (by rw [show rightF 9 A B C N = _ from shape_eq (k := 9) rfl A B C N, Bool.eq_iff_iff]; simp [inR, loL, hiL]; omega)
      · skip
        exact ref_path (dc := .int .u8 9) rfl (congrFun (congrFun (congrFun (congrFun rq9_78 A) B) C) N) (by simp [allP, inB]; omega) (by rw [show rightF 9 A B C N = _ from shape_eq (k := 9) rfl A B C N, Bool.eq_iff_iff]; simp [inR, loL, hiL]; omega)
    · skip
      exact ref_path (dc := .int .u8 9) rfl (congrFun (congrFun (congrFun (congrFun rq9_79 A) B) C) N) (by simp [allP, inB]; omega) (by rw [show rightF 9 A B C N = _ from shape_eq (k := 9) rfl A B C N, Bool.eq_iff_iff]; simp [inR, loL, hiL]; omega)
theorem rq10 (A B C N : Int) : Makes Try.prog 19 [.agg #[.int .u8 10, .int .i64 A, .int .i64 B, .int .i64 C, .int .i64 N]] (.v (.one (.sbool (rightF 10 A B C N)))) [] := by
  by_cases h1 : 0 ≤ A ∧ A ≤ 127
  · by_cases h2 : A = 0
    · skip
      by_cases k2 : B = 0
      · skip
        by_cases k3 : C = 0
        · skip
          exact ref_path (dc := .int .u8 10) rfl (congrFun (congrFun (congrFun (congrFun rq10_80 A) B) C) N) (by simp [allP, inB]; omega) (by rw [show rightF 10 A B C N = _ from shape_eq (k := 10) rfl A B C N, Bool.eq_iff_iff]; simp [inR, loL, hiL]; omega)
        · skip
          exact ref_path (dc := .int .u8 10) rfl (congrFun (congrFun (congrFun (congrFun rq10_81 A) B) C) N) (by simp [allP, inB]; omega) (by rw [show rightF 10 A B C N = _ from shape_eq (k := 10) rfl A B C N, Bool.eq_iff_iff]; simp [inR, loL, hiL]; omega)
      · skip
        exact ref_path (dc := .int .u8 10) rfl (congrFun (congrFun (congrFun (congrFun rq10_82 A) B) C) N) (by simp [allP, inB]; omega) (by rw [show rightF 10 A B C N = _ from shape_eq (k := 10) rfl A B C N, Bool.eq_iff_iff]; simp [inR, loL, hiL]; omega)
    · skip
      exact ref_path (dc := .int .u8 10) rfl (congrFun (congrFun (congrFun (congrFun rq10_83 A) B) C) N) (by simp [allP, inB]; omega) (by rw [show rightF 10 A B C N = _ from shape_eq (k := 10) rfl A B C N, Bool.eq_iff_iff]; simp [inR, loL, hiL]; omega)
  · by_cases h2 : A = 0
    · skip
      by_cases k2 : B = 0
      · skip
        by_cases k3 : C = 0
        · skip
          exact ref_path (dc := .int .u8 10) rfl (congrFun (congrFun (congrFun (congrFun rq10_84 A) B) C) N) (by simp [allP, inB]; omega) (by rw [show rightF 10 A B C N = _ from shape_eq (k := 10) rfl A B C N, Bool.eq_iff_iff]; simp [inR, loL, hiL]; omega)
        · skip
          exact ref_path (dc := .int .u8 10) rfl (congrFun (congrFun (congrFun (congrFun rq10_85 A) B) C) N) (by simp [allP, inB]; omega) (by rw [show rightF 10 A B C N = _ from shape_eq (k := 10) rfl A B C N, Bool.eq_iff_iff]; simp [inR, loL, hiL]; omega)
      · skip
        exact ref_path (dc := .int .u8 10) rfl (congrFun (congrFun (congrFun (congrFun rq10_86 A) B) C) N) (by simp [allP, inB]; omega) (by rw [show rightF 10 A B C N = _ from shape_eq (k := 10) rfl A B C N, Bool.eq_iff_iff]; simp [inR, loL, hiL]; omega)
    · skip
      exact ref_path (dc := .int .u8 10) rfl (congrFun (congrFun (congrFun (congrFun rq10_87 A) B) C) N) (by simp [allP, inB]; omega) (by rw [show rightF 10 A B C N = _ from shape_eq (k := 10) rfl A B C N, Bool.eq_iff_iff]; simp [inR, loL, hiL]; omega)
theorem rq11 (A B C N : Int) : Makes Try.prog 19 [.agg #[.int .u8 11, .int .i64 A, .int .i64 B, .int .i64 C, .int .i64 N]] (.v (.one (.sbool (rightF 11 A B C N)))) [] := by
  by_cases h1 : 0 ≤ A ∧ A ≤ 127
  · by_cases h2 : A = 0
    · skip
      by_cases k2 : 0 ≤ A ∧ A ≤ 1073741824
      · skip
        by_cases k3 : B = 0
        · skip
          by_cases k4 : 0 ≤ C ∧ C ≤ 7
          · skip
            exact ref_path (dc := .int .u8 11) rfl (congrFun (congrFun (congrFun (congrFun rq11_88 A) B) C) N) (by simp [allP, inB]; omega) (by rw [show rightF 11 A B C N = _ from shape_eq (k := 11) rfl A B C N, Bool.eq_iff_iff]; simp [inR, loL, hiL, inB]; omega)
          · skip
            exact ref_path (dc := .int .u8 11) rfl (congrFun (congrFun (congrFun (congrFun rq11_89 A) B) C) N) (by simp [allP, inB]; omega) (by rw [show rightF 11 A B C N = _ from shape_eq (k := 11) rfl A B C N, Bool.eq_iff_iff]; simp [inR, loL, hiL]; omega)
        · skip
          exact ref_path (dc := .int .u8 11) rfl (congrFun (congrFun (congrFun (congrFun rq11_90 A) B) C) N) (by simp [allP, inB]; omega) (by rw [show rightF 11 A B C N = _ from shape_eq (k := 11) rfl A B C N, Bool.eq_iff_iff]; simp [inR, loL, hiL]; omega)
      · skip
        exact ref_path (dc := .int .u8 11) rfl (congrFun (congrFun (congrFun (congrFun rq11_91 A) B) C) N) (by simp [allP, inB]; omega) (by rw [show rightF 11 A B C N = _ from shape_eq (k := 11) rfl A B C N, Bool.eq_iff_iff]; simp [inR, loL, hiL]; omega)
    · skip
      by_cases k2 : 0 ≤ A ∧ A ≤ 1073741824
      · skip
        by_cases k3 : B = 0
        · skip
          by_cases k4 : 0 ≤ C ∧ C ≤ 7
          · skip
            exact ref_path (dc := .int .u8 11) rfl (congrFun (congrFun (congrFun (congrFun rq11_92 A) B) C) N) (by simp [allP, inB]; omega) (by rw [show rightF 11 A B C N = _ from shape_eq (k := 11) rfl A B C N, Bool.eq_iff_iff]; simp [inR, loL, hiL, inB]; omega)
          · skip
            exact ref_path (dc := .int .u8 11) rfl (congrFun (congrFun (congrFun (congrFun rq11_93 A) B) C) N) (by simp [allP, inB]; omega) (by rw [show rightF 11 A B C N = _ from shape_eq (k := 11) rfl A B C N, Bool.eq_iff_iff]; simp [inR, loL, hiL]; omega)
        · skip
          exact ref_path (dc := .int .u8 11) rfl (congrFun (congrFun (congrFun (congrFun rq11_94 A) B) C) N) (by simp [allP, inB]; omega) (by rw [show rightF 11 A B C N = _ from shape_eq (k := 11) rfl A B C N, Bool.eq_iff_iff]; simp [inR, loL, hiL]; omega)
      · skip
        exact ref_path (dc := .int .u8 11) rfl (congrFun (congrFun (congrFun (congrFun rq11_95 A) B) C) N) (by simp [allP, inB]; omega) (by rw [show rightF 11 A B C N = _ from shape_eq (k := 11) rfl A B C N, Bool.eq_iff_iff]; simp [inR, loL, hiL]; omega)
  · by_cases h2 : A = 0
    · skip
      by_cases k2 : 0 ≤ A ∧ A ≤ 1073741824
      · skip
        by_cases k3 : B = 0
        · skip
          by_cases k4 : 0 ≤ C ∧ C ≤ 7
          · skip
            exact ref_path (dc := .int .u8 11) rfl (congrFun (congrFun (congrFun (congrFun rq11_96 A) B) C) N) (by simp [allP, inB]; omega) (by rw [show rightF 11 A B C N = _ from shape_eq (k := 11) rfl A B C N, Bool.eq_iff_iff]; simp [inR, loL, hiL, inB]; omega)
          · skip
            exact ref_path (dc := .int .u8 11) rfl (congrFun (congrFun (congrFun (congrFun rq11_97 A) B) C) N) (by simp [allP, inB]; omega) (by rw [show rightF 11 A B C N = _ from shape_eq (k := 11) rfl A B C N, Bool.eq_iff_iff]; simp [inR, loL, hiL]; omega)
        · skip
          exact ref_path (dc := .int .u8 11) rfl (congrFun (congrFun (congrFun (congrFun rq11_98 A) B) C) N) (by simp [allP, inB]; omega) (by rw [show rightF 11 A B C N = _ from shape_eq (k := 11) rfl A B C N, Bool.eq_iff_iff]; simp [inR, loL, hiL]; omega)
      · skip
        exact ref_path (dc := .int .u8 11) rfl (congrFun (congrFun (congrFun (congrFun rq11_99 A) B) C) N) (by simp [allP, inB]; omega) (by rw [show rightF 11 A B C N = _ from shape_eq (k := 11) rfl A B C N, Bool.eq_iff_iff]; simp [inR, loL, hiL]; omega)
    · skip
      by_cases k2 : 0 ≤ A ∧ A ≤ 1073741824
      · skip
        by_cases k3 : B = 0
        · skip
          by_cases k4 : 0 ≤ C ∧ C ≤ 7
          · skip
            exact ref_path (dc := .int .u8 11) rfl (congrFun (congrFun (congrFun (congrFun rq11_100 A) B) C) N) (by simp [allP, inB]; omega) (by rw [show rightF 11 A B C N = _ from shape_eq (k := 11) rfl A B C N, Bool.eq_iff_iff]; simp [inR, loL, hiL, inB]; omega)
          · skip
            exact ref_path (dc := .int .u8 11) rfl (congrFun (congrFun (congrFun (congrFun rq11_101 A) B) C) N) (by simp [allP, inB]; omega) (by rw [show rightF 11 A B C N = _ from shape_eq (k := 11) rfl A B C N, Bool.eq_iff_iff]; simp [inR, loL, hiL]; omega)
        · skip
          exact ref_path (dc := .int .u8 11) rfl (congrFun (congrFun (congrFun (congrFun rq11_102 A) B) C) N) (by simp [allP, inB]; omega) (by rw [show rightF 11 A B C N = _ from shape_eq (k := 11) rfl A B C N, Bool.eq_iff_iff]; simp [inR, loL, hiL]; omega)
      · skip
        exact ref_path (dc := .int .u8 11) rfl (congrFun (congrFun (congrFun (congrFun rq11_103 A) B) C) N) (by simp [allP, inB]; omega) (by rw [show rightF 11 A B C N = _ from shape_eq (k := 11) rfl A B C N, Bool.eq_iff_iff]; simp [inR, loL, hiL]; omega)
theorem rq12 (A B C N : Int) : Makes Try.prog 19 [.agg #[.int .u8 12, .int .i64 A, .int .i64 B, .int .i64 C, .int .i64 N]] (.v (.one (.sbool (rightF 12 A B C N)))) [] := by
  by_cases h1 : 0 ≤ A ∧ A ≤ 127
  · by_cases h2 : A = 0
    · skip
      by_cases k2 : B = 0
      · skip
        by_cases k3 : C = 0
        · skip
          exact ref_path (dc := .int .u8 12) rfl (congrFun (congrFun (congrFun (congrFun rq12_104 A) B) C) N) (by simp [allP, inB]; omega) (by rw [show rightF 12 A B C N = _ from shape_eq (k := 12) rfl A B C N, Bool.eq_iff_iff]; simp [inR, loL, hiL]; omega)
        · skip
          exact ref_path (dc := .int .u8 12) rfl (congrFun (congrFun (congrFun (congrFun rq12_105 A) B) C) N) (by simp [allP, inB]; omega) (by rw [show rightF 12 A B C N = _ from shape_eq (k := 12) rfl A B C N, Bool.eq_iff_iff]; simp [inR, loL, hiL]; omega)
      · skip
        exact ref_path (dc := .int .u8 12) rfl (congrFun (congrFun (congrFun (congrFun rq12_106 A) B) C) N) (by simp [allP, inB]; omega) (by rw [show rightF 12 A B C N = _ from shape_eq (k := 12) rfl A B C N, Bool.eq_iff_iff]; simp [inR, loL, hiL]; omega)
    · skip
      exact ref_path (dc := .int .u8 12) rfl (congrFun (congrFun (congrFun (congrFun rq12_107 A) B) C) N) (by simp [allP, inB]; omega) (by rw [show rightF 12 A B C N = _ from shape_eq (k := 12) rfl A B C N, Bool.eq_iff_iff]; simp [inR, loL, hiL]; omega)
  · by_cases h2 : A = 0
    · skip
      by_cases k2 : B = 0
      · skip
        by_cases k3 : C = 0
        · skip
          exact ref_path (dc := .int .u8 12) rfl (congrFun (congrFun (congrFun (congrFun rq12_108 A) B) C) N) (by simp [allP, inB]; omega) (by rw [show rightF 12 A B C N = _ from shape_eq (k := 12) rfl A B C N, Bool.eq_iff_iff]; simp [inR, loL, hiL]; omega)
        · skip
          exact ref_path (dc := .int .u8 12) rfl (congrFun (congrFun (congrFun (congrFun rq12_109 A) B) C) N) (by simp [allP, inB]; omega) (by rw [show rightF 12 A B C N = _ from shape_eq (k := 12) rfl A B C N, Bool.eq_iff_iff]; simp [inR, loL, hiL]; omega)
      · skip
        exact ref_path (dc := .int .u8 12) rfl (congrFun (congrFun (congrFun (congrFun rq12_110 A) B) C) N) (by simp [allP, inB]; omega) (by rw [show rightF 12 A B C N = _ from shape_eq (k := 12) rfl A B C N, Bool.eq_iff_iff]; simp [inR, loL, hiL]; omega)
    · skip
      exact ref_path (dc := .int .u8 12) rfl (congrFun (congrFun (congrFun (congrFun rq12_111 A) B) C) N) (by simp [allP, inB]; omega) (by rw [show rightF 12 A B C N = _ from shape_eq (k := 12) rfl A B C N, Bool.eq_iff_iff]; simp [inR, loL, hiL]; omega)
theorem rq13 (A B C N : Int) : Makes Try.prog 19 [.agg #[.int .u8 13, .int .i64 A, .int .i64 B, .int .i64 C, .int .i64 N]] (.v (.one (.sbool (rightF 13 A B C N)))) [] := by
  by_cases h1 : 0 ≤ A ∧ A ≤ 127
  · by_cases h2 : A = 0
    · skip
      by_cases k2 : B = 0
      · skip
        by_cases k3 : C = 0
        · skip
          exact ref_path (dc := .int .u8 13) rfl (congrFun (congrFun (congrFun (congrFun rq13_112 A) B) C) N) (by simp [allP, inB]; omega) (by rw [show rightF 13 A B C N = _ from shape_eq (k := 13) rfl A B C N, Bool.eq_iff_iff]; simp [inR, loL, hiL]; omega)
        · skip
          exact ref_path (dc := .int .u8 13) rfl (congrFun (congrFun (congrFun (congrFun rq13_113 A) B) C) N) (by simp [allP, inB]; omega) (by rw [show rightF 13 A B C N = _ from shape_eq (k := 13) rfl A B C N, Bool.eq_iff_iff]; simp [inR, loL, hiL]; omega)
      · skip
        exact ref_path (dc := .int .u8 13) rfl (congrFun (congrFun (congrFun (congrFun rq13_114 A) B) C) N) (by simp [allP, inB]; omega) (by rw [show rightF 13 A B C N = _ from shape_eq (k := 13) rfl A B C N, Bool.eq_iff_iff]; simp [inR, loL, hiL]; omega)
    · skip
      exact ref_path (dc := .int .u8 13) rfl (congrFun (congrFun (congrFun (congrFun rq13_115 A) B) C) N) (by simp [allP, inB]; omega) (by rw [show rightF 13 A B C N = _ from shape_eq (k := 13) rfl A B C N, Bool.eq_iff_iff]; simp [inR, loL, hiL]; omega)
  · by_cases h2 : A = 0
    · skip
      by_cases k2 : B = 0
      · skip
        by_cases k3 : C = 0
        · skip
          exact ref_path (dc := .int .u8 13) rfl (congrFun (congrFun (congrFun (congrFun rq13_116 A) B) C) N) (by simp [allP, inB]; omega) (by rw [show rightF 13 A B C N = _ from shape_eq (k := 13) rfl A B C N, Bool.eq_iff_iff]; simp [inR, loL, hiL]; omega)
        · skip
          exact ref_path (dc := .int .u8 13) rfl (congrFun (congrFun (congrFun (congrFun rq13_117 A) B) C) N) (by simp [allP, inB]; omega) (by rw [show rightF 13 A B C N = _ from shape_eq (k := 13) rfl A B C N, Bool.eq_iff_iff]; simp [inR, loL, hiL]; omega)
      · skip
        exact ref_path (dc := .int .u8 13) rfl (congrFun (congrFun (congrFun (congrFun rq13_118 A) B) C) N) (by simp [allP, inB]; omega) (by rw [show rightF 13 A B C N = _ from shape_eq (k := 13) rfl A B C N, Bool.eq_iff_iff]; simp [inR, loL, hiL]; omega)
    · skip
      exact ref_path (dc := .int .u8 13) rfl (congrFun (congrFun (congrFun (congrFun rq13_119 A) B) C) N) (by simp [allP, inB]; omega) (by rw [show rightF 13 A B C N = _ from shape_eq (k := 13) rfl A B C N, Bool.eq_iff_iff]; simp [inR, loL, hiL]; omega)
theorem rq0 (A B C N : Int) : Makes Try.prog 19 [.agg #[.int .u8 0, .int .i64 A, .int .i64 B, .int .i64 C, .int .i64 N]] (.v (.one (.sbool (rightF 0 A B C N)))) [] := by
  by_cases h1 : 0 ≤ A ∧ A ≤ 127
  · by_cases h2 : A = 0
    · skip
      exact ref_path (dc := .int .u8 0) rfl (congrFun (congrFun (congrFun (congrFun rq0_120 A) B) C) N) (by simp [allP, inB]; omega) rfl
    · skip
      exact ref_path (dc := .int .u8 0) rfl (congrFun (congrFun (congrFun (congrFun rq0_121 A) B) C) N) (by simp [allP, inB]; omega) rfl
  · by_cases h2 : A = 0
    · skip
      exact ref_path (dc := .int .u8 0) rfl (congrFun (congrFun (congrFun (congrFun rq0_122 A) B) C) N) (by simp [allP, inB]; omega) rfl
    · skip
      exact ref_path (dc := .int .u8 0) rfl (congrFun (congrFun (congrFun (congrFun rq0_123 A) B) C) N) (by simp [allP, inB]; omega) rfl
theorem rqD (d A B C N : Int) (hd : 14 ≤ d) (_h : d < 256) : Makes Try.prog 19 [.agg #[.int .u8 d, .int .i64 A, .int .i64 B, .int .i64 C, .int .i64 N]] (.v (.one (.sbool (rightF d A B C N)))) [] := by
  have hF : rightF d A B C N = false := by
    unfold rightF
    have : shapeL d.toNat = [] := by unfold shapeL; rw [List.getD, List.getElem?_eq_none (by simp; omega)]; rfl
    rw [this]
  by_cases h1 : 0 ≤ A ∧ A ≤ 127
  · by_cases h2 : A = 0
    · skip
      exact ref_path (dc := .sint .u8 d) rfl (congrFun (congrFun (congrFun (congrFun (congrFun rqD_124 d) A) B) C) N) (by simp [allP, inB]; omega) hF.symm
    · skip
      exact ref_path (dc := .sint .u8 d) rfl (congrFun (congrFun (congrFun (congrFun (congrFun rqD_125 d) A) B) C) N) (by simp [allP, inB]; omega) hF.symm
  · by_cases h2 : A = 0
    · skip
      exact ref_path (dc := .sint .u8 d) rfl (congrFun (congrFun (congrFun (congrFun (congrFun rqD_126 d) A) B) C) N) (by simp [allP, inB]; omega) hF.symm
    · skip
      exact ref_path (dc := .sint .u8 d) rfl (congrFun (congrFun (congrFun (congrFun (congrFun rqD_127 d) A) B) C) N) (by simp [allP, inB]; omega) hF.symm
theorem rightref_makes (d A B C N : Int) (hd : 0 ≤ d ∧ d < 256) : Makes Try.prog 19 [.agg #[.int .u8 d, .int .i64 A, .int .i64 B, .int .i64 C, .int .i64 N]] (.v (.one (.sbool (rightF d A B C N)))) [] := by
  by_cases h : 14 ≤ d
  · exact rqD d A B C N h hd.2
  · have : d = 0 ∨ d = 1 ∨ d = 2 ∨ d = 3 ∨ d = 4 ∨ d = 5 ∨ d = 6 ∨ d = 7 ∨ d = 8 ∨ d = 9 ∨ d = 10 ∨ d = 11 ∨ d = 12 ∨ d = 13 := by omega
    rcases this with rfl | rfl | rfl | rfl | rfl | rfl | rfl | rfl | rfl | rfl | rfl | rfl | rfl | rfl
    · exact rq0 A B C N
    · exact rq1 A B C N
    · exact rq2 A B C N
    · exact rq3 A B C N
    · exact rq4 A B C N
    · exact rq5 A B C N
    · exact rq6 A B C N
    · exact rq7 A B C N
    · exact rq8 A B C N
    · exact rq9 A B C N
    · exact rq10 A B C N
    · exact rq11 A B C N
    · exact rq12 A B C N
    · exact rq13 A B C N
theorem rightref_tab : TabOk Try.prog 19 (loc (fun _ => []) gRight) := loc_ok fun xs bs v bs' ob hg hob hok => by
  clear hok
  unfold gRight at hg
  split at hg
  · rename_i v0
    split at hg
    · rename_i d A B C N hc
      injection hg with hg; injection hg with e1 e2; injection e2 with e2 e3
      subst e1; subst e2; subst e3
      refine Makes.works (rightref_makes d A B C N (hob _ (by simp))) (fun ρ us' hr => ?_) rfl
      obtain ⟨u, s, rfl, h1, h2⟩ := hr
      simp only [relVs] at h2; subst h2
      rw [cmdOf_rel hc h1]
    · cases hg
  · cases hg
end
section
open Go.Sx
def tabT := tabs [(19, loc (fun _ => []) gRight), (24, loc wantRo (putR .i64 svint i64))]
noncomputable def callT (d : Nat) := callN Try.prog tabT (fun _ => false) 100000 d
theorem tbNo : (fun (d x y z m : Int) => retV [] (callT 4 12 [cmdS d x y z m] [] [true])) = fun (d : Int) (x : Int) (y : Int) (z : Int) (m : Int) => some (((V.tup [(V1.one (C.nils)), (V1.one (C.int (IntKind.i64) ((109 : Int))))]), ([], [(!rightF d x y z m) = true, (0 : Int) ≤ d ∧ d < (256 : Int)]))) := by kernel_rfl
theorem tbYes : (fun (d x y z m : Int) => retV [5] (callT 4 12 [cmdS d x y z m] [] [false])) = fun (d : Int) (x : Int) (y : Int) (z : Int) (m : Int) => some (((V.tup [(V1.one (C.slice ((5 : Nat)) (N.c ((0 : Nat))) ((1 : Nat)) (N.s (List.length ([d] ++ svint x ++ svint y ++ svint z ++ svint m))) (N.s (List.length ([d] ++ svint x ++ svint y ++ svint z ++ svint m))))), (V1.one (C.int (IntKind.i64) ((0 : Int))))]), ([(SB.mk (true) (Cells.ints (IntKind.u8) ([d] ++ svint x ++ svint y ++ svint z ++ svint m)))], [i64 m, List.length ([d] ++ svint x ++ svint y ++ svint z) = List.length ([d] ++ svint x ++ svint y ++ svint z), List.length ([d] ++ svint x ++ svint y ++ svint z) + (10 : Nat) ≤ (140737488355328 : Nat), i64 z, List.length ([d] ++ svint x ++ svint y) = List.length ([d] ++ svint x ++ svint y), List.length ([d] ++ svint x ++ svint y) + (10 : Nat) ≤ (140737488355328 : Nat), i64 y, List.length ([d] ++ svint x) = List.length ([d] ++ svint x), List.length ([d] ++ svint x) + (10 : Nat) ≤ (140737488355328 : Nat), i64 x, (1 : Nat) = List.length [d], List.length [d] + (10 : Nat) ≤ (140737488355328 : Nat), (!rightF d x y z m) = false, (0 : Int) ≤ d ∧ d < (256 : Int)]))) := by kernel_rfl
end
section
open Go.ChangeShapes Go.WideShapes Go.ChangeAt Go.RowKit Go.Sx
theorem tabT_ok : ∀ f g, tabT f = some g → TabOk Try.prog f g := tabs_ok fun x hx => by
  simp only [List.mem_cons, List.not_mem_nil, or_false] at hx
  rcases hx with rfl | rfl
  · exact rightref_tab
  · exact ri_tab
theorem bytesref_tab : TabOk Try.prog 12 (fresh gBytes) := gBytes_ok
  (fun d A B C N hd hr => by
    obtain ⟨h1, h2, h3, h4⟩ := right_le hr
    have hl := cmdB_len hr
    have q := congrFun (congrFun (congrFun (congrFun (congrFun tbYes d) A) B) C) N
    refine makes_of (v := .tup [bsV 0 (cmdB d A B C N), .one (.int .i64 0)]) (bs := [⟨true, .ints .u8 (cmdB d A B C N)⟩]) tabT_ok q ?_ (by simp)
      ⟨⟨rfl, rfl, rfl, rfl, Nat.le_refl _, Nat.le_refl _⟩, ⟨rfl, rfl⟩, trivial⟩ ⟨⟨fun h => h, rfl, rfl⟩, trivial⟩ (cmd_rel (dc := .sint .u8 d) A B C N rfl)
    simp only [cmdB, List.length_append, List.length_singleton] at hl
    have i1 : i64 A := by unfold i64; omega
    have i2 : i64 B := by unfold i64; omega
    have i3 : i64 C := by unfold i64; omega
    have i4 : i64 N := by unfold i64; omega
    simp only [allP, List.length_append, List.length_singleton, hr]
    repeat' (first | exact trivial | exact i1 | exact i2 | exact i3 | exact i4 | exact hd | refine And.intro ?_ ?_)
    all_goals first | omega | rfl)
  (fun d A B C N hd hr => by
    have q := congrFun (congrFun (congrFun (congrFun (congrFun tbNo d) A) B) C) N
    exact makes_of (v := .tup [.one .nils, .one (.int .i64 109)]) (bs := []) tabT_ok q (by simp [allP, hr, hd]) (by simp)
      ⟨trivial, ⟨rfl, rfl⟩, trivial⟩ trivial (cmd_rel (dc := .sint .u8 d) A B C N rfl))
end
section
open Go.Sx
def tabRq (F : GI) := tabs [(26, loc wantRo (gGetIF F)), (19, loc (fun _ => []) gRight)]
noncomputable def callRq (F : GI) (d : Nat) := callN Try.prog (tabRq F) (fun _ => false) 100000 d
noncomputable def FRq : Go.Func := match Try.prog.funcs[14]? with | some fn => fn | none => default
noncomputable def cutQ (F : GI) (l : List Int) (n c : Nat) := run Try.prog (callRq F 4) (fun _ => false) FRq 0 104 [] [.code (bodyF 14)] ⟨argSlots 0 [bsl 0 n c], [roB l], List.replicate 13 false, []⟩
noncomputable def KQ : List Item := match cutQ (fun _ _ _ => (0, 0, 0)) [] 0 0 with | .stop k _ => k | _ => []
theorem rqC : (fun (F : GI) (l : List Int) (n c : Nat) => stopV [0, 2, 4, 5, 6] [0, 1, 2, 3] (cutQ F l n c)) = fun (F : GI) (l : List Int) (n c : Nat) => some (KQ, [(0, bsl 0 n c), (2, .v (.one (.ptr 1 (.c 0) 1 0))), (4, .v (.one (.ptr 2 (.c 0) 1 0))), (5, si .i64 (tR F l n 4)), (6, .v (.one (.slice 3 (.c 0) 1 (.c 4) (.c 4))))],
  [roB l, ⟨true, .exp [.int .u8 0, .int .i64 0, .int .i64 0, .int .i64 0, .int .i64 0]⟩, ⟨true, .exp [.sint .u8 (l.getD 0 0), .int .i64 0, .int .i64 0, .int .i64 0, .int .i64 0]⟩, ⟨true, .exp [.sint .i64 (gR F l n 0).1, .sint .i64 (gR F l n 1).1, .sint .i64 (gR F l n 2).1, .sint .i64 (gR F l n 3).1]⟩], okR F l n 4) := by kernel_rfl
def TQ (l : List Int) (n c : Nat) (d x y z m t : Int) (h : List Bool) : St := ⟨[(0, bsl 0 n c), (2, .v (.one (.ptr 1 (.c 0) 1 0))), (4, .v (.one (.ptr 2 (.c 0) 1 0))), (5, si .i64 t), (6, .v (.one (.slice 3 (.c 0) 1 (.c 4) (.c 4))))],
  [roB l, ⟨true, .exp [.int .u8 0, .int .i64 0, .int .i64 0, .int .i64 0, .int .i64 0]⟩, ⟨true, .exp [.sint .u8 d, .int .i64 0, .int .i64 0, .int .i64 0, .int .i64 0]⟩, ⟨true, .exp [.sint .i64 x, .sint .i64 y, .sint .i64 z, .sint .i64 m]⟩], h, []⟩
noncomputable def restQ (F : GI) (l : List Int) (n c : Nat) (d x y z m t : Int) (h : List Bool) := endV [0] (run Try.prog (callRq F 4) (fun _ => false) FRq 0 100000 [] KQ (TQ l n c d x y z m t h))
theorem rqX : (fun (F : GI) (l : List Int) (n c : Nat) (d x y z m t : Int) => restQ F l n c d x y z m t [true]) = fun (_ : GI) (l : List Int) (n : Nat) (c : Nat) (d : Int) (x : Int) (y : Int) (z : Int) (m : Int) (t : Int) => some (((V.tup [(V1.agg [(C.int (IntKind.u8) ((0 : Int))), (C.int (IntKind.i64) ((0 : Int))), (C.int (IntKind.i64) ((0 : Int))), (C.int (IntKind.i64) ((0 : Int))), (C.int (IntKind.i64) ((0 : Int)))]), (V1.one (C.int (IntKind.i64) ((109 : Int))))]), ([(SB.mk (false) (Cells.ints (IntKind.u8) (l)))], [(!decide (t = (↑n : Int))) = true, l = l, d = d, x = x, y = y, z = z, m = m, x = x, y = y, z = z, m = m, m = m, z = z, y = y, x = x, n = n, c = c, t = t, l = l, d = d, x = x, y = y, z = z, m = m, x = x, y = y, z = z, m = m, m = m, z = z, y = y, x = x, n = n, c = c, t = t, l = l, d = d, x = x, y = y, z = z, m = m, x = x, y = y, z = z, m = m, m = m, z = z, y = y, x = x, n = n, c = c, t = t, l = l, d = d, x = x, y = y, z = z, m = m, x = x, y = y, z = z, m = m, m = m, z = z, y = y, x = x, n = n, c = c, t = t, l = l, d = d, x = x, y = y, z = z, m = m, x = x, y = y, z = z, m = m, m = m, z = z, y = y, x = x, n = n, c = c, t = t, l = l, d = d, x = x, y = y, z = z, m = m, x = x, y = y, z = z, m = m, m = m, z = z, y = y, x = x, n = n, c = c, t = t, l = l, d = d, x = x, y = y, z = z, m = m, x = x, y = y, z = z, m = m, m = m, z = z, y = y, x = x, n = n, c = c, t = t, m = m, l = l, d = d, x = x, y = y, z = z, m = m, x = x, y = y, z = z, m = m, z = z, m = m, y = y, x = x, n = n, c = c, t = t, z = z, l = l, d = d, x = x, y = y, z = z, m = m, x = x, y = y, z = z, m = m, m = m, z = z, y = y, x = x, n = n, c = c, t = t, l = l, d = d, x = x, y = y, z = z, m = m, x = x, y = y, z = z, m = m, m = m, z = z, y = y, x = x, n = n, c = c, t = t, l = l, d = d, x = x, y = y, z = z, m = m, x = x, y = y, z = z, m = m, m = m, z = z, y = y, x = x, n = n, c = c, t = t, m = m, z = z, m = m, l = l, d = d, x = x, y = y, z = z, m = m, x = x, y = y, z = z, m = m, m = m, y = y, z = z, x = x, n = n, c = c, t = t, l = l, d = d, x = x, y = y, z = z, m = m, x = x, y = y, z = z, m = m, m = m, y = y, z = z, x = x, n = n, c = c, t = t, l = l, d = d, x = x, y = y, z = z, m = m, x = x, y = y, z = z, m = m, m = m, y = y, z = z, x = x, n = n, c = c, t = t, l = l, d = d, x = x, y = y, z = z, m = m, x = x, y = y, z = z, m = m, m = m, y = y, z = z, x = x, n = n, c = c, t = t, m = m, y = y, l = l, d = d, x = x, y = y, z = z, m = m, x = x, y = y, z = z, m = m, m = m, y = y, z = z, x = x, n = n, c = c, t = t, m = m, l = l, d = d, x = x, y = y, z = z, m = m, x = x, y = y, z = z, m = m, z = z, y = y, m = m, x = x, n = n, c = c, t = t, l = l, d = d, x = x, y = y, z = z, m = m, x = x, y = y, z = z, m = m, z = z, y = y, m = m, x = x, n = n, c = c, t = t, l = l, d = d, x = x, y = y, z = z, m = m, x = x, y = y, z = z, m = m, z = z, y = y, m = m, x = x, n = n, c = c, t = t, z = z, y = y, z = z, l = l, d = d, x = x, y = y, z = z, m = m, x = x, y = y, z = z, m = m, m = m, z = z, y = y, x = x, n = n, c = c, t = t, l = l, d = d, x = x, y = y, z = z, m = m, x = x, y = y, z = z, m = m, m = m, z = z, y = y, x = x, n = n, c = c, t = t, l = l, d = d, x = x, y = y, z = z, m = m, x = x, y = y, z = z, m = m, m = m, z = z, y = y, x = x, n = n, c = c, t = t, m = m, z = z, m = m]))) := by kernel_rfl
theorem rqY : (fun (F : GI) (l : List Int) (n c : Nat) (d x y z m t : Int) => restQ F l n c d x y z m t [false, true]) = fun (_ : GI) (l : List Int) (n : Nat) (c : Nat) (d : Int) (x : Int) (y : Int) (z : Int) (m : Int) (t : Int) => some (((V.tup [(V1.agg [(C.int (IntKind.u8) ((0 : Int))), (C.int (IntKind.i64) ((0 : Int))), (C.int (IntKind.i64) ((0 : Int))), (C.int (IntKind.i64) ((0 : Int))), (C.int (IntKind.i64) ((0 : Int)))]), (V1.one (C.int (IntKind.i64) ((109 : Int))))]), ([(SB.mk (false) (Cells.ints (IntKind.u8) (l)))], [(!rightF d x y z m) = true, (0 : Int) ≤ d ∧ d < (256 : Int), (!decide (t = (↑n : Int))) = false, l = l, d = d, x = x, y = y, z = z, m = m, x = x, y = y, z = z, m = m, m = m, z = z, y = y, x = x, n = n, c = c, t = t, l = l, d = d, x = x, y = y, z = z, m = m, x = x, y = y, z = z, m = m, m = m, z = z, y = y, x = x, n = n, c = c, t = t, l = l, d = d, x = x, y = y, z = z, m = m, x = x, y = y, z = z, m = m, m = m, z = z, y = y, x = x, n = n, c = c, t = t, l = l, d = d, x = x, y = y, z = z, m = m, x = x, y = y, z = z, m = m, m = m, z = z, y = y, x = x, n = n, c = c, t = t, l = l, d = d, x = x, y = y, z = z, m = m, x = x, y = y, z = z, m = m, m = m, z = z, y = y, x = x, n = n, c = c, t = t, l = l, d = d, x = x, y = y, z = z, m = m, x = x, y = y, z = z, m = m, m = m, z = z, y = y, x = x, n = n, c = c, t = t, l = l, d = d, x = x, y = y, z = z, m = m, x = x, y = y, z = z, m = m, m = m, z = z, y = y, x = x, n = n, c = c, t = t, m = m, l = l, d = d, x = x, y = y, z = z, m = m, x = x, y = y, z = z, m = m, z = z, m = m, y = y, x = x, n = n, c = c, t = t, z = z, l = l, d = d, x = x, y = y, z = z, m = m, x = x, y = y, z = z, m = m, m = m, z = z, y = y, x = x, n = n, c = c, t = t, l = l, d = d, x = x, y = y, z = z, m = m, x = x, y = y, z = z, m = m, m = m, z = z, y = y, x = x, n = n, c = c, t = t, l = l, d = d, x = x, y = y, z = z, m = m, x = x, y = y, z = z, m = m, m = m, z = z, y = y, x = x, n = n, c = c, t = t, m = m, z = z, m = m, l = l, d = d, x = x, y = y, z = z, m = m, x = x, y = y, z = z, m = m, m = m, y = y, z = z, x = x, n = n, c = c, t = t, l = l, d = d, x = x, y = y, z = z, m = m, x = x, y = y, z = z, m = m, m = m, y = y, z = z, x = x, n = n, c = c, t = t, l = l, d = d, x = x, y = y, z = z, m = m, x = x, y = y, z = z, m = m, m = m, y = y, z = z, x = x, n = n, c = c, t = t, l = l, d = d, x = x, y = y, z = z, m = m, x = x, y = y, z = z, m = m, m = m, y = y, z = z, x = x, n = n, c = c, t = t, m = m, y = y, l = l, d = d, x = x, y = y, z = z, m = m, x = x, y = y, z = z, m = m, m = m, y = y, z = z, x = x, n = n, c = c, t = t, m = m, l = l, d = d, x = x, y = y, z = z, m = m, x = x, y = y, z = z, m = m, z = z, y = y, m = m, x = x, n = n, c = c, t = t, l = l, d = d, x = x, y = y, z = z, m = m, x = x, y = y, z = z, m = m, z = z, y = y, m = m, x = x, n = n, c = c, t = t, l = l, d = d, x = x, y = y, z = z, m = m, x = x, y = y, z = z, m = m, z = z, y = y, m = m, x = x, n = n, c = c, t = t, z = z, y = y, z = z, l = l, d = d, x = x, y = y, z = z, m = m, x = x, y = y, z = z, m = m, m = m, z = z, y = y, x = x, n = n, c = c, t = t, l = l, d = d, x = x, y = y, z = z, m = m, x = x, y = y, z = z, m = m, m = m, z = z, y = y, x = x, n = n, c = c, t = t, l = l, d = d, x = x, y = y, z = z, m = m, x = x, y = y, z = z, m = m, m = m, z = z, y = y, x = x, n = n, c = c, t = t, m = m, z = z, m = m]))) := by kernel_rfl
theorem rqZ : (fun (F : GI) (l : List Int) (n c : Nat) (d x y z m t : Int) => restQ F l n c d x y z m t [false, false]) = fun (_ : GI) (l : List Int) (n : Nat) (c : Nat) (d : Int) (x : Int) (y : Int) (z : Int) (m : Int) (t : Int) => some (((V.tup [(V1.agg [(C.sint (IntKind.u8) (d)), (C.sint (IntKind.i64) (x)), (C.sint (IntKind.i64) (y)), (C.sint (IntKind.i64) (z)), (C.sint (IntKind.i64) (m))]), (V1.one (C.int (IntKind.i64) ((0 : Int))))]), ([(SB.mk (false) (Cells.ints (IntKind.u8) (l)))], [(!rightF d x y z m) = false, (0 : Int) ≤ d ∧ d < (256 : Int), (!decide (t = (↑n : Int))) = false, l = l, d = d, x = x, y = y, z = z, m = m, x = x, y = y, z = z, m = m, m = m, z = z, y = y, x = x, n = n, c = c, t = t, l = l, d = d, x = x, y = y, z = z, m = m, x = x, y = y, z = z, m = m, m = m, z = z, y = y, x = x, n = n, c = c, t = t, l = l, d = d, x = x, y = y, z = z, m = m, x = x, y = y, z = z, m = m, m = m, z = z, y = y, x = x, n = n, c = c, t = t, l = l, d = d, x = x, y = y, z = z, m = m, x = x, y = y, z = z, m = m, m = m, z = z, y = y, x = x, n = n, c = c, t = t, l = l, d = d, x = x, y = y, z = z, m = m, x = x, y = y, z = z, m = m, m = m, z = z, y = y, x = x, n = n, c = c, t = t, l = l, d = d, x = x, y = y, z = z, m = m, x = x, y = y, z = z, m = m, m = m, z = z, y = y, x = x, n = n, c = c, t = t, l = l, d = d, x = x, y = y, z = z, m = m, x = x, y = y, z = z, m = m, m = m, z = z, y = y, x = x, n = n, c = c, t = t, m = m, l = l, d = d, x = x, y = y, z = z, m = m, x = x, y = y, z = z, m = m, z = z, m = m, y = y, x = x, n = n, c = c, t = t, z = z, l = l, d = d, x = x, y = y, z = z, m = m, x = x, y = y, z = z, m = m, m = m, z = z, y = y, x = x, n = n, c = c, t = t, l = l, d = d, x = x, y = y, z = z, m = m, x = x, y = y, z = z, m = m, m = m, z = z, y = y, x = x, n = n, c = c, t = t, l = l, d = d, x = x, y = y, z = z, m = m, x = x, y = y, z = z, m = m, m = m, z = z, y = y, x = x, n = n, c = c, t = t, m = m, z = z, m = m, l = l, d = d, x = x, y = y, z = z, m = m, x = x, y = y, z = z, m = m, m = m, y = y, z = z, x = x, n = n, c = c, t = t, l = l, d = d, x = x, y = y, z = z, m = m, x = x, y = y, z = z, m = m, m = m, y = y, z = z, x = x, n = n, c = c, t = t, l = l, d = d, x = x, y = y, z = z, m = m, x = x, y = y, z = z, m = m, m = m, y = y, z = z, x = x, n = n, c = c, t = t, l = l, d = d, x = x, y = y, z = z, m = m, x = x, y = y, z = z, m = m, m = m, y = y, z = z, x = x, n = n, c = c, t = t, m = m, y = y, l = l, d = d, x = x, y = y, z = z, m = m, x = x, y = y, z = z, m = m, m = m, y = y, z = z, x = x, n = n, c = c, t = t, m = m, l = l, d = d, x = x, y = y, z = z, m = m, x = x, y = y, z = z, m = m, z = z, y = y, m = m, x = x, n = n, c = c, t = t, l = l, d = d, x = x, y = y, z = z, m = m, x = x, y = y, z = z, m = m, z = z, y = y, m = m, x = x, n = n, c = c, t = t, l = l, d = d, x = x, y = y, z = z, m = m, x = x, y = y, z = z, m = m, z = z, y = y, m = m, x = x, n = n, c = c, t = t, z = z, y = y, z = z, l = l, d = d, x = x, y = y, z = z, m = m, x = x, y = y, z = z, m = m, m = m, z = z, y = y, x = x, n = n, c = c, t = t, l = l, d = d, x = x, y = y, z = z, m = m, x = x, y = y, z = z, m = m, m = m, z = z, y = y, x = x, n = n, c = c, t = t, l = l, d = d, x = x, y = y, z = z, m = m, x = x, y = y, z = z, m = m, m = m, z = z, y = y, x = x, n = n, c = c, t = t, m = m, z = z, m = m]))) := by kernel_rfl
noncomputable def rdq (F : GI) (l : List Int) (n c : Nat) (h : List Bool) := retV [0] (callRq F 5 14 [bsl 0 n c] [roB l] h)
theorem qd0 : (fun F l n c => rdq F l n c [true]) = fun (_ : GI) (l : List Int) (n : Nat) (_ : Nat) => some (noR, [roB l], [decide ((n : Int) = 0) = true]) := by kernel_rfl
theorem qd10 : (fun F l n c => rdq F l n c (List.replicate 1 false ++ [true])) = fun (F : GI) (l : List Int) (n : Nat) (_ : Nat) => some (noR, [roB l], f1R F l n 0) := by kernel_rfl
theorem qd20 : (fun F l n c => rdq F l n c (List.replicate 1 false ++ [false, true])) = fun (F : GI) (l : List Int) (n : Nat) (_ : Nat) => some (noR, [roB l], f2R F l n 0) := by kernel_rfl
theorem qd30 : (fun F l n c => rdq F l n c (List.replicate 1 false ++ [false, false, true])) = fun (F : GI) (l : List Int) (n : Nat) (_ : Nat) => some (noR, [roB l], f3R F l n 0) := by kernel_rfl
theorem qd11 : (fun F l n c => rdq F l n c (List.replicate 4 false ++ [true])) = fun (F : GI) (l : List Int) (n : Nat) (_ : Nat) => some (noR, [roB l], f1R F l n 1) := by kernel_rfl
theorem qd21 : (fun F l n c => rdq F l n c (List.replicate 4 false ++ [false, true])) = fun (F : GI) (l : List Int) (n : Nat) (_ : Nat) => some (noR, [roB l], f2R F l n 1) := by kernel_rfl
theorem qd31 : (fun F l n c => rdq F l n c (List.replicate 4 false ++ [false, false, true])) = fun (F : GI) (l : List Int) (n : Nat) (_ : Nat) => some (noR, [roB l], f3R F l n 1) := by kernel_rfl
theorem qd12 : (fun F l n c => rdq F l n c (List.replicate 7 false ++ [true])) = fun (F : GI) (l : List Int) (n : Nat) (_ : Nat) => some (noR, [roB l], f1R F l n 2) := by kernel_rfl
theorem qd22 : (fun F l n c => rdq F l n c (List.replicate 7 false ++ [false, true])) = fun (F : GI) (l : List Int) (n : Nat) (_ : Nat) => some (noR, [roB l], f2R F l n 2) := by kernel_rfl
theorem qd32 : (fun F l n c => rdq F l n c (List.replicate 7 false ++ [false, false, true])) = fun (F : GI) (l : List Int) (n : Nat) (_ : Nat) => some (noR, [roB l], f3R F l n 2) := by kernel_rfl
theorem qd13 : (fun F l n c => rdq F l n c (List.replicate 10 false ++ [true])) = fun (F : GI) (l : List Int) (n : Nat) (_ : Nat) => some (noR, [roB l], f1R F l n 3) := by kernel_rfl
theorem qd23 : (fun F l n c => rdq F l n c (List.replicate 10 false ++ [false, true])) = fun (F : GI) (l : List Int) (n : Nat) (_ : Nat) => some (noR, [roB l], f2R F l n 3) := by kernel_rfl
theorem qd33 : (fun F l n c => rdq F l n c (List.replicate 10 false ++ [false, false, true])) = fun (F : GI) (l : List Int) (n : Nat) (_ : Nat) => some (noR, [roB l], f3R F l n 3) := by kernel_rfl
theorem qd1_all (F : GI) (l : List Int) (n c : Nat) : ∀ i, i < 4 → rdq F l n c (List.replicate (1 + 3 * i) false ++ [true]) = some (noR, [roB l], f1R F l n i)
  | 0, _ => congrFun (congrFun (congrFun (congrFun qd10 F) l) n) c
  | 1, _ => congrFun (congrFun (congrFun (congrFun qd11 F) l) n) c
  | 2, _ => congrFun (congrFun (congrFun (congrFun qd12 F) l) n) c
  | 3, _ => congrFun (congrFun (congrFun (congrFun qd13 F) l) n) c
  | _ + 4, h => absurd h (by omega)
theorem qd2_all (F : GI) (l : List Int) (n c : Nat) : ∀ i, i < 4 → rdq F l n c (List.replicate (1 + 3 * i) false ++ [false, true]) = some (noR, [roB l], f2R F l n i)
  | 0, _ => congrFun (congrFun (congrFun (congrFun qd20 F) l) n) c
  | 1, _ => congrFun (congrFun (congrFun (congrFun qd21 F) l) n) c
  | 2, _ => congrFun (congrFun (congrFun (congrFun qd22 F) l) n) c
  | 3, _ => congrFun (congrFun (congrFun (congrFun qd23 F) l) n) c
  | _ + 4, h => absurd h (by omega)
theorem qd3_all (F : GI) (l : List Int) (n c : Nat) : ∀ i, i < 4 → rdq F l n c (List.replicate (1 + 3 * i) false ++ [false, false, true]) = some (noR, [roB l], f3R F l n i)
  | 0, _ => congrFun (congrFun (congrFun (congrFun qd30 F) l) n) c
  | 1, _ => congrFun (congrFun (congrFun (congrFun qd31 F) l) n) c
  | 2, _ => congrFun (congrFun (congrFun (congrFun qd32 F) l) n) c
  | 3, _ => congrFun (congrFun (congrFun (congrFun qd33 F) l) n) c
  | _ + 4, h => absurd h (by omega)
end
section
open Go.ChangeShapes Go.WideShapes Go.ChangeAt Go.RowKit Go.Sx
theorem tabRq_ok : ∀ f g, tabRq getI f = some g → TabOk Try.prog f g := tabs_ok fun x hx => by
  simp only [List.mem_cons, List.not_mem_nil, or_false] at hx
  rcases hx with rfl | rfl
  · refine loc_ok fun xs bs v bs' ob hg hob hokb => ?_
    unfold gGetIF at hg
    split at hg
    · rename_i n c a k l
      split at hg
      · rename_i hk
        injection hg with hg; injection hg with e1 e2; injection e2 with e2 e3
        subst e1; subst e2; subst e3
        have hk' : k = .u8 := of_decide_eq_true hk
        subst hk'
        exact getrefi_works l n c a (hob _ (by simp)) (hob (n ≤ 1000000000) (by simp)) (hob (wfB l) (by simp))
      · cases hg
    · cases hg
  · exact rightref_tab
theorem callRq_ok (d : Nat) : CallOk Try.prog (callRq getI d) := callN_sound tabRq_ok d
theorem funRq : Try.prog.funcs[14]? = some FRq := by kernel_rfl
theorem bodRq : FRq.body = some (bodyF 14) := by kernel_rfl
theorem tmpRq : 1 ≤ FRq.ntmps := Nat.le_of_ble_eq_true (by kernel_rfl)
set_option maxRecDepth 100000 in
set_option maxHeartbeats 2000000 in
theorem readref_works (l : List Int) (n c : Nat) (hn : n ≤ l.length) (hm : n ≤ 1000000000) (hw : wfB l) : Works Try.prog 14 [bsl 0 n c] [roB l] (tupC (readC l n) (readE l n)) [roB l] := capG_works fun hc => by
  have no : ∀ (h : List Bool) (ob : List Prop), ¬ readOk l n → rdq getI l n c h = some (noR, [roB l], ob) → allP ob → Works Try.prog 14 [bsl 0 n c] [roB l] (tupC (readC l n) (readE l n)) [roB l] := by
    intro h ob hno hr hob
    unfold readC readE
    rw [if_neg hno, if_neg hno]
    exact works_of (r := []) tabRq_ok hr hob ndG (by simp [noR, tupC, leV, leL1, leV1, leL, leC]) (leG l)
  by_cases h0 : n = 0
  · exact no [true] _ (fun h => by have := h.1; omega) (congrFun (congrFun (congrFun (congrFun qd0 getI) l) n) c) ⟨decide_eq_true (by omega), trivial⟩
  have hp : 0 < n := by omega
  have bad : ∀ i, i < 4 → (∀ j, j < i → good l n j) → ¬ good l n i → ¬ readOk l n → Works Try.prog 14 [bsl 0 n c] [roB l] (tupC (readC l n) (readE l n)) [roB l] := by
    intro i hi hb hg hno
    have hk := okR_ok hp hn hm hw hb
    by_cases e1 : (gR getI l n i).2.2 = 0
    · have d1 : (!decide ((gR getI l n i).2.2 = 0)) = false := by rw [decide_eq_true e1]; rfl
      by_cases e2 : (gR getI l n i).1 < -1
      · exact no _ _ hno (qd2_all getI l n c i hi) ⟨decide_eq_true e2, d1, baseR_ok hn hm hw hk⟩
      · by_cases e3 : 1073741824 < (gR getI l n i).1
        · exact no _ _ hno (qd3_all getI l n c i hi) ⟨decide_eq_true e3, decide_eq_false e2, d1, baseR_ok hn hm hw hk⟩
        · exact absurd ⟨e1, by omega, by omega⟩ hg
    · exact no _ _ hno (qd1_all getI l n c i hi) ⟨by rw [decide_eq_false e1]; rfl, baseR_ok hn hm hw hk⟩
  by_cases g0 : good l n 0
  · by_cases g1 : good l n 1
    · by_cases g2 : good l n 2
      · by_cases g3 : good l n 3
        · have hk : allP (okR getI l n 4) := okR_ok hp hn hm hw fun j hj => by
            have : j = 0 ∨ j = 1 ∨ j = 2 ∨ j = 3 := by omega
            rcases this with rfl | rfl | rfl | rfl
            · exact g0
            · exact g1
            · exact g2
            · exact g3
          have fin : ∀ (v : V) (h : List Bool) (v0 : V) (ob : List Prop), restQ getI l n c (l.getD 0 0) (gR getI l n 0).1 (gR getI l n 1).1 (gR getI l n 2).1 (gR getI l n 3).1 (tR getI l n 4) h = some (v0, [roB l], ob) → allP ob → leV (List.range 1 ++ []) v0 v → Works Try.prog 14 [bsl 0 n c] [roB l] v [roB l] := by
            intro v h v0 ob hq hob hv
            refine works_goes funRq bodRq (by exact tmpRq) fun ρ K W a w hρ hr => ?_
            refine goes_stop (ρ0 := ρ) (callRq_ok 4) funRq (T := TQ l n c (l.getD 0 0) (gR getI l n 0).1 (gR getI l n 1).1 (gR getI l n 2).1 (gR getI l n 3).1 (tR getI l n 4) []) (r := [1, 2, 3]) (by rw [hρ]; exact congrFun (congrFun (congrFun rqC getI) l) n |> fun q => congrFun q c) hk ⟨by rw [hρ]; exact (by decide : (List.range 1 ++ [1, 2, 3]).Nodup), ?_, ?_⟩ (fun ρ2 a2 w2 h2 => ?_) (hr.hints (S' := ⟨argSlots 0 [bsl 0 n c], [roB l], List.replicate 13 false, []⟩) rfl rfl)
            · rw [hρ]; simp [TQ, bsl, si, leSlots, leV, leV1, leC, N.v, List.range, List.range.loop, hc]
            · rw [hρ]; simp [TQ, leBs, leB, leCells, leL, leC, roB]
            · exact goes_retW (callRq_ok 4) funRq (r := []) (by rw [hρ]; exact hq) hob (by rw [hρ]; exact ndG) (by rw [hρ]; exact hv) (by rw [hρ]; exact leG l) (h2.hints (S' := TQ l n c (l.getD 0 0) (gR getI l n 0).1 (gR getI l n 1).1 (gR getI l n 2).1 (gR getI l n 3).1 (tR getI l n 4) h) rfl rfl)
          have hb := wfB_get hw 0
          by_cases ht : (getI l n (tR getI l n 3)).2.1 = (n : Int)
          · have d1 : (!decide ((getI l n (tR getI l n 3)).2.1 = (n : Int))) = false := by rw [decide_eq_true ht]; rfl
            have hrF : rF getI l n = rightF (l.getD 0 0) (gR getI l n 0).1 (gR getI l n 1).1 (gR getI l n 2).1 (gR getI l n 3).1 := rfl
            cases hr : rF getI l n with
            | true =>
              have hok : readOk l n := ⟨hp, g0, g1, g2, g3, ht, hr⟩
              unfold readC readE
              rw [if_pos hok, if_pos hok]
              refine fin _ [false, false] _ _ (congrFun (congrFun (congrFun (congrFun (congrFun (congrFun (congrFun (congrFun (congrFun (congrFun rqZ getI) l) n) c) _) _) _) _) _) _) ?_ ?_
              · refine ⟨by rw [← hrF, hr]; rfl, hb, d1, ?_⟩
                repeat' (first | exact trivial | exact rfl | refine And.intro rfl ?_)
              · simp [tupC, leV, leL1, leV1, leL, leC]
            | false =>
              have hno : ¬ readOk l n := fun h => by have := h.2.2.2.2.2.2; rw [hr] at this; cases this
              unfold readC readE
              rw [if_neg hno, if_neg hno]
              refine fin _ [false, true] _ _ (congrFun (congrFun (congrFun (congrFun (congrFun (congrFun (congrFun (congrFun (congrFun (congrFun rqY getI) l) n) c) _) _) _) _) _) _) ?_ ?_
              · refine ⟨by rw [← hrF, hr]; rfl, hb, d1, ?_⟩
                repeat' (first | exact trivial | exact rfl | refine And.intro rfl ?_)
              · simp [noR, tupC, leV, leL1, leV1, leL, leC]
          · have hno : ¬ readOk l n := fun h => ht h.2.2.2.2.2.1
            unfold readC readE
            rw [if_neg hno, if_neg hno]
            refine fin _ [true] _ _ (congrFun (congrFun (congrFun (congrFun (congrFun (congrFun (congrFun (congrFun (congrFun (congrFun rqX getI) l) n) c) _) _) _) _) _) _) ?_ ?_
            · refine ⟨by rw [decide_eq_false (show ¬ tR getI l n 4 = (n : Int) from ht)]; rfl, ?_⟩
              repeat' (first | exact trivial | exact rfl | refine And.intro rfl ?_)
            · simp [noR, tupC, leV, leL1, leV1, leL, leC]
        · exact bad 3 (by omega) (fun j hj => by
            have : j = 0 ∨ j = 1 ∨ j = 2 := by omega
            rcases this with rfl | rfl | rfl
            · exact g0
            · exact g1
            · exact g2) g3 (fun h => g3 h.2.2.2.2.1)
      · exact bad 2 (by omega) (fun j hj => by
          have : j = 0 ∨ j = 1 := by omega
          rcases this with rfl | rfl
          · exact g0
          · exact g1) g2 (fun h => g2 h.2.2.2.1)
    · exact bad 1 (by omega) (fun j hj => by
        have : j = 0 := by omega
        rw [this]; exact g0) g1 (fun h => g1 h.2.2.1)
  · exact bad 0 (by omega) (fun j hj => by omega) g0 (fun h => g0 h.2.1)
theorem readref_tab : TabOk Try.prog 14 (loc wantRo gRead) := loc_ok fun xs bs v bs' ob hg hob hokb => by
  unfold gRead at hg
  split at hg
  · rename_i n c k l
    split at hg
    · rename_i hk
      injection hg with hg; injection hg with e1 e2; injection e2 with e2 e3
      subst e1; subst e2; subst e3
      have hk' : k = .u8 := of_decide_eq_true hk
      subst hk'
      exact readref_works l n c (hob _ (by simp)) (hob (n ≤ 1000000000) (by simp)) (hob (wfB l) (by simp))
    · cases hg
  · cases hg
end
section
open Go.Sx
def tabOq := tabs [(12, fresh gBytes), (30, numTab [.i64, .i64, .i64] gInN), (29, loc wantRo (putR .u64 vint u64))]
noncomputable def callOq (d : Nat) := callN Try.prog tabOq (fun _ => false) 100000 d
noncomputable def LOq := loopN Try.prog 16 0
noncomputable def EOq : List Item := .code (.loop LOq.1) :: LOq.2
noncomputable def KOq : List Item := .inLoop LOq.1 :: LOq.2
noncomputable def FOq : Go.Func := match Try.prog.funcs[16]? with | some fn => fn | none => default
def TOq (l : List (List Int)) (n c : Nat) (out : List Int) (i : Nat) (h : List Bool) : St := ⟨[(0, slO 0 n c), (4, bsl 1 out.length out.length), (5, si .i64 i)], [roO l, owB out], h, []⟩
noncomputable def rndOq (lim : Nat) (h : List Bool) (l : List (List Int)) (n c : Nat) (out : List Int) (i : Nat) := run Try.prog (callOq 4) (fun _ => false) FOq lim 100000 [] (.code LOq.1 :: .inLoop LOq.1 :: LOq.2) (TOq l n c out i h)
theorem oqBig : (fun (l : List (List Int)) (n c : Nat) => retV [0] (callOq 5 16 [slO 0 n c] [roO l] [true])) = fun (l : List (List Int)) (n : Nat) (c : Nat) => some (((V.tup [(V1.one (C.nils)), (V1.one (C.int (IntKind.i64) ((109 : Int))))]), ([(SB.mk (false) (Cells.recs (ksO) (l)))], [decide ((1000 : Int) < (↑n : Int)) = true]))) := by kernel_rfl
theorem oqE : (fun (l : List (List Int)) (n c : Nat) => stopV [0, 4, 5] [0, 1] (run Try.prog (callOq 4) (fun _ => false) FOq 0 100000 [false] [.code (bodyF 16)] ⟨argSlots 0 [slO 0 n c], [roO l], [false], []⟩)) = fun (l : List (List Int)) (n : Nat) (c : Nat) => some ((EOq, ([(((0 : Nat)), (V.v (V1.one (C.slice ((0 : Nat)) (N.c ((0 : Nat))) ((7 : Nat)) (N.s (n)) (N.s (c)))))), (((4 : Nat)), (V.v (V1.one (C.slice ((1 : Nat)) (N.c ((0 : Nat))) ((1 : Nat)) (N.s (List.length (vint (IntKind.wrap IntKind.u64 (↑n : Int))))) (N.s (List.length (vint (IntKind.wrap IntKind.u64 (↑n : Int))))))))), (((5 : Nat)), (V.v (V1.one (C.int (IntKind.i64) ((0 : Int))))))], ([(SB.mk (false) (Cells.recs (ksO) (l))), (SB.mk (true) (Cells.ints (IntKind.u8) (vint (IntKind.wrap IntKind.u64 (↑n : Int)))))], [u64 (IntKind.wrap IntKind.u64 (↑n : Int)), decide ((1000 : Int) < (↑n : Int)) = false])))) := by kernel_rfl
theorem oqR : (fun (l : List (List Int)) (n c : Nat) (out : List Int) (i : Nat) => stopV [0, 4, 5] [0, 8] (rndOq (LOq.2.length + 1) [true, true, false, false, true, true, true] l n c out i)) = fun (l : List (List Int)) (n : Nat) (c : Nat) (out : List Int) (i : Nat) => some ((KOq, ([(((0 : Nat)), (V.v (V1.one (C.slice ((0 : Nat)) (N.c ((0 : Nat))) ((7 : Nat)) (N.s (n)) (N.s (c)))))), (((4 : Nat)), (V.v (V1.one (C.slice ((8 : Nat)) (N.c ((0 : Nat))) ((1 : Nat)) (N.s (List.length (out ++ vint (IntKind.wrap IntKind.u64 (List.getD (List.getD l (i) []) (0 : Nat) (0 : Int))) ++ vint (IntKind.wrap IntKind.u64 (List.getD (List.getD l (i) []) (1 : Nat) (0 : Int))) ++ vint (IntKind.wrap IntKind.u64 (↑(List.length (cmdB (List.getD (List.getD l (i) []) (2 : Nat) (0 : Int)) (List.getD (List.getD l (i) []) (3 : Nat) (0 : Int)) (List.getD (List.getD l (i) []) (4 : Nat) (0 : Int)) (List.getD (List.getD l (i) []) (5 : Nat) (0 : Int)) (List.getD (List.getD l (i) []) (6 : Nat) (0 : Int)))) : Int))) + List.length (cmdB (List.getD (List.getD l (i) []) (2 : Nat) (0 : Int)) (List.getD (List.getD l (i) []) (3 : Nat) (0 : Int)) (List.getD (List.getD l (i) []) (4 : Nat) (0 : Int)) (List.getD (List.getD l (i) []) (5 : Nat) (0 : Int)) (List.getD (List.getD l (i) []) (6 : Nat) (0 : Int))))) (N.s (List.length (out ++ vint (IntKind.wrap IntKind.u64 (List.getD (List.getD l (i) []) (0 : Nat) (0 : Int))) ++ vint (IntKind.wrap IntKind.u64 (List.getD (List.getD l (i) []) (1 : Nat) (0 : Int))) ++ vint (IntKind.wrap IntKind.u64 (↑(List.length (cmdB (List.getD (List.getD l (i) []) (2 : Nat) (0 : Int)) (List.getD (List.getD l (i) []) (3 : Nat) (0 : Int)) (List.getD (List.getD l (i) []) (4 : Nat) (0 : Int)) (List.getD (List.getD l (i) []) (5 : Nat) (0 : Int)) (List.getD (List.getD l (i) []) (6 : Nat) (0 : Int)))) : Int))) + List.length (cmdB (List.getD (List.getD l (i) []) (2 : Nat) (0 : Int)) (List.getD (List.getD l (i) []) (3 : Nat) (0 : Int)) (List.getD (List.getD l (i) []) (4 : Nat) (0 : Int)) (List.getD (List.getD l (i) []) (5 : Nat) (0 : Int)) (List.getD (List.getD l (i) []) (6 : Nat) (0 : Int))))))))), (((5 : Nat)), (V.v (V1.one (C.sint (IntKind.i64) ((↑i : Int) + (1 : Int))))))], ([(SB.mk (false) (Cells.recs (ksO) (l))), (SB.mk (true) (Cells.ints (IntKind.u8) ([] ++ (out ++ vint (IntKind.wrap IntKind.u64 (List.getD (List.getD l (i) []) (0 : Nat) (0 : Int))) ++ vint (IntKind.wrap IntKind.u64 (List.getD (List.getD l (i) []) (1 : Nat) (0 : Int))) ++ vint (IntKind.wrap IntKind.u64 (↑(List.length (cmdB (List.getD (List.getD l (i) []) (2 : Nat) (0 : Int)) (List.getD (List.getD l (i) []) (3 : Nat) (0 : Int)) (List.getD (List.getD l (i) []) (4 : Nat) (0 : Int)) (List.getD (List.getD l (i) []) (5 : Nat) (0 : Int)) (List.getD (List.getD l (i) []) (6 : Nat) (0 : Int)))) : Int))) ++ cmdB (List.getD (List.getD l (i) []) (2 : Nat) (0 : Int)) (List.getD (List.getD l (i) []) (3 : Nat) (0 : Int)) (List.getD (List.getD l (i) []) (4 : Nat) (0 : Int)) (List.getD (List.getD l (i) []) (5 : Nat) (0 : Int)) (List.getD (List.getD l (i) []) (6 : Nat) (0 : Int)))))], [(-9223372036854775808 : Int) ≤ (↑i : Int) + (1 : Int) ∧ (↑i : Int) + (1 : Int) ≤ (9223372036854775807 : Int), (0 : Nat) = (0 : Nat), List.length (out ++ vint (IntKind.wrap IntKind.u64 (List.getD (List.getD l (i) []) (0 : Nat) (0 : Int))) ++ vint (IntKind.wrap IntKind.u64 (List.getD (List.getD l (i) []) (1 : Nat) (0 : Int))) ++ vint (IntKind.wrap IntKind.u64 (↑(List.length (cmdB (List.getD (List.getD l (i) []) (2 : Nat) (0 : Int)) (List.getD (List.getD l (i) []) (3 : Nat) (0 : Int)) (List.getD (List.getD l (i) []) (4 : Nat) (0 : Int)) (List.getD (List.getD l (i) []) (5 : Nat) (0 : Int)) (List.getD (List.getD l (i) []) (6 : Nat) (0 : Int)))) : Int))) = List.length ([] ++ (out ++ vint (IntKind.wrap IntKind.u64 (List.getD (List.getD l (i) []) (0 : Nat) (0 : Int))) ++ vint (IntKind.wrap IntKind.u64 (List.getD (List.getD l (i) []) (1 : Nat) (0 : Int))) ++ vint (IntKind.wrap IntKind.u64 (↑(List.length (cmdB (List.getD (List.getD l (i) []) (2 : Nat) (0 : Int)) (List.getD (List.getD l (i) []) (3 : Nat) (0 : Int)) (List.getD (List.getD l (i) []) (4 : Nat) (0 : Int)) (List.getD (List.getD l (i) []) (5 : Nat) (0 : Int)) (List.getD (List.getD l (i) []) (6 : Nat) (0 : Int)))) : Int)))), (0 : Nat) = (0 : Nat), List.length (cmdB (List.getD (List.getD l (i) []) (2 : Nat) (0 : Int)) (List.getD (List.getD l (i) []) (3 : Nat) (0 : Int)) (List.getD (List.getD l (i) []) (4 : Nat) (0 : Int)) (List.getD (List.getD l (i) []) (5 : Nat) (0 : Int)) (List.getD (List.getD l (i) []) (6 : Nat) (0 : Int))) = List.length (cmdB (List.getD (List.getD l (i) []) (2 : Nat) (0 : Int)) (List.getD (List.getD l (i) []) (3 : Nat) (0 : Int)) (List.getD (List.getD l (i) []) (4 : Nat) (0 : Int)) (List.getD (List.getD l (i) []) (5 : Nat) (0 : Int)) (List.getD (List.getD l (i) []) (6 : Nat) (0 : Int))), (List.length (out ++ vint (IntKind.wrap IntKind.u64 (List.getD (List.getD l (i) []) (0 : Nat) (0 : Int))) ++ vint (IntKind.wrap IntKind.u64 (List.getD (List.getD l (i) []) (1 : Nat) (0 : Int))) ++ vint (IntKind.wrap IntKind.u64 (↑(List.length (cmdB (List.getD (List.getD l (i) []) (2 : Nat) (0 : Int)) (List.getD (List.getD l (i) []) (3 : Nat) (0 : Int)) (List.getD (List.getD l (i) []) (4 : Nat) (0 : Int)) (List.getD (List.getD l (i) []) (5 : Nat) (0 : Int)) (List.getD (List.getD l (i) []) (6 : Nat) (0 : Int)))) : Int))) + List.length (cmdB (List.getD (List.getD l (i) []) (2 : Nat) (0 : Int)) (List.getD (List.getD l (i) []) (3 : Nat) (0 : Int)) (List.getD (List.getD l (i) []) (4 : Nat) (0 : Int)) (List.getD (List.getD l (i) []) (5 : Nat) (0 : Int)) (List.getD (List.getD l (i) []) (6 : Nat) (0 : Int)))) * (1 : Nat) ≤ (140737488355328 : Nat), List.length (out ++ vint (IntKind.wrap IntKind.u64 (List.getD (List.getD l (i) []) (0 : Nat) (0 : Int))) ++ vint (IntKind.wrap IntKind.u64 (List.getD (List.getD l (i) []) (1 : Nat) (0 : Int))) ++ vint (IntKind.wrap IntKind.u64 (↑(List.length (cmdB (List.getD (List.getD l (i) []) (2 : Nat) (0 : Int)) (List.getD (List.getD l (i) []) (3 : Nat) (0 : Int)) (List.getD (List.getD l (i) []) (4 : Nat) (0 : Int)) (List.getD (List.getD l (i) []) (5 : Nat) (0 : Int)) (List.getD (List.getD l (i) []) (6 : Nat) (0 : Int)))) : Int))) + List.length (cmdB (List.getD (List.getD l (i) []) (2 : Nat) (0 : Int)) (List.getD (List.getD l (i) []) (3 : Nat) (0 : Int)) (List.getD (List.getD l (i) []) (4 : Nat) (0 : Int)) (List.getD (List.getD l (i) []) (5 : Nat) (0 : Int)) (List.getD (List.getD l (i) []) (6 : Nat) (0 : Int))) ≤ (9223372036854775807 : Nat), (0 : Nat) = (0 : Nat), List.length (out ++ vint (IntKind.wrap IntKind.u64 (List.getD (List.getD l (i) []) (0 : Nat) (0 : Int))) ++ vint (IntKind.wrap IntKind.u64 (List.getD (List.getD l (i) []) (1 : Nat) (0 : Int))) ++ vint (IntKind.wrap IntKind.u64 (↑(List.length (cmdB (List.getD (List.getD l (i) []) (2 : Nat) (0 : Int)) (List.getD (List.getD l (i) []) (3 : Nat) (0 : Int)) (List.getD (List.getD l (i) []) (4 : Nat) (0 : Int)) (List.getD (List.getD l (i) []) (5 : Nat) (0 : Int)) (List.getD (List.getD l (i) []) (6 : Nat) (0 : Int)))) : Int))) = List.length (out ++ vint (IntKind.wrap IntKind.u64 (List.getD (List.getD l (i) []) (0 : Nat) (0 : Int))) ++ vint (IntKind.wrap IntKind.u64 (List.getD (List.getD l (i) []) (1 : Nat) (0 : Int))) ++ vint (IntKind.wrap IntKind.u64 (↑(List.length (cmdB (List.getD (List.getD l (i) []) (2 : Nat) (0 : Int)) (List.getD (List.getD l (i) []) (3 : Nat) (0 : Int)) (List.getD (List.getD l (i) []) (4 : Nat) (0 : Int)) (List.getD (List.getD l (i) []) (5 : Nat) (0 : Int)) (List.getD (List.getD l (i) []) (6 : Nat) (0 : Int)))) : Int))), List.length (out ++ vint (IntKind.wrap IntKind.u64 (List.getD (List.getD l (i) []) (0 : Nat) (0 : Int))) ++ vint (IntKind.wrap IntKind.u64 (List.getD (List.getD l (i) []) (1 : Nat) (0 : Int))) ++ vint (IntKind.wrap IntKind.u64 (↑(List.length (cmdB (List.getD (List.getD l (i) []) (2 : Nat) (0 : Int)) (List.getD (List.getD l (i) []) (3 : Nat) (0 : Int)) (List.getD (List.getD l (i) []) (4 : Nat) (0 : Int)) (List.getD (List.getD l (i) []) (5 : Nat) (0 : Int)) (List.getD (List.getD l (i) []) (6 : Nat) (0 : Int)))) : Int))) * (1 : Nat) ≤ (140737488355328 : Nat), List.length (out ++ vint (IntKind.wrap IntKind.u64 (List.getD (List.getD l (i) []) (0 : Nat) (0 : Int))) ++ vint (IntKind.wrap IntKind.u64 (List.getD (List.getD l (i) []) (1 : Nat) (0 : Int))) ++ vint (IntKind.wrap IntKind.u64 (↑(List.length (cmdB (List.getD (List.getD l (i) []) (2 : Nat) (0 : Int)) (List.getD (List.getD l (i) []) (3 : Nat) (0 : Int)) (List.getD (List.getD l (i) []) (4 : Nat) (0 : Int)) (List.getD (List.getD l (i) []) (5 : Nat) (0 : Int)) (List.getD (List.getD l (i) []) (6 : Nat) (0 : Int)))) : Int))) ≤ (9223372036854775807 : Nat), (0 : Int) ≤ (↑(List.length (out ++ vint (IntKind.wrap IntKind.u64 (List.getD (List.getD l (i) []) (0 : Nat) (0 : Int))) ++ vint (IntKind.wrap IntKind.u64 (List.getD (List.getD l (i) []) (1 : Nat) (0 : Int))) ++ vint (IntKind.wrap IntKind.u64 (↑(List.length (cmdB (List.getD (List.getD l (i) []) (2 : Nat) (0 : Int)) (List.getD (List.getD l (i) []) (3 : Nat) (0 : Int)) (List.getD (List.getD l (i) []) (4 : Nat) (0 : Int)) (List.getD (List.getD l (i) []) (5 : Nat) (0 : Int)) (List.getD (List.getD l (i) []) (6 : Nat) (0 : Int)))) : Int)))) : Int) + (↑(List.length (cmdB (List.getD (List.getD l (i) []) (2 : Nat) (0 : Int)) (List.getD (List.getD l (i) []) (3 : Nat) (0 : Int)) (List.getD (List.getD l (i) []) (4 : Nat) (0 : Int)) (List.getD (List.getD l (i) []) (5 : Nat) (0 : Int)) (List.getD (List.getD l (i) []) (6 : Nat) (0 : Int)))) : Int), Int.toNat ((↑(List.length (out ++ vint (IntKind.wrap IntKind.u64 (List.getD (List.getD l (i) []) (0 : Nat) (0 : Int))) ++ vint (IntKind.wrap IntKind.u64 (List.getD (List.getD l (i) []) (1 : Nat) (0 : Int))) ++ vint (IntKind.wrap IntKind.u64 (↑(List.length (cmdB (List.getD (List.getD l (i) []) (2 : Nat) (0 : Int)) (List.getD (List.getD l (i) []) (3 : Nat) (0 : Int)) (List.getD (List.getD l (i) []) (4 : Nat) (0 : Int)) (List.getD (List.getD l (i) []) (5 : Nat) (0 : Int)) (List.getD (List.getD l (i) []) (6 : Nat) (0 : Int)))) : Int)))) : Int) + (↑(List.length (cmdB (List.getD (List.getD l (i) []) (2 : Nat) (0 : Int)) (List.getD (List.getD l (i) []) (3 : Nat) (0 : Int)) (List.getD (List.getD l (i) []) (4 : Nat) (0 : Int)) (List.getD (List.getD l (i) []) (5 : Nat) (0 : Int)) (List.getD (List.getD l (i) []) (6 : Nat) (0 : Int)))) : Int)) * (1 : Nat) ≤ (140737488355328 : Nat), Int.toNat ((↑(List.length (out ++ vint (IntKind.wrap IntKind.u64 (List.getD (List.getD l (i) []) (0 : Nat) (0 : Int))) ++ vint (IntKind.wrap IntKind.u64 (List.getD (List.getD l (i) []) (1 : Nat) (0 : Int))) ++ vint (IntKind.wrap IntKind.u64 (↑(List.length (cmdB (List.getD (List.getD l (i) []) (2 : Nat) (0 : Int)) (List.getD (List.getD l (i) []) (3 : Nat) (0 : Int)) (List.getD (List.getD l (i) []) (4 : Nat) (0 : Int)) (List.getD (List.getD l (i) []) (5 : Nat) (0 : Int)) (List.getD (List.getD l (i) []) (6 : Nat) (0 : Int)))) : Int)))) : Int) + (↑(List.length (cmdB (List.getD (List.getD l (i) []) (2 : Nat) (0 : Int)) (List.getD (List.getD l (i) []) (3 : Nat) (0 : Int)) (List.getD (List.getD l (i) []) (4 : Nat) (0 : Int)) (List.getD (List.getD l (i) []) (5 : Nat) (0 : Int)) (List.getD (List.getD l (i) []) (6 : Nat) (0 : Int)))) : Int)) ≤ (9223372036854775807 : Nat), (-9223372036854775808 : Int) ≤ (↑(List.length (out ++ vint (IntKind.wrap IntKind.u64 (List.getD (List.getD l (i) []) (0 : Nat) (0 : Int))) ++ vint (IntKind.wrap IntKind.u64 (List.getD (List.getD l (i) []) (1 : Nat) (0 : Int))) ++ vint (IntKind.wrap IntKind.u64 (↑(List.length (cmdB (List.getD (List.getD l (i) []) (2 : Nat) (0 : Int)) (List.getD (List.getD l (i) []) (3 : Nat) (0 : Int)) (List.getD (List.getD l (i) []) (4 : Nat) (0 : Int)) (List.getD (List.getD l (i) []) (5 : Nat) (0 : Int)) (List.getD (List.getD l (i) []) (6 : Nat) (0 : Int)))) : Int)))) : Int) + (↑(List.length (cmdB (List.getD (List.getD l (i) []) (2 : Nat) (0 : Int)) (List.getD (List.getD l (i) []) (3 : Nat) (0 : Int)) (List.getD (List.getD l (i) []) (4 : Nat) (0 : Int)) (List.getD (List.getD l (i) []) (5 : Nat) (0 : Int)) (List.getD (List.getD l (i) []) (6 : Nat) (0 : Int)))) : Int) ∧ (↑(List.length (out ++ vint (IntKind.wrap IntKind.u64 (List.getD (List.getD l (i) []) (0 : Nat) (0 : Int))) ++ vint (IntKind.wrap IntKind.u64 (List.getD (List.getD l (i) []) (1 : Nat) (0 : Int))) ++ vint (IntKind.wrap IntKind.u64 (↑(List.length (cmdB (List.getD (List.getD l (i) []) (2 : Nat) (0 : Int)) (List.getD (List.getD l (i) []) (3 : Nat) (0 : Int)) (List.getD (List.getD l (i) []) (4 : Nat) (0 : Int)) (List.getD (List.getD l (i) []) (5 : Nat) (0 : Int)) (List.getD (List.getD l (i) []) (6 : Nat) (0 : Int)))) : Int)))) : Int) + (↑(List.length (cmdB (List.getD (List.getD l (i) []) (2 : Nat) (0 : Int)) (List.getD (List.getD l (i) []) (3 : Nat) (0 : Int)) (List.getD (List.getD l (i) []) (4 : Nat) (0 : Int)) (List.getD (List.getD l (i) []) (5 : Nat) (0 : Int)) (List.getD (List.getD l (i) []) (6 : Nat) (0 : Int)))) : Int) ≤ (9223372036854775807 : Int), u64 (IntKind.wrap IntKind.u64 (↑(List.length (cmdB (List.getD (List.getD l (i) []) (2 : Nat) (0 : Int)) (List.getD (List.getD l (i) []) (3 : Nat) (0 : Int)) (List.getD (List.getD l (i) []) (4 : Nat) (0 : Int)) (List.getD (List.getD l (i) []) (5 : Nat) (0 : Int)) (List.getD (List.getD l (i) []) (6 : Nat) (0 : Int)))) : Int)), List.length (out ++ vint (IntKind.wrap IntKind.u64 (List.getD (List.getD l (i) []) (0 : Nat) (0 : Int))) ++ vint (IntKind.wrap IntKind.u64 (List.getD (List.getD l (i) []) (1 : Nat) (0 : Int)))) = List.length (out ++ vint (IntKind.wrap IntKind.u64 (List.getD (List.getD l (i) []) (0 : Nat) (0 : Int))) ++ vint (IntKind.wrap IntKind.u64 (List.getD (List.getD l (i) []) (1 : Nat) (0 : Int)))), List.length (out ++ vint (IntKind.wrap IntKind.u64 (List.getD (List.getD l (i) []) (0 : Nat) (0 : Int))) ++ vint (IntKind.wrap IntKind.u64 (List.getD (List.getD l (i) []) (1 : Nat) (0 : Int)))) + (10 : Nat) ≤ (140737488355328 : Nat), u64 (IntKind.wrap IntKind.u64 (List.getD (List.getD l (i) []) (1 : Nat) (0 : Int))), List.length (out ++ vint (IntKind.wrap IntKind.u64 (List.getD (List.getD l (i) []) (0 : Nat) (0 : Int)))) = List.length (out ++ vint (IntKind.wrap IntKind.u64 (List.getD (List.getD l (i) []) (0 : Nat) (0 : Int)))), List.length (out ++ vint (IntKind.wrap IntKind.u64 (List.getD (List.getD l (i) []) (0 : Nat) (0 : Int)))) + (10 : Nat) ≤ (140737488355328 : Nat), i < List.length l, (0 : Int) ≤ (↑i : Int), (↑i : Int) < (↑n : Int), u64 (IntKind.wrap IntKind.u64 (List.getD (List.getD l (i) []) (0 : Nat) (0 : Int))), List.length out = List.length out, List.length out + (10 : Nat) ≤ (140737488355328 : Nat), i < List.length l, (0 : Int) ≤ (↑i : Int), (↑i : Int) < (↑n : Int), (!inB (List.getD (List.getD l (i) []) (1 : Nat) (0 : Int)) (0 : Int) (1099511627776 : Int)) = false, i < List.length l, (0 : Int) ≤ (↑i : Int), (↑i : Int) < (↑n : Int), (!inB (List.getD (List.getD l (i) []) (0 : Nat) (0 : Int)) (0 : Int) (1073741824 : Int)) = false, i < List.length l, (0 : Int) ≤ (↑i : Int), (↑i : Int) < (↑n : Int), rightF (List.getD (List.getD l (i) []) (2 : Nat) (0 : Int)) (List.getD (List.getD l (i) []) (3 : Nat) (0 : Int)) (List.getD (List.getD l (i) []) (4 : Nat) (0 : Int)) (List.getD (List.getD l (i) []) (5 : Nat) (0 : Int)) (List.getD (List.getD l (i) []) (6 : Nat) (0 : Int)) = true, (0 : Int) ≤ List.getD (List.getD l (i) []) (2 : Nat) (0 : Int) ∧ List.getD (List.getD l (i) []) (2 : Nat) (0 : Int) < (256 : Int), i < List.length l, (0 : Int) ≤ (↑i : Int), (↑i : Int) < (↑n : Int), decide ((↑i : Int) < (↑n : Int)) = true])))) := by kernel_rfl
theorem oqF0 : (fun (l : List (List Int)) (n c : Nat) (out : List Int) (i : Nat) => endV [0] (rndOq 0 [true, false] l n c out i)) = fun (l : List (List Int)) (n : Nat) (c : Nat) (out : List Int) (i : Nat) => some (((V.tup [(V1.one (C.nils)), (V1.one (C.int (IntKind.i64) ((109 : Int))))]), ([(SB.mk (false) (Cells.recs (ksO) (l)))], [rightF (List.getD (List.getD l (i) []) (2 : Nat) (0 : Int)) (List.getD (List.getD l (i) []) (3 : Nat) (0 : Int)) (List.getD (List.getD l (i) []) (4 : Nat) (0 : Int)) (List.getD (List.getD l (i) []) (5 : Nat) (0 : Int)) (List.getD (List.getD l (i) []) (6 : Nat) (0 : Int)) = false, (0 : Int) ≤ List.getD (List.getD l (i) []) (2 : Nat) (0 : Int) ∧ List.getD (List.getD l (i) []) (2 : Nat) (0 : Int) < (256 : Int), i < List.length l, (0 : Int) ≤ (↑i : Int), (↑i : Int) < (↑n : Int), decide ((↑i : Int) < (↑n : Int)) = true]))) := by kernel_rfl
theorem oqF1 : (fun (l : List (List Int)) (n c : Nat) (out : List Int) (i : Nat) => endV [0] (rndOq 0 [true, true, true] l n c out i)) = fun (l : List (List Int)) (n : Nat) (c : Nat) (out : List Int) (i : Nat) => some (((V.tup [(V1.one (C.nils)), (V1.one (C.int (IntKind.i64) ((109 : Int))))]), ([(SB.mk (false) (Cells.recs (ksO) (l)))], [(!inB (List.getD (List.getD l (i) []) (0 : Nat) (0 : Int)) (0 : Int) (1073741824 : Int)) = true, i < List.length l, (0 : Int) ≤ (↑i : Int), (↑i : Int) < (↑n : Int), rightF (List.getD (List.getD l (i) []) (2 : Nat) (0 : Int)) (List.getD (List.getD l (i) []) (3 : Nat) (0 : Int)) (List.getD (List.getD l (i) []) (4 : Nat) (0 : Int)) (List.getD (List.getD l (i) []) (5 : Nat) (0 : Int)) (List.getD (List.getD l (i) []) (6 : Nat) (0 : Int)) = true, (0 : Int) ≤ List.getD (List.getD l (i) []) (2 : Nat) (0 : Int) ∧ List.getD (List.getD l (i) []) (2 : Nat) (0 : Int) < (256 : Int), i < List.length l, (0 : Int) ≤ (↑i : Int), (↑i : Int) < (↑n : Int), decide ((↑i : Int) < (↑n : Int)) = true]))) := by kernel_rfl
theorem oqF2 : (fun (l : List (List Int)) (n c : Nat) (out : List Int) (i : Nat) => endV [0] (rndOq 0 [true, true, false, true] l n c out i)) = fun (l : List (List Int)) (n : Nat) (c : Nat) (out : List Int) (i : Nat) => some (((V.tup [(V1.one (C.nils)), (V1.one (C.int (IntKind.i64) ((109 : Int))))]), ([(SB.mk (false) (Cells.recs (ksO) (l)))], [(!inB (List.getD (List.getD l (i) []) (1 : Nat) (0 : Int)) (0 : Int) (1099511627776 : Int)) = true, i < List.length l, (0 : Int) ≤ (↑i : Int), (↑i : Int) < (↑n : Int), (!inB (List.getD (List.getD l (i) []) (0 : Nat) (0 : Int)) (0 : Int) (1073741824 : Int)) = false, i < List.length l, (0 : Int) ≤ (↑i : Int), (↑i : Int) < (↑n : Int), rightF (List.getD (List.getD l (i) []) (2 : Nat) (0 : Int)) (List.getD (List.getD l (i) []) (3 : Nat) (0 : Int)) (List.getD (List.getD l (i) []) (4 : Nat) (0 : Int)) (List.getD (List.getD l (i) []) (5 : Nat) (0 : Int)) (List.getD (List.getD l (i) []) (6 : Nat) (0 : Int)) = true, (0 : Int) ≤ List.getD (List.getD l (i) []) (2 : Nat) (0 : Int) ∧ List.getD (List.getD l (i) []) (2 : Nat) (0 : Int) < (256 : Int), i < List.length l, (0 : Int) ≤ (↑i : Int), (↑i : Int) < (↑n : Int), decide ((↑i : Int) < (↑n : Int)) = true]))) := by kernel_rfl
theorem oqX : (fun (l : List (List Int)) (n c : Nat) (out : List Int) (i : Nat) => endV [0, 1] (rndOq 0 [false] l n c out i)) = fun (l : List (List Int)) (n : Nat) (c : Nat) (out : List Int) (i : Nat) => some (((V.tup [(V1.one (C.slice ((1 : Nat)) (N.c ((0 : Nat))) ((1 : Nat)) (N.s (List.length out)) (N.s (List.length out)))), (V1.one (C.int (IntKind.i64) ((0 : Int))))]), ([(SB.mk (false) (Cells.recs (ksO) (l))), (SB.mk (true) (Cells.ints (IntKind.u8) (out)))], [decide ((↑i : Int) < (↑n : Int)) = false]))) := by kernel_rfl
end
section
open Go.ChangeShapes Go.WideShapes Go.ChangeAt Go.RowKit Go.Sx
theorem tabOq_ok : ∀ f g, tabOq f = some g → TabOk Try.prog f g := tabs_ok fun x hx => by
  simp only [List.mem_cons, List.not_mem_nil, or_false] at hx
  rcases hx with rfl | rfl | rfl
  · exact bytesref_tab
  · exact in_tab
  · exact ru_tab
theorem callOq_ok (d : Nat) : CallOk Try.prog (callOq d) := callN_sound tabOq_ok d
theorem funOq : Try.prog.funcs[16]? = some FOq := by kernel_rfl
theorem bodOq : FOq.body = some (bodyF 16) := by kernel_rfl
theorem tmpOq : 1 ≤ FOq.ntmps := Nat.le_of_ble_eq_true (by kernel_rfl)
theorem nd8O : (List.range 1 ++ [8]).Nodup := by decide
theorem oq_rnd (l : List (List Int)) (n c : Nat) (out : List Int) (i : Nat) (hi : i < n) (hn : n ≤ l.length) (hm : n ≤ 1000) (hd : 0 ≤ (l.getD i []).getD 2 0 ∧ (l.getD i []).getD 2 0 < 256) (hr : rowOk (l.getD i []) = true) (ho : out.length ≤ 80000) : ∃ ob, allP ob ∧
    stopV [0, 4, 5] [0, 8] (rndOq (LOq.2.length + 1) [true, true, false, false, true, true, true] l n c out i) = some (KOq, [(0, slO 0 n c), (4, bsl 8 (out ++ rowB (l.getD i [])).length (out ++ rowB (l.getD i [])).length), (5, si .i64 ((i : Int) + 1))], [roO l, owB (out ++ rowB (l.getD i []))], ob) := by
  have q := congrFun (congrFun (congrFun (congrFun (congrFun oqR l) n) c) out) i
  have hrr := hr
  unfold rowOk at hrr
  rw [Bool.and_eq_true] at hrr
  obtain ⟨h1, h2⟩ := hrr
  obtain ⟨p1, p2, p3, p4⟩ := of_decide_eq_true h2
  have e0 : IntKind.wrap .u64 ((l.getD i []).getD 0 0) = (l.getD i []).getD 0 0 := w64 p1 (by omega)
  have e1 : IntKind.wrap .u64 ((l.getD i []).getD 1 0) = (l.getD i []).getD 1 0 := w64 p2 (by omega)
  have hcl : (cmdR (l.getD i [])).length ≤ 41 := cmdB_len h1
  have hstep : out ++ rowB (l.getD i []) = out ++ vint ((l.getD i []).getD 0 0) ++ vint ((l.getD i []).getD 1 0) ++ vint (((cmdR (l.getD i [])).length : Nat) : Int) ++ cmdR (l.getD i []) := by
    unfold rowB
    simp only [List.append_assoc]
  unfold rightR2 at h1
  rw [hstep]
  unfold cmdR at hcl ⊢
  have hv0 := vint_le (n := (l.getD i []).getD 0 0) ⟨by omega, by omega⟩
  have hv1 := vint_le (n := (l.getD i []).getD 1 0) ⟨by omega, by omega⟩
  simp only [e0, e1, List.nil_append] at q
  clear hstep hr h2 e0 e1
  have hil : i < l.length := by omega
  generalize (l.getD i []).getD 0 0 = P at *
  generalize (l.getD i []).getD 1 0 = Sq at *
  generalize cmdB ((l.getD i []).getD 2 0) ((l.getD i []).getD 3 0) ((l.getD i []).getD 4 0) ((l.getD i []).getD 5 0) ((l.getD i []).getD 6 0) = CM at *
  have e2 : IntKind.wrap .u64 (CM.length : Int) = ((CM.length : Nat) : Int) := w64 (by omega) (by omega)
  have hv2 := vint_le (n := ((CM.length : Nat) : Int)) ⟨by omega, by omega⟩
  rw [e2] at q
  have hlen : (out ++ vint P ++ vint Sq ++ vint ((CM.length : Nat) : Int)).length + CM.length = (out ++ vint P ++ vint Sq ++ vint ((CM.length : Nat) : Int) ++ CM).length := by rw [List.length_append (bs := CM)]
  rw [hlen] at q
  refine ⟨_, ?_, q⟩
  have k1 : (!inB P 0 1073741824) = false := by unfold inB; rw [decide_eq_true p1, decide_eq_true p3]; rfl
  have k2 : (!inB Sq 0 1099511627776) = false := by unfold inB; rw [decide_eq_true p2, decide_eq_true p4]; rfl
  have k3 : u64 P := ⟨p1, by omega⟩
  have k4 : u64 Sq := ⟨p2, by omega⟩
  have k5 : u64 ((CM.length : Nat) : Int) := ⟨by omega, by omega⟩
  have k6 : decide ((i : Int) < (n : Int)) = true := decide_eq_true (by omega)
  have hadd : ∀ x y : Nat, Nat.add x y = x + y := fun _ _ => rfl
  simp only [allP, List.length_append, hadd]
  repeat' (first | exact trivial | exact k1 | exact k2 | exact k3 | exact k4 | exact k5 | exact k6 | exact h1 | exact hd | refine And.intro ?_ ?_)
  all_goals omega
set_option maxRecDepth 100000 in
theorem oq_step (l : List (List Int)) (n c i : Nat) (hc : n ≤ c) (hi : i < n) (hn : n ≤ l.length) (hm : n ≤ 1000) (hw : wfO l) (hok : (l.take (i + 1)).all rowOk = true) : ∃ ob, allP ob ∧ ∃ a b,
    stopV [0, 4, 5] [0, 8] (rndOq (LOq.2.length + 1) [true, true, false, false, true, true, true] l n c (vint ((n : Nat) : Int) ++ bytesO (l.take i)) i) = some (KOq, a, b, ob) ∧
    leView (List.range 1 ++ [8]) a b (TOq l n c (vint ((n : Nat) : Int) ++ bytesO (l.take (i + 1))) (i + 1) []) := by
  have hil : i < l.length := by omega
  have hd := hw _ (row_in hil)
  have hall := hok
  rw [take_row hil, List.all_append, Bool.and_eq_true] at hall
  have hr : rowOk (l.getD i []) = true := by
    have := hall.2
    rw [List.all_cons, Bool.and_eq_true] at this
    exact this.1
  have hlen : (bytesO (l.take i)).length ≤ 71 * i := by
    have h := bytesO_len hall.1
    rw [List.length_take, Nat.min_eq_left (by omega)] at h
    exact h
  have hvn := vint_le (n := ((n : Nat) : Int)) ⟨by omega, by omega⟩
  obtain ⟨ob, hob, q⟩ := oq_rnd l n c (vint ((n : Nat) : Int) ++ bytesO (l.take i)) i hi hn hm hd hr (by rw [List.length_append]; omega)
  have hs : vint ((n : Nat) : Int) ++ bytesO (l.take i) ++ rowB (l.getD i []) = vint ((n : Nat) : Int) ++ bytesO (l.take (i + 1)) := by
    rw [take_row hil, bytesO_app, List.append_assoc]
    show _ = _ ++ (_ ++ (rowB (l.getD i []) ++ []))
    rw [List.append_nil]
  rw [hs] at q
  refine ⟨ob, hob, _, _, q, nd8O, ?_, ?_⟩
  · simp [TOq, bsl, slO, leSlots, leV, leV1, leC, si, List.range, List.range.loop, N.v, hc]
  · simp [TOq, leBs, leB, leCells, roO, owB]
theorem oq_enter (l : List (List Int)) (n c : Nat) (hc : n ≤ c) (hm : n ≤ 1000) : ∃ ob, allP ob ∧ ∃ a b,
    stopV [0, 4, 5] [0, 1] (run Try.prog (callOq 4) (fun _ => false) FOq 0 100000 [false] [.code (bodyF 16)] ⟨argSlots 0 [slO 0 n c], [roO l], [false], []⟩) = some (EOq, a, b, ob) ∧
    leView (List.range 1 ++ [1]) a b (TOq l n c (vint ((n : Nat) : Int) ++ bytesO (l.take 0)) 0 []) := by
  have ew : IntKind.wrap .u64 (n : Int) = ((n : Nat) : Int) := w64 (by omega) (by omega)
  have q := congrFun (congrFun (congrFun oqE l) n) c
  rw [ew] at q
  refine ⟨_, ?_, _, _, q, ndO1, ?_, ?_⟩
  · exact ⟨⟨by omega, by omega⟩, decide_eq_false (by omega), trivial⟩
  · simp [TOq, bsl, slO, leSlots, leV, leV1, leC, si, List.range, List.range.loop, N.v, bytesO, hc]
  · simp [TOq, leBs, leB, leCells, roO, owB, bytesO]
theorem ordq_yes (l : List (List Int)) (n c : Nat) (hn : n ≤ l.length) (hw : wfO l) (hm : n ≤ 1000) (hall : (l.take n).all rowOk = true) : Works Try.prog 16 [slO 0 n c] [roO l] (tupO 1 (vint ((n : Nat) : Int) ++ bytesO (l.take n)).length 0) [roO l, owB (vint ((n : Nat) : Int) ++ bytesO (l.take n))] := capO_works fun hc => by
  obtain ⟨ob, hob, a, b, qE, hle⟩ := oq_enter l n c hc hm
  refine works_loop (I := Nat) (Inv := fun i h => TOq l n c (vint ((n : Nat) : Int) ++ bytesO (l.take i)) i h) (good := fun i => i ≤ n) (μ := fun i => n - i) (i := 0) (r := [1]) (callOq_ok 4) funOq bodOq (by exact tmpOq) (fun _ _ => ⟨rfl, rfl⟩)
    qE hob hle (Nat.zero_le _) ?_
  intro i hi
  by_cases hlt : i < n
  · have hsub : (l.take (i + 1)).all rowOk = true := List.all_eq_true.2 fun x hx => List.all_eq_true.1 hall x (by
      have : l.take (i + 1) = (l.take n).take (i + 1) := by rw [List.take_take, Nat.min_eq_left (by omega)]
      rw [this] at hx
      exact List.mem_of_mem_take hx)
    obtain ⟨ob, hob, a, b, q, hle⟩ := oq_step l n c i hc hlt hn hm hw hsub
    exact .round _ [] _ _ [0, 4, 5] [8] _ _ _ (i + 1) q hob hle hlt (by omega)
  · have hin : i = n := by omega
    subst hin
    refine .stop [false] [] _ _ [1] _ _ _ (congrFun (congrFun (congrFun (congrFun (congrFun oqX l) i) c) (vint ((i : Nat) : Int) ++ bytesO (l.take i))) i) ⟨decide_eq_false (by omega), trivial⟩ ndO1 ?_ ?_
    · simp [tupO, leV, leL1, leV1, leC, N.v, List.range, List.range.loop]
    · simp [leBs, leB, leCells, roO, owB]
theorem ordq_no (l : List (List Int)) (n c : Nat) (hn : n ≤ l.length) (hw : wfO l) (hm : n ≤ 1000) (hall : (l.take n).all rowOk = false) : Works Try.prog 16 [slO 0 n c] [roO l] nilO [roO l] := capO_works fun hc => by
  obtain ⟨ob, hob, a, b, qE, hle⟩ := oq_enter l n c hc hm
  refine works_loop (I := Nat) (Inv := fun i h => TOq l n c (vint ((n : Nat) : Int) ++ bytesO (l.take i)) i h) (good := fun i => i ≤ n ∧ (l.take i).all rowOk = true) (μ := fun i => n - i) (i := 0) (r := [1]) (callOq_ok 4) funOq bodOq (by exact tmpOq) (fun _ _ => ⟨rfl, rfl⟩)
    qE hob hle ⟨Nat.zero_le _, rfl⟩ ?_
  intro i ⟨hi, hok⟩
  have hlt : i < n := by
    rcases Nat.lt_or_ge i n with h | h
    · exact h
    · have : i = n := by omega
      subst this; rw [hok] at hall; cases hall
  have hil : i < l.length := by omega
  have hd := hw _ (row_in hil)
  have app : ∀ {A : Type} {f g : List (List Int) → Nat → Nat → List Int → Nat → A}, f = g → f l n c (vint ((n : Nat) : Int) ++ bytesO (l.take i)) i = g l n c (vint ((n : Nat) : Int) ++ bytesO (l.take i)) i := fun hh => by rw [hh]
  have k10 : (i : Int) < (n : Int) := by omega
  have k11 : (0 : Int) ≤ (i : Int) := by omega
  have stop : ∀ (h : List Bool) (ob : List Prop), endV (List.range 1 ++ []) (rndOq 0 h l n c (vint ((n : Nat) : Int) ++ bytesO (l.take i)) i) = some (.tup [.one .nils, .one (.int .i64 109)], [roO l], ob) → allP ob →
      Step Try.prog (callOq 4) (fun _ => false) FOq LOq.1 LOq.2 1 (fun i h => TOq l n c (vint ((n : Nat) : Int) ++ bytesO (l.take i)) i h) (fun i => i ≤ n ∧ (l.take i).all rowOk = true) (fun i => n - i) nilO [roO l] i := by
    intro h ob hr hob
    exact .stop h [] 0 100000 [] _ _ _ hr hob ndG nilO_le ⟨⟨fun h => h, rfl, rfl⟩, trivial⟩
  by_cases hr : rightR2 (l.getD i []) = true
  · have hr' := hr
    unfold rightR2 at hr'
    by_cases hP : 0 ≤ (l.getD i []).getD 0 0 ∧ (l.getD i []).getD 0 0 ≤ 1073741824
    · have k1 : (!inB ((l.getD i []).getD 0 0) 0 1073741824) = false := by unfold inB; rw [decide_eq_true hP.1, decide_eq_true hP.2]; rfl
      by_cases hS : 0 ≤ (l.getD i []).getD 1 0 ∧ (l.getD i []).getD 1 0 ≤ 1099511627776
      · have hrow : rowOk (l.getD i []) = true := by
          unfold rowOk
          rw [hr, Bool.true_and]
          exact decide_eq_true ⟨hP.1, hS.1, hP.2, hS.2⟩
        have hnext : (l.take (i + 1)).all rowOk = true := by
          rw [take_row hil, List.all_append, hok, List.all_cons, hrow]; rfl
        obtain ⟨ob, hob, a, b, q, hle⟩ := oq_step l n c i hc hlt hn hm hw hnext
        exact .round _ [] _ _ [0, 4, 5] [8] _ _ _ (i + 1) q hob hle ⟨hlt, hnext⟩ (by omega)
      · have k2 : (!inB ((l.getD i []).getD 1 0) 0 1099511627776) = true := by
          unfold inB
          rw [Bool.not_eq_true', Bool.and_eq_false_iff, decide_eq_false_iff_not, decide_eq_false_iff_not]
          omega
        exact stop _ _ (app oqF2) ⟨k2, hil, k11, k10, k1, hil, k11, k10, hr', hd, hil, k11, k10, decide_eq_true k10, trivial⟩
    · have k1 : (!inB ((l.getD i []).getD 0 0) 0 1073741824) = true := by
        unfold inB
        rw [Bool.not_eq_true', Bool.and_eq_false_iff, decide_eq_false_iff_not, decide_eq_false_iff_not]
        omega
      exact stop _ _ (app oqF1) ⟨k1, hil, k11, k10, hr', hd, hil, k11, k10, decide_eq_true k10, trivial⟩
  · exact stop _ _ (app oqF0) ⟨by unfold rightR2 at hr; exact Bool.eq_false_iff.2 hr, hd, hil, k11, k10, decide_eq_true k10, trivial⟩
theorem ordq_works (l : List (List Int)) (n c : Nat) (hn : n ≤ l.length) (hw : wfO l) : Works Try.prog 16 [slO 0 n c] [roO l] (tupO 1 (ordS (l.take n)).1.length (ordS (l.take n)).2) [roO l, owB (ordS (l.take n)).1] := by
  have hl : (l.take n).length = n := by rw [List.length_take]; omega
  by_cases hb : 1000 < n
  · have e : ordS (l.take n) = ([], 109) := by unfold ordS; rw [if_pos (.inl (by omega))]
    rw [e]
    exact ghost_slice (works_of (r := []) tabOq_ok (congrFun (congrFun (congrFun oqBig l) n) c) ⟨decide_eq_true (by omega), trivial⟩ ndG nilO_le ⟨⟨fun h => h, rfl, rfl⟩, trivial⟩)
  · cases ha : (l.take n).all rowOk with
    | true =>
      have e : ordS (l.take n) = (vint ((n : Nat) : Int) ++ bytesO (l.take n), 0) := by
        unfold ordS; rw [if_neg (fun h => by rcases h with h | h; omega; rw [ha] at h; cases h), hl]
      rw [e]
      exact ordq_yes l n c hn hw (by omega) ha
    | false =>
      have e : ordS (l.take n) = ([], 109) := by unfold ordS; rw [if_pos (.inr ha)]
      rw [e]
      exact ghost_slice (ordq_no l n c hn hw (by omega) ha)
theorem ordref_tab : TabOk Try.prog 16 (loc wantO gOrd) := loc_ok fun xs bs v bs' ob hg hob hokb => by
  unfold gOrd at hg
  split at hg
  · rename_i n c ks l
    split at hg
    · rename_i hk
      injection hg with hg; injection hg with e1 e2; injection e2 with e2 e3
      subst e1; subst e2; subst e3
      have hk' : ks = ksO := of_decide_eq_true hk
      subst hk'
      exact ordq_works l n c (hob _ (by simp)) (hob (wfO l) (by simp))
    · cases hg
  · cases hg
end
section
open Go.Sx
def tabLq (F : GI) (G : GB) (H : GR) := tabs [(34, loc wantRo (gGetUF F)), (35, loc wantRo (gGetBF G)), (14, loc wantRo (gReadF H))]
noncomputable def callLq (F : GI) (G : GB) (H : GR) (d : Nat) := callN Try.prog (tabLq F G H) (fun _ => false) 100000 d
noncomputable def LLq := loopN Try.prog 18 0
noncomputable def ELq : List Item := .code (.loop LLq.1) :: LLq.2
noncomputable def KLq : List Item := .inLoop LLq.1 :: LLq.2
noncomputable def FLq : Go.Func := match Try.prog.funcs[18]? with | some fn => fn | none => default
def T0q (l : List Int) (n c : Nat) (k a : Int) (i : Nat) (h : List Bool) : St := ⟨[(0, bsl 0 n c), (4, si .u64 k), (5, si .i64 a), (7, .v (.one .nils)), (8, si .u64 i)], [roB l], h, []⟩
def T1q (l : List Int) (n c : Nat) (k a : Int) (i : Nat) (out : List (List Int)) (h : List Bool) : St := ⟨[(0, bsl 0 n c), (4, si .u64 k), (5, si .i64 a), (7, slO 1 out.length out.length), (8, si .u64 i)], [roB l, rwL out], h, []⟩
noncomputable def rnd0q (F : GI) (G : GB) (H : GR) (lim : Nat) (h : List Bool) (l : List Int) (n c : Nat) (k a : Int) (i : Nat) := run Try.prog (callLq F G H 4) (fun _ => false) FLq lim 100000 [] (.code LLq.1 :: .inLoop LLq.1 :: LLq.2) (T0q l n c k a i h)
noncomputable def rnd1q (F : GI) (G : GB) (H : GR) (lim : Nat) (h : List Bool) (l : List Int) (n c : Nat) (k a : Int) (i : Nat) (out : List (List Int)) := run Try.prog (callLq F G H 4) (fun _ => false) FLq lim 100000 [] (.code LLq.1 :: .inLoop LLq.1 :: LLq.2) (T1q l n c k a i out h)
noncomputable def entq (F : GI) (G : GB) (H : GR) (l : List Int) (n c : Nat) (h : List Bool) := run Try.prog (callLq F G H 4) (fun _ => false) FLq 0 100000 [false] [.code (bodyF 18)] ⟨argSlots 0 [bsl 0 n c], [roB l], h, []⟩
theorem lqE : (fun (F : GI) (G : GB) (H : GR) (l : List Int) (n c : Nat) => stopV [0, 4, 5, 7, 8] [0] (entq F G H l n c [false, false])) = fun (F : GI) (_ : GB) (_ : GR) (l : List Int) (n : Nat) (c : Nat) => some ((ELq, ([(((0 : Nat)), (V.v (V1.one (C.slice ((0 : Nat)) (N.c ((0 : Nat))) ((1 : Nat)) (N.s (n)) (N.s (c)))))), (((4 : Nat)), (V.v (V1.one (C.sint (IntKind.u64) (Prod.fst (F l n (0 : Int))))))), (((5 : Nat)), (V.v (V1.one (C.sint (IntKind.i64) (Prod.fst (Prod.snd (F l n (0 : Int)))))))), (((7 : Nat)), (V.v (V1.one (C.nils)))), (((8 : Nat)), (V.v (V1.one (C.int (IntKind.u64) ((0 : Int))))))], ([(SB.mk (false) (Cells.ints (IntKind.u8) (l)))], [decide ((1000 : Int) < Prod.fst (F l n (0 : Int))) = false, (!decide (Prod.snd (Prod.snd (F l n (0 : Int))) = (0 : Int))) = false, n ≤ List.length l, n ≤ (1000000000 : Nat), wfB l])))) := by kernel_rfl
theorem lqE1 : (fun (F : GI) (G : GB) (H : GR) (l : List Int) (n c : Nat) => endV [0] (entq F G H l n c [true])) = fun (F : GI) (_ : GB) (_ : GR) (l : List Int) (n : Nat) (_ : Nat) => some (((V.tup [(V1.one (C.nils)), (V1.one (C.int (IntKind.i64) ((109 : Int))))]), ([(SB.mk (false) (Cells.ints (IntKind.u8) (l)))], [(!decide (Prod.snd (Prod.snd (F l n (0 : Int))) = (0 : Int))) = true, n ≤ List.length l, n ≤ (1000000000 : Nat), wfB l]))) := by kernel_rfl
theorem lqE2 : (fun (F : GI) (G : GB) (H : GR) (l : List Int) (n c : Nat) => endV [0] (entq F G H l n c [false, true])) = fun (F : GI) (_ : GB) (_ : GR) (l : List Int) (n : Nat) (_ : Nat) => some (((V.tup [(V1.one (C.nils)), (V1.one (C.int (IntKind.i64) ((109 : Int))))]), ([(SB.mk (false) (Cells.ints (IntKind.u8) (l)))], [decide ((1000 : Int) < Prod.fst (F l n (0 : Int))) = true, (!decide (Prod.snd (Prod.snd (F l n (0 : Int))) = (0 : Int))) = false, n ≤ List.length l, n ≤ (1000000000 : Nat), wfB l]))) := by kernel_rfl
theorem lq0R : (fun (F : GI) (G : GB) (H : GR) (l : List Int) (n c : Nat) (k a : Int) (i : Nat) => stopV [0, 4, 5, 7, 8] [0, 4] (rnd0q F G H (LLq.2.length + 1) [true, false, false, false, false, false, false] l n c k a i)) = fun (F : GI) (G : GB) (H : GR) (l : List Int) (n : Nat) (c : Nat) (k : Int) (a : Int) (i : Nat) => some ((KLq, ([(((0 : Nat)), (V.v (V1.one (C.slice ((0 : Nat)) (N.c ((0 : Nat))) ((1 : Nat)) (N.s (n)) (N.s (c)))))), (((4 : Nat)), (V.v (V1.one (C.sint (IntKind.u64) (k))))), (((5 : Nat)), (V.v (V1.one (C.sint (IntKind.i64) (Prod.fst (Prod.snd (G l n (Prod.fst (Prod.snd (F l n (Prod.fst (Prod.snd (F l n a)))))) (100 : Int)))))))), (((7 : Nat)), (V.v (V1.one (C.slice ((4 : Nat)) (N.c ((0 : Nat))) ((7 : Nat)) (N.c ((1 : Nat))) (N.c ((1 : Nat))))))), (((8 : Nat)), (V.v (V1.one (C.sint (IntKind.u64) (IntKind.wrap IntKind.u64 ((↑i : Int) + (1 : Int)))))))], ([(SB.mk (false) (Cells.ints (IntKind.u8) (l))), (SB.mk (true) (Cells.exp [(C.sint (IntKind.i64) (IntKind.wrap IntKind.i64 (Prod.fst (F l n a)))), (C.sint (IntKind.i64) (IntKind.wrap IntKind.i64 (Prod.fst (F l n (Prod.fst (Prod.snd (F l n a))))))), (C.sint (IntKind.u8) (Cmd5.d (Prod.fst (H (Prod.fst (G l n (Prod.fst (Prod.snd (F l n (Prod.fst (Prod.snd (F l n a)))))) (100 : Int))) (List.length (Prod.fst (G l n (Prod.fst (Prod.snd (F l n (Prod.fst (Prod.snd (F l n a)))))) (100 : Int)))))))), (C.sint (IntKind.i64) (Cmd5.A (Prod.fst (H (Prod.fst (G l n (Prod.fst (Prod.snd (F l n (Prod.fst (Prod.snd (F l n a)))))) (100 : Int))) (List.length (Prod.fst (G l n (Prod.fst (Prod.snd (F l n (Prod.fst (Prod.snd (F l n a)))))) (100 : Int)))))))), (C.sint (IntKind.i64) (Cmd5.B (Prod.fst (H (Prod.fst (G l n (Prod.fst (Prod.snd (F l n (Prod.fst (Prod.snd (F l n a)))))) (100 : Int))) (List.length (Prod.fst (G l n (Prod.fst (Prod.snd (F l n (Prod.fst (Prod.snd (F l n a)))))) (100 : Int)))))))), (C.sint (IntKind.i64) (Cmd5.C (Prod.fst (H (Prod.fst (G l n (Prod.fst (Prod.snd (F l n (Prod.fst (Prod.snd (F l n a)))))) (100 : Int))) (List.length (Prod.fst (G l n (Prod.fst (Prod.snd (F l n (Prod.fst (Prod.snd (F l n a)))))) (100 : Int)))))))), (C.sint (IntKind.i64) (Cmd5.N (Prod.fst (H (Prod.fst (G l n (Prod.fst (Prod.snd (F l n (Prod.fst (Prod.snd (F l n a)))))) (100 : Int))) (List.length (Prod.fst (G l n (Prod.fst (Prod.snd (F l n (Prod.fst (Prod.snd (F l n a)))))) (100 : Int))))))))]))], [(!decide (Prod.snd (H (Prod.fst (G l n (Prod.fst (Prod.snd (F l n (Prod.fst (Prod.snd (F l n a)))))) (100 : Int))) (List.length (Prod.fst (G l n (Prod.fst (Prod.snd (F l n (Prod.fst (Prod.snd (F l n a)))))) (100 : Int))))) = (0 : Int))) = false, List.length (Prod.fst (G l n (Prod.fst (Prod.snd (F l n (Prod.fst (Prod.snd (F l n a)))))) (100 : Int))) ≤ List.length (Prod.fst (G l n (Prod.fst (Prod.snd (F l n (Prod.fst (Prod.snd (F l n a)))))) (100 : Int))), List.length (Prod.fst (G l n (Prod.fst (Prod.snd (F l n (Prod.fst (Prod.snd (F l n a)))))) (100 : Int))) ≤ (1000000000 : Nat), wfB (Prod.fst (G l n (Prod.fst (Prod.snd (F l n (Prod.fst (Prod.snd (F l n a)))))) (100 : Int))), (!decide (Prod.snd (Prod.snd (G l n (Prod.fst (Prod.snd (F l n (Prod.fst (Prod.snd (F l n a)))))) (100 : Int))) = (0 : Int))) = false, n ≤ List.length l, n ≤ (1000000000 : Nat), wfB l, i64 (100 : Int), decide ((1099511627776 : Int) < Prod.fst (F l n (Prod.fst (Prod.snd (F l n a))))) = false, (!decide (Prod.snd (Prod.snd (F l n (Prod.fst (Prod.snd (F l n a))))) = (0 : Int))) = false, n ≤ List.length l, n ≤ (1000000000 : Nat), wfB l, decide ((1073741824 : Int) < Prod.fst (F l n a)) = false, (!decide (Prod.snd (Prod.snd (F l n a)) = (0 : Int))) = false, n ≤ List.length l, n ≤ (1000000000 : Nat), wfB l, decide ((↑i : Int) < k) = true])))) := by kernel_rfl
theorem lq1R : (fun (F : GI) (G : GB) (H : GR) (l : List Int) (n c : Nat) (k a : Int) (i : Nat) (out : List (List Int)) => stopV [0, 4, 5, 7, 8] [0, 5] (rnd1q F G H (LLq.2.length + 1) [true, false, false, false, false, false, false, true] l n c k a i out)) = fun (F : GI) (G : GB) (H : GR) (l : List Int) (n : Nat) (c : Nat) (k : Int) (a : Int) (i : Nat) (out : List (List Int)) => some ((KLq, ([(((0 : Nat)), (V.v (V1.one (C.slice ((0 : Nat)) (N.c ((0 : Nat))) ((1 : Nat)) (N.s (n)) (N.s (c)))))), (((4 : Nat)), (V.v (V1.one (C.sint (IntKind.u64) (k))))), (((5 : Nat)), (V.v (V1.one (C.sint (IntKind.i64) (Prod.fst (Prod.snd (G l n (Prod.fst (Prod.snd (F l n (Prod.fst (Prod.snd (F l n a)))))) (100 : Int)))))))), (((7 : Nat)), (V.v (V1.one (C.slice ((5 : Nat)) (N.c ((0 : Nat))) ((7 : Nat)) (N.s (List.length out + (1 : Nat))) (N.s (List.length out + (1 : Nat))))))), (((8 : Nat)), (V.v (V1.one (C.sint (IntKind.u64) (IntKind.wrap IntKind.u64 ((↑i : Int) + (1 : Int)))))))], ([(SB.mk (false) (Cells.ints (IntKind.u8) (l))), (SB.mk (true) (Cells.recs (ksO) (out ++ [[IntKind.wrap IntKind.i64 (Prod.fst (F l n a)), IntKind.wrap IntKind.i64 (Prod.fst (F l n (Prod.fst (Prod.snd (F l n a))))), Cmd5.d (Prod.fst (H (Prod.fst (G l n (Prod.fst (Prod.snd (F l n (Prod.fst (Prod.snd (F l n a)))))) (100 : Int))) (List.length (Prod.fst (G l n (Prod.fst (Prod.snd (F l n (Prod.fst (Prod.snd (F l n a)))))) (100 : Int)))))), Cmd5.A (Prod.fst (H (Prod.fst (G l n (Prod.fst (Prod.snd (F l n (Prod.fst (Prod.snd (F l n a)))))) (100 : Int))) (List.length (Prod.fst (G l n (Prod.fst (Prod.snd (F l n (Prod.fst (Prod.snd (F l n a)))))) (100 : Int)))))), Cmd5.B (Prod.fst (H (Prod.fst (G l n (Prod.fst (Prod.snd (F l n (Prod.fst (Prod.snd (F l n a)))))) (100 : Int))) (List.length (Prod.fst (G l n (Prod.fst (Prod.snd (F l n (Prod.fst (Prod.snd (F l n a)))))) (100 : Int)))))), Cmd5.C (Prod.fst (H (Prod.fst (G l n (Prod.fst (Prod.snd (F l n (Prod.fst (Prod.snd (F l n a)))))) (100 : Int))) (List.length (Prod.fst (G l n (Prod.fst (Prod.snd (F l n (Prod.fst (Prod.snd (F l n a)))))) (100 : Int)))))), Cmd5.N (Prod.fst (H (Prod.fst (G l n (Prod.fst (Prod.snd (F l n (Prod.fst (Prod.snd (F l n a)))))) (100 : Int))) (List.length (Prod.fst (G l n (Prod.fst (Prod.snd (F l n (Prod.fst (Prod.snd (F l n a)))))) (100 : Int))))))]])))], [(0 : Nat) = (0 : Nat), List.length out = List.length out, (List.length out + (1 : Nat)) * (56 : Nat) ≤ (140737488355328 : Nat), List.length out + (1 : Nat) ≤ (9223372036854775807 : Nat), (!decide (Prod.snd (H (Prod.fst (G l n (Prod.fst (Prod.snd (F l n (Prod.fst (Prod.snd (F l n a)))))) (100 : Int))) (List.length (Prod.fst (G l n (Prod.fst (Prod.snd (F l n (Prod.fst (Prod.snd (F l n a)))))) (100 : Int))))) = (0 : Int))) = false, List.length (Prod.fst (G l n (Prod.fst (Prod.snd (F l n (Prod.fst (Prod.snd (F l n a)))))) (100 : Int))) ≤ List.length (Prod.fst (G l n (Prod.fst (Prod.snd (F l n (Prod.fst (Prod.snd (F l n a)))))) (100 : Int))), List.length (Prod.fst (G l n (Prod.fst (Prod.snd (F l n (Prod.fst (Prod.snd (F l n a)))))) (100 : Int))) ≤ (1000000000 : Nat), wfB (Prod.fst (G l n (Prod.fst (Prod.snd (F l n (Prod.fst (Prod.snd (F l n a)))))) (100 : Int))), (!decide (Prod.snd (Prod.snd (G l n (Prod.fst (Prod.snd (F l n (Prod.fst (Prod.snd (F l n a)))))) (100 : Int))) = (0 : Int))) = false, n ≤ List.length l, n ≤ (1000000000 : Nat), wfB l, i64 (100 : Int), decide ((1099511627776 : Int) < Prod.fst (F l n (Prod.fst (Prod.snd (F l n a))))) = false, (!decide (Prod.snd (Prod.snd (F l n (Prod.fst (Prod.snd (F l n a))))) = (0 : Int))) = false, n ≤ List.length l, n ≤ (1000000000 : Nat), wfB l, decide ((1073741824 : Int) < Prod.fst (F l n a)) = false, (!decide (Prod.snd (Prod.snd (F l n a)) = (0 : Int))) = false, n ≤ List.length l, n ≤ (1000000000 : Nat), wfB l, decide ((↑i : Int) < k) = true])))) := by kernel_rfl
theorem lq0A : (fun (F : GI) (G : GB) (H : GR) (l : List Int) (n c : Nat) (k a : Int) (i : Nat) => endV [0] (rnd0q F G H 0 [true, true] l n c k a i)) = fun (F : GI) (_ : GB) (_ : GR) (l : List Int) (n : Nat) (_ : Nat) (k : Int) (a : Int) (i : Nat) => some (((V.tup [(V1.one (C.nils)), (V1.one (C.int (IntKind.i64) ((109 : Int))))]), ([(SB.mk (false) (Cells.ints (IntKind.u8) (l)))], [(!decide (Prod.snd (Prod.snd (F l n a)) = (0 : Int))) = true, n ≤ List.length l, n ≤ (1000000000 : Nat), wfB l, decide ((↑i : Int) < k) = true]))) := by kernel_rfl
theorem lq1A : (fun (F : GI) (G : GB) (H : GR) (l : List Int) (n c : Nat) (k a : Int) (i : Nat) (out : List (List Int)) => endV [0] (rnd1q F G H 0 [true, true] l n c k a i out)) = fun (F : GI) (G : GB) (H : GR) (l : List Int) (n : Nat) (c : Nat) (k : Int) (a : Int) (i : Nat) (out : List (List Int)) => some (((V.tup [(V1.one (C.nils)), (V1.one (C.int (IntKind.i64) ((109 : Int))))]), ([(SB.mk (false) (Cells.ints (IntKind.u8) (l)))], [(!decide (Prod.snd (Prod.snd (F l n a)) = (0 : Int))) = true, n ≤ List.length l, n ≤ (1000000000 : Nat), wfB l, decide ((↑i : Int) < k) = true]))) := by kernel_rfl
theorem lq0B : (fun (F : GI) (G : GB) (H : GR) (l : List Int) (n c : Nat) (k a : Int) (i : Nat) => endV [0] (rnd0q F G H 0 [true, false, true] l n c k a i)) = fun (F : GI) (_ : GB) (_ : GR) (l : List Int) (n : Nat) (_ : Nat) (k : Int) (a : Int) (i : Nat) => some (((V.tup [(V1.one (C.nils)), (V1.one (C.int (IntKind.i64) ((109 : Int))))]), ([(SB.mk (false) (Cells.ints (IntKind.u8) (l)))], [decide ((1073741824 : Int) < Prod.fst (F l n a)) = true, (!decide (Prod.snd (Prod.snd (F l n a)) = (0 : Int))) = false, n ≤ List.length l, n ≤ (1000000000 : Nat), wfB l, decide ((↑i : Int) < k) = true]))) := by kernel_rfl
theorem lq1B : (fun (F : GI) (G : GB) (H : GR) (l : List Int) (n c : Nat) (k a : Int) (i : Nat) (out : List (List Int)) => endV [0] (rnd1q F G H 0 [true, false, true] l n c k a i out)) = fun (F : GI) (G : GB) (H : GR) (l : List Int) (n : Nat) (c : Nat) (k : Int) (a : Int) (i : Nat) (out : List (List Int)) => some (((V.tup [(V1.one (C.nils)), (V1.one (C.int (IntKind.i64) ((109 : Int))))]), ([(SB.mk (false) (Cells.ints (IntKind.u8) (l)))], [decide ((1073741824 : Int) < Prod.fst (F l n a)) = true, (!decide (Prod.snd (Prod.snd (F l n a)) = (0 : Int))) = false, n ≤ List.length l, n ≤ (1000000000 : Nat), wfB l, decide ((↑i : Int) < k) = true]))) := by kernel_rfl
theorem lq0C : (fun (F : GI) (G : GB) (H : GR) (l : List Int) (n c : Nat) (k a : Int) (i : Nat) => endV [0] (rnd0q F G H 0 [true, false, false, true] l n c k a i)) = fun (F : GI) (_ : GB) (_ : GR) (l : List Int) (n : Nat) (_ : Nat) (k : Int) (a : Int) (i : Nat) => some (((V.tup [(V1.one (C.nils)), (V1.one (C.int (IntKind.i64) ((109 : Int))))]), ([(SB.mk (false) (Cells.ints (IntKind.u8) (l)))], [(!decide (Prod.snd (Prod.snd (F l n (Prod.fst (Prod.snd (F l n a))))) = (0 : Int))) = true, n ≤ List.length l, n ≤ (1000000000 : Nat), wfB l, decide ((1073741824 : Int) < Prod.fst (F l n a)) = false, (!decide (Prod.snd (Prod.snd (F l n a)) = (0 : Int))) = false, n ≤ List.length l, n ≤ (1000000000 : Nat), wfB l, decide ((↑i : Int) < k) = true]))) := by kernel_rfl
theorem lq1C : (fun (F : GI) (G : GB) (H : GR) (l : List Int) (n c : Nat) (k a : Int) (i : Nat) (out : List (List Int)) => endV [0] (rnd1q F G H 0 [true, false, false, true] l n c k a i out)) = fun (F : GI) (G : GB) (H : GR) (l : List Int) (n : Nat) (c : Nat) (k : Int) (a : Int) (i : Nat) (out : List (List Int)) => some (((V.tup [(V1.one (C.nils)), (V1.one (C.int (IntKind.i64) ((109 : Int))))]), ([(SB.mk (false) (Cells.ints (IntKind.u8) (l)))], [(!decide (Prod.snd (Prod.snd (F l n (Prod.fst (Prod.snd (F l n a))))) = (0 : Int))) = true, n ≤ List.length l, n ≤ (1000000000 : Nat), wfB l, decide ((1073741824 : Int) < Prod.fst (F l n a)) = false, (!decide (Prod.snd (Prod.snd (F l n a)) = (0 : Int))) = false, n ≤ List.length l, n ≤ (1000000000 : Nat), wfB l, decide ((↑i : Int) < k) = true]))) := by kernel_rfl
theorem lq0D : (fun (F : GI) (G : GB) (H : GR) (l : List Int) (n c : Nat) (k a : Int) (i : Nat) => endV [0] (rnd0q F G H 0 [true, false, false, false, true] l n c k a i)) = fun (F : GI) (_ : GB) (_ : GR) (l : List Int) (n : Nat) (_ : Nat) (k : Int) (a : Int) (i : Nat) => some (((V.tup [(V1.one (C.nils)), (V1.one (C.int (IntKind.i64) ((109 : Int))))]), ([(SB.mk (false) (Cells.ints (IntKind.u8) (l)))], [decide ((1099511627776 : Int) < Prod.fst (F l n (Prod.fst (Prod.snd (F l n a))))) = true, (!decide (Prod.snd (Prod.snd (F l n (Prod.fst (Prod.snd (F l n a))))) = (0 : Int))) = false, n ≤ List.length l, n ≤ (1000000000 : Nat), wfB l, decide ((1073741824 : Int) < Prod.fst (F l n a)) = false, (!decide (Prod.snd (Prod.snd (F l n a)) = (0 : Int))) = false, n ≤ List.length l, n ≤ (1000000000 : Nat), wfB l, decide ((↑i : Int) < k) = true]))) := by kernel_rfl
theorem lq1D : (fun (F : GI) (G : GB) (H : GR) (l : List Int) (n c : Nat) (k a : Int) (i : Nat) (out : List (List Int)) => endV [0] (rnd1q F G H 0 [true, false, false, false, true] l n c k a i out)) = fun (F : GI) (G : GB) (H : GR) (l : List Int) (n : Nat) (c : Nat) (k : Int) (a : Int) (i : Nat) (out : List (List Int)) => some (((V.tup [(V1.one (C.nils)), (V1.one (C.int (IntKind.i64) ((109 : Int))))]), ([(SB.mk (false) (Cells.ints (IntKind.u8) (l)))], [decide ((1099511627776 : Int) < Prod.fst (F l n (Prod.fst (Prod.snd (F l n a))))) = true, (!decide (Prod.snd (Prod.snd (F l n (Prod.fst (Prod.snd (F l n a))))) = (0 : Int))) = false, n ≤ List.length l, n ≤ (1000000000 : Nat), wfB l, decide ((1073741824 : Int) < Prod.fst (F l n a)) = false, (!decide (Prod.snd (Prod.snd (F l n a)) = (0 : Int))) = false, n ≤ List.length l, n ≤ (1000000000 : Nat), wfB l, decide ((↑i : Int) < k) = true]))) := by kernel_rfl
theorem lq0E : (fun (F : GI) (G : GB) (H : GR) (l : List Int) (n c : Nat) (k a : Int) (i : Nat) => endV [0] (rnd0q F G H 0 [true, false, false, false, false, true] l n c k a i)) = fun (F : GI) (G : GB) (_ : GR) (l : List Int) (n : Nat) (_ : Nat) (k : Int) (a : Int) (i : Nat) => some (((V.tup [(V1.one (C.nils)), (V1.one (C.int (IntKind.i64) ((109 : Int))))]), ([(SB.mk (false) (Cells.ints (IntKind.u8) (l)))], [(!decide (Prod.snd (Prod.snd (G l n (Prod.fst (Prod.snd (F l n (Prod.fst (Prod.snd (F l n a)))))) (100 : Int))) = (0 : Int))) = true, n ≤ List.length l, n ≤ (1000000000 : Nat), wfB l, i64 (100 : Int), decide ((1099511627776 : Int) < Prod.fst (F l n (Prod.fst (Prod.snd (F l n a))))) = false, (!decide (Prod.snd (Prod.snd (F l n (Prod.fst (Prod.snd (F l n a))))) = (0 : Int))) = false, n ≤ List.length l, n ≤ (1000000000 : Nat), wfB l, decide ((1073741824 : Int) < Prod.fst (F l n a)) = false, (!decide (Prod.snd (Prod.snd (F l n a)) = (0 : Int))) = false, n ≤ List.length l, n ≤ (1000000000 : Nat), wfB l, decide ((↑i : Int) < k) = true]))) := by kernel_rfl
theorem lq1E : (fun (F : GI) (G : GB) (H : GR) (l : List Int) (n c : Nat) (k a : Int) (i : Nat) (out : List (List Int)) => endV [0] (rnd1q F G H 0 [true, false, false, false, false, true] l n c k a i out)) = fun (F : GI) (G : GB) (H : GR) (l : List Int) (n : Nat) (c : Nat) (k : Int) (a : Int) (i : Nat) (out : List (List Int)) => some (((V.tup [(V1.one (C.nils)), (V1.one (C.int (IntKind.i64) ((109 : Int))))]), ([(SB.mk (false) (Cells.ints (IntKind.u8) (l)))], [(!decide (Prod.snd (Prod.snd (G l n (Prod.fst (Prod.snd (F l n (Prod.fst (Prod.snd (F l n a)))))) (100 : Int))) = (0 : Int))) = true, n ≤ List.length l, n ≤ (1000000000 : Nat), wfB l, i64 (100 : Int), decide ((1099511627776 : Int) < Prod.fst (F l n (Prod.fst (Prod.snd (F l n a))))) = false, (!decide (Prod.snd (Prod.snd (F l n (Prod.fst (Prod.snd (F l n a))))) = (0 : Int))) = false, n ≤ List.length l, n ≤ (1000000000 : Nat), wfB l, decide ((1073741824 : Int) < Prod.fst (F l n a)) = false, (!decide (Prod.snd (Prod.snd (F l n a)) = (0 : Int))) = false, n ≤ List.length l, n ≤ (1000000000 : Nat), wfB l, decide ((↑i : Int) < k) = true]))) := by kernel_rfl
theorem lq0F : (fun (F : GI) (G : GB) (H : GR) (l : List Int) (n c : Nat) (k a : Int) (i : Nat) => endV [0] (rnd0q F G H 0 [true, false, false, false, false, false, true] l n c k a i)) = fun (F : GI) (G : GB) (H : GR) (l : List Int) (n : Nat) (_ : Nat) (k : Int) (a : Int) (i : Nat) => some (((V.tup [(V1.one (C.nils)), (V1.one (C.int (IntKind.i64) ((109 : Int))))]), ([(SB.mk (false) (Cells.ints (IntKind.u8) (l)))], [(!decide (Prod.snd (H (Prod.fst (G l n (Prod.fst (Prod.snd (F l n (Prod.fst (Prod.snd (F l n a)))))) (100 : Int))) (List.length (Prod.fst (G l n (Prod.fst (Prod.snd (F l n (Prod.fst (Prod.snd (F l n a)))))) (100 : Int))))) = (0 : Int))) = true, List.length (Prod.fst (G l n (Prod.fst (Prod.snd (F l n (Prod.fst (Prod.snd (F l n a)))))) (100 : Int))) ≤ List.length (Prod.fst (G l n (Prod.fst (Prod.snd (F l n (Prod.fst (Prod.snd (F l n a)))))) (100 : Int))), List.length (Prod.fst (G l n (Prod.fst (Prod.snd (F l n (Prod.fst (Prod.snd (F l n a)))))) (100 : Int))) ≤ (1000000000 : Nat), wfB (Prod.fst (G l n (Prod.fst (Prod.snd (F l n (Prod.fst (Prod.snd (F l n a)))))) (100 : Int))), (!decide (Prod.snd (Prod.snd (G l n (Prod.fst (Prod.snd (F l n (Prod.fst (Prod.snd (F l n a)))))) (100 : Int))) = (0 : Int))) = false, n ≤ List.length l, n ≤ (1000000000 : Nat), wfB l, i64 (100 : Int), decide ((1099511627776 : Int) < Prod.fst (F l n (Prod.fst (Prod.snd (F l n a))))) = false, (!decide (Prod.snd (Prod.snd (F l n (Prod.fst (Prod.snd (F l n a))))) = (0 : Int))) = false, n ≤ List.length l, n ≤ (1000000000 : Nat), wfB l, decide ((1073741824 : Int) < Prod.fst (F l n a)) = false, (!decide (Prod.snd (Prod.snd (F l n a)) = (0 : Int))) = false, n ≤ List.length l, n ≤ (1000000000 : Nat), wfB l, decide ((↑i : Int) < k) = true]))) := by kernel_rfl
theorem lq1F : (fun (F : GI) (G : GB) (H : GR) (l : List Int) (n c : Nat) (k a : Int) (i : Nat) (out : List (List Int)) => endV [0] (rnd1q F G H 0 [true, false, false, false, false, false, true] l n c k a i out)) = fun (F : GI) (G : GB) (H : GR) (l : List Int) (n : Nat) (c : Nat) (k : Int) (a : Int) (i : Nat) (out : List (List Int)) => some (((V.tup [(V1.one (C.nils)), (V1.one (C.int (IntKind.i64) ((109 : Int))))]), ([(SB.mk (false) (Cells.ints (IntKind.u8) (l)))], [(!decide (Prod.snd (H (Prod.fst (G l n (Prod.fst (Prod.snd (F l n (Prod.fst (Prod.snd (F l n a)))))) (100 : Int))) (List.length (Prod.fst (G l n (Prod.fst (Prod.snd (F l n (Prod.fst (Prod.snd (F l n a)))))) (100 : Int))))) = (0 : Int))) = true, List.length (Prod.fst (G l n (Prod.fst (Prod.snd (F l n (Prod.fst (Prod.snd (F l n a)))))) (100 : Int))) ≤ List.length (Prod.fst (G l n (Prod.fst (Prod.snd (F l n (Prod.fst (Prod.snd (F l n a)))))) (100 : Int))), List.length (Prod.fst (G l n (Prod.fst (Prod.snd (F l n (Prod.fst (Prod.snd (F l n a)))))) (100 : Int))) ≤ (1000000000 : Nat), wfB (Prod.fst (G l n (Prod.fst (Prod.snd (F l n (Prod.fst (Prod.snd (F l n a)))))) (100 : Int))), (!decide (Prod.snd (Prod.snd (G l n (Prod.fst (Prod.snd (F l n (Prod.fst (Prod.snd (F l n a)))))) (100 : Int))) = (0 : Int))) = false, n ≤ List.length l, n ≤ (1000000000 : Nat), wfB l, i64 (100 : Int), decide ((1099511627776 : Int) < Prod.fst (F l n (Prod.fst (Prod.snd (F l n a))))) = false, (!decide (Prod.snd (Prod.snd (F l n (Prod.fst (Prod.snd (F l n a))))) = (0 : Int))) = false, n ≤ List.length l, n ≤ (1000000000 : Nat), wfB l, decide ((1073741824 : Int) < Prod.fst (F l n a)) = false, (!decide (Prod.snd (Prod.snd (F l n a)) = (0 : Int))) = false, n ≤ List.length l, n ≤ (1000000000 : Nat), wfB l, decide ((↑i : Int) < k) = true]))) := by kernel_rfl
theorem lq0X : (fun (F : GI) (G : GB) (H : GR) (l : List Int) (n c : Nat) (k a : Int) (i : Nat) => endV [0] (rnd0q F G H 0 [false, true] l n c k a i)) = fun (_ : GI) (_ : GB) (_ : GR) (l : List Int) (n : Nat) (_ : Nat) (k : Int) (a : Int) (i : Nat) => some (((V.tup [(V1.one (C.nils)), (V1.one (C.int (IntKind.i64) ((109 : Int))))]), ([(SB.mk (false) (Cells.ints (IntKind.u8) (l)))], [(!decide (a = (↑n : Int))) = true, decide ((↑i : Int) < k) = false]))) := by kernel_rfl
theorem lq1X : (fun (F : GI) (G : GB) (H : GR) (l : List Int) (n c : Nat) (k a : Int) (i : Nat) (out : List (List Int)) => endV [0] (rnd1q F G H 0 [false, true] l n c k a i out)) = fun (F : GI) (G : GB) (H : GR) (l : List Int) (n : Nat) (c : Nat) (k : Int) (a : Int) (i : Nat) (out : List (List Int)) => some (((V.tup [(V1.one (C.nils)), (V1.one (C.int (IntKind.i64) ((109 : Int))))]), ([(SB.mk (false) (Cells.ints (IntKind.u8) (l)))], [(!decide (a = (↑n : Int))) = true, decide ((↑i : Int) < k) = false]))) := by kernel_rfl
theorem lq0Z : (fun (F : GI) (G : GB) (H : GR) (l : List Int) (n c : Nat) (k a : Int) (i : Nat) => endV [0] (rnd0q F G H 0 [false, false] l n c k a i)) = fun (_ : GI) (_ : GB) (_ : GR) (l : List Int) (n : Nat) (_ : Nat) (k : Int) (a : Int) (i : Nat) => some (((V.tup [(V1.one (C.nils)), (V1.one (C.int (IntKind.i64) ((0 : Int))))]), ([(SB.mk (false) (Cells.ints (IntKind.u8) (l)))], [(!decide (a = (↑n : Int))) = false, decide ((↑i : Int) < k) = false]))) := by kernel_rfl
theorem lq1Z : (fun (F : GI) (G : GB) (H : GR) (l : List Int) (n c : Nat) (k a : Int) (i : Nat) (out : List (List Int)) => endV [0, 1] (rnd1q F G H 0 [false, false] l n c k a i out)) = fun (F : GI) (G : GB) (H : GR) (l : List Int) (n : Nat) (c : Nat) (k : Int) (a : Int) (i : Nat) (out : List (List Int)) => some (((V.tup [(V1.one (C.slice ((1 : Nat)) (N.c ((0 : Nat))) ((7 : Nat)) (N.s (List.length out)) (N.s (List.length out)))), (V1.one (C.int (IntKind.i64) ((0 : Int))))]), ([(SB.mk (false) (Cells.ints (IntKind.u8) (l))), (SB.mk (true) (Cells.recs (ksO) (out)))], [(!decide (a = (↑n : Int))) = false, decide ((↑i : Int) < k) = false]))) := by kernel_rfl
end
section
open Go.ChangeShapes Go.WideShapes Go.ChangeAt Go.RowKit Go.Sx
theorem tabLq_ok : ∀ f g, tabLq getU getB read2 f = some g → TabOk Try.prog f g := tabs_ok fun x hx => by
  simp only [List.mem_cons, List.not_mem_nil, or_false] at hx
  rcases hx with rfl | rfl | rfl
  · refine loc_ok fun xs bs v bs' ob hg hob hokb => ?_
    unfold gGetUF at hg
    split at hg
    · rename_i n c a k l
      split at hg
      · rename_i hk
        injection hg with hg; injection hg with e1 e2; injection e2 with e2 e3
        subst e1; subst e2; subst e3
        have hk' : k = .u8 := of_decide_eq_true hk
        subst hk'
        exact getref_works l n c a (hob _ (by simp)) (hob (n ≤ 1000000000) (by simp)) (hob (wfB l) (by simp))
      · cases hg
    · cases hg
  · refine loc_ok fun xs bs v bs' ob hg hob hokb => ?_
    unfold gGetBF at hg
    split at hg
    · rename_i n c a m k l
      split at hg
      · rename_i hk
        injection hg with hg; injection hg with e1 e2; injection e2 with e2 e3
        subst e1; subst e2; subst e3
        have hk' : k = .u8 := of_decide_eq_true hk
        subst hk'
        exact getrefb_works l n c a m (hob _ (by simp)) (hob (n ≤ 1000000000) (by simp)) (hob (wfB l) (by simp)) (hob (i64 m) (by simp))
      · cases hg
    · cases hg
  · refine loc_ok fun xs bs v bs' ob hg hob hokb => ?_
    unfold gReadF at hg
    split at hg
    · rename_i n c k l
      split at hg
      · rename_i hk
        injection hg with hg; injection hg with e1 e2; injection e2 with e2 e3
        subst e1; subst e2; subst e3
        have hk' : k = .u8 := of_decide_eq_true hk
        subst hk'
        exact readref_works l n c (hob _ (by simp)) (hob (n ≤ 1000000000) (by simp)) (hob (wfB l) (by simp))
      · cases hg
    · cases hg
theorem callLq_ok (d : Nat) : CallOk Try.prog (callLq getU getB read2 d) := callN_sound tabLq_ok d
theorem funLq : Try.prog.funcs[18]? = some FLq := by kernel_rfl
theorem bodLq : FLq.body = some (bodyF 18) := by kernel_rfl
theorem tmpLq : 1 ≤ FLq.ntmps := Nat.le_of_ble_eq_true (by kernel_rfl)
theorem ndq4 : (List.range 1 ++ [4]).Nodup := by decide
theorem ndq5 : (List.range 1 ++ [5]).Nodup := by decide
def b1 (l : List Int) (n : Nat) (a : Int) : Int := (getU l n a).2.1
def b2 (l : List Int) (n : Nat) (a : Int) : Int := (getU l n (b1 l n a)).2.1
def okS (l : List Int) (n : Nat) (a : Int) : Prop := (getU l n a).2.2 = 0 ∧ (getU l n a).1 ≤ 1073741824 ∧ (getU l n (b1 l n a)).2.2 = 0 ∧ (getU l n (b1 l n a)).1 ≤ 1099511627776 ∧ (getB l n (b2 l n a) 100).2.2 = 0 ∧ (blobC l n (b2 l n a)).2 = 0
def rowS (l : List Int) (n : Nat) (a : Int) : List Int := [(getU l n a).1, (getU l n (b1 l n a)).1, (blobC l n (b2 l n a)).1.d, (blobC l n (b2 l n a)).1.A, (blobC l n (b2 l n a)).1.B, (blobC l n (b2 l n a)).1.C, (blobC l n (b2 l n a)).1.N]
theorem stepL_ok {l : List Int} {n : Nat} {a : Int} (h : okS l n a) : stepL l n a false = (rowS l n a, (getB l n (b2 l n a) 100).2.1, false) := by
  obtain ⟨h1, h2, h3, h4, h5, h6⟩ := h
  have e1 : numS l n a false 1073741824 = ((getU l n a).1, b1 l n a, false) := by simp [numS, h1, h2, b1]
  have e2 : numS l n (b1 l n a) false 1099511627776 = ((getU l n (b1 l n a)).1, b2 l n a, false) := by simp [numS, h3, h4, b2]
  have e3 : comS l n (b2 l n a) false = ((blobC l n (b2 l n a)).1, (getB l n (b2 l n a) 100).2.1, false) := by simp [comS, h5, h6]
  unfold stepL
  simp only [e1, e2, e3, rowS]
theorem numQ_true (l : List Int) (n : Nat) (a m : Int) : (numS l n a true m).2.2 = true := by simp [numS]
theorem comQ_true (l : List Int) (n : Nat) (a : Int) : (comS l n a true).2.2 = true := by simp [comS]
theorem stepL_bad {l : List Int} {n : Nat} {a : Int} (h : ¬ okS l n a) : (stepL l n a false).2.2 = true := by
  unfold stepL
  simp only
  by_cases h1 : (getU l n a).2.2 = 0 ∧ (getU l n a).1 ≤ 1073741824
  · have e1 : numS l n a false 1073741824 = ((getU l n a).1, b1 l n a, false) := by simp [numS, h1.1, h1.2, b1]
    rw [e1]
    simp only
    by_cases h2 : (getU l n (b1 l n a)).2.2 = 0 ∧ (getU l n (b1 l n a)).1 ≤ 1099511627776
    · have e2 : numS l n (b1 l n a) false 1099511627776 = ((getU l n (b1 l n a)).1, b2 l n a, false) := by simp [numS, h2.1, h2.2, b2]
      rw [e2]
      simp only
      have h3 : ¬ ((getB l n (b2 l n a) 100).2.2 = 0 ∧ (blobC l n (b2 l n a)).2 = 0) := fun h3 => h ⟨h1.1, h1.2, h2.1, h2.2, h3.1, h3.2⟩
      have e3 : (decide ((getB l n (b2 l n a) 100).2.2 = 0) && decide ((blobC l n (b2 l n a)).2 = 0)) = false := by
        rw [← Bool.decide_and]; exact decide_eq_false h3
      simp [comS, e3]
    · have e2 : (decide ((getU l n (b1 l n a)).2.2 = 0) && decide ((getU l n (b1 l n a)).1 ≤ 1099511627776)) = false := by
        rw [← Bool.decide_and]; exact decide_eq_false h2
      have e3 : (numS l n (b1 l n a) false 1099511627776).2.2 = true := by simp [numS, e2]
      rw [e3]
      exact comQ_true _ _ _
  · have e1 : (decide ((getU l n a).2.2 = 0) && decide ((getU l n a).1 ≤ 1073741824)) = false := by
      rw [← Bool.decide_and]; exact decide_eq_false h1
    have e2 : (numS l n a false 1073741824).2.2 = true := by simp [numS, e1]
    rw [e2, numQ_true]
    exact comQ_true _ _ _
theorem loopQ_bad (l : List Int) (n m : Nat) (a : Int) (out : List (List Int)) : finS n (loopS l n m a true out) = ([], 109) := by
  have : (loopS l n m a true out).2.2 = true := by cases m <;> simp [loopS]
  unfold finS
  rw [if_pos (.inl this)]
def nilE (e : Int) : V := .tup [.one .nils, .one (.sint .i64 e)]
def TLq (l : List Int) (n c : Nat) (k a : Int) (i : Nat) (out : List (List Int)) (h : List Bool) : St := match out with
  | [] => T0q l n c k a i h
  | _ :: _ => T1q l n c k a i out h
theorem nilq_le (e : Int) : leV (List.range 1 ++ []) (.tup [.one .nils, .one (.int .i64 e)]) (nilE e) := ⟨trivial, ⟨rfl, rfl⟩, trivial⟩
/-- where the head says that it is none, or ends well: what comes of it -/
theorem lq_loop (l : List Int) (n c : Nat) (v : V) (bs' : List SB) (hn : n ≤ l.length) (hx : l.length ≤ 1000000000) (hw : wfB l)
    (hF : listS l n = ([], 109) → v = nilE 109 ∧ bs' = [roB l]) (hN : listS l n = ([], 0) → v = nilE 0 ∧ bs' = [roB l]) (hR : ∀ r t, listS l n = (r :: t, 0) → v = tup7 1 (r :: t).length 0 ∧ bs' = [roB l, rwL (r :: t)])
    (he0 : (getU l n 0).2.2 = 0) (hk : (getU l n 0).1 ≤ 1000) : Works Try.prog 18 [bsl 0 n c] [roB l] v bs' := capG_works fun hc => by
  have hk0 := (getU_range hw n 0).1
  have d0 : (!decide ((getU l n 0).2.2 = 0)) = false := by rw [decide_eq_true he0]; rfl
  have e0 : numS l n 0 false 1000 = ((getU l n 0).1, (getU l n 0).2.1, false) := by simp [numS, he0, hk]
  obtain ⟨k, hkk⟩ : ∃ k : Nat, (getU l n 0).1 = (k : Int) := ⟨(getU l n 0).1.toNat, by omega⟩
  refine works_loop (I := Int × Nat × List (List Int)) (Inv := fun s h => TLq l n c (k : Int) s.1 s.2.1 s.2.2 h)
    (good := fun s => s.2.1 ≤ k ∧ s.2.2.length = s.2.1 ∧ finS n (loopS l n (k - s.2.1) s.1 false s.2.2) = listS l n) (μ := fun s => k - s.2.1)
    (i := ((getU l n 0).2.1, 0, [])) (r := []) (callLq_ok 4) funLq bodLq (by exact tmpLq) (fun s _ => ?_)
    (congrFun (congrFun (congrFun (congrFun (congrFun (congrFun lqE getU) getB) read2) l) n) c) ⟨decide_eq_false (by omega), d0, hn, by omega, hw, trivial⟩ ⟨ndG, ?_, ?_⟩ ⟨Nat.zero_le _, rfl, ?_⟩ ?_
  · obtain ⟨a, i, out⟩ := s
    cases out <;> exact ⟨rfl, rfl⟩
  · rw [hkk]; simp [TLq, T0q, bsl, leSlots, leV, leV1, leC, si, List.range, List.range.loop, N.v, hc]
  · simp [TLq, T0q, leBs, leB, leCells, roB]
  · show finS n (loopS l n (k - 0) (getU l n 0).2.1 false []) = listS l n
    unfold listS
    rw [e0, hkk]
    rfl
  · rintro ⟨a, i, out⟩ ⟨g1, g2, g3⟩
    simp only at g1 g2 g3
    have app0 : ∀ {A : Type} {f g : GI → GB → GR → List Int → Nat → Nat → Int → Int → Nat → A}, f = g → f getU getB read2 l n c (k : Int) a i = g getU getB read2 l n c (k : Int) a i := fun hh => by rw [hh]
    have app1 : ∀ {A : Type} {f g : GI → GB → GR → List Int → Nat → Nat → Int → Int → Nat → List (List Int) → A}, f = g → f getU getB read2 l n c (k : Int) a i out = g getU getB read2 l n c (k : Int) a i out := fun hh => by rw [hh]
    have hx1 : n ≤ 1000000000 := by omega
    have hi100 : i64 100 := ⟨by decide, by decide⟩
    by_cases hik : i < k
    · have dk : decide ((i : Int) < (k : Int)) = true := decide_eq_true (by omega)
      obtain ⟨m, hm⟩ : ∃ m : Nat, k - i = m + 1 := ⟨k - i - 1, by omega⟩
      have hg := getB_wf hw n (b2 l n a) 100
      have hgl := getB_len (l := l) n (b2 l n a) 100 hx
      by_cases hok : okS l n a
      · have hs := stepL_ok hok
        have hrow := hok
        obtain ⟨h1, h2, h3, h4, h5, h6⟩ := hok
        have r1 := getU_range hw n a
        have r2 := getU_range hw n (b1 l n a)
        have d1 : (!decide ((getU l n a).2.2 = 0)) = false := by rw [decide_eq_true h1]; rfl
        have d2 : decide (1073741824 < (getU l n a).1) = false := decide_eq_false (by omega)
        have d3 : (!decide ((getU l n (b1 l n a)).2.2 = 0)) = false := by rw [decide_eq_true h3]; rfl
        have d4 : decide (1099511627776 < (getU l n (b1 l n a)).1) = false := decide_eq_false (by omega)
        have d5 : (!decide ((getB l n (b2 l n a) 100).2.2 = 0)) = false := by rw [decide_eq_true h5]; rfl
        have d6 : (!decide ((blobC l n (b2 l n a)).2 = 0)) = false := by rw [decide_eq_true h6]; rfl
        have w1 : IntKind.wrap .i64 (getU l n a).1 = (getU l n a).1 := wi64 (by omega) (by omega)
        have w2 : IntKind.wrap .i64 (getU l n (b1 l n a)).1 = (getU l n (b1 l n a)).1 := wi64 (by omega) (by omega)
        have wi : IntKind.wrap .u64 ((i : Int) + 1) = ((i + 1 : Nat) : Int) := by rw [w64 (by omega) (by omega)]; omega
        have hnext : finS n (loopS l n (k - (i + 1)) (getB l n (b2 l n a) 100).2.1 false (out ++ [rowS l n a])) = listS l n := by
          rw [← g3, hm, show k - (i + 1) = m by omega]
          conv => rhs; unfold loopS
          rw [if_neg (by decide), hs]
        have hlen : (out ++ [rowS l n a]).length = i + 1 := by rw [List.length_append, g2]; rfl
        cases out with
        | nil =>
          have q := app0 lq0R
          rw [wi] at q
          refine .round [true, false, false, false, false, false, false] [] _ _ [0, 4, 5, 7, 8] [4] _ _ _ ((getB l n (b2 l n a) 100).2.1, i + 1, [] ++ [rowS l n a]) q ?_ ⟨ndq4, ?_, ?_⟩ ⟨by simp only; omega, hlen, hnext⟩ (by simp only; omega)
          · exact ⟨d6, Nat.le_refl _, hgl, hg, d5, hn, hx1, hw, hi100, d4, d3, hn, hx1, hw, d2, d1, hn, hx1, hw, dk, trivial⟩
          · exact ⟨⟨rfl, rfl, rfl, rfl, rfl, Nat.le_refl _, hc⟩, ⟨rfl, rfl, rfl⟩, ⟨rfl, rfl, rfl⟩, ⟨rfl, rfl, rfl, rfl, rfl, Nat.le_refl _, Nat.le_refl _⟩, ⟨rfl, rfl, rfl⟩, trivial⟩
          · exact ⟨⟨fun h => h, rfl, rfl⟩, ⟨fun h => h, .inr ⟨⟨⟨rfl, w1⟩, ⟨rfl, w2⟩, ⟨rfl, rfl⟩, ⟨rfl, rfl⟩, ⟨rfl, rfl⟩, ⟨rfl, rfl⟩, ⟨rfl, rfl⟩, trivial⟩, fun r hr => by
              simp only [List.nil_append, List.mem_singleton] at hr
              subst hr; rfl⟩⟩, trivial⟩
        | cons r t =>
          have q := app1 lq1R
          rw [wi, w1, show IntKind.wrap .i64 (getU l n (getU l n a).2.1).1 = (getU l n (b1 l n a)).1 from w2] at q
          have e2 : TLq l n c (k : Int) (getB l n (b2 l n a) 100).2.1 (i + 1) (r :: t ++ [rowS l n a]) [] = T1q l n c (k : Int) (getB l n (b2 l n a) 100).2.1 (i + 1) (r :: t ++ [rowS l n a]) [] := rfl
          have hl : (r :: t ++ [rowS l n a]).length = (r :: t).length + 1 := by rw [List.length_append]; rfl
          have hk1 : (k : Int) ≤ 1000 := by omega
          refine .round [true, false, false, false, false, false, false, true] [] _ _ [0, 4, 5, 7, 8] [5] _ _ _ ((getB l n (b2 l n a) 100).2.1, i + 1, r :: t ++ [rowS l n a]) q ?_ ⟨ndq5, ?_, ?_⟩ ⟨by simp only; omega, hlen, hnext⟩ (by simp only; omega)
          · exact ⟨rfl, rfl, by omega, by omega, d6, Nat.le_refl _, hgl, hg, d5, hn, hx1, hw, hi100, d4, d3, hn, hx1, hw, d2, d1, hn, hx1, hw, dk, trivial⟩
          · show leSlots _ _ (TLq l n c (k : Int) (getB l n (b2 l n a) 100).2.1 (i + 1) (r :: t ++ [rowS l n a]) []).sl
            rw [e2]
            exact ⟨⟨rfl, rfl, rfl, rfl, rfl, Nat.le_refl _, hc⟩, ⟨rfl, rfl, rfl⟩, ⟨rfl, rfl, rfl⟩, ⟨rfl, rfl, rfl, rfl, hl.symm, Nat.le_of_eq hl, Nat.le_of_eq hl.symm⟩, ⟨rfl, rfl, rfl⟩, trivial⟩
          · show leBs _ _ (TLq l n c (k : Int) (getB l n (b2 l n a) 100).2.1 (i + 1) (r :: t ++ [rowS l n a]) []).m
            rw [e2]
            exact ⟨⟨fun h => h, rfl, rfl⟩, ⟨fun h => h, rfl, rfl⟩, trivial⟩
      · have hbad := stepL_bad hok
        have hL : listS l n = ([], 109) := by
          rw [← g3, hm]
          unfold loopS
          rw [if_neg (by decide), hbad]
          exact loopQ_bad _ _ _ _ _
        obtain ⟨rfl, rfl⟩ := hF hL
        have stop : ∀ (h : List Bool) (ob : List Prop) (T : St), T = TLq l n c (k : Int) a i out h → endV (List.range 1 ++ []) (run Try.prog (callLq getU getB read2 4) (fun _ => false) FLq 0 100000 [] (.code LLq.1 :: .inLoop LLq.1 :: LLq.2) T) = some (.tup [.one .nils, .one (.int .i64 109)], [roB l], ob) → allP ob →
            Step Try.prog (callLq getU getB read2 4) (fun _ => false) FLq LLq.1 LLq.2 1 (fun (s : Int × Nat × List (List Int)) h => TLq l n c (k : Int) s.1 s.2.1 s.2.2 h) (fun s => s.2.1 ≤ k ∧ s.2.2.length = s.2.1 ∧ finS n (loopS l n (k - s.2.1) s.1 false s.2.2) = listS l n) (fun s => k - s.2.1) (nilE 109) [roB l] (a, i, out) := by
          intro h ob T hT hr hob
          subst hT
          exact .stop h [] 0 100000 [] _ _ _ hr hob ndG (nilq_le 109) ⟨⟨fun h => h, rfl, rfl⟩, trivial⟩
        by_cases h1 : (getU l n a).2.2 = 0
        · have d1 : (!decide ((getU l n a).2.2 = 0)) = false := by rw [decide_eq_true h1]; rfl
          by_cases h2 : (getU l n a).1 ≤ 1073741824
          · have d2 : decide (1073741824 < (getU l n a).1) = false := decide_eq_false (by omega)
            by_cases h3 : (getU l n (b1 l n a)).2.2 = 0
            · have d3 : (!decide ((getU l n (b1 l n a)).2.2 = 0)) = false := by rw [decide_eq_true h3]; rfl
              by_cases h4 : (getU l n (b1 l n a)).1 ≤ 1099511627776
              · have d4 : decide (1099511627776 < (getU l n (b1 l n a)).1) = false := decide_eq_false (by omega)
                by_cases h5 : (getB l n (b2 l n a) 100).2.2 = 0
                · have d5 : (!decide ((getB l n (b2 l n a) 100).2.2 = 0)) = false := by rw [decide_eq_true h5]; rfl
                  have h6 : ¬ (blobC l n (b2 l n a)).2 = 0 := fun h6 => hok ⟨h1, h2, h3, h4, h5, h6⟩
                  have d6 : (!decide ((blobC l n (b2 l n a)).2 = 0)) = true := by rw [decide_eq_false h6]; rfl
                  cases out with
                  | nil => exact stop _ _ _ rfl (app0 lq0F) ⟨d6, Nat.le_refl _, hgl, hg, d5, hn, hx1, hw, hi100, d4, d3, hn, hx1, hw, d2, d1, hn, hx1, hw, dk, trivial⟩
                  | cons r t => exact stop _ _ _ rfl (app1 lq1F) ⟨d6, Nat.le_refl _, hgl, hg, d5, hn, hx1, hw, hi100, d4, d3, hn, hx1, hw, d2, d1, hn, hx1, hw, dk, trivial⟩
                · have d5 : (!decide ((getB l n (b2 l n a) 100).2.2 = 0)) = true := by rw [decide_eq_false h5]; rfl
                  cases out with
                  | nil => exact stop _ _ _ rfl (app0 lq0E) ⟨d5, hn, hx1, hw, hi100, d4, d3, hn, hx1, hw, d2, d1, hn, hx1, hw, dk, trivial⟩
                  | cons r t => exact stop _ _ _ rfl (app1 lq1E) ⟨d5, hn, hx1, hw, hi100, d4, d3, hn, hx1, hw, d2, d1, hn, hx1, hw, dk, trivial⟩
              · have d4 : decide (1099511627776 < (getU l n (b1 l n a)).1) = true := decide_eq_true (by omega)
                cases out with
                | nil => exact stop _ _ _ rfl (app0 lq0D) ⟨d4, d3, hn, hx1, hw, d2, d1, hn, hx1, hw, dk, trivial⟩
                | cons r t => exact stop _ _ _ rfl (app1 lq1D) ⟨d4, d3, hn, hx1, hw, d2, d1, hn, hx1, hw, dk, trivial⟩
            · have d3 : (!decide ((getU l n (b1 l n a)).2.2 = 0)) = true := by rw [decide_eq_false h3]; rfl
              cases out with
              | nil => exact stop _ _ _ rfl (app0 lq0C) ⟨d3, hn, hx1, hw, d2, d1, hn, hx1, hw, dk, trivial⟩
              | cons r t => exact stop _ _ _ rfl (app1 lq1C) ⟨d3, hn, hx1, hw, d2, d1, hn, hx1, hw, dk, trivial⟩
          · have d2 : decide (1073741824 < (getU l n a).1) = true := decide_eq_true (by omega)
            cases out with
            | nil => exact stop _ _ _ rfl (app0 lq0B) ⟨d2, d1, hn, hx1, hw, dk, trivial⟩
            | cons r t => exact stop _ _ _ rfl (app1 lq1B) ⟨d2, d1, hn, hx1, hw, dk, trivial⟩
        · have d1 : (!decide ((getU l n a).2.2 = 0)) = true := by rw [decide_eq_false h1]; rfl
          cases out with
          | nil => exact stop _ _ _ rfl (app0 lq0A) ⟨d1, hn, hx1, hw, dk, trivial⟩
          | cons r t => exact stop _ _ _ rfl (app1 lq1A) ⟨d1, hn, hx1, hw, dk, trivial⟩
    · have hik' : i = k := by omega
      subst hik'
      have dk : decide ((i : Int) < (i : Int)) = false := decide_eq_false (by omega)
      rw [Nat.sub_self] at g3
      by_cases ha : a = (n : Int)
      · have da : (!decide (a = (n : Int))) = false := by rw [decide_eq_true ha]; rfl
        have e : listS l n = (out, 0) := by
          rw [← g3]; unfold loopS finS
          rw [if_neg (fun h => by rcases h with h | h; cases h; exact h ha)]
        cases out with
        | nil =>
          obtain ⟨rfl, rfl⟩ := hN e
          exact .stop [false, false] [] 0 100000 [] _ _ _ (app0 lq0Z) ⟨da, dk, trivial⟩ ndG (nilq_le 0) ⟨⟨fun h => h, rfl, rfl⟩, trivial⟩
        | cons r t =>
          obtain ⟨rfl, rfl⟩ := hR r t e
          exact .stop [false, false] [] 0 100000 [1] _ _ _ (app1 lq1Z) ⟨da, dk, trivial⟩ nd01 ⟨⟨rfl, rfl, rfl, rfl, Nat.le_refl _, Nat.le_refl _⟩, ⟨rfl, rfl⟩, trivial⟩ ⟨⟨fun h => h, rfl, rfl⟩, ⟨fun h => h, rfl, rfl⟩, trivial⟩
      · have da : (!decide (a = (n : Int))) = true := by rw [decide_eq_false ha]; rfl
        have hL : listS l n = ([], 109) := by
          rw [← g3]; unfold loopS finS
          rw [if_pos (.inr ha)]
        obtain ⟨rfl, rfl⟩ := hF hL
        cases out with
        | nil => exact .stop [false, true] [] 0 100000 [] _ _ _ (app0 lq0X) ⟨da, dk, trivial⟩ ndG (nilq_le 109) ⟨⟨fun h => h, rfl, rfl⟩, trivial⟩
        | cons r t => exact .stop [false, true] [] 0 100000 [] _ _ _ (app1 lq1X) ⟨da, dk, trivial⟩ ndG (nilq_le 109) ⟨⟨fun h => h, rfl, rfl⟩, trivial⟩
theorem ghost7 {f : FuncId} {args : List V} {s : SB} {e : Int} (h : Works Try.prog f args [s] (nilE e) [s]) : Works Try.prog f args [s] (tup7 1 0 e) [s, rwL []] := by
  intro ρ K w us hm hu
  refine (h ρ K w us hm hu).mono fun en w' ⟨u, ρ', he, hv, hm'⟩ => ?_
  have hg := hm'.beside (ghost_rel w' (.recs ksO []) (fun ρ g i r h => by simp at h) rfl) rfl
  have hl := hm'.len
  refine ⟨u, ρ' ++ [⟨0, 0, 0⟩], he, ?_, ?_⟩
  · obtain ⟨vs, hv1, hv2⟩ := hv
    refine ⟨vs, hv1, ?_⟩
    obtain ⟨v1, s1, rfl, ⟨h1, h1'⟩, h2⟩ := hv2
    simp only [C.rel] at h1
    refine ⟨v1, s1, rfl, ⟨⟨⟨0, 0, 0⟩, ?_, .inl ⟨rfl, rfl, h1⟩⟩, h1'⟩, ?_⟩
    · rw [← List.append_assoc, List.getElem?_append_right (by rw [hl]; simp)]
      rw [hl]; rfl
    · obtain ⟨v2, _, rfl, ⟨h3, h3'⟩, h4⟩ := h2
      exact ⟨v2, _, rfl, ⟨h3, h3'⟩, h4⟩
  · rw [← List.append_assoc]; exact hg
theorem listedref_works (l : List Int) (n c : Nat) (hn : n ≤ l.length) (hx : l.length ≤ 1000000000) (hw : wfB l) : Works Try.prog 18 [bsl 0 n c] [roB l] (tup7 1 (listS l n).1.length (listS l n).2) [roB l, rwL (listS l n).1] := by
  have key : ∀ (v : V) (bs' : List SB), (listS l n = ([], 109) → v = nilE 109 ∧ bs' = [roB l]) → (listS l n = ([], 0) → v = nilE 0 ∧ bs' = [roB l]) → (∀ r t, listS l n = (r :: t, 0) → v = tup7 1 (r :: t).length 0 ∧ bs' = [roB l, rwL (r :: t)]) → Works Try.prog 18 [bsl 0 n c] [roB l] v bs' := by
    intro v bs' hF hN hR
    by_cases he : (getU l n 0).2.2 = 0
    · by_cases hk : (getU l n 0).1 ≤ 1000
      · exact lq_loop l n c v bs' hn hx hw hF hN hR he hk
      · have hb : numS l n 0 false 1000 = (0, 0, true) := by simp [numS, hk]
        have hL : listS l n = ([], 109) := by unfold listS; rw [hb]; exact loopQ_bad _ _ _ _ _
        obtain ⟨rfl, rfl⟩ := hF hL
        refine works_goes funLq bodLq (by exact tmpLq) fun ρ K W a w hρ hr => ?_
        exact goes_retW (callLq_ok 4) funLq (r := []) (ob := [decide (1000 < (getU l n 0).1) = true, (!decide ((getU l n 0).2.2 = 0)) = false, n ≤ l.length, n ≤ 1000000000, wfB l]) (by rw [hρ]; exact congrFun (congrFun (congrFun (congrFun (congrFun (congrFun lqE2 getU) getB) read2) l) n) c) ⟨decide_eq_true (by omega), by rw [decide_eq_true he]; rfl, hn, by omega, hw, trivial⟩ (by rw [hρ]; exact ndG) (by rw [hρ]; exact nilq_le 109) (by rw [hρ]; exact leG l) (hr.hints (S' := ⟨argSlots 0 [bsl 0 n c], [roB l], [false, true], []⟩) rfl rfl)
    · have hb : numS l n 0 false 1000 = (0, 0, true) := by simp [numS, he]
      have hL : listS l n = ([], 109) := by unfold listS; rw [hb]; exact loopQ_bad _ _ _ _ _
      obtain ⟨rfl, rfl⟩ := hF hL
      refine works_goes funLq bodLq (by exact tmpLq) fun ρ K W a w hρ hr => ?_
      exact goes_retW (callLq_ok 4) funLq (r := []) (ob := [(!decide ((getU l n 0).2.2 = 0)) = true, n ≤ l.length, n ≤ 1000000000, wfB l]) (by rw [hρ]; exact congrFun (congrFun (congrFun (congrFun (congrFun (congrFun lqE1 getU) getB) read2) l) n) c) ⟨by rw [decide_eq_false he]; rfl, hn, by omega, hw, trivial⟩ (by rw [hρ]; exact ndG) (by rw [hρ]; exact nilq_le 109) (by rw [hρ]; exact leG l) (hr.hints (S' := ⟨argSlots 0 [bsl 0 n c], [roB l], [true], []⟩) rfl rfl)
  have hfin : listS l n = ([], 109) ∨ ∃ out, listS l n = (out, 0) := by
    unfold listS finS
    split
    · exact .inl rfl
    · exact .inr ⟨_, rfl⟩
  rcases hfin with h | ⟨out, h⟩
  · rw [h]
    exact ghost7 (key _ _ (fun _ => ⟨rfl, rfl⟩) (fun h' => by rw [h] at h'; cases h') (fun r t h' => by rw [h] at h'; cases h'))
  · cases out with
    | nil =>
      rw [h]
      exact ghost7 (key _ _ (fun h' => by rw [h] at h'; cases h') (fun _ => ⟨rfl, rfl⟩) (fun r t h' => by rw [h] at h'; cases h'))
    | cons r t =>
      rw [h]
      exact key _ _ (fun h' => by rw [h] at h'; cases h') (fun h' => by rw [h] at h'; cases h') (fun r' t' h' => by
        rw [h] at h'
        injection h' with h1 h2
        rw [h1]; exact ⟨rfl, rfl⟩)
theorem listref_tab : TabOk Try.prog 18 (loc wantRo (gLst listS)) := loc_ok fun xs bs v bs' ob hg hob hokb => by
  unfold gLst at hg
  split at hg
  · rename_i n c k l
    split at hg
    · rename_i hk
      injection hg with hg; injection hg with e1 e2; injection e2 with e2 e3
      subst e1; subst e2; subst e3
      have hk' : k = .u8 := of_decide_eq_true hk
      subst hk'
      exact listedref_works l n c (hob _ (by simp)) (hob (l.length ≤ 1000000000) (by simp)) (hob (wfB l) (by simp))
    · cases hg
  · cases hg
end
end Go.Proofs.Ytgkhbhddmafakaa
