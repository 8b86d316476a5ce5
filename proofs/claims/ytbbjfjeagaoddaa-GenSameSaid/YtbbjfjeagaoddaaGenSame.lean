/- GenSame is true of any seed and any place, and leaves its arguments as they were. -/
import Derived.Test.YtbbjfjeagaoddaaGsC
namespace Go.Proofs.Ytbbjfjeagaoddaa
open Go.ChangeShapes Go.WideShapes Go.ChangeAt Go.RowKit Go.Sx
theorem tabG_ok : ∀ f g, tabG f = some g → TabOk Try.prog f g := tabs_ok fun x hx => by
  simp only [List.mem_cons, List.not_mem_nil, or_false] at hx
  rcases hx with rfl | rfl | rfl | rfl
  · exact yes_ok no_tabs awake_run
  · exact cell_tab cell_makes
  · exact chunk_tab
  · exact rightC_tab
theorem callG_ok (d : Nat) : CallOk Try.prog (callG d) := callN_sound tabG_ok d
theorem funS : Try.prog.funcs[7]? = some FnS := by kernel_rfl
theorem bodS : FnS.body = some (bodyF 7) := by kernel_rfl
theorem tmpS : 3 ≤ FnS.ntmps := Nat.le_of_ble_eq_true (by kernel_rfl)
abbrev EndS (W : World) : Ending → World → Prop := fun e w' => e = .returned (.bool true) ∧ Below W.heap.size W w'
theorem column {s x : Int} (hx : 0 ≤ x ∧ x < 128) (y : Int) (hy : 0 ≤ y ∧ y < 128) :
    (y < hgt s x - 1 → cellF s x y = 0) ∧ (y = hgt s x - 1 → cellF s x y = 0 ∨ cellF s x y = 4 ∨ cellF s x y = 3) ∧ (hgt s x ≤ y → y ≤ hgt s x + 2 → cellF s x y = 1) ∧ (hgt s x + 2 < y → cellF s x y = 2 ∨ cellF s x y = 7) := by
  rw [cell_in ⟨hx.1, hx.2, hy.1, hy.2⟩]
  refine ⟨fun h => ?_, fun h => ?_, fun h h' => ?_, fun h => ?_⟩
  · rw [if_neg (by omega), if_neg (by omega), if_pos (by omega)]
  · by_cases h0 : (mixF s (IntKind.wrap .u64 (y * 128 + x))).tmod 11 = 0
    · rw [if_pos ⟨by omega, h0⟩]; simp
    · rw [if_neg (by omega)]
      by_cases h1 : (mixF s (IntKind.wrap .u64 (y * 128 + x))).tmod 11 = 1
      · rw [if_pos ⟨by omega, h1⟩]; simp
      · rw [if_neg (by omega), if_pos (by omega)]; simp
  · rw [if_neg (by omega), if_neg (by omega), if_neg (by omega), if_pos (by omega)]
  · rw [if_neg (by omega), if_neg (by omega), if_neg (by omega), if_neg (by omega)]
    by_cases h7 : (mixF s (IntKind.wrap .u64 (y * 128 + x))).tmod 7 = 0
    · rw [if_pos h7]; simp
    · rw [if_neg h7]; simp
/-- what the world is made of, and where -/
theorem ground {s x y : Int} (hx : 0 ≤ x ∧ x < 128) (hy : 0 ≤ y ∧ y < 128) :
    (cellF s x y = 0 ∨ cellF s x y = 1 ∨ cellF s x y = 2 ∨ cellF s x y = 3 ∨ cellF s x y = 4 ∨ cellF s x y = 7) ∧ (y < 39 → cellF s x y = 0) ∧ (73 < y → cellF s x y = 2 ∨ cellF s x y = 7) ∧ (y ≤ 73 → cellF s x y = 1 → cellF s x (y + 3) ≠ 0) := by
  have hh := hgt_range s x
  obtain ⟨k1, k2, k3, k4⟩ := column (s := s) hx y hy
  refine ⟨?_, fun h => k1 (by omega), fun h => k4 (by omega), fun h h1 => ?_⟩
  · by_cases a : y < hgt s x - 1
    · exact .inl (k1 a)
    · by_cases b : y = hgt s x - 1
      · rcases k2 b with h | h | h <;> simp [h]
      · by_cases c : y ≤ hgt s x + 2
        · exact .inr (.inl (k3 (by omega) c))
        · rcases k4 (by omega) with h | h <;> simp [h]
  · have hy3 : hgt s x ≤ y := by
      by_cases a : y < hgt s x - 1
      · have := k1 a; omega
      · by_cases b : y = hgt s x - 1
        · rcases k2 b with h | h | h <;> omega
        · omega
    rcases (column (s := s) hx (y + 3) (by omega)).2.2.2 (by omega) with h | h <;> omega
def cellL (s x y : Int) : List Int := (List.range 64).map (cellAt s x y)
theorem cellL_len (s x y : Int) : (cellL s x y).length = 64 := by simp [cellL]
theorem cellL_get (s x y : Int) {i : Nat} (hi : i < 64) : (cellL s x y).getD i 0 = cellAt s x y i := by
  simp [cellL, List.getD_eq_getElem?_getD, hi]
theorem at_in {x y : Int} (h : inCh x y) {i : Nat} (hi : i < 64) : (0 ≤ x * 8 + ((i % 8 : Nat) : Int) ∧ x * 8 + ((i % 8 : Nat) : Int) < 128) ∧ (0 ≤ y * 8 + ((i / 8 : Nat) : Int) ∧ y * 8 + ((i / 8 : Nat) : Int) < 128) := by
  unfold inCh at h; omega
theorem cell_ok {s x y : Int} (h : inCh x y) {i : Nat} (hi : i < 64) : 0 ≤ cellAt s x y i ∧ cellAt s x y i < 8 ∧ okC (cellAt s x y i) = true := by
  have hb := at_in h hi
  have g := (ground (s := s) hb.1 hb.2).1
  unfold cellAt
  rcases g with g | g | g | g | g | g <;> rw [g] <;> decide
theorem cellL_ok {s x y : Int} (h : inCh x y) : ∀ c ∈ cellL s x y, 0 ≤ c ∧ c < 8 ∧ okC c = true := by
  intro c hc
  unfold cellL at hc
  obtain ⟨i, hi, rfl⟩ := List.mem_map.1 hc
  exact cell_ok h (List.mem_range.1 hi)
theorem leL_own (sel : List Nat) (k : IntKind) : ∀ l : List Int, leL sel (l.map (C.sint k)) (l.map (C.sint k))
  | [] => trivial
  | _ :: r => ⟨⟨rfl, rfl⟩, leL_own sel k r⟩
theorem gs_loop {s x y : Int} (h : inCh x y) {W : World} {ρ' : Env} {ac : Act} {w : World} (hr : Rel ([] ++ ρ') (upto W) W FnS.ntmps (TS s x y (cellL s x y) 0 []) ac w) : Goes Try.prog 7 (EndS W) ES ac w := by
  refine goes_loop (ρ0 := []) (fun i : Nat => TS s x y (cellL s x y) i []) (fun i => i ≤ 64) (fun i => 64 - i) ?_ (Nat.zero_le _) hr
  intro i hg ρ' ac w hri ih
  by_cases hi : i < 64
  · have hb := at_in h hi
    have e1 : Int.tmod (i : Int) 8 = ((i % 8 : Nat) : Int) := by rw [Int.tmod_eq_emod_of_nonneg (by omega)]; omega
    have e2 : Int.tdiv (i : Int) 8 = ((i / 8 : Nat) : Int) := by rw [Int.tdiv_eq_ediv_of_nonneg (by omega)]; omega
    obtain ⟨g0, g1, g2, g3⟩ := ground (s := s) hb.1 hb.2
    have hl := cellL_len s x y
    have hv := cellL_get s x y hi
    unfold cellAt at hv
    have go : ∀ (hs : List Bool) (a : Slots) (b : List SB) (ob : List Prop), stopV [0, 1, 2, 7, 60, 61] [0, 1] (rndS (LS.2.length + 1) hs s x y (cellL s x y) i) = some (KS, a, b, ob) → allP ob →
        leSlots [0, 1] a (TS s x y (cellL s x y) (i + 1) []).sl → leBs [0, 1] b (TS s x y (cellL s x y) (i + 1) []).m → Goes Try.prog 7 (EndS W) (.code LS.1 :: .inLoop LS.1 :: LS.2) ac w := by
      intro hs a b ob q hob ha hbs
      exact goes_stop (ρ0 := []) (r := [0, 1]) (T := TS s x y (cellL s x y) (i + 1) []) (callG_ok 4) funS q hob ⟨by decide, ha, hbs⟩
        (fun ρ' a w hh => ih (i + 1) hi (by omega) ρ' a w hh) (S := TS s x y (cellL s x y) i hs) ⟨hri.sl, hri.m⟩
    have app : ∀ {A : Type} {f g : Int → Int → Int → List Int → Nat → A}, f = g → f s x y (cellL s x y) i = g s x y (cellL s x y) i := fun hh => by rw [hh]
    have qA := app gmA
    have qB1 := app gmB1
    have qB2 := app gmB2
    have qC1 := app gmC1
    have qC2 := app gmC2
    simp only [e1, e2, hv, hl] at qA qB1 qB2 qC1 qC2
    have hm8 : ((i % 8 : Nat) : Int) < 8 ∧ 0 ≤ ((i % 8 : Nat) : Int) := by omega
    have hd8 : ((i / 8 : Nat) : Int) < 8 ∧ 0 ≤ ((i / 8 : Nat) : Int) := by omega
    unfold inCh at h
    have hsl : ∀ v : Int, v = (i : Int) + 1 → leSlots [0, 1] [(0, si .u64 s), (1, si .i64 x), (2, si .i64 y), (7, .v (.one (.ptr 1 (.c 0) 1 0))), (60, .v (.one (.int .i64 64))), (61, si .i64 v)] (TS s x y (cellL s x y) (i + 1) []).sl := by
      intro v hv
      simp [TS, leSlots, leV, leV1, leC, si, N.v, hv]
    have hbs : leBs [0, 1] [oi (cellL s x y), bx x y 0] (TS s x y (cellL s x y) (i + 1) []).m := by
      simp [TS, leBs, leB, leCells, leL, leC, oi, bx, N.v]
    generalize cellL s x y = l at *
    generalize cellF s (x * 8 + ((i % 8 : Nat) : Int)) (y * 8 + ((i / 8 : Nat) : Int) + 3) = c3 at *
    generalize cellF s (x * 8 + ((i % 8 : Nat) : Int)) (y * 8 + ((i / 8 : Nat) : Int)) = c at *
    by_cases c1 : y * 8 + ((i / 8 : Nat) : Int) < 39
    · have hc := g1 c1
      refine go _ _ _ _ qA ?_ (hsl _ rfl) hbs
      simp [allP, hc, c1]; omega
    · by_cases c2 : 73 < y * 8 + ((i / 8 : Nat) : Int)
      · by_cases h2 : c = 2
        · refine go _ _ _ _ qC1 ?_ (hsl _ rfl) hbs
          simp [allP, h2, c1, c2]; omega
        · have h7 : c = 7 := by rcases g2 c2 with h' | h'; exact absurd h' h2; exact h'
          refine go _ _ _ _ qC2 ?_ (hsl _ rfl) hbs
          simp [allP, h7, c1, c2]; omega
      · by_cases h1 : c = 1
        · have h3 := g3 (by omega) h1
          refine go _ _ _ _ qB2 ?_ (hsl _ rfl) hbs
          simp [allP, h1, h3, c1, c2]; omega
        · refine go _ _ _ _ qB1 ?_ (hsl _ rfl) hbs
          simp [allP, h1, c1, c2]; omega
  · refine goes_true (callG_ok 4) funS (S := TS s x y (cellL s x y) i [false]) (congrFun (congrFun (congrFun (congrFun (congrFun gmX s) x) y) (cellL s x y)) i) ?_ (fun w' h => ⟨rfl, h.toBelow⟩) (ρ0 := []) ⟨hri.sl, hri.m⟩
    simp [allP]; omega
theorem genSame_calls (s x y : Int) (_ : (Lit.int .u64 s).wf = true) (hx : (Lit.int .i64 x).wf = true) (hy : (Lit.int .i64 y).wf = true) (W : World) : Calls Try.prog 7 #[.int .u64 s, .int .i64 x, .int .i64 y] W (EndS W) := by
  have hu : relVs [] [si .u64 s, si .i64 x, si .i64 y] [.int .u64 s, .int .i64 x, .int .i64 y] := ⟨_, _, rfl, ⟨rfl, rfl⟩, _, _, rfl, ⟨rfl, rfl⟩, _, _, rfl, ⟨rfl, rfl⟩, rfl⟩
  have app : ∀ {A : Type} {f g : Int → Int → Int → A}, f = g → f s x y = g s x y := fun h => by rw [h]
  by_cases hin : inCh x y
  · have hin' := hin
    unfold inCh at hin'
    refine calls_goes (ρ0 := []) (us := [.int .u64 s, .int .i64 x, .int .i64 y]) (args := [si .u64 s, si .i64 x, si .i64 y]) (m := []) (h := []) (ob := []) funS bodS (by exact tmpS) (MemRel.nil W) hu ?_
    intro ac w hrel
    refine goes_stop (ρ0 := []) (r := [0, 1]) (T := TS s x y (cellL s x y) 0 []) (S := ⟨argSlots 0 [si .u64 s, si .i64 x, si .i64 y], [], [true, true] ++ List.replicate 72 false, []⟩) (callG_ok 4) funS (app gmE) ?_ ⟨by decide, ?_, ?_⟩
      (fun ρ' a w hh => gs_loop hin hh) ⟨hrel.sl, hrel.m⟩
    · refine ⟨by simp, by simp, rfl, rfl, hin, rfl, cellL_ok hin, ?_⟩
      simp [allP, hin]; omega
    · simp [TS, leSlots, leV, leV1, leC, si, N.v]
    · refine ⟨⟨fun _ => rfl, leL_own _ _ (cellL s x y)⟩, ⟨fun _ => rfl, ?_⟩, trivial⟩
      simp [leCells, leL, leC, bx, N.v]
  · by_cases h0 : x < 0
    · refine law_obs tabG_ok (app gm0) ?_ (MemRel.nil W) hu
      simp [allP, hin, h0]
    · by_cases h1 : 16 ≤ x
      · refine law_obs tabG_ok (app gm1) ?_ (MemRel.nil W) hu
        simp [allP, hin]; omega
      · by_cases h2 : y < 0
        · refine law_obs tabG_ok (app gm2) ?_ (MemRel.nil W) hu
          simp [allP, hin, h2]; omega
        · have h3 : 16 ≤ y := by unfold inCh at hin; omega
          refine law_obs tabG_ok (app gm3) ?_ (MemRel.nil W) hu
          simp [allP, hin, h3]; omega

set_option maxRecDepth 100000 in
theorem genSame_lifted (os : Os) (started : os.Started) (H : Type) (enc : TypeId × Value → H) :
    ReturnsInHanded {} Try.checked os 7 .any (Rows.genSameSpec.pre6 enc Try.prog Try.f7 Rows.genSameRow.domain false) (Rows.genSameSpec.post enc Try.prog Try.f7 false true false false) := by
  refine returnsInHanded_of_change (C := Try.checked) own started (by kernel_rfl) Try.func7
    (ChangeSpec.witness6 (enc := enc) (C := Try.checked) false ⟨#[], #[.int .u64 0, .int .i64 0, .int .i64 0], []⟩ 8 (by kernel_rfl) (by kernel_rfl) (by kernel_rfl) (by kernel_rfl)) ?_
  intro W base args ds gs before hval0 hW hcnd _
  have hval : ∀ (j : Nat) t v, Try.f7.params[j]? = some t → args[j]? = some v → Value.okWide Try.prog W .any base t v := hval0
  have hW' := hW
  obtain ⟨p, q, hA0, hV, hbef, hfz, hnd⟩ := hW
  have hA : DataW.TrodAll enc Try.prog W 0 (fun _ => true) true Try.f7.params.toList args.toList ds p := hA0
  rw [Try.params7] at hA hval
  obtain ⟨v0, v1, v2, d0, d1, d2, p0, p1, p2, rfl, rfl, hp, h0, h1, h2⟩ := trodAll_three hA
  obtain ⟨a0, rfl, rfl, _, w0⟩ := open_int Try.underlying22 (hval 0 22 v0 rfl rfl) h0
  obtain ⟨a1, rfl, rfl, _, w1⟩ := open_int Try.underlying3 (hval 1 3 v1 rfl rfl) h1
  obtain ⟨a2, rfl, rfl, _, w2⟩ := open_int Try.underlying3 (hval 2 3 v2 rfl rfl) h2
  refine (genSame_calls a0 a1 a2 w0 w1 w2 W).mono fun e W' ⟨he, hb⟩ => ?_
  subst he
  exact ⟨_, rfl, post_law laidOut (by rw [Try.params7]; decide +kernel) rfl rfl (by kernel_rfl) Try.underlying4 hW' hb⟩

theorem genSame_holds : Rows.GenSameSaid :=
  OpenClaim.holds_of_wide 7 Try.f7 rfl rfl rfl rfl rfl rfl rfl ⟨rfl, rfl, rfl, rfl, rfl⟩ rfl rfl rfl rfl rfl (by kernel_rfl) Try.func7 (by kernel_rfl)
    (of_decide_eq_true (by kernel_rfl)) (by unfold Func.isWrapper; first | (rw [if_pos (by decide +kernel)]; kernel_rfl) | (rw [if_neg (by decide +kernel)]; exact ⟨rfl, rfl⟩))
    (fun os started H enc _ => genSame_lifted os started H enc)
#print axioms genSame_holds

end Go.Proofs.Ytbbjfjeagaoddaa
