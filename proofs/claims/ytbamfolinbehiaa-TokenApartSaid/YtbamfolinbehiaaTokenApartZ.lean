/- TokenApart: its runs. TokenApart is true of any key and tokens. -/
import Derived.Test.YtbamfolinbehiaaWf
namespace Go.Proofs.Ytbamfolinbehiaa
section
open Go.Sx
noncomputable def rgR (h : List Bool) (x y z : Int) := retV [] (call0 4 14 [tok x y z] [] h)
theorem rg0 : (fun (x y z : Int) => rgR [false] x y z) = fun (x : Int) (_ : Int) (_ : Int) => some (((V.v (V1.one (C.bool (false)))), ([], [decide ((0 : Int) ≤ x) = false]))) := by kernel_rfl
theorem rg1 : (fun (x y z : Int) => rgR [true, false] x y z) = fun (x : Int) (_ : Int) (_ : Int) => some (((V.v (V1.one (C.bool (false)))), ([], [decide (x ≤ (1073741824 : Int)) = false, decide ((0 : Int) ≤ x) = true]))) := by kernel_rfl
theorem rg2 : (fun (x y z : Int) => rgR [true, true, false] x y z) = fun (x : Int) (y : Int) (_ : Int) => some (((V.v (V1.one (C.bool (false)))), ([], [decide ((1 : Int) ≤ y) = false, decide (x ≤ (1073741824 : Int)) = true, decide ((0 : Int) ≤ x) = true]))) := by kernel_rfl
theorem rg3 : (fun (x y z : Int) => rgR [true, true, true, false] x y z) = fun (x : Int) (y : Int) (_ : Int) => some (((V.v (V1.one (C.bool (false)))), ([], [decide (y ≤ (1099511627776 : Int)) = false, decide ((1 : Int) ≤ y) = true, decide (x ≤ (1073741824 : Int)) = true, decide ((0 : Int) ≤ x) = true]))) := by kernel_rfl
theorem rg4 : (fun (x y z : Int) => rgR [true, true, true, true, false] x y z) = fun (x : Int) (y : Int) (z : Int) => some (((V.v (V1.one (C.bool (false)))), ([], [decide ((1 : Int) ≤ z) = false, decide (y ≤ (1099511627776 : Int)) = true, decide ((1 : Int) ≤ y) = true, decide (x ≤ (1073741824 : Int)) = true, decide ((0 : Int) ≤ x) = true]))) := by kernel_rfl
theorem rg5 : (fun (x y z : Int) => rgR [true, true, true, true, true] x y z) = fun (x : Int) (y : Int) (z : Int) => some (((V.v (V1.one (C.sbool (decide (z ≤ (1099511627776 : Int)))))), ([], [decide ((1 : Int) ≤ z) = true, decide (y ≤ (1099511627776 : Int)) = true, decide ((1 : Int) ≤ y) = true, decide (x ≤ (1073741824 : Int)) = true, decide ((0 : Int) ≤ x) = true]))) := by kernel_rfl
def rightT := fresh fun args h => match args with
  | [.v (.agg [.sint .i64 x, .sint .i64 y, .sint .i64 z])] => some (.v (.one (.sbool (decide (tokR x y z)))), [], h, [])
  | _ => none
def tabTa (is : IS) (ck : CK) := tabs [(13, locH wantH (gIs is)), (15, loc wantM (gCk ck)), (14, rightT), (9, yesT)]
noncomputable def lwTa (is : IS) (ck : CK) (k : List Int) (x y z x' y' z' : Int) (h : List Bool) := obsOf (callN Try.prog (tabTa is ck) (fun f => Nat.beq f 4294967293) 100000 6 5 [bl0 0 k.length k.length, tok x y z, tok x' y' z'] [roH k] h)
theorem ta0 : (fun (is : IS) (ck : CK) (k : List Int) (x y z x' y' z' : Int) => lwTa is ck k x y z x' y' z' [true]) = fun (_ : IS) (_ : CK) (k : List Int) (_ : Int) (_ : Int) (_ : Int) (x' : Int) (y' : Int) (z' : Int) => some ([decide ((300 : Int) < (↑(List.length k) : Int)) = true]) := by kernel_rfl
theorem ta1 : (fun (is : IS) (ck : CK) (k : List Int) (x y z x' y' z' : Int) => lwTa is ck k x y z x' y' z' [false, false, false, false, false]) = fun (_ : IS) (_ : CK) (k : List Int) (x : Int) (y : Int) (z : Int) (x' : Int) (y' : Int) (z' : Int) => some ([(!false == decide (tokR x' y' z')) = false, (!false == decide (tokR x y z)) = false, ¬tokR x' y' z', ¬tokR x y z, decide ((300 : Int) < (↑(List.length k) : Int)) = false]) := by kernel_rfl
theorem ta2 : (fun (is : IS) (ck : CK) (k : List Int) (x y z x' y' z' : Int) => lwTa is ck k x y z x' y' z' [false, false, true, false, false]) = fun (_ : IS) (_ : CK) (k : List Int) (x : Int) (y : Int) (z : Int) (x' : Int) (y' : Int) (z' : Int) => some ([(!true == decide (tokR x' y' z')) = false, (!false == decide (tokR x y z)) = false, tokR x' y' z', u8L k, List.length k ≤ List.length k, List.length k ≤ (500000000 : Nat), ¬tokR x y z, decide ((300 : Int) < (↑(List.length k) : Int)) = false]) := by kernel_rfl
theorem ta3 : (fun (is : IS) (ck : CK) (k : List Int) (x y z x' y' z' : Int) => lwTa is ck k x y z x' y' z' [false, true, false, false, false]) = fun (_ : IS) (_ : CK) (k : List Int) (x : Int) (y : Int) (z : Int) (x' : Int) (y' : Int) (z' : Int) => some ([(!false == decide (tokR x' y' z')) = false, (!true == decide (tokR x y z)) = false, ¬tokR x' y' z', tokR x y z, u8L k, List.length k ≤ List.length k, List.length k ≤ (500000000 : Nat), decide ((300 : Int) < (↑(List.length k) : Int)) = false]) := by kernel_rfl
theorem ta4 : (fun (is : IS) (ck : CK) (k : List Int) (x y z x' y' z' : Int) => lwTa is ck k x y z x' y' z' [false, true, true, false, false, true, true, true, true, true, true]) = fun (is : IS) (ck : CK) (k : List Int) (x : Int) (y : Int) (z : Int) (x' : Int) (y' : Int) (z' : Int) => some ([(decide (Prod.fst (ck (partN k (0 : Nat) (List.length k)) (is (partN k (0 : Nat) (List.length k)) x y z) (List.length (is (partN k (0 : Nat) (List.length k)) x y z))) = x) && (decide (Prod.fst (Prod.snd (ck (partN k (0 : Nat) (List.length k)) (is (partN k (0 : Nat) (List.length k)) x y z) (List.length (is (partN k (0 : Nat) (List.length k)) x y z)))) = y) && (decide (Prod.fst (Prod.snd (Prod.snd (ck (partN k (0 : Nat) (List.length k)) (is (partN k (0 : Nat) (List.length k)) x y z) (List.length (is (partN k (0 : Nat) (List.length k)) x y z))))) = z) && true))) = true, decide (Prod.snd (Prod.snd (Prod.snd (ck (partN k (0 : Nat) (List.length k)) (is (partN k (0 : Nat) (List.length k)) x y z) (List.length (is (partN k (0 : Nat) (List.length k)) x y z))))) = (0 : Int)) = true, ((List.map (fun (n : Int) ↦ UInt8.ofNat (Int.toNat n)) (is (partN k (0 : Nat) (List.length k)) x y z) == List.map (fun (n : Int) ↦ UInt8.ofNat (Int.toNat n)) (is (partN k (0 : Nat) (List.length k)) x' y' z')) == (decide (x = x') && (decide (y = y') && (decide (z = z') && true)))) = true, (0 : Nat) = (0 : Nat), List.length (is (partN k (0 : Nat) (List.length k)) x' y' z') = List.length (is (partN k (0 : Nat) (List.length k)) x' y' z'), (0 : Nat) = (0 : Nat), List.length (is (partN k (0 : Nat) (List.length k)) x y z) = List.length (is (partN k (0 : Nat) (List.length k)) x y z), u8L k, u8L (is (partN k (0 : Nat) (List.length k)) x y z), List.length k ≤ List.length k, List.length (is (partN k (0 : Nat) (List.length k)) x y z) ≤ List.length (is (partN k (0 : Nat) (List.length k)) x y z), List.length k ≤ (500000000 : Nat), List.length (is (partN k (0 : Nat) (List.length k)) x y z) ≤ (500000000 : Nat), (!true == decide (tokR x' y' z')) = false, (!true == decide (tokR x y z)) = false, tokR x' y' z', u8L k, List.length k ≤ List.length k, List.length k ≤ (500000000 : Nat), tokR x y z, u8L k, List.length k ≤ List.length k, List.length k ≤ (500000000 : Nat), decide ((300 : Int) < (↑(List.length k) : Int)) = false]) := by kernel_rfl
end
section
open Go.ChangeShapes Go.WideShapes Go.ChangeAt Go.RowKit Go.Sx
theorem rg_works (x y z : Int) : Works Try.prog 14 [tok x y z] [] (.v (.one (.sbool (decide (tokR x y z))))) [] := by
  have app : ∀ {A : Type} {f g : Int → Int → Int → A}, f = g → f x y z = g x y z := fun h => by rw [h]
  have no : ¬ tokR x y z → leV (List.range 0 ++ []) (.v (.one (.bool false))) (.v (.one (.sbool (decide (tokR x y z))))) := fun h => by
    show false = decide (tokR x y z)
    rw [decide_eq_false h]
  by_cases h1 : 0 ≤ x
  · by_cases h2 : x ≤ 1073741824
    · by_cases h3 : 1 ≤ y
      · by_cases h4 : y ≤ 1099511627776
        · by_cases h5 : 1 ≤ z
          · refine works_of (r := []) no_tabs (app rg5) ⟨decide_eq_true h5, decide_eq_true h4, decide_eq_true h3, decide_eq_true h2, decide_eq_true h1, trivial⟩ List.nodup_nil ?_ trivial
            show decide (z ≤ 1099511627776) = decide (tokR x y z)
            exact decide_eq_decide.2 ⟨fun h => ⟨⟨h1, h2⟩, ⟨h3, h4⟩, h5, h⟩, fun h => h.2.2.2⟩
          · exact works_of (r := []) no_tabs (app rg4) ⟨decide_eq_false h5, decide_eq_true h4, decide_eq_true h3, decide_eq_true h2, decide_eq_true h1, trivial⟩ List.nodup_nil (no fun h => h5 h.2.2.1) trivial
        · exact works_of (r := []) no_tabs (app rg3) ⟨decide_eq_false h4, decide_eq_true h3, decide_eq_true h2, decide_eq_true h1, trivial⟩ List.nodup_nil (no fun h => h4 h.2.1.2) trivial
      · exact works_of (r := []) no_tabs (app rg2) ⟨decide_eq_false h3, decide_eq_true h2, decide_eq_true h1, trivial⟩ List.nodup_nil (no fun h => h3 h.2.1.1) trivial
    · exact works_of (r := []) no_tabs (app rg1) ⟨decide_eq_false h2, decide_eq_true h1, trivial⟩ List.nodup_nil (no fun h => h2 h.1.2) trivial
  · exact works_of (r := []) no_tabs (app rg0) ⟨decide_eq_false h1, trivial⟩ List.nodup_nil (no fun h => h1 h.1.1) trivial
theorem right_tab : TabOk Try.prog 14 rightT := fresh_ok fun args h v bs h' ob hg hob => by
  split at hg
  · rename_i x y z
    injection hg with hg; injection hg with e1 e2; injection e2 with e2 e3; injection e3 with e3 e4
    subst e1; subst e2; subst e3; subst e4
    refine ⟨rfl, fun ρ us hu => ?_⟩
    obtain ⟨u, _, rfl, ⟨cs, rfl, ⟨u1, s1, rfl, r1, u2, s2, rfl, r2, u3, s3, rfl, r3, r4⟩, hc⟩, rfl⟩ := hu
    exact noBs (rg_works x y z) ⟨_, _, rfl, ⟨_, rfl, ⟨u1, _, rfl, r1, u2, _, rfl, r2, u3, _, rfl, r3, r4⟩, hc⟩, rfl⟩
  · cases hg
theorem tabTa_ok : ∀ f g, tabTa issN chkN f = some g → TabOk Try.prog f g := tabs_ok fun x hx => by
  simp only [List.mem_cons, List.not_mem_nil, or_false] at hx
  rcases hx with rfl | rfl | rfl | rfl
  · exact iss_tab
  · exact chk_tab
  · exact right_tab
  · exact yes_tab
theorem u8L_wf {l : List Int} (h : ∀ n ∈ l, (Lit.int .u8 n).wf = true) : u8L l := fun x hx => by
  have := h x hx
  simp [Lit.wf, IntKind.min, IntKind.max, IntKind.signed, IntKind.bits] at this
  omega
theorem toB_inj : ∀ {a b : List Int}, u8L a → u8L b → List.map (fun (n : Int) => UInt8.ofNat (Int.toNat n)) a = List.map (fun (n : Int) => UInt8.ofNat (Int.toNat n)) b → a = b
  | [], [], _, _, _ => rfl
  | [], _ :: _, _, _, h => by cases h
  | _ :: _, [], _, _, h => by cases h
  | x :: a, y :: b, ha, hb, h => by
    injection h with h1 h2
    have hx := ha x (List.mem_cons_self ..)
    have hy := hb y (List.mem_cons_self ..)
    have h3 := congrArg UInt8.toNat h1
    rw [UInt8.toNat_ofNat', UInt8.toNat_ofNat', Nat.mod_eq_of_lt (by omega), Nat.mod_eq_of_lt (by omega)] at h3
    rw [show x = y by omega, toB_inj (fun z hz => ha z (List.mem_cons_of_mem _ hz)) (fun z hz => hb z (List.mem_cons_of_mem _ hz)) h2]
theorem iss_inj {K : List Nat} {x y z x' y' z' : Int} (h : tokR x y z) (h' : tokR x' y' z') (he : issN K x y z = issN K x' y' z') : x = x' ∧ y = y' ∧ z = z' := by
  have h1 := chk_iss h K
  rw [he, chk_iss h' K] at h1
  injection h1 with a b; injection b with b c; injection c with c _
  exact ⟨a.symm, b.symm, c.symm⟩
theorem tok_rel {ρ : Env} (x y z : Int) : (tok x y z).rel ρ (.agg (ivals [.i64, .i64, .i64] [x, y, z]).toArray) := ⟨_, rfl, ⟨_, _, rfl, rfl, _, _, rfl, rfl, _, _, rfl, rfl, rfl⟩, by intro q hq; simp [ivals] at hq; rcases hq with rfl | rfl | rfl <;> rfl⟩
theorem tokenApart_calls (k : List Int) (e : E) (v : Value) (a b : List Int) {W0 : World}
    (r : readOnly W0 (e, roH k)) (w : ∀ n ∈ k, (Lit.int .u8 n).wf = true) (_m : k.length ≤ maxLen) (u : ∀ (ρ : Env) (b : Nat), ρ[b]? = some e → (V.v (.one (.slice b (.c 0) 1 (.s k.length) (.s k.length)))).rel ρ v)
    (wa : wfRow [.i64, .i64, .i64] a) (wb : wfRow [.i64, .i64, .i64] b)
    (W : World) (hW : W0 = W := by rfl) : Calls Try.prog 5 #[v, .agg (ivals [.i64, .i64, .i64] a).toArray, .agg (ivals [.i64, .i64, .i64] b).toArray] W fun e w' => e = .returned (.bool true) ∧ Below W.heap.size W w' := by
  subst hW
  obtain ⟨x, y, z, rfl, _⟩ := wf3 wa
  obtain ⟨x', y', z', rfl, _⟩ := wf3 wb
  have hm := mem_args (W := W0) [(e, roH k)] (by intro y hy; simp at hy; rcases hy with rfl; exact r)
  have hu : relVs ([(e, roH k)].map (·.1)) [bl0 0 k.length k.length, tok x y z, tok x' y' z'] [v, .agg (ivals [.i64, .i64, .i64] [x, y, z]).toArray, .agg (ivals [.i64, .i64, .i64] [x', y', z']).toArray] := ⟨_, _, rfl, u _ 0 rfl, _, _, rfl, tok_rel x y z, _, _, rfl, tok_rel x' y' z', rfl⟩
  have uk := u8L_wf w
  have app : ∀ {A : Type} {f g : IS → CK → List Int → Int → Int → Int → Int → Int → Int → A}, f = g → f issN chkN k x y z x' y' z' = g issN chkN k x y z x' y' z' := fun h => by rw [h]
  by_cases h0 : (300 : Int) < k.length
  · exact law_obs tabTa_ok (app ta0) ⟨decide_eq_true h0, trivial⟩ hm hu
  have hd := decide_eq_false h0
  have tt : (!(true == true)) = false := rfl
  have hl : k.length ≤ 500000000 := by omega
  by_cases h1 : tokR x y z
  · by_cases h2 : tokR x' y' z'
    · refine law_obs tabTa_ok (app ta4) ?_ hm hu
      have hc := chk_iss h1 (partN k 0 k.length)
      have l1 := issN_len (partN k 0 k.length) x y z
      have l2 := body3_len h1
      have u1 := issN_u8 (partN k 0 k.length) x y z
      have he : (List.map (fun (n : Int) => UInt8.ofNat (Int.toNat n)) (issN (partN k 0 k.length) x y z) == List.map (fun (n : Int) => UInt8.ofNat (Int.toNat n)) (issN (partN k 0 k.length) x' y' z')) = (decide (x = x') && (decide (y = y') && (decide (z = z') && true))) := by
        by_cases hs : x = x' ∧ y = y' ∧ z = z'
        · obtain ⟨rfl, rfl, rfl⟩ := hs
          simp
        · rw [Bool.and_true, ← Bool.decide_and, ← Bool.decide_and, decide_eq_false hs]
          refine beq_eq_false_iff_ne.2 fun h => hs (iss_inj h1 h2 (toB_inj u1 (issN_u8 _ _ _ _) h))
      rw [he, hc]
      simp only [allP, decide_eq_true h1, decide_eq_true h2, decide_true, Bool.and_self]
      repeat' (first | exact trivial | exact uk | exact u1 | exact h1 | exact h2 | exact hd | exact hl | exact Nat.le_refl _ | exact tt | refine And.intro ?_ ?_)
      all_goals first | rfl | omega | exact beq_self_eq_true _
    · exact law_obs tabTa_ok (app ta3) ⟨by rw [decide_eq_false h2]; rfl, by rw [decide_eq_true h1]; rfl, h2, h1, uk, Nat.le_refl _, hl, hd, trivial⟩ hm hu
  · by_cases h2 : tokR x' y' z'
    · refine law_obs tabTa_ok (app ta2) ⟨by rw [decide_eq_true h2]; rfl, by rw [decide_eq_false h1]; rfl, h2, uk, Nat.le_refl _, hl, h1, hd, trivial⟩ hm hu
    · exact law_obs tabTa_ok (app ta1) ⟨by rw [decide_eq_false h2]; rfl, by rw [decide_eq_false h1]; rfl, h2, h1, hd, trivial⟩ hm hu

set_option maxRecDepth 100000 in
theorem tokenApart_lifted (os : Os) (started : os.Started) (H : Type) (enc : TypeId × Value → H) :
    ReturnsInHanded {} Try.checked os 5 .any (Rows.tokenApartSpec.pre6 enc Try.prog Try.f5 Rows.tokenApartRow.domain false) (Rows.tokenApartSpec.post enc Try.prog Try.f5 false true false false) := by
  refine returnsInHanded_of_change (C := Try.checked) own started (by kernel_rfl) Try.func5
    (ChangeSpec.witness6 (enc := enc) (C := Try.checked) false ⟨#[], #[.slice none 0 0, .agg #[.int .i64 0, .int .i64 0, .int .i64 0], .agg #[.int .i64 0, .int .i64 0, .int .i64 0]], []⟩ 8 (by kernel_rfl) (by kernel_rfl) (by kernel_rfl) (by kernel_rfl)) ?_
  intro W base args ds gs before hval0 hW hcnd _
  have hval : ∀ (j : Nat) t v, Try.f5.params[j]? = some t → args[j]? = some v → Value.okWide Try.prog W .any base t v := hval0
  have hW' := hW
  obtain ⟨p, q, hA0, hV, hbef, hfz, hnd⟩ := hW
  have hA : DataW.TrodAll enc Try.prog W 0 (fun _ => true) true Try.f5.params.toList args.toList ds p := hA0
  rw [Try.params5] at hA hval
  obtain ⟨v0, v1, v2, d0, d1, d2, p0, p1, p2, rfl, rfl, hp, h0, h1, h2⟩ := trodAll_three hA
  obtain ⟨a0, e0, r0, w0, m0, u0⟩ := one_ints (k := .u8) (d := 20) (by kernel_rfl) (hval 0 25 v0 rfl rfl) h0
  obtain ⟨a1, w1, rfl⟩ := agg_ints (ks := [.i64, .i64, .i64]) (d := 20) (by kernel_rfl) (hval 1 39 v1 rfl rfl) h1
  obtain ⟨a2, w2, rfl⟩ := agg_ints (ks := [.i64, .i64, .i64]) (d := 20) (by kernel_rfl) (hval 2 39 v2 rfl rfl) h2
  refine (tokenApart_calls a0 e0 v0 a1 a2 r0 w0 m0 u0 w1 w2 W).mono fun e W' ⟨he, hb⟩ => ?_
  subst he
  exact ⟨_, rfl, post_law laidOut (by rw [Try.params5]; decide +kernel) rfl rfl (by kernel_rfl) Try.underlying4 hW' hb⟩

theorem tokenApart_holds : Rows.TokenApartSaid :=
  OpenClaim.holds_of_wide 5 Try.f5 rfl rfl rfl rfl rfl rfl rfl ⟨rfl, rfl, rfl, rfl, rfl⟩ rfl rfl rfl rfl rfl (by kernel_rfl) Try.func5 (by kernel_rfl)
    (of_decide_eq_true (by kernel_rfl)) (by unfold Func.isWrapper; first | (rw [if_pos (by decide +kernel)]; kernel_rfl) | (rw [if_neg (by decide +kernel)]; exact ⟨rfl, rfl⟩))
    (fun os started H enc _ => tokenApart_lifted os started H enc)
#print axioms tokenApart_holds
end
end Go.Proofs.Ytbamfolinbehiaa
