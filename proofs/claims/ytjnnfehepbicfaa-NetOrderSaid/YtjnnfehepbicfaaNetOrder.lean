/- NetOrder is true of any deeds, and leaves its argument as it was. -/
import Derived.Test.YtjnnfehepbicfaaNoS
namespace Go.Proofs.Ytjnnfehepbicfaa
open Go.ChangeShapes Go.WideShapes Go.ChangeAt Go.RowKit Go.Sx
section
variable {ρ0 : Env} {Wd : World} {l : Rws}
theorem no_7 {R S : Rws} {H : Nat → Bool} {i : Nat} (hρ : ρ0.length = 1) (v : InvO R S H i) (hi : i < l.length) (h9 : i < 90) (hw : (l.getD i ([], [])).1.getD 0 0 = 7)
    (ih : ∀ R S H, InvO R S H (i + 1) → ∀ ρ' a' w, RelD [] (ρ0 ++ ρ') (uptoN Wd) Wd FO.ntmps (TO l R S H (i + 1) []) a' w → Goes Try.prog 6 (EndS Wd) KO a' w)
    {ρ' : Env} {ac : Act} {w : World} (hr : RelD [] (ρ0 ++ ρ') (uptoN Wd) Wd FO.ntmps (TO l R S H i []) ac w) : Goes Try.prog 6 (EndS Wd) (.code LO.1 :: KO) ac w := by
  have hok := v.ok
  have v2 := v.forget ((l.getD i ([], [])).1.getD 2 0) h9
  refine goes_stop (ρ0 := ρ0) (r := [1, 2, 3, 4, 5, 6, 7]) (T := TF l R S H i (l.getD i ([], [])) 0 0 []) (S := TO l R S H i [true, true, false, false, false, false, false, false, true]) (callY_ok 9) funO (by rw [hρ]; exact ap5O no7 l R S H i) ?_
    ⟨by rw [hρ]; decide, ?_, ?_⟩ (fun ρ' a w hh => no_forget hρ v h9 (fun ρ' a w hh => no_check hρ v2 h9 (ih _ _ _ v2) hh) hh) ⟨hr.sl, hr.m⟩
  · exact ⟨decide_eq_true hw, decide_eq_false (by omega), decide_eq_false (by omega), decide_eq_false (by omega), decide_eq_false (by omega), decide_eq_false (by omega), decide_eq_false (by omega), rfl, Nat.le_refl _, hok, hi, by omega, by omega, decide_eq_true (by omega), decide_eq_true (by omega), trivial⟩
  · rw [hρ]
    simp [TF, leSlots, leV, leV1, leC, si, rsl, dsl, np, ptO, N.v, List.range, List.range.loop]
  · rw [hρ]
    exact ⟨⟨id, rfl, rfl⟩, ⟨id, ⟨⟨rfl, rfl⟩, ⟨rfl, rfl, rfl, rfl, Nat.le_refl _, Nat.le_refl _⟩, trivial⟩⟩, ⟨id, rfl, rfl⟩, ⟨id, leL_H _ H⟩, ⟨id, rfl, rfl⟩, ⟨id, rfl⟩, ⟨id, ⟨⟨rfl, rfl⟩, ⟨rfl, rfl⟩, ⟨rfl, rfl⟩, ⟨rfl, rfl⟩, ⟨rfl, rfl, rfl, rfl, Nat.le_refl _, Nat.le_refl _⟩, trivial⟩⟩, ⟨id, rfl, rfl⟩, trivial⟩
def nilS : Rws := List.replicate 90 ([0, 0], [])
theorem InvO.start : InvO [] nilS (fun _ => false) 0 :=
  ⟨by decide, by decide, by decide, fun k _ h => (by cases h), fun k _ h => (by cases h), fun _ _ => rfl⟩
def InvT (l : Rws) : Nat × Rws × Rws × (Nat → Bool) → St := fun p => TO l p.2.1 p.2.2.1 p.2.2.2 p.1 []
theorem no_loop (hρ : ρ0.length = 1) {ρ' : Env} {ac : Act} {w : World} (hr : RelD [] (ρ0 ++ ρ') (uptoN Wd) Wd FO.ntmps (TO l [] nilS (fun _ => false) 0 []) ac w) :
    Goes Try.prog 6 (EndS Wd) EO ac w := by
  refine goes_loop (ρ0 := ρ0) (InvT l) (fun p => InvO p.2.1 p.2.2.1 p.2.2.2 p.1) (fun p => 90 - p.1) ?_ (i := (0, [], nilS, fun _ => false)) InvO.start hr
  rintro ⟨i, R, S, H⟩ v ρ' ac w hri ih'
  have v : InvO R S H i := v
  have hri : RelD [] (ρ0 ++ ρ') (uptoN Wd) Wd FO.ntmps (TO l R S H i []) ac w := hri
  by_cases hi : i < l.length
  · by_cases h9 : i < 90
    · have ih : ∀ R S H, InvO R S H (i + 1) → ∀ ρ' a' w, RelD [] (ρ0 ++ ρ') (uptoN Wd) Wd FO.ntmps (TO l R S H (i + 1) []) a' w → Goes Try.prog 6 (EndS Wd) KO a' w :=
        fun R S H v ρ' a' w hh => ih' (i + 1, R, S, H) v (by simp only; omega) ρ' a' w hh
      by_cases w0 : (l.getD i ([], [])).1.getD 0 0 = 0
      · exact no_rs0 hρ v hi h9 w0 ih hri
      by_cases w1 : (l.getD i ([], [])).1.getD 0 0 = 1
      · exact no_rs1 hρ v hi h9 w1 ih hri
      by_cases w2 : (l.getD i ([], [])).1.getD 0 0 = 2
      · exact no_rs2 hρ v hi h9 w2 ih hri
      by_cases w3 : (l.getD i ([], [])).1.getD 0 0 = 3
      · exact no_rs3 hρ v hi h9 w3 ih hri
      by_cases a0 : 0 ≤ (l.getD i ([], [])).1.getD 3 0
      · by_cases a1 : (l.getD i ([], [])).1.getD 3 0 < (R.length : Int)
        · by_cases w4 : (l.getD i ([], [])).1.getD 0 0 = 4
          · exact no_r4a hρ v hi h9 w4 a0 a1 ih hri
          by_cases w5 : (l.getD i ([], [])).1.getD 0 0 = 5
          · exact no_r5a hρ v hi h9 w5 a0 a1 ih hri
          by_cases w7 : (l.getD i ([], [])).1.getD 0 0 = 7
          · exact no_7 hρ v hi h9 w7 ih hri
          · exact no_rn hρ v hi h9 ⟨by omega, w7⟩ ih hri
        · by_cases w4 : (l.getD i ([], [])).1.getD 0 0 = 4
          · exact no_r4d hρ v hi h9 w4 a0 a1 ih hri
          by_cases w5 : (l.getD i ([], [])).1.getD 0 0 = 5
          · exact no_r5c hρ v hi h9 w5 a0 a1 ih hri
          by_cases w7 : (l.getD i ([], [])).1.getD 0 0 = 7
          · exact no_7 hρ v hi h9 w7 ih hri
          · exact no_rn hρ v hi h9 ⟨by omega, w7⟩ ih hri
      · by_cases w4 : (l.getD i ([], [])).1.getD 0 0 = 4
        · exact no_r4c hρ v hi h9 w4 a0 ih hri
        by_cases w5 : (l.getD i ([], [])).1.getD 0 0 = 5
        · exact no_r5b hρ v hi h9 w5 a0 ih hri
        by_cases w7 : (l.getD i ([], [])).1.getD 0 0 = 7
        · exact no_7 hρ v hi h9 w7 ih hri
        · exact no_rn hρ v hi h9 ⟨by omega, w7⟩ ih hri
    · refine goes_true (callY_ok 9) funO (S := TO l R S H i [true, false]) (ap5O noX1 l R S H i) ?_ (fun w' h => ⟨rfl, keptN h⟩) (ρ0 := ρ0) ⟨hri.sl, hri.m⟩
      exact ⟨decide_eq_false (by omega), decide_eq_true (by omega), trivial⟩
  · refine goes_true (callY_ok 9) funO (S := TO l R S H i [false]) (ap5O noX0 l R S H i) ?_ (fun w' h => ⟨rfl, keptN h⟩) (ρ0 := ρ0) ⟨hri.sl, hri.m⟩
    exact ⟨decide_eq_false (by omega), trivial⟩
end
theorem nil_l (sel : List Nat) : ∀ n : Nat, leL sel (List.replicate n [C.int .i64 0, C.int .i64 0, C.nils]).flatten (flatB k2 (List.replicate n ([0, 0], [])))
  | 0 => trivial
  | n + 1 => ⟨⟨rfl, rfl⟩, ⟨rfl, rfl⟩, trivial, nil_l sel n⟩
theorem nil_sent (sel : List Nat) : leCells sel (.exp (List.replicate 90 [C.int .i64 0, C.int .i64 0, C.nils]).flatten) (.recB k2 nilS) :=
  .inr ⟨nil_l sel 90, fun r hr => by rw [(List.mem_replicate.1 hr).2]; exact ⟨rfl, rfl⟩⟩
set_option maxRecDepth 100000 in
theorem netOrder_calls (l : Rws) (e : E) (v : Value) {W0 : World} (r : readN W0 (e, rd l)) (_w : ∀ r ∈ l, wfB k4 r) (_m : l.length ≤ maxLen)
    (u : ∀ (ρ : Env) (b : Nat), ρ[b]? = some e → (V.v (.one (.slice b (.c 0) 5 (.s l.length) (.s l.length)))).rel ρ v) (W : World) (hW : W0 = W := by rfl) :
    Calls Try.prog 6 #[v] W fun e w' => e = .returned (.bool true) ∧ Below W.heap.size W w' := by
  subst hW
  have hm := mem_argsN (W := W0) [(e, rd l)] (by intro y hy; simp at hy; subst hy; exact r)
  have hu : relVs ([(e, rd l)].map (·.1)) [dsl 0 l.length l.length] [v] := ⟨_, _, rfl, u _ 0 rfl, rfl⟩
  refine calls_goes (h := []) (ob := []) funO bodO (by exact tmpO) hm hu ?_
  intro ac w' hrel
  have q : _ = some _ := congrFun noE l
  refine goes_stop (ρ0 := [(e, rd l)].map (·.1)) (r := [1, 2, 3, 4]) (T := TO l [] nilS (fun _ => false) 0 []) (S := ⟨argSlots 0 [dsl 0 l.length l.length], [rd l], [true, false], []⟩) (callY_ok 9) funO q ?_
    ⟨show ([0, 1, 2, 3, 4] : List Nat).Nodup by decide, ?_, ?_⟩ (fun ρ' a' w3 hh => no_loop rfl hh) ⟨hrel.sl, hrel.m⟩
  · simp [allP]
  · simp [TO, leSlots, leV, leV1, leC, si, rsl, dsl, np, ptO, N.v, List.range, List.range.loop]
  · exact ⟨⟨id, rfl, rfl⟩, ⟨id, ⟨⟨rfl, rfl⟩, ⟨rfl, rfl, rfl, rfl, Nat.le_refl _, Nat.le_refl _⟩, trivial⟩⟩, ⟨id, rfl, rfl⟩, ⟨id, leL_sb _ (fun _ => false) (List.range 90)⟩, ⟨id, nil_sent _⟩, trivial⟩

set_option maxRecDepth 100000 in
theorem netOrder_lifted (os : Os) (started : os.Started) (H : Type) (enc : TypeId × Value → H) :
    ReturnsInHanded {} Try.checked os 6 .any (Rows.netOrderSpec.pre6 enc Try.prog Try.f6 Rows.netOrderRow.domain false) (Rows.netOrderSpec.post enc Try.prog Try.f6 false true false false) := by
  refine returnsInHanded_of_change (C := Try.checked) own started (by kernel_rfl) Try.func6
    (ChangeSpec.witness6 (enc := enc) (C := Try.checked) false ⟨#[], #[.slice none 0 0], []⟩ 8 (by kernel_rfl) (by kernel_rfl) (by kernel_rfl) (by kernel_rfl)) ?_
  intro W base args ds gs before hval0 hW hcnd _
  have hval : ∀ (j : Nat) t v, Try.f6.params[j]? = some t → args[j]? = some v → Value.okWide Try.prog W .any base t v := hval0
  have hW' := hW
  obtain ⟨p, q, hA0, hV, hbef, hfz, hnd⟩ := hW
  have hA : DataW.TrodAll enc Try.prog W 0 (fun _ => true) true Try.f6.params.toList args.toList ds p := hA0
  rw [Try.params6] at hA hval
  obtain ⟨v0, d0, rfl, rfl, h0⟩ := trodAll_one hA
  obtain ⟨a0, e0, r0, w0, m0, u0⟩ := one_rowB (ks := [.u8, .i64, .i64, .i64]) (d := 20) (by kernel_rfl) (hval 0 39 v0 rfl rfl) h0
  refine (netOrder_calls a0 e0 v0 r0 w0 m0 u0 W).mono fun e W' ⟨he, hb⟩ => ?_
  subst he
  exact ⟨_, rfl, post_law laidOut (by rw [Try.params6]; decide +kernel) rfl rfl (by kernel_rfl) Try.underlying4 hW' hb⟩

theorem netOrder_holds : Rows.NetOrderSaid :=
  OpenClaim.holds_of_wide 6 Try.f6 rfl rfl rfl rfl rfl rfl rfl ⟨rfl, rfl, rfl, rfl, rfl⟩ rfl rfl rfl rfl rfl (by kernel_rfl) Try.func6 (by kernel_rfl)
    (of_decide_eq_true (by kernel_rfl)) (by unfold Func.isWrapper; first | (rw [if_pos (by decide +kernel)]; kernel_rfl) | (rw [if_neg (by decide +kernel)]; exact ⟨rfl, rfl⟩))
    (fun os started H enc _ => netOrder_lifted os started H enc)
#print axioms netOrder_holds

end Go.Proofs.Ytjnnfehepbicfaa
