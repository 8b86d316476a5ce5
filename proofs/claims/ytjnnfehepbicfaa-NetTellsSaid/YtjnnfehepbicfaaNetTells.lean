/- NetTells is true of any number of nodes and any deeds, and leaves its arguments as they were. -/
import Derived.Test.YtjnnfehepbicfaaNuB
namespace Go.Proofs.Ytjnnfehepbicfaa
open Go.ChangeShapes Go.WideShapes Go.ChangeAt Go.RowKit Go.Sx
theorem wf_byB {x : Rw} (h : wfB k4 x) : byB x.2 := fun n hn => by
  have := h.2.1 n hn
  simp [Lit.wf, IntKind.min, IntKind.max, IntKind.signed, IntKind.bits] at this
  omega
section
variable {ρ0 : Env} {Wd : World} {l : Rws} {N : Int}
theorem nu_rest {h : Rws} {E : Int} {i : Nat} (hρ : ρ0.length = 1) (v : InvU N h E i) (hi : i < l.length) (h7 : i < 70) (hd : (xD l i).length ≤ 150) (x : xF l i 0 ≠ 0 ∧ xF l i 0 ≠ 1 ∧ xF l i 0 ≠ 2 ∧ xF l i 0 ≠ 3)
    (ih : ∀ h E, InvU N h E (i + 1) → ∀ ρ' a' w, RelD [] (ρ0 ++ ρ') (uptoN Wd) Wd FU.ntmps (TU l (proj h) h N E (i + 1) []) a' w → Goes Try.prog 4 (EndS Wd) KU a' w) : wayU ρ0 Wd l h N E i := by
  obtain ⟨x0, x1, x2, x3⟩ := x
  by_cases x7 : xF l i 0 = 7
  · exact nu_7 hρ v hi h7 hd x7 ih
  by_cases hp : 0 ≤ xF l i 3 ∧ xF l i 3 < h.length
  · by_cases x4 : xF l i 0 = 4
    · exact nu_4a hρ v hi h7 hd hp x4 ih
    by_cases x5 : xF l i 0 = 5
    · exact nu_5a hρ v hi h7 hd hp x5 ih
    by_cases x6 : xF l i 0 = 6
    · exact nu_6a hρ v hi h7 hd hp x6 ih
    exact nu_La hρ v hi h7 hd hp (by omega) ih
  · by_cases x4 : xF l i 0 = 4
    · exact nu_4b hρ v hi h7 hd hp x4 ih
    by_cases x5 : xF l i 0 = 5
    · exact nu_5b hρ v hi h7 hd hp x5 ih
    by_cases x6 : xF l i 0 = 6
    · exact nu_6b hρ v hi h7 hd hp x6 ih
    exact nu_Lb hρ v hi h7 hd hp (by omega) ih
theorem nu_round {h : Rws} {E : Int} {i : Nat} (hρ : ρ0.length = 1) (hbl : ∀ r ∈ l, byB r.2) (v : InvU N h E i) (hi : i < l.length) (h7 : i < 70) (hd : (xD l i).length ≤ 150)
    (ih : ∀ h E, InvU N h E (i + 1) → ∀ ρ' a' w, RelD [] (ρ0 ++ ρ') (uptoN Wd) Wd FU.ntmps (TU l (proj h) h N E (i + 1) []) a' w → Goes Try.prog 4 (EndS Wd) KU a' w) : wayU ρ0 Wd l h N E i := by
  have hb : byB (xD l i) := hbl _ (by rw [row_at hi]; exact List.getElem_mem hi)
  by_cases hin : inR N (xF l i 1) (xF l i 2)
  · by_cases x0 : xF l i 0 = 0
    · exact nu_s0 hρ v hi h7 hd hb hin x0 ih
    by_cases x1 : xF l i 0 = 1
    · exact nu_s1 hρ v hi h7 hd hb hin x1 ih
    by_cases x2 : xF l i 0 = 2
    · exact nu_s2 hρ v hi h7 hd hb hin x2 ih
    by_cases x3 : xF l i 0 = 3
    · exact nu_s3 hρ v hi h7 hd hb hin x3 ih
    exact nu_rest hρ v hi h7 hd ⟨x0, x1, x2, x3⟩ ih
  · by_cases x0 : xF l i 0 = 0
    · exact nu_z0 hρ v hi h7 hd hin x0 ih
    by_cases x1 : xF l i 0 = 1
    · exact nu_z1 hρ v hi h7 hd hin x1 ih
    by_cases x2 : xF l i 0 = 2
    · exact nu_z2 hρ v hi h7 hd hin x2 ih
    by_cases x3 : xF l i 0 = 3
    · exact nu_z3 hρ v hi h7 hd hin x3 ih
    exact nu_rest hρ v hi h7 hd ⟨x0, x1, x2, x3⟩ ih
theorem nu_loop (hρ : ρ0.length = 1) (hbl : ∀ r ∈ l, byB r.2) (hN : 1 ≤ N) {ρ' : Env} {ac : Act} {w : World} (hr : RelD [] (ρ0 ++ ρ') (uptoN Wd) Wd FU.ntmps (TU l (proj []) [] N 0 0 []) ac w) :
    Goes Try.prog 4 (EndS Wd) EU ac w := by
  refine goes_loop (ρ0 := ρ0) (fun p : Nat × Rws × Int => TU l (proj p.2.1) p.2.1 N p.2.2 p.1 []) (fun p => InvU N p.2.1 p.2.2 p.1) (fun p => 70 - p.1) ?_ (i := (0, [], 0)) ?_ hr
  · rintro ⟨i, h, E⟩ v ρ' ac w hri ih'
    have v : InvU N h E i := v
    have hri : RelD [] (ρ0 ++ ρ') (uptoN Wd) Wd FU.ntmps (TU l (proj h) h N E i []) ac w := hri
    by_cases hi : i < l.length
    · by_cases h7 : i < 70
      · have ih : ∀ h E, InvU N h E (i + 1) → ∀ ρ' a' w, RelD [] (ρ0 ++ ρ') (uptoN Wd) Wd FU.ntmps (TU l (proj h) h N E (i + 1) []) a' w → Goes Try.prog 4 (EndS Wd) KU a' w :=
          fun h E v ρ' a' w hh => ih' (i + 1, h, E) v (by simp only; omega) ρ' a' w hh
        by_cases hd : (xD l i).length ≤ 150
        · exact nu_round hρ hbl v hi h7 hd ih ρ' ac w hri
        · refine goes_stop (ρ0 := ρ0) (r := [1, 2, 3, 4]) (T := TU l (proj h) h N E (i + 1) []) (S := TU l (proj h) h N E i [true, true, true]) (callU_ok 9) funU (by rw [hρ]; exact ap6U nuC l (proj h) h N E i) ?_
            (by rw [hρ]; exact ⟨by decide, ⟨⟨rfl, rfl, rfl, rfl, rfl, Nat.le_refl _, Nat.le_refl _⟩, ⟨rfl, rfl, rfl, rfl, rfl⟩, ⟨rfl, rfl, rfl, rfl, rfl⟩, ⟨rfl, rfl, rfl⟩, trivial⟩, mU_le⟩) (ih h E (v.skip h7)) ⟨hri.sl, hri.m⟩
          exact ⟨⟨by omega, by omega⟩, decide_eq_true (by omega), hi, by omega, by omega, decide_eq_true (by omega), decide_eq_true (by omega), trivial⟩
      · refine goes_true (callU_ok 9) funU (S := TU l (proj h) h N E i [true, false]) (ap6U nuX1 l (proj h) h N E i) ?_ (fun w' h => ⟨rfl, keptN h⟩) (ρ0 := ρ0) ⟨hri.sl, hri.m⟩
        exact ⟨decide_eq_false (by omega), decide_eq_true (by omega), trivial⟩
    · refine goes_true (callU_ok 9) funU (S := TU l (proj h) h N E i [false]) (ap6U nuX0 l (proj h) h N E i) ?_ (fun w' h => ⟨rfl, keptN h⟩) (ρ0 := ρ0) ⟨hri.sl, hri.m⟩
      exact ⟨decide_eq_false (by omega), trivial⟩
  · exact ⟨hN, ⟨fun r hr => by simp at hr, by simp, ⟨by decide, by decide⟩, fun r hr => by simp at hr, List.Pairwise.nil⟩, fun r hr => by simp at hr, Nat.le_refl _, Int.le_refl _, by omega⟩
end
set_option maxRecDepth 100000 in
theorem netTells_calls (N : Int) (l : Rws) (e : E) (v : Value) {W0 : World} (_wN : (Lit.int .i64 N).wf = true) (r : readN W0 (e, rd l)) (w : ∀ r ∈ l, wfB k4 r) (_m : l.length ≤ maxLen)
    (u : ∀ (ρ : Env) (b : Nat), ρ[b]? = some e → (V.v (.one (.slice b (.c 0) 5 (.s l.length) (.s l.length)))).rel ρ v) (W : World) (hW : W0 = W := by rfl) :
    Calls Try.prog 4 #[.int .i64 N, v] W fun e w' => e = .returned (.bool true) ∧ Below W.heap.size W w' := by
  subst hW
  have hm := mem_argsN (W := W0) [(e, rd l)] (by intro y hy; simp at hy; subst hy; exact r)
  have hu : relVs ([(e, rd l)].map (·.1)) [si .i64 N, dsl 0 l.length l.length] [.int .i64 N, v] := ⟨_, _, rfl, ⟨rfl, rfl⟩, _, _, rfl, u _ 0 rfl, rfl⟩
  refine calls_goes (h := []) (ob := []) funU bodU (by exact tmpU) hm hu ?_
  intro ac w' hrel
  by_cases hN : 1 ≤ N ∧ N ≤ 64
  · refine goes_stop (ρ0 := [(e, rd l)].map (·.1)) (r := [1, 2, 4, 3]) (T := TU l (proj []) [] N 0 0 []) (S := ⟨argSlots 0 [si .i64 N, dsl 0 l.length l.length], [rd l], [true, true, false, false], []⟩) (callU_ok 9) funU (congrFun (congrFun nuE N) l) ?_
      ⟨show ([0, 1, 2, 4, 3] : List Nat).Nodup by decide, ?_, ?_⟩ (fun ρ' a' w3 hh => nu_loop rfl (fun r hr => wf_byB (w r hr)) hN.1 hh) ⟨hrel.sl, hrel.m⟩
    · exact ⟨rfl, rfl, hN, hN, trivial⟩
    · exact ⟨⟨rfl, rfl, rfl, rfl, rfl, Nat.le_refl _, Nat.le_refl _⟩, ⟨rfl, rfl, rfl, rfl, rfl⟩, ⟨rfl, rfl, rfl, rfl, rfl⟩, ⟨rfl, rfl, rfl⟩, trivial⟩
    · exact ⟨⟨id, rfl, rfl⟩, ⟨id, ⟨rfl, rfl⟩, ⟨rfl, rfl, rfl, rfl, Nat.le_refl _, Nat.le_refl _⟩, trivial⟩, ⟨id, rfl, rfl⟩, ⟨id, ⟨rfl, rfl⟩, ⟨rfl, rfl⟩, ⟨rfl, rfl, rfl, rfl, Nat.le_refl _, Nat.le_refl _⟩, trivial⟩, ⟨id, rfl, rfl⟩, trivial⟩
  · refine goes_true (callU_ok 9) funU (S := ⟨argSlots 0 [si .i64 N, dsl 0 l.length l.length], [rd l], [false, false, false, true, true], []⟩) (congrFun (congrFun nuB N) l) ?_ (fun w' h => ⟨rfl, keptN h⟩) (ρ0 := [(e, rd l)].map (·.1)) ⟨hrel.sl, hrel.m⟩
    exact ⟨rfl, rfl, rfl, hN, hN, trivial⟩

set_option maxRecDepth 100000 in
theorem netTells_lifted (os : Os) (started : os.Started) (H : Type) (enc : TypeId × Value → H) :
    ReturnsInHanded {} Try.checked os 4 .any (Rows.netTellsSpec.pre6 enc Try.prog Try.f4 Rows.netTellsRow.domain false) (Rows.netTellsSpec.post enc Try.prog Try.f4 false true false false) := by
  refine returnsInHanded_of_change (C := Try.checked) own started (by kernel_rfl) Try.func4
    (ChangeSpec.witness6 (enc := enc) (C := Try.checked) false ⟨#[], #[.int .i64 0, .slice none 0 0], []⟩ 8 (by kernel_rfl) (by kernel_rfl) (by kernel_rfl) (by kernel_rfl)) ?_
  intro W base args ds gs before hval0 hW hcnd _
  have hval : ∀ (j : Nat) t v, Try.f4.params[j]? = some t → args[j]? = some v → Value.okWide Try.prog W .any base t v := hval0
  have hW' := hW
  obtain ⟨p, q, hA0, hV, hbef, hfz, hnd⟩ := hW
  have hA : DataW.TrodAll enc Try.prog W 0 (fun _ => true) true Try.f4.params.toList args.toList ds p := hA0
  rw [Try.params4] at hA hval
  obtain ⟨v0, v1, d0, d1, p0, p1, rfl, rfl, hp, h0, h1⟩ := trodAll_two hA
  obtain ⟨a0, rfl, rfl, _, w0⟩ := open_int Try.underlying3 (hval 0 3 v0 rfl rfl) h0
  obtain ⟨a1, e1, r1, w1, m1, u1⟩ := one_rowB (ks := [.u8, .i64, .i64, .i64]) (d := 20) (by kernel_rfl) (hval 1 39 v1 rfl rfl) h1
  refine (netTells_calls a0 a1 e1 v1 w0 r1 w1 m1 u1 W).mono fun e W' ⟨he, hb⟩ => ?_
  subst he
  exact ⟨_, rfl, post_law laidOut (by rw [Try.params4]; decide +kernel) rfl rfl (by kernel_rfl) Try.underlying4 hW' hb⟩

theorem netTells_holds : Rows.NetTellsSaid :=
  OpenClaim.holds_of_wide 4 Try.f4 rfl rfl rfl rfl rfl rfl rfl ⟨rfl, rfl, rfl, rfl, rfl⟩ rfl rfl rfl rfl rfl (by kernel_rfl) Try.func4 (by kernel_rfl)
    (of_decide_eq_true (by kernel_rfl)) (by unfold Func.isWrapper; first | (rw [if_pos (by decide +kernel)]; kernel_rfl) | (rw [if_neg (by decide +kernel)]; exact ⟨rfl, rfl⟩))
    (fun os started H enc _ => netTells_lifted os started H enc)
#print axioms netTells_holds

end Go.Proofs.Ytjnnfehepbicfaa
