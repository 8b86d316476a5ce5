/- NetSieve is true of any datagrams, order of nodes and number, and leaves its arguments as they were. -/
import Derived.Test.YtjnnfehepbicfaaNvD
namespace Go.Proofs.Ytjnnfehepbicfaa
open Go.ChangeShapes Go.WideShapes Go.ChangeAt Go.RowKit Go.Sx
def argV (l : Rws) (a b c many other : Int) : List V := [rsl 0 l.length l.length, .v (.agg [.sint .u8 a, .sint .u8 b, .sint .u8 c]), si .u8 many, si .i64 other]
theorem nv_start {ρ0 : Env} {Wd : World} {l : Rws} {a b c many other : Int} {h : List Bool} {k : Nat} (hk : k = 3 ∨ k = 8) (hρ : ρ0.length = 1) (hb : 0 ≤ b) (hc : 0 ≤ c) (hm : 0 ≤ many) {A : Slots} {D : List SB} {ob : List Prop}
    (q : stopV [9, 11, 13, 14, 17, 93, 94, 95] [0, 2, k, 4, 5, 6, 7] (entV h l a b c many other) = some (EV2, A, D, ob))
    (hob : allP ob) (hA : leSlots [0, 2, k, 4, 5, 6, 7] A (TV2 l (laidS l) (permL (b.tmod 2).toNat (c.tmod 3).toNat) (many.tmod 4).toNat []).sl) (hD : leBs [0, 2, k, 4, 5, 6, 7] D (TV2 l (laidS l) (permL (b.tmod 2).toNat (c.tmod 3).toNat) (many.tmod 4).toNat []).m)
    {ρ' : Env} {ac : Act} {w : World} (hr : RelD [] (ρ0 ++ ρ') (uptoN Wd) Wd FV.ntmps ⟨argSlots 0 (argV l a b c many other), [rr l], [], []⟩ ac w) :
    Goes Try.prog 8 (EndV Wd) [.code (body 8)] ac w := by
  have b1 := Int.tmod_lt_of_pos b (show (0 : Int) < 2 by omega)
  have c1 := Int.tmod_lt_of_pos c (show (0 : Int) < 3 by omega)
  have m1 := Int.tmod_lt_of_pos many (show (0 : Int) < 4 by omega)
  refine goes_stop (ρ0 := ρ0) (r := [2, k, 4, 5, 6, 7]) (T := TV2 l (laidS l) (permL (b.tmod 2).toNat (c.tmod 3).toNat) (many.tmod 4).toNat []) (S := ⟨argSlots 0 (argV l a b c many other), [rr l], h, []⟩) (callY_ok 9) funV (by rw [hρ]; exact q) hob
    ⟨by rw [hρ]; rcases hk with rfl | rfl <;> decide, by rw [hρ]; exact hA, by rw [hρ]; exact hD⟩
      (fun ρ' a w hh => nv_two hρ (permL_len _ _).1 (by omega) (fun x h0 h1 => permL_all (by omega) (by omega) h0 h1) hh) ⟨hr.sl, hr.m⟩
set_option maxRecDepth 100000 in
theorem netSieve_calls (l : Rws) (e : E) (v : Value) (ns : List Int) (many other : Int) {W0 : World} (r : readN W0 (e, rr l)) (_w : ∀ r ∈ l, wfB k2 r) (_m : l.length ≤ maxLen)
    (u : ∀ (ρ : Env) (b : Nat), ρ[b]? = some e → (V.v (.one (.slice b (.c 0) 3 (.s l.length) (.s l.length)))).rel ρ v) (hns : wfRow [.u8, .u8, .u8] ns) (hm8 : (Lit.int .u8 many).wf = true) (_ho : (Lit.int .i64 other).wf = true) (W : World) (hW : W0 = W := by rfl) :
    Calls Try.prog 8 #[v, .agg (ivals [.u8, .u8, .u8] ns).toArray, .int .u8 many, .int .i64 other] W fun e w' => e = .returned (.bool true) ∧ Below W.heap.size W w' := by
  subst hW
  obtain ⟨a, b, c, rfl, ha, hb, hc⟩ := wf3 hns
  have hb := wf_u8 hb
  have hc := wf_u8 hc
  have hm8 := wf_u8 hm8
  have hm := mem_argsN (W := W0) [(e, rr l)] (by intro y hy; simp at hy; subst hy; exact r)
  have hu : relVs ([(e, rr l)].map (·.1)) (argV l a b c many other) [v, .agg (ivals [.u8, .u8, .u8] [a, b, c]).toArray, .int .u8 many, .int .i64 other] :=
    ⟨_, _, rfl, u _ 0 rfl, _, _, rfl, ⟨[.int .u8 a, .int .u8 b, .int .u8 c], rfl, ⟨_, _, rfl, rfl, _, _, rfl, rfl, _, _, rfl, rfl, rfl⟩, by simp [Value.oneCell']⟩, _, _, rfl, ⟨rfl, rfl⟩, _, _, rfl, ⟨rfl, rfl⟩, rfl⟩
  have hlen := laidS_len l
  have hok := laidS_wf l
  have b1 := Int.tmod_lt_of_pos b (show (0 : Int) < 2 by omega)
  have c1 := Int.tmod_lt_of_pos c (show (0 : Int) < 3 by omega)
  have m1 := Int.tmod_lt_of_pos many (show (0 : Int) < 4 by omega)
  have b0 := Int.tmod_nonneg (2 : Int) hb.1
  have c0 := Int.tmod_nonneg (3 : Int) hc.1
  have m0' := Int.tmod_nonneg (4 : Int) hm8.1
  refine calls_goes (h := []) (ob := []) funV bodV (by exact tmpV) hm hu ?_
  intro ac w hrel
  have sl : ∀ (k : Nat) (S : Slots), S = [(9, .v (.one (.ptr 2 (.c 0) 1 0))), (11, .v (.one (.ptr 4 (.c 0) 1 0))), (13, .v (.one (.slice 6 (.c 0) 3 (.s (laidS l).length) (.s (laidS l).length)))), (14, .v (.one (.slice 7 (.c 0) 1 (.s (many.tmod 4).toNat) (.c 3)))), (17, .v (.one (.int .i64 0))), (93, .v (.one (.slice 7 (.c 0) 1 (.s (many.tmod 4).toNat) (.c 3)))), (94, .v (.one (.sint .i64 ((many.tmod 4).toNat : Int)))), (95, .v (.one (.int .i64 0)))] →
      leSlots [0, 2, k, 4, 5, 6, 7] S (TV2 l (laidS l) (permL (b.tmod 2).toNat (c.tmod 3).toNat) (many.tmod 4).toNat []).sl := fun k S hS => by
    subst hS
    simp [TV2, leSlots, leV, leV1, leC, si, rsl, sli, np, N.v]; omega
  have bl : ∀ (k : Nat) (D : List SB), D = [SB.mk false (Cells.recB k2 l), SB.mk true (.exp [(.sint .i64 3), (.slice k (.c 0) 3 (.s (laidS l).length) (.s (laidS l).length))]), SB.mk true (Cells.recB k2 (laidS l)), SB.mk true (.exp [(.sint .i64 3), (.slice 5 (.c 0) 3 (.s (laidS l).length) (.s (laidS l).length))]), SB.mk true (Cells.recB k2 (laidS l)), SB.mk true (Cells.recB k2 (laidS l)), SB.mk true (.ints .i64 (permL (b.tmod 2).toNat (c.tmod 3).toNat))] →
      leBs [0, 2, k, 4, 5, 6, 7] D (TV2 l (laidS l) (permL (b.tmod 2).toNat (c.tmod 3).toNat) (many.tmod 4).toNat []).m := fun k D hD => by
    subst hD
    simp [TV2, leBs, leB, leCells, leL, leC, nb, rr, orr, oI, N.v]
  by_cases h0 : other < 0
  · have f := laid_forget (l := l) (q := other) (by omega)
    have q := congrFun (congrFun (congrFun (congrFun (congrFun (congrFun nvE0 l) a) b) c) many) other
    simp only [f] at q
    refine nv_start (.inr rfl) rfl hb.1 hc.1 hm8.1 q ?_ (sl _ _ rfl) (bl _ _ rfl) hrel
    clear q sl bl
    generalize laidS l = R at *
    simp only [allP, decide_eq_true h0]
    simp [hok]; omega
  · by_cases h1 : 2 < other
    · have f := laid_forget (l := l) (q := other) (by omega)
      have q := congrFun (congrFun (congrFun (congrFun (congrFun (congrFun nvE1 l) a) b) c) many) other
      simp only [f] at q
      refine nv_start (.inr rfl) rfl hb.1 hc.1 hm8.1 q ?_ (sl _ _ rfl) (bl _ _ rfl) hrel
      clear q sl bl
      generalize laidS l = R at *
      simp only [allP, decide_eq_true h1, decide_eq_false h0]
      simp [hok]; omega
    · have q := congrFun (congrFun (congrFun (congrFun (congrFun (congrFun nvE2 l) a) b) c) many) other
      refine nv_start (.inl rfl) rfl hb.1 hc.1 hm8.1 q ?_ (sl _ _ rfl) (bl _ _ rfl) hrel
      clear q sl bl
      generalize laidS l = R at *
      simp only [allP, decide_eq_false h1, decide_eq_false h0]
      simp [hok]; omega

set_option maxRecDepth 100000 in
theorem netSieve_lifted (os : Os) (started : os.Started) (H : Type) (enc : TypeId × Value → H) :
    ReturnsInHanded {} Try.checked os 8 .any (Rows.netSieveSpec.pre6 enc Try.prog Try.f8 Rows.netSieveRow.domain false) (Rows.netSieveSpec.post enc Try.prog Try.f8 false true false false) := by
  refine returnsInHanded_of_change (C := Try.checked) own started (by kernel_rfl) Try.func8
    (ChangeSpec.witness6 (enc := enc) (C := Try.checked) false ⟨#[], #[.slice none 0 0, .agg #[.int .u8 0, .int .u8 0, .int .u8 0], .int .u8 0, .int .i64 0], []⟩ 8 (by kernel_rfl) (by kernel_rfl) (by kernel_rfl) (by kernel_rfl)) ?_
  intro W base args ds gs before hval0 hW hcnd _
  have hval : ∀ (j : Nat) t v, Try.f8.params[j]? = some t → args[j]? = some v → Value.okWide Try.prog W .any base t v := hval0
  have hW' := hW
  obtain ⟨p, q, hA0, hV, hbef, hfz, hnd⟩ := hW
  have hA : DataW.TrodAll enc Try.prog W 0 (fun _ => true) true Try.f8.params.toList args.toList ds p := hA0
  rw [Try.params8] at hA hval
  obtain ⟨v0, v1, v2, v3, d0, d1, d2, d3, p0, p1, p2, p3, rfl, rfl, hp, h0, h1, h2, h3⟩ := trodAll_four hA
  obtain ⟨a0, e0, r0, w0, m0, u0⟩ := one_rowB (ks := [.i64, .i64]) (d := 20) (by kernel_rfl) (hval 0 54 v0 rfl rfl) h0
  obtain ⟨a1, w1, rfl⟩ := agg_ints (ks := [.u8, .u8, .u8]) (d := 20) (by kernel_rfl) (hval 1 70 v1 rfl rfl) h1
  obtain ⟨a2, rfl, rfl, _, w2⟩ := open_int Try.underlying5 (hval 2 5 v2 rfl rfl) h2
  obtain ⟨a3, rfl, rfl, _, w3⟩ := open_int Try.underlying3 (hval 3 3 v3 rfl rfl) h3
  refine (netSieve_calls a0 e0 v0 a1 a2 a3 r0 w0 m0 u0 w1 w2 w3 W).mono fun e W' ⟨he, hb⟩ => ?_
  subst he
  exact ⟨_, rfl, post_law laidOut (by rw [Try.params8]; decide +kernel) rfl rfl (by kernel_rfl) Try.underlying4 hW' hb⟩

theorem netSieve_holds : Rows.NetSieveSaid :=
  OpenClaim.holds_of_wide 8 Try.f8 rfl rfl rfl rfl rfl rfl rfl ⟨rfl, rfl, rfl, rfl, rfl⟩ rfl rfl rfl rfl rfl (by kernel_rfl) Try.func8 (by kernel_rfl)
    (of_decide_eq_true (by kernel_rfl)) (by unfold Func.isWrapper; first | (rw [if_pos (by decide +kernel)]; kernel_rfl) | (rw [if_neg (by decide +kernel)]; exact ⟨rfl, rfl⟩))
    (fun os started H enc _ => netSieve_lifted os started H enc)
#print axioms netSieve_holds

end Go.Proofs.Ytjnnfehepbicfaa
