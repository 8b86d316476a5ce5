/- NetStill is true of any datagrams, place and node, and leaves its arguments as they were. -/
import Derived.Test.YtjnnfehepbicfaaNsA
import Derived.Test.YtjnnfehepbicfaaNsP
namespace Go.Proofs.Ytjnnfehepbicfaa
open Go.ChangeShapes Go.WideShapes Go.ChangeAt Go.RowKit Go.Sx
theorem netStill_calls (l : Rws) (e : E) (v : Value) (far node : Int) {W0 : World} (r : readN W0 (e, rr l)) (_w : ∀ r ∈ l, wfB k2 r) (_m : l.length ≤ maxLen)
    (u : ∀ (ρ : Env) (b : Nat), ρ[b]? = some e → (V.v (.one (.slice b (.c 0) 3 (.s l.length) (.s l.length)))).rel ρ v) (hf : (Lit.int .u16 far).wf = true) (hn : (Lit.int .i64 node).wf = true) (W : World) (hW : W0 = W := by rfl) :
    Calls Try.prog 9 #[v, .int .u16 far, .int .i64 node] W fun e w' => e = .returned (.bool true) ∧ Below W.heap.size W w' := by
  subst hW
  have hm := mem_argsN (W := W0) [(e, rr l)] (by intro y hy; simp at hy; subst hy; exact r)
  have hu : relVs ([(e, rr l)].map (·.1)) [rsl 0 l.length l.length, si .u16 far, si .i64 node] [v, .int .u16 far, .int .i64 node] := ⟨_, _, rfl, u _ 0 rfl, _, _, rfl, ⟨rfl, rfl⟩, _, _, rfl, ⟨rfl, rfl⟩, rfl⟩
  have hf := wf_u16 hf
  have hn := wf_i64 hn
  have hlen := laidS_len l
  have hok := laidS_wf l
  have e1 : dropS (laidS l) (-1 - far) = laidS l := dropS_out (by omega)
  have e3 : dropS (laidS l) (((laidS l).length : Int) + far) = laidS l := dropS_out (by omega)
  have c1 : copyE (laidS l) (-1 - far) = 2 := copyE_out (by omega)
  have c2 : copyE (laidS l) (((laidS l).length : Int) + far) = 2 := copyE_out (by omega)
  have big : (List.replicate (1048577 : Nat) (0 : Int)).length = 1048577 := List.length_replicate
  have b1 : ¬ (0 ≤ -1 - far ∧ -1 - far < ((laidS l).length : Int)) := by omega
  have b2 : ¬ (0 ≤ ((laidS l).length : Int) + far ∧ ((laidS l).length : Int) + far < ((laidS l).length : Int)) := by omega
  by_cases h0 : 0 ≤ node
  · by_cases h3 : node < 3
    · have e2 : forgetS (laidS l) (node + 3) = laidS l := laid_forget (by omega)
      have s1 := sendE_bad1 (nd := node + 3) (n := (laidS l).length) (by omega)
      have s2 := sendE_bad2 (nd := node + 3) (n := (laidS l).length) (by omega)
      have s3 := sendE_long (n := (laidS l).length)
      refine law_obsN tabY_ok (congrFun (congrFun (congrFun ns0 l) far) node) ?_ hm hu
      simp only [e1, e2, e3, big]
      generalize laidS l = L at *
      simp only [allP, s1, s2, s3, c1, c2, decide_eq_false b1, decide_eq_false b2]
      simp [hok, b1, b2]; omega
    · have e2 : forgetS (laidS l) node = laidS l := laid_forget (by omega)
      have s1 := sendE_bad1 (nd := node) (n := (laidS l).length) (by omega)
      have s2 := sendE_bad2 (nd := node) (n := (laidS l).length) (by omega)
      have s3 := sendE_long (n := (laidS l).length)
      refine law_obsN tabY_ok (congrFun (congrFun (congrFun ns1 l) far) node) ?_ hm hu
      simp only [e1, e2, e3, big]
      generalize laidS l = L at *
      simp only [allP, s1, s2, s3, c1, c2, decide_eq_false b1, decide_eq_false b2]
      simp [hok, b1, b2]; omega
  · have e2 : forgetS (laidS l) node = laidS l := laid_forget (by omega)
    have s1 := sendE_bad1 (nd := node) (n := (laidS l).length) (by omega)
    have s2 := sendE_bad2 (nd := node) (n := (laidS l).length) (by omega)
    have s3 := sendE_long (n := (laidS l).length)
    refine law_obsN tabY_ok (congrFun (congrFun (congrFun ns2 l) far) node) ?_ hm hu
    simp only [e1, e2, e3, big]
    generalize laidS l = L at *
    simp only [allP, s1, s2, s3, c1, c2, decide_eq_false b1, decide_eq_false b2]
    simp [hok, b1, b2]; omega

set_option maxRecDepth 100000 in
theorem netStill_lifted (os : Os) (started : os.Started) (H : Type) (enc : TypeId × Value → H) :
    ReturnsInHanded {} Try.checked os 9 .any (Rows.netStillSpec.pre6 enc Try.prog Try.f9 Rows.netStillRow.domain false) (Rows.netStillSpec.post enc Try.prog Try.f9 false true false false) := by
  refine returnsInHanded_of_change (C := Try.checked) own started (by kernel_rfl) Try.func9
    (ChangeSpec.witness6 (enc := enc) (C := Try.checked) false ⟨#[], #[.slice none 0 0, .int .u16 0, .int .i64 0], []⟩ 8 (by kernel_rfl) (by kernel_rfl) (by kernel_rfl) (by kernel_rfl)) ?_
  intro W base args ds gs before hval0 hW hcnd _
  have hval : ∀ (j : Nat) t v, Try.f9.params[j]? = some t → args[j]? = some v → Value.okWide Try.prog W .any base t v := hval0
  have hW' := hW
  obtain ⟨p, q, hA0, hV, hbef, hfz, hnd⟩ := hW
  have hA : DataW.TrodAll enc Try.prog W 0 (fun _ => true) true Try.f9.params.toList args.toList ds p := hA0
  rw [Try.params9] at hA hval
  obtain ⟨v0, v1, v2, d0, d1, d2, p0, p1, p2, rfl, rfl, hp, h0, h1, h2⟩ := trodAll_three hA
  obtain ⟨a0, e0, r0, w0, m0, u0⟩ := one_rowB (ks := [.i64, .i64]) (d := 20) (by kernel_rfl) (hval 0 54 v0 rfl rfl) h0
  obtain ⟨a1, rfl, rfl, _, w1⟩ := open_int Try.underlying72 (hval 1 72 v1 rfl rfl) h1
  obtain ⟨a2, rfl, rfl, _, w2⟩ := open_int Try.underlying3 (hval 2 3 v2 rfl rfl) h2
  refine (netStill_calls a0 e0 v0 a1 a2 r0 w0 m0 u0 w1 w2 W).mono fun e W' ⟨he, hb⟩ => ?_
  subst he
  exact ⟨_, rfl, post_law laidOut (by rw [Try.params9]; decide +kernel) rfl rfl (by kernel_rfl) Try.underlying4 hW' hb⟩

theorem netStill_holds : Rows.NetStillSaid :=
  OpenClaim.holds_of_wide 9 Try.f9 rfl rfl rfl rfl rfl rfl rfl ⟨rfl, rfl, rfl, rfl, rfl⟩ rfl rfl rfl rfl rfl (by kernel_rfl) Try.func9 (by kernel_rfl)
    (of_decide_eq_true (by kernel_rfl)) (by unfold Func.isWrapper; first | (rw [if_pos (by decide +kernel)]; kernel_rfl) | (rw [if_neg (by decide +kernel)]; exact ⟨rfl, rfl⟩))
    (fun os started H enc _ => netStill_lifted os started H enc)
#print axioms netStill_holds

end Go.Proofs.Ytjnnfehepbicfaa
