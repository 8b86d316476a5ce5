/- The symbolic evaluator: statements whose order is open. -/
import Derived.Test.YtbamfolinbehiaaSxY
import Derived.Orders
namespace Go.Sx
open Go Go.RowKit
section
variable {ds : List Deferred}
variable {P : Program} {ops : Array Oper} {Q : Exit → Act → World → Prop}
def wpAnyE (P : Program) (X : Nat → Bool) (ops : Array Oper) (Q : Exit → Act → World → Prop) : Nat → Array Bool → Act → World → Prop
 | 0, listed, a, w => Region.ready .any ops listed = [] ∧ Q .normal a w
 | fuel + 1, listed, a, w =>
  (Region.ready .any ops listed = [] → Q .normal a w) ∧
  ∀ i ∈ Region.ready .any ops listed, wpOp P ops Q i (fun a' w' => (X i = true → Ext w w') ∧ wpAnyE P X ops Q fuel (listed.setIfInBounds i true) a' w') a w
theorem wpAnyE_any {X : Nat → Bool} : ∀ (fuel : Nat) (listed : Array Bool) (a : Act) (w : World), wpAnyE P X ops Q fuel listed a w → wpAny P .any ops Q fuel listed a w
 | 0, _, _, _, h => h
 | fuel + 1, _, _, _, h => ⟨h.1, fun i hi => wpOp_mono (fun a' w' h' => wpAnyE_any fuel _ a' w' h'.2) (h.2 i hi)⟩
theorem wpAnyE_done {X : Nat → Bool} {listed : Array Bool} {a : Act} {w : World} (hr : Region.ready .any ops listed = []) (h : Q .normal a w) :
  ∀ fuel, wpAnyE P X ops Q fuel listed a w
 | 0 => ⟨hr, h⟩
 | _ + 1 => ⟨fun _ => h, by rw [hr]; simp⟩
def YieldsE (P : Program) (ops : Array Oper) (o : Oper) (v : Value) (ld : Bool) (w : World) (a : Act) : Prop :=
 (Region.wanted o (yielded ops a.tmps) = true ∧ ∀ w', (ld = true → Ext w w') → (execOp a.eval o).run P w' = .ok (.value v) w') ∨
 (Region.wanted o (yielded ops a.tmps) = false ∧ v = undef)
theorem YieldsE.wpOp {i : Nat} {o : Oper} {v : Value} {ld : Bool} {a : Act} {w : World} (hi : ops[i]? = some o) (hy : YieldsE P ops o v ld w a)
  {K : Act → World → Prop} (h : K (a.put o.dst v) w) : wpOp P ops Q i K a w := by
 unfold Go.wpOp
 simp only [hi]
 rcases hy with ⟨hw, hv⟩ | ⟨hw, rfl⟩
 ·simp only [hw, if_true, Oper.wp, hv w (fun _ => Ext.refl w), Oper.upon]; exact .inl h
 ·simp only [hw, Bool.false_eq_true, if_false]; exact h
theorem YieldsE.of_same {o : Oper} {v : Value} {ld : Bool} {w : World} {a a' : Act} (hy : YieldsE P ops o v ld w a) (he : execOp a'.eval o = execOp a.eval o)
  (hw : Region.wanted o (yielded ops a'.tmps) = Region.wanted o (yielded ops a.tmps)) : YieldsE P ops o v ld w a' := by
 unfold YieldsE at *
 rw [he, hw]
 exact hy
theorem YieldsE.on {o : Oper} {v : Value} {ld : Bool} {w w' : World} {a : Act} (hy : YieldsE P ops o v ld w a) (hx : ld = true → Ext w w') : YieldsE P ops o v ld w' a := by
 rcases hy with ⟨h1, h2⟩ | h
 ·exact .inl ⟨h1, fun w2 h => h2 w2 fun hl => (hx hl).trans (h hl)⟩
 ·exact .inr h
theorem wpOp_putE {j : Nat} {oi oj : Oper} {v : Value} {ld : Bool} {w0 : World} (hj : ops[j]? = some oj) (hap : oi.apart ops oj = true)
  (hsi : ∀ cs b, oi.op ≠ .select cs b) (hsj : ∀ cs b, oj.op ≠ .select cs b)
  (hQ : ∀ c a w, Q (.panic c) (a.put oi.dst v) w → Q (.panic c) a w) {K : Act → World → Prop} {a : Act} {w : World}
  (hy : YieldsE P ops oi v ld w0 a) (h : wpOp P ops Q j K (a.put oi.dst v) w) :
  wpOp P ops Q j (fun a' w' => YieldsE P ops oi v ld w0 a' ∧ K (a'.put oi.dst v) w') a w := by
 obtain ⟨h1, h2, h3⟩ := Oper.apart_spec hap
 have keep : ∀ (a : Act), YieldsE P ops oi v ld w0 a → ∀ u, YieldsE P ops oi v ld w0 (a.put oj.dst u) := fun a hy u =>
  hy.of_same (execOp_put oi hsi a oj.dst u h3) (wanted_put oi a oj.dst u h3)
 have keepD : ∀ d, YieldsE P ops oi v ld w0 { a with defers := d :: a.defers } := fun d => hy.of_same rfl rfl
 unfold wpOp at *
 simp only [hj] at *
 rw [wanted_put oj a oi.dst v h1] at h
 split
 ·rename_i hw
  simp only [hw, if_true] at h
  rcases h with h | ⟨hasks, hlets⟩
  case inr => exact .inr ⟨by unfold Oper.asks at *; rw [execOp_put oj hsj a oi.dst v h1] at hasks; exact hasks, hlets⟩
  refine .inl ?_
  unfold Oper.wp at *
  rw [execOp_put oj hsj a oi.dst v h1] at h
  generalize (execOp a.eval oj).run P w = r at *
  cases r with
  | ok n w' =>
   cases n <;> simp only [Oper.upon] at h ⊢
   case value u => exact ⟨keep a hy u, by rw [← Act.put_comm a v u h2]; exact h⟩
   case skip => exact ⟨keep a hy _, by rw [← Act.put_comm a v undef h2]; exact h⟩
   case defer d =>
    refine ⟨keep _ (keepD d) _, ?_⟩
    rw [← Act.put_comm _ v undef h2, ← Act.put_defers]
    exact h
   case enter f args =>
    refine Calls.mono h fun e w'' he => ?_
    cases e with
    | returned u => exact ⟨keep a hy u, by rw [← Act.put_comm a v u h2]; exact he⟩
    | panicked c => exact hQ _ _ _ he
    | outgrown => exact he
   case row row args => exact Rows.mono h fun u w'' he => ⟨keep a hy u, by rw [← Act.put_comm a v u h2]; exact he⟩
  | halt x w' =>
   cases x <;> simp only [Oper.upon] at h ⊢
   case panic u => exact hQ _ _ _ h
 ·rename_i hw
  simp only [hw] at h
  exact ⟨keep a hy _, by rw [← Act.put_comm a v undef h2]; exact h⟩
theorem wpAnyE_first {X Z : Nat → Bool} {i : Nat} {oi : Oper} {v : Value} {ld : Bool} (hz : ∀ j oj, ops[j]? = some oj → Z j = true → ∃ e ∈ oj.after, Region.binds .any e = true ∧ (e.on = i ∨ Z e.on = true)) (hi : ops[i]? = some oi) (hsel : ∀ (j : Nat) (o : Oper) cs b, ops[j]? = some o → o.op ≠ .select cs b)
  (hQ : ∀ c a w, Q (.panic c) (a.put oi.dst v) w → Q (.panic c) a w) :
  ∀ (fuel : Nat) (listed : Array Bool) (a : Act) (w : World),
   (∀ j, Z j = true → listed.getD j true = false) →
   (∀ j oj, ops[j]? = some oj → j ≠ i → listed.getD j true = false → Z j = false → (∀ e ∈ oj.after, Region.binds .any e = true → e.on ≠ i) → oi.apart ops oj = true ∧ (ld = true → X j = true)) →
   i ∈ Region.ready .any ops listed → YieldsE P ops oi v ld w a →
   wpAnyE P X ops Q fuel (listed.setIfInBounds i true) (a.put oi.dst v) w → wpAnyE P X ops Q (fuel + 1) listed a w := by
 intro fuel
 induction fuel with
 | zero =>
  intro listed a w _ _ hr hy H
  refine ⟨fun h => (by rw [h] at hr; cases hr), fun j hj => ?_⟩
  by_cases hji : j = i
  ·subst hji; exact hy.wpOp hi ⟨fun _ => Ext.refl w, H⟩
  ·have := ready_mono hj hji
   rw [H.1] at this
   cases this
 | succ fuel ih =>
  intro listed a w hzl hfree hr hy H
  refine ⟨fun h => (by rw [h] at hr; cases hr), fun j hj => ?_⟩
  by_cases hji : j = i
  ·subst hji; exact hy.wpOp hi ⟨fun _ => Ext.refl w, H⟩
  ·have h1 := H.2 j (ready_mono hj hji)
   obtain ⟨hjun, oj, hoj, hall⟩ := mem_ready.1 hj
   have hnot : ∀ e ∈ oj.after, Region.binds .any e = true → e.on ≠ i := fun e he hb heq => by
    have h1 := hall e he hb
    have h0 := (mem_ready.1 hr).1
    rw [heq] at h1
    rcases Nat.lt_or_ge i listed.size with h' | h'
    ·simp [h'] at h0 h1; rw [h0] at h1; cases h1
    ·simp [Array.getElem?_eq_none h'] at h1
   have hzj : Z j = false := by
    cases hzj : Z j with
    | false => rfl
    | true =>
     obtain ⟨e, he, hb, h2⟩ := hz j oj hoj hzj
     rcases h2 with h2 | h2
     ·exact absurd h2 (hnot e he hb)
     ·have h1 := hall e he hb
      have h0 := hzl _ h2
      rcases Nat.lt_or_ge e.on listed.size with h' | h'
      ·simp [h'] at h0 h1; rw [h0] at h1; cases h1
      ·simp [Array.getElem?_eq_none h'] at h1
   obtain ⟨hap, hxj⟩ := hfree j oj hoj hji hjun hzj hnot
   have h2 := wpOp_putE hoj hap (fun cs b => hsel i oi cs b hi) (fun cs b => hsel j oj cs b hoj) hQ hy h1
   have hzl' : ∀ k, Z k = true → (listed.setIfInBounds j true).getD k true = false := fun k hk => by
    rw [getD_set_ne true (fun e => by subst e; rw [hzj] at hk; cases hk)]; exact hzl k hk
   have hfree' : ∀ k ok, ops[k]? = some ok → k ≠ i → (listed.setIfInBounds j true).getD k true = false → Z k = false →
     (∀ e ∈ ok.after, Region.binds .any e = true → e.on ≠ i) → oi.apart ops ok = true ∧ (ld = true → X k = true) := fun k ok hk hki hun hzk hno => by
    refine hfree k ok hk hki ?_ hzk hno
    by_cases hjk : j = k
    ·subst hjk; exact hjun
    ·rw [getD_set_ne true hjk] at hun; exact hun
   refine wpOp_mono (fun a' w' h3 => ⟨h3.2.1, ih (listed.setIfInBounds j true) a' w' hzl' hfree' (ready_mono hr (Ne.symm hji)) (h3.1.on fun hl => h3.2.1 (hxj hl)) ?_⟩) h2
   rw [Array.setIfInBounds_comm _ _ hji]
   exact h3.2.2
variable {ρ : Env}
def Kd.isLd : Kd → Bool
 | .ld => true
 | _ => false
theorem evRW_early {B : Nat → Prop} {W w : World} {m : List SB} (hm : MemRel ρ B W w m) {n : Nat} {sl : Slots} {a : Act} (hs : SlotsRel ds ρ n sl a) {o : Oper} {v : Option V} {m' : List SB} {h h' : List Bool} {ps : List Prop}
  {eff : FuncId → Bool} (hk : (kindOf P eff o.op).early = true)
  (hev : evRW P m sl h o.op = some (v, m', h', ps)) (hp : ∀ p ∈ ps, p) :
  m' = m ∧ ∃ r, v = some r ∧ RO P (fun w' => (kindOf P eff o.op).isLd = true → Ext w w') (execOp a.eval o) ρ r := by
 unfold execOp
 generalize o.op = op at hev hk
 unfold evRW at hev
 split at hev
 ·cases hk
 ·cases hk
 ·cases hk
 ·cases hk
 ·cases hk
 ·cases hk
 ·cases hk
 ·cases hk
 ·rename_i src dst x
  split at hev
  ·rename_i c hx
   have hc := (cOf_rel hs hx).1
   split at hev
   ·rename_i hb
    obtain ⟨e, e', h1, h2⟩ := bothSl_spec hb
    simp only [kindOf, h1, h2] at hk
    cases hk
   rename_i hb
   have hkind : (∃ e, P.underlying src = some (.slice e)) ∨ (P.underlying src = some .string ∧ ∃ e, P.underlying dst = some (.slice e)) := by
    unfold evConvW at hev
    split at hev
    ·rename_i e h1 _; exact .inl ⟨e, h1⟩
    ·rename_i e h1 h2; exact .inr ⟨h1, e, h2⟩
    ·cases hev
   rcases hkind with hk1 | ⟨hk1, e, hk2⟩
   ·obtain ⟨rfl, r, rfl, u, hu, hr⟩ := toStr_sound hm hk1 hev hp hc
    obtain ⟨e, he⟩ := hk1
    refine ⟨rfl, r, rfl, u, hu, fun w' hw => hr w' (hw ?_)⟩
    cases hd : P.underlying dst with
    | none => simp only [kindOf, he, hd]; rfl
    | some td => cases td <;> first | (simp only [kindOf, he, hd]; rfl) | (exfalso; simp [bothSl, he, hd] at hb)
   ·simp only [kindOf, hk1, hk2] at hk
    cases hk
  ·cases hev
 ·split at hev
  ·cases hk
  ·cases hk
  ·cases hev
 ·cases hev
theorem early_sound {call : CallFn} {eff : FuncId → Bool} {n : Nat} {o : Oper} {S S' : St} (h : doOp P call eff n o S = some S') (hob : ∀ p ∈ S'.ob, p)
  (hk : (kindOf P eff o.op).early = true) {B : Nat → Prop} {W w : World} {a : Act} (hr : RelD ds ρ B W n S a w) :
  ∃ u, (∀ w', ((kindOf P eff o.op).isLd = true → Ext w w') → (execOp a.eval o).run P w' = .ok (.value u) w') ∧ RelD ds ρ B W n S' (a.put o.dst u) w := by
 unfold doOp at h
 split at h
 ·cases h
 ·rename_i S1 h1
  obtain ⟨hm1, hob1, hs1⟩ := preDecide_sound (ρ := ρ) (n := n) h1
  split at h
  ·rename_i v ps hev
   have hobe := putS_ob h
   rw [hobe] at hob
   have hs := hs1 (fun p hp => hob p (by simp [hp])) hr.sl
   have hm : MemRel ρ B W w S1.m := by rw [hm1]; exact hr.m
   obtain ⟨u, hu, hrun⟩ := evROw_sound hm hs hev (fun p hp => hob p (by simp [hp]))
   refine ⟨u, fun w' hw => hrun w' fun hl => hw ?_, RelD.put h ⟨hs, hm⟩ hu⟩
   revert hl
   generalize o.op = op
   cases op <;> intro hl <;> first | rfl | cases hl
  ·split at h
   ·rename_i v m' hh ps hev
    have hobe := putS_ob h
    rw [hobe] at hob
    have hs := hs1 (fun p hp => hob p (by simp [hp])) hr.sl
    have hm : MemRel ρ B W w S1.m := by rw [hm1]; exact hr.m
    obtain ⟨rfl, r, hv, u, hu, hrun⟩ := evRW_early hm hs hk hev (fun p hp => hob p (by simp [hp]))
    injection hv with hv; subst hv
    exact ⟨u, hrun, RelD.put h ⟨hs, hm⟩ hu⟩
   ·rename_i m' hh ps hev
    have hobe := putS_ob h
    rw [hobe] at hob
    have hs := hs1 (fun p hp => hob p (by simp [hp])) hr.sl
    have hm : MemRel ρ B W w S1.m := by rw [hm1]; exact hr.m
    obtain ⟨_, r, hv, _⟩ := evRW_early hm hs hk hev (fun p hp => hob p (by simp [hp]))
    cases hv
   ·split at h
    ·rename_i f args hcal
     exfalso
     revert hcal hk
     generalize o.op = op
     intro hk hcal
     unfold callee at hcal
     split at hcal
     ·rename_i fo xs tys
      cases fo with
      | func g' =>
       simp only [kindOf] at hk
       cases he : eff g' with
       | false => rw [he] at hk; cases hk
       | true => rw [he] at hk; cases hk
      | tmp t =>
       simp only [kindOf] at hk
       cases he : eff 4294967293 with
       | false => rw [he] at hk; cases hk
       | true => rw [he] at hk; cases hk
      | const v => cases hk
      | global v => cases hk
     ·cases hcal
    ·cases h
theorem earlyOper_sound {call : CallFn} {eff : FuncId → Bool} {n : Nat} {o : Oper} {S S' : St} (h : doOper P call eff n ops o S = some S') (hob : ∀ p ∈ S'.ob, p)
  (hk : (kindOf P eff o.op).early = true) {B : Nat → Prop} {W w : World} {a : Act} (hr : RelD ds ρ B W n S a w) :
  ∃ u, YieldsE P ops o u (kindOf P eff o.op).isLd w a ∧ RelD ds ρ B W n S' (a.put o.dst u) w := by
 unfold doOper at h
 split at h
 ·rename_i S1 hg
  obtain ⟨h1, h2, h3⟩ := guardOf_sound (ρ := ρ) (n := n) hg
  obtain ⟨hs, hw⟩ := h3 (fun p hp => hob p (doOp_ob h p hp)) hr.sl
  obtain ⟨u, k1, k2⟩ := early_sound h hob hk ⟨hs, by rw [h1]; exact hr.m⟩
  exact ⟨u, .inl ⟨hw, k1⟩, k2⟩
 ·rename_i S1 hg
  obtain ⟨h1, h2, h3⟩ := guardOf_sound (ρ := ρ) (n := n) hg
  obtain ⟨hs, hw⟩ := h3 (fun p hp => hob p (by rw [putS_ob h]; exact hp)) hr.sl
  exact ⟨undef, .inr ⟨hw, rfl⟩, RelD.put h ⟨hs, by rw [h1]; exact hr.m⟩ undefV_rel⟩
 ·cases h
def extAt (P : Program) (eff : FuncId → Bool) (ops : Array Oper) (j : Nat) : Bool :=
 match ops[j]? with
 | some o => (kindOf P eff o.op).ext
 | none => true
theorem waits_spec {eff : FuncId → Bool} {listed : Array Bool} {i : Nat} {z : List Nat} (h : waitsB P eff ops listed i z = true) :
  (∀ j oj, ops[j]? = some oj → z.any (Nat.beq j) = true → ∃ e ∈ oj.after, Region.binds .any e = true ∧ (e.on = i ∨ z.any (Nat.beq e.on) = true)) ∧ (∀ j, z.any (Nat.beq j) = true → listed.getD j true = false) ∧
   ∀ j oj, ops[j]? = some oj → j ≠ i → listed.getD j true = false → z.any (Nat.beq j) = false → extAt P eff ops j = true := by
 unfold waitsB at h
 rw [Bool.and_eq_true] at h
 obtain ⟨h1, h2⟩ := h
 have hz : ∀ j, z.any (Nat.beq j) = true → listed.getD j true = false ∧ (match ops[j]? with
  | some oj => oj.after.any fun e => Region.binds .any e && (Nat.beq e.on i || z.any (Nat.beq e.on))
  | none => false) = true := fun j hj => by
  obtain ⟨k, hk, hb⟩ := List.any_eq_true.1 hj
  have e := Nat.eq_of_beq_eq_true hb
  subst e
  have := List.all_eq_true.1 h1 j hk
  rw [Bool.and_eq_true] at this
  exact ⟨by simpa using this.1, this.2⟩
 refine ⟨fun j oj hj hzj => ?_, fun j hj => (hz j hj).1, fun j oj hj hne hun hzj => ?_⟩
 ·have := (hz j hzj).2
  rw [hj] at this
  obtain ⟨e, he, hb⟩ := Array.any_eq_true'.1 this
  simp only [Bool.and_eq_true, Bool.or_eq_true] at hb
  exact ⟨e, he, hb.1, hb.2.imp (fun q => Nat.eq_of_beq_eq_true q) id⟩
 ·have := List.all_eq_true.1 h2 j (List.mem_range.2 (Array.getElem?_eq_some_iff.1 hj).1)
  rw [hj, hzj, hun] at this
  simp only [Bool.or_eq_true, Bool.or_false] at this
  rcases this with this | this
  ·exact absurd (Nat.eq_of_beq_eq_true this) hne
  ·unfold extAt
   rw [hj]
   show (kindOf P eff oj.op).ext = true
   cases hkk : kindOf P eff oj.op <;> rw [hkk] at this <;> first | rfl | cases this
theorem early_spec {eff : FuncId → Bool} {listed : Array Bool} {i : Nat} (h : early P eff ops listed i = true) :
  ∃ o, ops[i]? = some o ∧ (kindOf P eff o.op).early = true ∧ Region.free .any ops listed i = true ∧ ∃ Z : Nat → Bool,
   (∀ j oj, ops[j]? = some oj → Z j = true → ∃ e ∈ oj.after, Region.binds .any e = true ∧ (e.on = i ∨ Z e.on = true)) ∧ (∀ j, Z j = true → listed.getD j true = false) ∧
   ((kindOf P eff o.op).isLd = true → ∀ j oj, ops[j]? = some oj → j ≠ i → listed.getD j true = false → Z j = false → extAt P eff ops j = true) := by
 unfold early at h
 split at h
 ·cases h
 ·rename_i o ho
  refine ⟨o, ho, ?_⟩
  split at h
  ·rename_i hk
   exact ⟨by rw [hk]; rfl, h, fun _ => false, (fun _ _ _ h => by cases h), (fun _ h => by cases h), fun hl => by rw [hk] at hl; cases hl⟩
  ·rename_i hk
   rw [Bool.and_eq_true, Bool.or_eq_true] at h
   obtain ⟨h1, h2 | h2⟩ := h
   ·obtain ⟨a, b, c⟩ := waits_spec h2
    exact ⟨by rw [hk]; rfl, h1, _, a, b, fun _ => c⟩
   ·obtain ⟨a, b, c⟩ := waits_spec h2
    exact ⟨by rw [hk]; rfl, h1, _, a, b, fun _ => c⟩
  ·cases h
theorem order_sound {call : CallFn} (hc : CallOk P call) {eff : FuncId → Bool} (hsel : Region.noSelect ops = true) {nt : Nat} {B : Nat → Prop} {W : World} {R : Act → World → Prop}
  (hQ : ∀ c a w, ¬ Q (.panic c) a w) (hQn : ∀ a w, R a w → Q .normal a w) :
  ∀ (n fuel : Nat) (listed : Array Bool) (l : List Nat) (S S' : St) (ρ : Env) (a : Act) (w : World), n ≤ fuel + 1 → orderOf P eff ops n listed = some l →
   doList P call eff nt ops (opsAt ops l) S = some S' → (∀ p ∈ S'.ob, p) → RelD ds ρ B W nt S a w → (∀ a' w' ρ', RelD ds (ρ ++ ρ') B W nt S' a' w' → R a' w') →
   wpAnyE P (extAt P eff ops) ops Q fuel listed a w
 | 0, _, _, _, _, _, _, _, _, _, h, _, _, _, _ => by cases h
 | n + 1, fuel, listed, l, S, S', ρ, a, w, hn, h, hd, hob, hr, hR => by
  simp only [orderOf] at h
  split at h
  ·rename_i hrd
   injection h with h; subst h
   simp only [opsAt, doList, Option.some.injEq] at hd; subst hd
   exact wpAnyE_done hrd (hQn _ _ (hR a w [] (by rw [List.append_nil]; exact hr))) fuel
  ·rename_i i rs hrd
   split at h
   ·rename_i j hf
    split at h
    ·rename_i l' hl'
     injection h with h; subst h
     cases fuel with
     | zero => cases n with
      | zero => cases hl'
      | succ n => omega
     | succ fuel =>
      have he := List.find?_some hf
      have hj : j ∈ Region.ready .any ops listed := by rw [hrd]; exact List.mem_of_find?_eq_some hf
      obtain ⟨o, ho, hk, hfree, Z, hz1, hz2, hld⟩ := early_spec he
      simp only [opsAt, ho, doList] at hd
      split at hd
      ·rename_i S1 h1
       obtain ⟨u, hy, hr1⟩ := earlyOper_sound h1 (fun p hp => hob p (doList_ob hd p hp)) hk hr
       refine wpAnyE_first hz1 ho (Region.noSelect_spec hsel) (fun c a w h => absurd h (hQ _ _ _)) fuel listed a w hz2 ?_ hj hy
        (order_sound hc hsel hQ hQn n fuel _ l' S1 S' ρ _ w (by omega) hl' hd hob hr1 hR)
       intro k ok hk' hne hun hzk hno
       exact ⟨Region.free_spec ho hfree k ok hk' hne hun hno, fun hl => hld hl k ok hk' hne hun hzk⟩
      ·cases hd
    ·cases h
   ·split at h
    ·split at h
     ·rename_i l' hl'
      injection h with h; subst h
      cases fuel with
      | zero => cases n with
       | zero => cases hl'
       | succ n => omega
      | succ fuel =>
       refine ⟨fun h0 => (by rw [h0] at hrd; cases hrd), fun j hj => ?_⟩
       rw [hrd] at hj
       simp only [List.mem_singleton] at hj
       subst hj
       have hmem : j ∈ Region.ready .any ops listed := by rw [hrd]; simp
       obtain ⟨_, o, ho, _⟩ := mem_ready.1 hmem
       simp only [opsAt, ho, doList] at hd
       split at hd
       ·rename_i S1 h1
        have hop := doOper_sound (Q := Q) hc h1 (fun p hp => hob p (doList_ob hd p hp)) hr
         (K := fun a' w' => (extAt P eff ops j = true → Ext w w') ∧ wpAnyE P (extAt P eff ops) ops Q fuel (listed.setIfInBounds j true) a' w')
         (fun a' w' ρ' hx hr' => ⟨fun hxx => hx (by simpa [extAt, ho] using hxx),
          order_sound hc hsel hQ hQn n fuel _ l' S1 S' (ρ ++ ρ') a' w' (by omega) hl' hd hob hr' fun a'' w'' ρ'' h' => hR a'' w'' (ρ' ++ ρ'') (by rw [← List.append_assoc]; exact h')⟩)
        unfold wpOp
        simp only [ho]
        split at hop
        ·rename_i hw; rw [if_pos hw]; exact .inl hop
        ·rename_i hw; rw [if_neg hw]; exact hop
       ·cases hd
     ·cases h
    ·cases h
theorem andP_eq {a b : Option (List Prop)} {ps : List Prop} (h : andP a b = some ps) (hp : ∀ p ∈ ps, p) : ∃ x y, a = some x ∧ b = some y ∧ (∀ p ∈ x, p) ∧ ∀ p ∈ y, p := by
 unfold andP at h
 split at h
 ·injection h with h; subst h
  exact ⟨_, _, rfl, rfl, fun p hx => hp p (List.mem_append_left _ hx), fun p hx => hp p (List.mem_append_right _ hx)⟩
 ·cases h
theorem isB_eq {b : Bool} {ps : List Prop} (h : isB b = some ps) : b = true := by
 unfold isB at h; split at h
 ·rfl
 ·cases h
theorem sameN_eq {x y : N} {ps : List Prop} (h : sameN x y = some ps) (hp : ∀ p ∈ ps, p) : x = y := by
 unfold sameN at h; split at h
 ·rw [Nat.eq_of_beq_eq_true (isB_eq h)]
 ·injection h with h; subst h
  rw [hp _ (List.mem_singleton.2 rfl)]
 ·cases h
theorem sameC_eq {x y : C} {ps : List Prop} (h : sameC x y = some ps) (hp : ∀ p ∈ ps, p) : x = y := by
 unfold sameC at h; split at h
 ·have := isB_eq h; simp only [Bool.and_eq_true, decide_eq_true_eq] at this; rw [this.1, this.2]
 ·obtain ⟨a, b, ha, hb, _, hb'⟩ := andP_eq h hp
  have := isB_eq ha; simp only [decide_eq_true_eq] at this
  injection hb with hb; subst hb
  rw [this, hb' _ (List.mem_singleton.2 rfl)]
 ·have := isB_eq h; simp only [beq_iff_eq] at this; rw [this]
 ·injection h with h; subst h; rw [hp _ (List.mem_singleton.2 rfl)]
 ·have := isB_eq h; simp only [decide_eq_true_eq] at this; rw [this]
 ·injection h with h; subst h; rw [hp _ (List.mem_singleton.2 rfl)]
 ·rfl
 ·obtain ⟨a, b, ha, hb, _, hb'⟩ := andP_eq h hp
  have := isB_eq ha; simp only [Bool.and_eq_true] at this
  rw [Nat.eq_of_beq_eq_true this.1.1, Nat.eq_of_beq_eq_true this.1.2, Nat.eq_of_beq_eq_true this.2, sameN_eq hb hb']
 ·rfl
 ·obtain ⟨a, b, ha, hb, _, hb'⟩ := andP_eq h hp
  obtain ⟨c, d, hc, hd, hc', hd'⟩ := andP_eq hb hb'
  obtain ⟨e, f, he, hf, he', hf'⟩ := andP_eq hd hd'
  have := isB_eq ha; simp only [Bool.and_eq_true] at this
  rw [Nat.eq_of_beq_eq_true this.1, Nat.eq_of_beq_eq_true this.2, sameN_eq hc hc', sameN_eq he he', sameN_eq hf hf']
 ·have := isB_eq h; simp only [Bool.and_eq_true, decide_eq_true_eq] at this; rw [Nat.eq_of_beq_eq_true this.1, this.2]
 ·rw [Nat.eq_of_beq_eq_true (isB_eq h)]
 ·cases h
theorem sameL_eq {α : Type} {f : α → α → Option (List Prop)} (hf : ∀ x y ps, f x y = some ps → (∀ p ∈ ps, p) → x = y) : ∀ {l k : List α} {ps : List Prop}, sameL f l k = some ps → (∀ p ∈ ps, p) → l = k
 | [], [], _, _, _ => rfl
 | [], _ :: _, _, h, _ => by cases h
 | _ :: _, [], _, h, _ => by cases h
 | x :: r, y :: s, _, h, hp => by
  obtain ⟨a, b, ha, hb, ha', hb'⟩ := andP_eq h hp
  rw [hf _ _ _ ha ha', sameL_eq hf hb hb']
theorem sameV1_eq {x y : V1} {ps : List Prop} (h : sameV1 x y = some ps) (hp : ∀ p ∈ ps, p) : x = y := by
 unfold sameV1 at h; split at h
 ·rw [sameC_eq h hp]
 ·rw [sameL_eq (fun _ _ _ => sameC_eq) h hp]
 ·obtain ⟨a, b, ha, hb, _, hb'⟩ := andP_eq h hp
  have := isB_eq ha; simp only [decide_eq_true_eq] at this
  injection hb with hb; subst hb
  rw [this, hb' _ (List.mem_singleton.2 rfl)]
 ·cases h
theorem sameV_eq {x y : V} {ps : List Prop} (h : sameV x y = some ps) (hp : ∀ p ∈ ps, p) : x = y := by
 unfold sameV at h; split at h
 ·rw [sameV1_eq h hp]
 ·rw [sameL_eq (fun _ _ _ => sameV1_eq) h hp]
 ·cases h
theorem sameSB_eq {x y : SB} {ps : List Prop} (h : sameSB x y = some ps) (hp : ∀ p ∈ ps, p) : x = y := by
 unfold sameSB at h
 obtain ⟨a, b, ha, hb, _, hb'⟩ := andP_eq h hp
 have := isB_eq ha; simp only [beq_iff_eq] at this
 obtain ⟨xo, xc⟩ := x
 obtain ⟨yo, yc⟩ := y
 simp only at this hb
 subst this
 split at hb
 ·rw [sameL_eq (fun _ _ _ => sameC_eq) hb hb']
 ·obtain ⟨a, b, ha, hb, _, hb'⟩ := andP_eq hb hb'
  have := isB_eq ha; simp only [decide_eq_true_eq] at this
  injection hb with hb; subst hb
  rw [this, hb' _ (List.mem_singleton.2 rfl)]
 ·obtain ⟨a, b, ha, hb, _, hb'⟩ := andP_eq hb hb'
  have := isB_eq ha; simp only [decide_eq_true_eq] at this
  injection hb with hb; subst hb
  rw [this, hb' _ (List.mem_singleton.2 rfl)]
 ·rfl
 ·cases hb
theorem sameSl_eq {A B : Slots} : ∀ {l : List Nat} {ps : List Prop}, sameSl A B l = some ps → (∀ p ∈ ps, p) → ∀ t ∈ l, look A t = look B t
 | [], _, _, _ => fun t ht => by cases ht
 | u :: r, _, h, hp => by
  obtain ⟨a, b, ha, hb, ha', hb'⟩ := andP_eq h hp
  intro t ht
  rcases List.mem_cons.1 ht with e | ht
  ·subst e
   split at ha
   ·rename_i v w hv hw
    rw [hv, hw, sameV_eq ha ha']
   ·cases ha
  ·exact sameSl_eq hb hb' t ht
theorem look_mem : ∀ {sl : Slots} {t : Nat} {v : V}, look sl t = some v → t ∈ sl.map (·.1)
 | [], _, _, h => by cases h
 | (i, u) :: r, t, v, h => by
  simp only [look] at h
  split at h
  ·rename_i hb; rw [Nat.eq_of_beq_eq_true hb]; simp
  ·exact List.mem_cons_of_mem _ (look_mem h)
theorem sameSt_rel {A B : St} {ps : List Prop} (h : sameSt A B = some ps) (hp : ∀ p ∈ ps, p) {K : Nat → Prop} {W w : World} {n : Nat} {a : Act} (hr : RelD ds ρ K W n B a w) : RelD ds ρ K W n A a w := by
 obtain ⟨x, y, hx, hy, hx', hy'⟩ := andP_eq h hp
 refine ⟨⟨hr.sl.size, hr.sl.defers, fun t v hv => hr.sl.slot t v ?_⟩, ?_⟩
 ·rw [← sameSl_eq hy hy' t (look_mem hv)]; exact hv
 ·rw [sameL_eq (fun _ _ _ => sameSB_eq) hx hx']; exact hr.m
theorem isSel_eq {sel : List Nat} {b b' : Nat} (h : isSel sel b b' = true) : sel[b]? = some b' := by
 unfold isSel at h
 split at h
 ·rename_i x hx
  rw [hx, Nat.eq_of_beq_eq_true h]
 ·cases h
theorem leN_le {x y : N} {ps : List Prop} (h : leN x y = some ps) (hp : ∀ p ∈ ps, p) : x.v ≤ y.v := by
 unfold leN at h
 split at h
 ·exact Nat.le_of_ble_eq_true (isB_eq h)
 ·injection h with h; subst h; exact hp _ (List.mem_singleton.2 rfl)
 ·injection h with h; subst h; exact hp _ (List.mem_singleton.2 rfl)
 ·injection h with h; subst h; exact hp _ (List.mem_singleton.2 rfl)
theorem permC_le {sel : List Nat} {x y : C} {ps : List Prop} (h : permC sel x y = some ps) (hp : ∀ p ∈ ps, p) : leC sel y x := by
 unfold permC at h
 split at h
 ·obtain ⟨a, b, ha, hb, _, hb'⟩ := andP_eq h hp
  have := isB_eq ha; simp only [Bool.and_eq_true] at this
  exact ⟨isSel_eq this.1.1, by rw [sameN_eq hb hb'], (Nat.eq_of_beq_eq_true this.1.2).symm, (Nat.eq_of_beq_eq_true this.2).symm⟩
 ·obtain ⟨a, b, ha, hb, _, hb'⟩ := andP_eq h hp
  obtain ⟨c, d, hc, hd, hc', hd'⟩ := andP_eq hb hb'
  obtain ⟨e, f, he, hf, he', hf'⟩ := andP_eq hd hd'
  obtain ⟨g, i, hg, hi, hg', hi'⟩ := andP_eq hf hf'
  have := isB_eq ha; simp only [Bool.and_eq_true] at this
  refine ⟨isSel_eq this.1, by rw [sameN_eq hc hc'], (Nat.eq_of_beq_eq_true this.2).symm, by rw [sameN_eq he he'], by rw [sameN_eq hg hg']; exact Nat.le_refl _, ?_⟩
  rw [← sameN_eq he he']
  exact leN_le hi hi'
 ·exact isSel_eq (isB_eq h)
 ·cases h
 ·have := isB_eq h; simp only [Bool.and_eq_true, decide_eq_true_eq] at this
  exact ⟨(Nat.eq_of_beq_eq_true this.1).symm, this.2⟩
 ·rename_i h1 h2 h3 h4 h5
  have e := sameC_eq h hp
  subst e
  cases x with
  | ptr => exact (h2 _ _ _ _ _ _ _ _ rfl rfl).elim
  | slice => exact (h3 _ _ _ _ _ _ _ _ _ _ rfl rfl).elim
  | mapr => exact (h4 _ _ rfl rfl).elim
  | raw => exact (h1 _ rfl).elim
  | clos => exact (h5 _ _ _ _ rfl rfl).elim
  | int => exact ⟨rfl, rfl⟩
  | sint => exact ⟨rfl, rfl⟩
  | bool => exact rfl
  | sbool => exact rfl
  | str => exact rfl
  | sstr => exact rfl
  | nilp => trivial
  | nils => trivial
theorem permL_le {sel : List Nat} : ∀ {l k : List C} {ps : List Prop}, sameL (permC sel) l k = some ps → (∀ p ∈ ps, p) → leL sel k l
 | [], [], _, _, _ => trivial
 | [], _ :: _, _, h, _ => by cases h
 | _ :: _, [], _, h, _ => by cases h
 | x :: r, y :: s, _, h, hp => by
  obtain ⟨a, b, ha, hb, ha', hb'⟩ := andP_eq h hp
  exact ⟨permC_le ha ha', permL_le hb hb'⟩
theorem permV1_le {sel : List Nat} {x y : V1} {ps : List Prop} (h : permV1 sel x y = some ps) (hp : ∀ p ∈ ps, p) : leV1 sel y x := by
 unfold permV1 at h; split at h
 ·exact permC_le h hp
 ·exact permL_le h hp
 ·obtain ⟨a, b, ha, hb, _, hb'⟩ := andP_eq h hp
  have := isB_eq ha; simp only [decide_eq_true_eq] at this
  injection hb with hb; subst hb
  exact ⟨this.symm, (hb' _ (List.mem_singleton.2 rfl)).symm⟩
 ·cases h
theorem permL1_le {sel : List Nat} : ∀ {l k : List V1} {ps : List Prop}, sameL (permV1 sel) l k = some ps → (∀ p ∈ ps, p) → leL1 sel k l
 | [], [], _, _, _ => trivial
 | [], _ :: _, _, h, _ => by cases h
 | _ :: _, [], _, h, _ => by cases h
 | x :: r, y :: s, _, h, hp => by
  obtain ⟨a, b, ha, hb, ha', hb'⟩ := andP_eq h hp
  exact ⟨permV1_le ha ha', permL1_le hb hb'⟩
theorem permV_le {sel : List Nat} {x y : V} {ps : List Prop} (h : permV sel x y = some ps) (hp : ∀ p ∈ ps, p) : leV sel y x := by
 unfold permV at h; split at h
 ·exact permV1_le h hp
 ·exact permL1_le h hp
 ·cases h
theorem permSB_le {sel : List Nat} {x y : SB} {ps : List Prop} (h : permSB sel x y = some ps) (hp : ∀ p ∈ ps, p) : leB sel y x := by
 unfold permSB at h
 obtain ⟨a, b, ha, hb, _, hb'⟩ := andP_eq h hp
 have ho := isB_eq ha
 refine ⟨fun hx => by rw [hx] at ho; simpa using ho, ?_⟩
 obtain ⟨xo, xc⟩ := x
 obtain ⟨yo, yc⟩ := y
 simp only at hb ⊢
 split at hb
 ·exact permL_le hb hb'
 ·obtain ⟨a, b, ha, hb, _, hb'⟩ := andP_eq hb hb'
  have := isB_eq ha; simp only [decide_eq_true_eq] at this
  injection hb with hb; subst hb
  exact ⟨this.symm, (hb' _ (List.mem_singleton.2 rfl)).symm⟩
 ·obtain ⟨a, b, ha, hb, _, hb'⟩ := andP_eq hb hb'
  have := isB_eq ha; simp only [decide_eq_true_eq] at this
  injection hb with hb; subst hb
  exact ⟨this.symm, (hb' _ (List.mem_singleton.2 rfl)).symm⟩
 ·cases yc <;> trivial
 ·cases hb
theorem permM_le {sel : List Nat} {m : List SB} : ∀ {bs : List Nat} {r : List SB} {ps : List Prop}, permM sel m bs r = some ps → (∀ p ∈ ps, p) → leM sel m bs r
 | [], [], _, _, _ => trivial
 | [], _ :: _, _, h, _ => by cases h
 | _ :: _, [], _, h, _ => by cases h
 | b :: bs, s :: r, _, h, hp => by
  obtain ⟨x, y, hx, hy, hx', hy'⟩ := andP_eq h hp
  refine ⟨?_, permM_le hy hy'⟩
  split at hx
  ·rename_i s' hs'
   exact ⟨s', hs', permSB_le hx hx'⟩
  ·cases hx
def cleanSl (A : Slots) (ts : List Nat) : Slots := ts.filterMap fun t => (look A t).map fun v => (t, v)
theorem look_clean {A : Slots} {t : Nat} : ∀ {ts : List Nat}, t ∈ ts → look (cleanSl A ts) t = look A t
 | [], h => by cases h
 | u :: r, h => by
  unfold cleanSl
  rw [List.filterMap_cons]
  cases hu : look A u with
  | none =>
   simp only [Option.map_none]
   by_cases e : u = t
   ·subst e
    by_cases h' : u ∈ r
    ·exact look_clean h'
    ·have : ∀ {ts : List Nat}, look (cleanSl A ts) u = none := by
      intro ts
      induction ts with
      | nil => rfl
      | cons x r ih =>
       unfold cleanSl at ih ⊢
       rw [List.filterMap_cons]
       cases hx : look A x with
       | none => simp only [Option.map_none]; exact ih
       | some v =>
        simp only [Option.map_some]
        rw [look_cons, if_neg (fun e => by subst e; rw [hu] at hx; cases hx)]
        exact ih
     rw [hu]; exact this
   ·rcases List.mem_cons.1 h with h | h
    ·exact absurd h.symm e
    ·exact look_clean h
  | some v =>
   simp only [Option.map_some]
   rw [look_cons]
   by_cases e : u = t
   ·rw [if_pos e, ← e, hu]
   ·rw [if_neg e]
    rcases List.mem_cons.1 h with h | h
    ·exact absurd h.symm e
    ·exact look_clean h
theorem permSl_le {sel : List Nat} {A B : Slots} : ∀ {ts : List Nat} {ps : List Prop}, permSl sel A B ts = some ps → (∀ p ∈ ps, p) → leSl sel B (cleanSl A ts)
 | [], _, _, _ => trivial
 | t :: r, _, h, hp => by
  obtain ⟨x, y, hx, hy, hx', hy'⟩ := andP_eq h hp
  unfold cleanSl
  rw [List.filterMap_cons]
  split at hx
  ·rename_i v u hv hu
   rw [hv]
   exact ⟨⟨u, hu, permV_le hx hx'⟩, permSl_le hy hy'⟩
  ·cases hx
theorem permSt_rel {n : Nat} {r : List Nat} {A B : St} {ps : List Prop} (h : permSt n r A B = some ps) (hp : ∀ p ∈ ps, p) {ρ1 : Env} (hn : ρ.length = n) {K : Nat → Prop} {W w : World} {nt : Nat} {a : Act} (hr : RelD ds (ρ ++ ρ1) K W nt B a w) :
  ∃ ρ2, RelD ds (ρ ++ ρ2) K W nt A a w := by
 unfold permSt at h
 obtain ⟨x, y, hx, hy, hx', hy'⟩ := andP_eq h hp
 obtain ⟨u, v, hu, hv, hu', hv'⟩ := andP_eq hy hy'
 have hnd := isB_eq hx; simp only [decide_eq_true_eq] at hnd
 obtain ⟨ρ', hs, hr'⟩ := hr.le (T := { A with sl := cleanSl A.sl (A.sl.map (·.1)) }) ⟨hnd, permSl_le hv hv', permM_le hu hu'⟩
 subst hn
 obtain ⟨ρ2, rfl⟩ := hs.front
 exact ⟨ρ2, ⟨hr'.sl.size, hr'.sl.defers, fun t v ht => hr'.sl.slot t v (by rw [look_clean (look_mem ht)]; exact ht)⟩, hr'.m⟩
theorem eitherSt_rel {S S1 S2 A B : St} {ps : List Prop} (h : eitherSt S S1 S2 A B = some ps) (hp : ∀ p ∈ ps, p) {ρ1 : Env} (hn : ρ.length = S.m.length) {K : Nat → Prop} {W w : World} {nt : Nat} {a : Act} (hr : RelD ds (ρ ++ ρ1) K W nt B a w) :
  ∃ ρ2, RelD ds (ρ ++ ρ2) K W nt A a w := by
 unfold eitherSt at h
 split at h
 ·rename_i hs; injection h with h; subst h
  exact ⟨ρ1, sameSt_rel hs hp hr⟩
 ·exact permSt_rel h hp hn hr
theorem pair_ob {call : CallFn} {eff : FuncId → Bool} {nt : Nat} {listed : Array Bool} {i j : Nat} {S A : St} (h : pairLd P call eff nt ops listed i j S = some A) : ∀ p ∈ S.ob, p ∈ A.ob := by
 unfold pairLd at h
 split at h
 ·split at h
  ·split at h
   ·split at h
    ·rename_i S1 h1
     split at h
     ·rename_i A1 h2
      split at h
      ·split at h
       ·injection h with h; subst h
        exact fun p hp => List.mem_append_right _ (List.mem_append_right _ (doOper_ob h2 p (doOper_ob h1 p hp)))
       ·cases h
      ·cases h
     ·cases h
    ·cases h
   ·cases h
  ·cases h
 ·cases h
theorem any_ob {call : CallFn} {eff : FuncId → Bool} {nt : Nat} {listed : Array Bool} {i j : Nat} {S A : St} (h : pairAny P call eff nt ops listed i j S = some A) : ∀ p ∈ S.ob, p ∈ A.ob := by
 unfold pairAny at h
 split at h
 ·injection h with h; subst h; exact pair_ob ‹_›
 ·exact pair_ob h
theorem getD_put_self {b : Array Value} {d : Nat} {u x : Value} (h : d < b.size) : (b.setIfInBounds d u).getD d x = u := by
 simp [Array.getD_eq_getD_getElem?, h]
theorem getD_put_ne {b : Array Value} {d t : Nat} {u x : Value} (h : d ≠ t) : (b.setIfInBounds d u).getD t x = b.getD t x := by
 simp [Array.getD_eq_getD_getElem?, Array.getElem?_setIfInBounds_ne h]
theorem RelD.reput {K : Nat → Prop} {W w : World} {n d : Nat} {A : St} {a : Act} {u u2 : Value} {v : V} (hr : RelD ds ρ K W n A (a.put (some d) u) w) (hl : look A.sl d = some v) (hv : v.rel ρ u2) (hu : v.rel ρ u → True) (hd : d < n) : RelD ds ρ K W n A (a.put (some d) u2) w := by
 have hs := hr.sl.size
 have hdf := hr.sl.defers
 simp only [Act.put, Array.size_setIfInBounds] at hs hdf
 refine ⟨⟨by simp only [Act.put, Array.size_setIfInBounds]; exact hs, by simp only [Act.put]; exact hdf, fun t v' hv' => ?_⟩, hr.m⟩
 by_cases ht : t = d
 ·subst ht
  rw [hl] at hv'; injection hv' with hv'; subst hv'
  simp only [Act.put]
  rw [getD_put_self (by omega)]
  exact hv
 ·have := hr.sl.slot t v' hv'
  simp only [Act.put] at this ⊢
  rw [getD_put_ne (Ne.symm ht)]
  rw [getD_put_ne (Ne.symm ht)] at this
  exact this
theorem pair_sound {call : CallFn} (hc : CallOk P call) {eff : FuncId → Bool} (hsel : Region.noSelect ops = true) {nt fuel : Nat} {B : Nat → Prop} {W : World} (hQ : ∀ c a w, ¬ Q (.panic c) a w)
  {listed : Array Bool} {i j : Nat} {S A : St} (h : pairLd P call eff nt ops listed i j S = some A) (hi : i ∈ Region.ready .any ops listed) (hj : j ∈ Region.ready .any ops listed) (hob : ∀ p ∈ A.ob, p) {a : Act} {w : World} (hr : RelD ds ρ B W nt S a w)
  (hA : ∀ a' w' ρ', RelD ds (ρ ++ ρ') B W nt A a' w' → wpAnyE P (extAt P eff ops) ops Q fuel ((listed.setIfInBounds i true).setIfInBounds j true) a' w') :
  wpOp P ops Q i (fun a' w' => (extAt P eff ops i = true → Ext w w') ∧ wpAnyE P (extAt P eff ops) ops Q (fuel + 1) (listed.setIfInBounds i true) a' w') a w ∧
  wpOp P ops Q j (fun a' w' => (extAt P eff ops j = true → Ext w w') ∧ wpAnyE P (extAt P eff ops) ops Q (fuel + 1) (listed.setIfInBounds j true) a' w') a w := by
 unfold pairLd at h
 split at h
 ·rename_i oi oj hoi hoj
  split at h
  ·rename_i d hk hg hd
   split at h
   ·rename_i hcond
    split at h
    ·rename_i S1 h1
     split at h
     ·rename_i A1 h2
      split at h
      ·rename_i v2 ps v hev hl
       split at h
       ·rename_i qs hqs
        injection h with h; subst h
        simp only [Bool.and_eq_true, Bool.not_eq_true', decide_eq_true_eq] at hcond
        obtain ⟨⟨⟨⟨⟨hblt, hne⟩, hlook⟩, hap⟩, hrdy⟩, hearly⟩ := hcond
        have hne : i ≠ j := fun e => by subst e; rw [Nat.beq_refl] at hne; cases hne
        have hobA : ∀ p ∈ A1.ob, p := fun p hp => hob p (List.mem_append_right _ (List.mem_append_right _ hp))
        have hvv : v = v2 := sameV_eq hqs fun p hp => hob p (List.mem_append_left _ hp)
        subst hvv
        have hps : ∀ p ∈ ps, p := fun p hp => hob p (List.mem_append_right _ (List.mem_append_left _ hp))
        have hke : (kindOf P eff oi.op).early = true := by rw [hk]; rfl
        obtain ⟨u, hy, hr1⟩ := earlyOper_sound h1 (fun p hp => hobA p (doOper_ob h2 p hp)) hke hr
        have hA1 : ∀ a' w' ρ', RelD ds (ρ ++ ρ') B W nt A1 a' w' → wpAnyE P (extAt P eff ops) ops Q fuel ((listed.setIfInBounds i true).setIfInBounds j true) a' w' := fun a' w' ρ' hr' => hA a' w' ρ' ⟨hr'.sl, hr'.m⟩
        -- the other one, behind the load
        have second : wpOp P ops Q j (fun a' w' => (extAt P eff ops j = true → Ext w w') ∧ ∃ ρ', RelD ds (ρ ++ ρ') B W nt A1 a' w') (a.put oi.dst u) w := by
         have hop := doOper_sound (Q := Q) hc h2 hobA hr1
          (K := fun a' w' => (extAt P eff ops j = true → Ext w w') ∧ ∃ ρ', RelD ds (ρ ++ ρ') B W nt A1 a' w')
          (fun a' w' ρ' hx hr' => ⟨fun hxx => hx (by simpa [extAt, hoj] using hxx), ρ', hr'⟩)
         unfold wpOp
         simp only [hoj]
         split at hop
         ·rename_i hw; rw [if_pos hw]; exact .inl hop
         ·rename_i hw; rw [if_neg hw]; exact hop
        refine ⟨hy.wpOp hoi ⟨fun _ => Ext.refl w, fun h0 => (by rw [hrdy] at h0; cases h0), fun j' hj' => ?_⟩, ?_⟩
        ·rw [hrdy] at hj'
         simp only [List.mem_singleton] at hj'
         subst hj'
         exact wpOp_mono (fun a' w' h3 => by
          obtain ⟨hx, ρ', hr'⟩ := h3
          exact ⟨hx, hA1 a' w' ρ' hr'⟩) second
        ·have hsl := Region.noSelect_spec hsel
         refine wpOp_mono (fun a' w' h3 => ?_) (wpOp_putE hoj hap (fun cs b => hsl i oi cs b hoi) (fun cs b => hsl j oj cs b hoj) (fun c a w h => absurd h (hQ _ _ _)) hy second)
         obtain ⟨_, hx, ρ', hrA⟩ := h3
         refine ⟨hx, ?_⟩
         rw [hd] at hrA
         obtain ⟨u2, hu2, hrun⟩ := evROw_sound hrA.m hrA.sl hev hps
         have hexec : execOp (a'.put (some d) u).eval oi = execOp a'.eval oi := execOp_put (ops := ops) oi (fun cs b => hsl i oi cs b hoi) a' (some d) u fun d' hd' => by
          injection hd' with hd'; subst hd'
          intro hm
          rw [List.contains_iff_mem.2 hm] at hlook
          cases hlook
         rw [hexec] at hrun
         have hdn : d < nt := by
          rw [Nat.blt_eq] at hblt; exact hblt
         have hrB : RelD ds (ρ ++ ρ') B W nt A1 (a'.put oi.dst u2) w' := by
          rw [hd]; exact RelD.reput hrA hl hu2 (fun _ => trivial) hdn
         obtain ⟨o', ho', _, hfree, Z, hz1, hz2, hld⟩ := early_spec hearly
         rw [hoi] at ho'; injection ho' with ho'; subst ho'
         have hy2 : YieldsE P ops oi u2 true w' a' := .inl ⟨by unfold Region.wanted; rw [hg], fun w'' hw => hrun w'' fun _ => hw rfl⟩
         have hmem : i ∈ Region.ready .any ops (listed.setIfInBounds j true) := ready_mono hi hne
         refine wpAnyE_first hz1 hoi hsl (fun c a w h => absurd h (hQ _ _ _)) fuel (listed.setIfInBounds j true) a' w' hz2 ?_ hmem hy2 ?_
         ·intro k ok hk' hne' hun hzk hno
          exact ⟨Region.free_spec hoi hfree k ok hk' hne' hun hno, fun _ => hld (by rw [hk]; rfl) k ok hk' hne' hun hzk⟩
         ·rw [Array.setIfInBounds_comm _ _ (Ne.symm hne)]
          exact hA1 _ _ ρ' hrB
       ·cases h
      ·cases h
     ·cases h
    ·cases h
   ·cases h
  ·cases h
 ·cases h
theorem any_sound {call : CallFn} (hc : CallOk P call) {eff : FuncId → Bool} (hsel : Region.noSelect ops = true) {nt fuel : Nat} {B : Nat → Prop} {W : World} (hQ : ∀ c a w, ¬ Q (.panic c) a w)
  {listed : Array Bool} {i j : Nat} {S A : St} (h : pairAny P call eff nt ops listed i j S = some A) (hi : i ∈ Region.ready .any ops listed) (hj : j ∈ Region.ready .any ops listed) (hob : ∀ p ∈ A.ob, p) {a : Act} {w : World} (hr : RelD ds ρ B W nt S a w)
  (hA : ∀ a' w' ρ', RelD ds (ρ ++ ρ') B W nt A a' w' → wpAnyE P (extAt P eff ops) ops Q fuel ((listed.setIfInBounds i true).setIfInBounds j true) a' w') :
  wpOp P ops Q i (fun a' w' => (extAt P eff ops i = true → Ext w w') ∧ wpAnyE P (extAt P eff ops) ops Q (fuel + 1) (listed.setIfInBounds i true) a' w') a w ∧
  wpOp P ops Q j (fun a' w' => (extAt P eff ops j = true → Ext w w') ∧ wpAnyE P (extAt P eff ops) ops Q (fuel + 1) (listed.setIfInBounds j true) a' w') a w := by
 unfold pairAny at h
 split at h
 ·rename_i A' hA'
  injection h with h; subst h
  exact pair_sound hc hsel hQ hA' hi hj hob hr hA
 ·have := pair_sound hc hsel hQ h hj hi hob hr (fuel := fuel) (fun a' w' ρ' hr' => by
   have e : (listed.setIfInBounds j true).setIfInBounds i true = (listed.setIfInBounds i true).setIfInBounds j true := by
    by_cases hij : i = j
    ·subst hij; rfl
    ·exact Array.setIfInBounds_comm _ _ (Ne.symm hij)
   rw [e]; exact hA a' w' ρ' hr')
  exact ⟨this.2, this.1⟩
theorem tree_ob {call : CallFn} {eff : FuncId → Bool} {nt : Nat} : ∀ {n : Nat} {listed : Array Bool} {S S' : St}, doTree P call eff nt ops n listed S = some S' → ∀ p ∈ S.ob, p ∈ S'.ob
 | 0, _, _, _, h => by cases h
 | n + 1, listed, S, S', h => by
  simp only [doTree] at h
  split at h
  ·injection h with h; subst h; exact fun _ h => h
  ·split at h
   ·split at h
    ·rename_i S1 h1; exact fun p hp => tree_ob h p (doList_ob h1 p hp)
    ·cases h
   ·split at h
    ·split at h
     ·rename_i S1 h1; exact fun p hp => tree_ob h p (doList_ob h1 p hp)
     ·cases h
    ·split at h
     ·rename_i A hA
      split at h
      ·exact fun p hp => tree_ob h p (any_ob hA p hp)
      ·cases h
     ·split at h
      ·rename_i S1 S2 h1 h2
       split at h
       ·rename_i A B hA hB
        split at h
        ·injection h with h; subst h
         exact fun p hp => List.mem_append_right _ (List.mem_append_left _ (tree_ob hA p (doList_ob h1 p hp)))
        ·cases h
       ·cases h
      ·cases h
    ·split at h
     ·rename_i S1 S2 S3 h1 h2 h3
      split at h
      ·rename_i A B C hA hB hC
       split at h
       ·injection h with h; subst h
        exact fun p hp => List.mem_append_right _ (List.mem_append_right _ (List.mem_append_left _ (tree_ob hA p (doList_ob h1 p hp))))
       ·cases h
      ·cases h
     ·cases h
    ·split at h
     ·split at h
      ·split at h
       ·injection h with h; subst h
        intro p hp
        simp only [List.mem_append]
        exact .inr (.inr (.inr (.inr (.inr (.inr (.inr hp))))))
       ·cases h
      ·cases h
     ·cases h
    ·cases h
theorem tree_sound {call : CallFn} (hc : CallOk P call) {eff : FuncId → Bool} (hsel : Region.noSelect ops = true) {nt : Nat} {B : Nat → Prop} {W : World} {R : Act → World → Prop}
  (hQ : ∀ c a w, ¬ Q (.panic c) a w) (hQn : ∀ a w, R a w → Q .normal a w) :
  ∀ (n fuel : Nat) (listed : Array Bool) (S S' : St) (ρ : Env) (a : Act) (w : World), n ≤ fuel + 1 → doTree P call eff nt ops n listed S = some S' →
   (∀ p ∈ S'.ob, p) → RelD ds ρ B W nt S a w → (∀ a' w' ρ', RelD ds (ρ ++ ρ') B W nt S' a' w' → R a' w') →
   wpAnyE P (extAt P eff ops) ops Q fuel listed a w
 | 0, _, _, _, _, _, _, _, _, h, _, _, _ => by cases h
 | n + 1, fuel, listed, S, S', ρ, a, w, hn, h, hob, hr, hR => by
  have one : ∀ {fuel : Nat} {j : Nat} {S S1 T : St}, n ≤ fuel + 1 → j ∈ Region.ready .any ops listed → RelD ds ρ B W nt S a w → doList P call eff nt ops (opsAt ops [j]) S = some S1 → doTree P call eff nt ops n (listed.setIfInBounds j true) S1 = some T → (∀ p ∈ T.ob, p) →
    (∀ a' w' ρ', RelD ds (ρ ++ ρ') B W nt T a' w' → R a' w') → wpOp P ops Q j (fun a' w' => (extAt P eff ops j = true → Ext w w') ∧ wpAnyE P (extAt P eff ops) ops Q fuel (listed.setIfInBounds j true) a' w') a w := by
   intro fuel j S S1 T hn hj hr hd ht hobT hRT
   obtain ⟨_, o, ho, _⟩ := mem_ready.1 hj
   simp only [opsAt, ho, doList] at hd
   split at hd
   ·rename_i S1' h1
    injection hd with hd; subst hd
    have hop := doOper_sound (Q := Q) hc h1 (fun p hp => hobT p (tree_ob ht p hp)) hr
     (K := fun a' w' => (extAt P eff ops j = true → Ext w w') ∧ wpAnyE P (extAt P eff ops) ops Q fuel (listed.setIfInBounds j true) a' w')
     (fun a' w' ρ' hx hr' => ⟨fun hxx => hx (by simpa [extAt, ho] using hxx),
      tree_sound hc hsel hQ hQn n fuel _ S1' T (ρ ++ ρ') a' w' hn ht hobT hr' fun a'' w'' ρ'' h' => hRT a'' w'' (ρ' ++ ρ'') (by rw [← List.append_assoc]; exact h')⟩)
    unfold wpOp
    simp only [ho]
    split at hop
    ·rename_i hw; rw [if_pos hw]; exact .inl hop
    ·rename_i hw; rw [if_neg hw]; exact hop
   ·cases hd
  simp only [doTree] at h
  split at h
  ·rename_i hrd
   injection h with h; subst h
   exact wpAnyE_done hrd (hQn _ _ (hR a w [] (by rw [List.append_nil]; exact hr))) fuel
  ·rename_i i rs hrd
   cases fuel with
   | zero => cases n with
    | zero =>
     split at h
     ·split at h <;> cases h
     ·split at h
      ·split at h <;> cases h
      ·split at h
       ·cases h
       ·split at h
        ·split at h
         ·rename_i hA _; cases hA
         ·cases h
        ·cases h
      ·split at h
       ·split at h
        ·rename_i hA _ _; cases hA
        ·cases h
       ·cases h
      ·split at h
       ·split at h
        ·rename_i hA _ _ _; cases hA
        ·cases h
       ·cases h
      ·cases h
    | succ n => omega
   | succ fuel =>
    split at h
    ·rename_i j hf
     split at h
     ·rename_i S1 h1
      have he := List.find?_some hf
      have hj : j ∈ Region.ready .any ops listed := by rw [hrd]; exact List.mem_of_find?_eq_some hf
      obtain ⟨o, ho, hk, hfree, Z, hz1, hz2, hld⟩ := early_spec he
      simp only [opsAt, ho, doList] at h1
      split at h1
      ·rename_i S1' h1'
       injection h1 with h1; subst h1
       obtain ⟨u, hy, hr1⟩ := earlyOper_sound h1' (fun p hp => hob p (tree_ob h p hp)) hk hr
       refine wpAnyE_first hz1 ho (Region.noSelect_spec hsel) (fun c a w h => absurd h (hQ _ _ _)) fuel listed a w hz2 ?_ hj hy
        (tree_sound hc hsel hQ hQn n fuel _ S1' S' ρ _ w (by omega) h hob hr1 hR)
       intro k ok hk' hne hun hzk hno
       exact ⟨Region.free_spec ho hfree k ok hk' hne hun hno, fun hl => hld hl k ok hk' hne hun hzk⟩
      ·cases h1
     ·cases h
    ·split at h
     ·split at h
      ·rename_i S1 h1
       refine ⟨fun h0 => (by rw [h0] at hrd; cases hrd), fun j hj => ?_⟩
       have hj' := hj
       rw [hrd] at hj'
       simp only [List.mem_singleton] at hj'
       subst hj'
       exact one (by omega) hj hr h1 h hob hR
      ·cases h
     ·rename_i k _
      split at h
      ·rename_i A hA
       split at h
       ·rename_i m
        cases fuel with
        | zero => cases m with
         | zero => cases h
         | succ m => omega
        | succ fuel =>
         have hi : i ∈ Region.ready .any ops listed := by rw [hrd]; simp
         have hk : k ∈ Region.ready .any ops listed := by rw [hrd]; simp
         have both := any_sound (fuel := fuel) hc hsel hQ hA hi hk (fun p hp => hob p (tree_ob h p hp)) hr
          (fun a' w' ρ' hr' => tree_sound hc hsel hQ hQn m fuel _ A S' (ρ ++ ρ') a' w' (by omega) h hob hr' fun a'' w'' ρ'' h' => hR a'' w'' (ρ' ++ ρ'') (by rw [← List.append_assoc]; exact h'))
         refine ⟨fun h0 => (by rw [h0] at hrd; cases hrd), fun j hj => ?_⟩
         have hj' := hj
         rw [hrd] at hj'
         simp only [List.mem_cons, List.not_mem_nil, or_false] at hj'
         rcases hj' with e | e
         ·subst e; exact both.1
         ·subst e; exact both.2
       ·cases h
      ·split at h
       ·rename_i S1 S2 h1 h2
        split at h
        ·rename_i A A' hA hA'
         split at h
         ·rename_i ps hps
          injection h with h; subst h
          simp only [List.mem_append] at hob
          refine ⟨fun h0 => (by rw [h0] at hrd; cases hrd), fun j hj => ?_⟩
          have hj' := hj
          rw [hrd] at hj'
          simp only [List.mem_cons, List.not_mem_nil, or_false] at hj'
          rcases hj' with e | e
          ·subst e
           exact one (by omega) hj hr h1 hA (fun p hp => hob p (.inr (.inl hp))) fun a' w' ρ' hr' => hR a' w' ρ' ⟨hr'.sl, hr'.m⟩
          ·subst e
           exact one (by omega) hj hr h2 hA' (fun p hp => hob p (.inr (.inr hp))) fun a' w' ρ' hr' => by
            obtain ⟨ρ2, this⟩ := eitherSt_rel hps (fun p hp => hob p (.inl hp)) hr.m.len hr'
            exact hR a' w' ρ2 ⟨this.sl, this.m⟩
         ·cases h
        ·cases h
       ·cases h
     ·rename_i k1 k2 _
      split at h
      ·rename_i S1 S2 S3 h1 h2 h3
       split at h
       ·rename_i A A' A'' hA hA' hA''
        split at h
        ·rename_i ps qs hps hqs
         injection h with h; subst h
         simp only [List.mem_append] at hob
         refine ⟨fun h0 => (by rw [h0] at hrd; cases hrd), fun j hj => ?_⟩
         have hj' := hj
         rw [hrd] at hj'
         simp only [List.mem_cons, List.not_mem_nil, or_false] at hj'
         rcases hj' with e | e | e
         ·subst e
          exact one (by omega) hj hr h1 hA (fun p hp => hob p (.inr (.inr (.inl hp)))) fun a' w' ρ' hr' => hR a' w' ρ' ⟨hr'.sl, hr'.m⟩
         ·subst e
          exact one (by omega) hj hr h2 hA' (fun p hp => hob p (.inr (.inr (.inr (.inl hp))))) fun a' w' ρ' hr' => by
           have := sameSt_rel hps (fun p hp => hob p (.inl hp)) hr'
           exact hR a' w' ρ' ⟨this.sl, this.m⟩
         ·subst e
          exact one (by omega) hj hr h3 hA'' (fun p hp => hob p (.inr (.inr (.inr (.inr hp))))) fun a' w' ρ' hr' => by
           have := sameSt_rel hqs (fun p hp => hob p (.inr (.inl hp))) hr'
           exact hR a' w' ρ' ⟨this.sl, this.m⟩
        ·cases h
       ·cases h
      ·cases h
     ·rename_i k1 k2 k3 _
      split at h
      ·rename_i S1 S2 S3 S4 h1 h2 h3 h4
       split at h
       ·rename_i A A2 A3 A4 hA hA2 hA3 hA4
        split at h
        ·rename_i ps qs rs' hps hqs hrs
         injection h with h; subst h
         simp only [List.mem_append] at hob
         refine ⟨fun h0 => (by rw [h0] at hrd; cases hrd), fun j hj => ?_⟩
         have hj' := hj
         rw [hrd] at hj'
         simp only [List.mem_cons, List.not_mem_nil, or_false] at hj'
         have hr0 : RelD ds ρ B W nt { S with ob := [] } a w := ⟨hr.sl, hr.m⟩
         rcases hj' with e | e | e | e
         ·subst e
          exact one (by omega) hj hr0 h1 hA (fun p hp => hob p (.inr (.inr (.inr (.inl hp))))) fun a' w' ρ' hr' => hR a' w' ρ' ⟨hr'.sl, hr'.m⟩
         ·subst e
          exact one (by omega) hj hr0 h2 hA2 (fun p hp => hob p (.inr (.inr (.inr (.inr (.inl hp)))))) fun a' w' ρ' hr' => by
           have := sameSt_rel hps (fun p hp => hob p (.inl hp)) hr'
           exact hR a' w' ρ' ⟨this.sl, this.m⟩
         ·subst e
          exact one (by omega) hj hr0 h3 hA3 (fun p hp => hob p (.inr (.inr (.inr (.inr (.inr (.inl hp))))))) fun a' w' ρ' hr' => by
           have := sameSt_rel hqs (fun p hp => hob p (.inr (.inl hp))) hr'
           exact hR a' w' ρ' ⟨this.sl, this.m⟩
         ·subst e
          exact one (by omega) hj hr0 h4 hA4 (fun p hp => hob p (.inr (.inr (.inr (.inr (.inr (.inr (.inl hp)))))))) fun a' w' ρ' hr' => by
           have := sameSt_rel hrs (fun p hp => hob p (.inr (.inr (.inl hp)))) hr'
           exact hR a' w' ρ' ⟨this.sl, this.m⟩
        ·cases h
       ·cases h
      ·cases h
     ·cases h
theorem open_ob {call : CallFn} {eff : FuncId → Bool} {nt : Nat} {S S' : St} (h : doOpen P call eff nt ops S = some S') : ∀ p ∈ S.ob, p ∈ S'.ob := by
 unfold doOpen at h
 split at h
 ·exact doList_ob h
 ·exact tree_ob h
theorem open_sound {call : CallFn} (hc : CallOk P call) {eff : FuncId → Bool} (hsel : Region.noSelect ops = true) {nt : Nat} {B : Nat → Prop} {W : World} {R : Act → World → Prop}
  (hQ : ∀ c a w, ¬ Q (.panic c) a w) (hQn : ∀ a w, R a w → Q .normal a w) {S S' : St} {a : Act} {w : World} (h : doOpen P call eff nt ops S = some S') (hob : ∀ p ∈ S'.ob, p) (hr : RelD ds ρ B W nt S a w)
  (hR : ∀ a' w' ρ', RelD ds (ρ ++ ρ') B W nt S' a' w' → R a' w') : wpAnyE P (extAt P eff ops) ops Q ops.size (Array.replicate ops.size false) a w := by
 unfold doOpen at h
 split at h
 ·rename_i l ho
  exact order_sound hc hsel hQ hQn _ _ _ _ _ _ _ _ _ (Nat.le_refl _) ho h hob hr hR
 ·exact tree_sound hc hsel hQ hQn _ _ _ _ _ _ _ _ (Nat.le_refl _) h hob hr hR
end
end Go.Sx
