/- The symbolic evaluator: a function's body, and calls to any depth. -/
import Derived.Test.YtbamfolinbehiaaSxS
namespace Go.Sx
open Go Go.RowKit
section
variable {ds : List Deferred}
variable {P : Program} {f : FuncId} {fn : Func} {R : Ending → World → Prop}
def At (f : FuncId) : Frame := { (default : Frame) with fn := f, kind := .normal }
def leavingD (P : Program) (fr : Frame) (w : World) (ds : List Deferred) : Ending → Prop
 | .returned v => fr.mode = .returning ∧ fr.defers = ds ∧ fr.kind = .normal ∧ ∃ fn, P.funcs[fr.fn]? = some fn ∧ ∀ w', CX w w' → (results fn fr.tmps).run P w' = .ok v w'
 | .panicked chain => fr.mode = .panicking chain ∧ fr.defers = ds ∧ ∃ fn, P.funcs[fr.fn]? = some fn
 | .outgrown => True
theorem leavingD_nil {P : Program} {fr : Frame} {w : World} {e : Ending} (h : leavingD P fr w [] e) : fr.leaving P w e := by
 cases e with
 | returned v => obtain ⟨h1, h2, h3, fn, h4, h5⟩ := h; exact ⟨h1, h2, h3, fn, h4, h5 w (CX.refl w)⟩
 | panicked c => exact h
 | outgrown => exact h
def Goes (P : Program) (f : FuncId) (R : Ending → World → Prop) (k : List Item) (a : Act) (w : World) : Prop :=
 ∀ cs, ∃ e w' fr, R e w' ∧ Comes P (lone ((At f).at a k) cs w) (lone fr cs w') e ∧ fr.fn = f ∧ leavingD P fr w' a.defers e
theorem Goes.step {k k' : List Item} {a a' : Act} {w w' : World} (h : ∀ cs, step P (lone ((At f).at a k) cs w) = .next (lone ((At f).at a' k') cs w')) (h' : Goes P f R k' a' w') (hd : a'.defers = a.defers := by rfl) : Goes P f R k a w :=
 fun cs => let ⟨e, w2, fr, h1, h2, h3⟩ := h' cs; ⟨e, w2, fr, h1, .of_steps (.one (h cs)) h2, by rw [hd] at h3; exact h3⟩
theorem Goes.code {c : Code} {k : List Item} {a : Act} {w : World} {Q : Exit → Act → World → Prop} (h : c.wp P Q a w) (hq : ∀ e a' w', Q e a' w' → e = .normal ∧ a'.defers = a.defers ∧ Goes P f R k a' w') : Goes P f R (.code c :: k) a w := fun cs => by
 obtain ⟨e, a', w', h1, h2⟩ := h (At f) k cs
 obtain ⟨rfl, hd, h3⟩ := hq _ _ _ h1
 obtain ⟨e, w2, fr, k1, k2, k3⟩ := h3 cs
 rw [hd] at k3
 exact ⟨e, w2, fr, k1, .of_steps h2 k2, k3⟩
variable {ρ : Env}
def resSem (tmps : Array Value) : ResultVar → Sem Value
 | .tmp t => pure (tmps.getD t undef)
 | .cell a t => do loadVar t (← asAddr (tmps.getD a undef))
theorem resOne_sound {B : Nat → Prop} {W w : World} {n : Nat} {S : St} {a : Act} (hr : RelD ds ρ B W n S a w) {r : ResultVar} {v : V} {ps : List Prop} (h : resOne P S r = some (v, ps)) (hp : ∀ p ∈ ps, p) :
  ∃ u, v.rel ρ u ∧ ∀ w', CX w w' → (resSem a.tmps r).run P w' = .ok u w' := by
 unfold resOne at h
 split at h
 ·rename_i t
  split at h
  ·rename_i v' hl
   injection h with h; injection h with h1 h2; subst h1
   exact ⟨_, hr.sl.slot _ _ hl, fun _ _ => rfl⟩
  ·cases h
 ·rename_i x t
  split at h
  ·rename_i b i st sub hl
   obtain ⟨⟨e, he, hu⟩, _⟩ := hr.sl.slot _ _ hl
   obtain ⟨u, h1, h2⟩ := loadRO hr.m he h hp
   refine ⟨u, h1, fun w' hx => ?_⟩
   simp only [resSem, hu, asAddr, Sem.run_bind, Sem.run_pure, Result.andThen_ok, h2 w' hx]
  ·cases h
theorem resAll_sound {B : Nat → Prop} {W w : World} {n : Nat} {S : St} {a : Act} (hr : RelD ds ρ B W n S a w) : ∀ {rs : List ResultVar} {l : List V1} {ps : List Prop}, resAll P S rs = some (l, ps) → (∀ p ∈ ps, p) →
  ∃ us, relL1 ρ l us ∧ us.length = rs.length ∧ ∀ w', CX w w' → (rs.mapM (resSem a.tmps)).run P w' = .ok us w'
 | [], l, ps, h, _ => by
  simp only [resAll, Option.some.injEq, Prod.mk.injEq] at h
  obtain ⟨rfl, _⟩ := h
  exact ⟨[], rfl, rfl, fun _ _ => by simp only [List.mapM_nil, Sem.run_pure]⟩
 | r :: rs, l, ps, h, hp => by
  simp only [resAll] at h
  split at h
  ·rename_i x qs h1
   split at h
   ·rename_i l' qs' h2
    simp only [Option.some.injEq, Prod.mk.injEq] at h
    obtain ⟨rfl, rfl⟩ := h
    obtain ⟨u, k1, k2⟩ := resOne_sound hr h1 (fun p hp' => hp p (by simp [hp']))
    obtain ⟨us, k3, k4, k5⟩ := resAll_sound hr h2 (fun p hp' => hp p (by simp [hp']))
    exact ⟨u :: us, ⟨u, us, rfl, k1, k3⟩, by simp [k4], fun w' hx => by simp only [List.mapM_cons, Sem.run_bind, k2 w' hx, k5 w' hx, Result.andThen_ok, Sem.run_pure]⟩
   ·cases h
  ·cases h
theorem results_eq (fn : Func) (tmps : Array Value) : results fn tmps = (do
  let vs ← fn.results.toList.mapM (resSem tmps)
  pure (if h : vs.toArray.size = 1 then vs.toArray[0] else .tuple vs.toArray)) := by
 have this : results fn tmps = (do
   let vs ← fn.results.mapM (resSem tmps)
   pure (if h : vs.size = 1 then vs[0] else .tuple vs)) := by
  unfold results
  refine congrArg (fun g => (Bind.bind (Array.mapM (m := Sem) g fn.results) fun vs => pure (if h : vs.size = 1 then vs[0] else Value.tuple vs) : Sem Value)) (funext fun x => ?_)
  cases x <;> rfl
 rw [this, Array.mapM_eq_mapM_toList]
 simp only [bind_assoc, map_eq_pure_bind, pure_bind]
theorem finish_sound {B : Nat → Prop} {W w : World} {S : St} {a : Act} (hr : RelD ds ρ B W fn.ntmps S a w) {v : V} {m : List SB} {h : List Bool} {ob : List Prop} (hf : finish P fn S = .done v m h ob) (hob : ∀ p ∈ ob, p) :
  m = S.m ∧ ∃ u, v.rel ρ u ∧ ∀ w', CX w w' → (results fn a.tmps).run P w' = .ok u w' := by
 rw [results_eq]
 unfold finish at hf
 split at hf
 ·rename_i r hrs
  split at hf
  ·rename_i v' ps h1
   injection hf with e1 e2 e3 e4
   subst e1; subst e2; subst e4
   obtain ⟨u, k1, k2⟩ := resOne_sound hr h1 (fun p hp => hob p (by simp [hp]))
   refine ⟨rfl, u, k1, fun w' hx => ?_⟩
   rw [hrs]
   simp only [List.mapM_cons, List.mapM_nil, Sem.run_bind, k2 w' hx, Result.andThen_ok, Sem.run_pure]
   rfl
  ·cases hf
 ·rename_i rs hrs
  split at hf
  ·rename_i l ps h1
   injection hf with e1 e2 e3 e4
   subst e1; subst e2; subst e4
   obtain ⟨us, k1, k2, k3⟩ := resAll_sound hr h1 (fun p hp => hob p (by simp [hp]))
   refine ⟨rfl, .tuple us.toArray, ⟨us, rfl, k1⟩, fun w' hx => ?_⟩
   simp only [Sem.run_bind, k3 w' hx, Result.andThen_ok, Sem.run_pure]
   have hne : ¬ us.toArray.size = 1 := by
    intro h1
    have : fn.results.toList.length = 1 := by rw [← k2]; simpa using h1
    obtain ⟨r, hr⟩ := List.length_eq_one_iff.1 this
    exact hrs r hr
   rw [dif_neg hne]
  ·cases hf
def Out.holds : Out → Prop
 | .done _ _ _ ob => ∀ p ∈ ob, p
 | .stop _ S => ∀ p ∈ S.ob, p
 | .bad => False
def FinD (ds : List Deferred) (P : Program) (f : FuncId) (R : Ending → World → Prop) (ρ : Env) (B : Nat → Prop) (W : World) (n : Nat) : Out → Prop
 | .done v m _ _ => ∀ u w' ρ', V.rel (ρ ++ ρ') v u → MemRel (ρ ++ ρ') B W w' m → R (.returned u) w'
 | .stop k' S' => ∀ a' w' ρ', RelD ds (ρ ++ ρ') B W n S' a' w' → Goes P f R k' a' w'
 | .bad => False
abbrev Fin := FinD []
theorem FinD.app {B : Nat → Prop} {W : World} {n : Nat} {o : Out} (h : FinD ds P f R ρ B W n o) (ρ' : Env) : FinD ds P f R (ρ ++ ρ') B W n o := by
 cases o with
 | done v m hh ob => exact fun u w' ρ'' h1 h2 => h u w' (ρ' ++ ρ'') (by rw [← List.append_assoc]; exact h1) (by rw [← List.append_assoc]; exact h2)
 | stop k S => exact fun a' w' ρ'' h1 => h a' w' (ρ' ++ ρ'') (by rw [← List.append_assoc]; exact h1)
 | bad => exact h
theorem finish_ob {S : St} (h : (finish P fn S).holds) : ∀ p ∈ S.ob, p := by
 unfold finish at h
 split at h
 ·split at h
  ·exact fun p hp => h p (by simp [hp])
  ·exact h.elim
 ·split at h
  ·exact fun p hp => h p (by simp [hp])
  ·exact h.elim
theorem condB_ob {S S' : St} {b : Operand} {t : Bool} (h : condB S b = some (t, S')) : ∀ p ∈ S.ob, p ∈ S'.ob := by
 unfold condB at h
 split at h
 ·split at h
  ·rename_i hd
   injection h with h; injection h with h1 h2; subst h2
   exact (decideB_sound (ds := []) (ρ := []) (n := 0) hd).2.1
  ·cases h
 ·injection h with h; injection h with h1 h2; subst h2
  exact fun _ h => h
 ·cases h
theorem condB_sound {B : Nat → Prop} {W w : World} {n : Nat} {S S' : St} {b : Operand} {t : Bool} (h : condB S b = some (t, S')) (hob : ∀ p ∈ S'.ob, p) {a : Act} (hr : RelD ds ρ B W n S a w) :
  RelD ds ρ B W n S' a w ∧ a.eval b = .bool t := by
 unfold condB at h
 split at h
 ·split at h
  ·rename_i hd
   injection h with h; injection h with h1 h2; subst h1; subst h2
   obtain ⟨k1, _, k3⟩ := decideB_sound (ρ := ρ) (n := n) hd
   obtain ⟨k4, k5, _⟩ := k3 hob hr.sl
   exact ⟨⟨k4, by rw [k1]; exact hr.m⟩, k5⟩
  ·cases h
 ·injection h with h; injection h with h1 h2; subst h1; subst h2
  exact ⟨hr, rfl⟩
 ·cases h
variable {call : CallFn} {eff : FuncId → Bool} {lim : Nat}
theorem run_ob : ∀ (n : Nat) (ls : List Bool) (k : List Item) (S : St), (run P call eff fn lim n ls k S).holds → ∀ p ∈ S.ob, p
 | 0, _, _, _, h => h
 | n + 1, ls, k, S, h => by
  unfold run at h
  split at h
  ·cases ‹_ + 1 = 0›
  ·exact finish_ob h
  ·rename_i he; cases he; exact run_ob _ _ _ _ h
  ·rename_i he; cases he
   split at h
   ·exact h
   ·exact run_ob _ _ _ _ h
  ·rename_i he; cases he
   split at h
   ·exact run_ob _ _ _ _ h
   ·exact run_ob _ _ _ _ h
   ·exact run_ob _ _ _ _ h
   ·split at h
    ·exact h
    ·exact run_ob _ _ _ _ h
    ·exact run_ob _ _ _ _ h
   ·split at h
    ·rename_i hc; exact fun p hp => run_ob _ _ _ _ h p (condB_ob hc p hp)
    ·rename_i hc; exact fun p hp => run_ob _ _ _ _ h p (condB_ob hc p hp)
    ·exact h.elim
   ·split at h
    ·exact run_ob _ _ _ _ h
    ·exact h.elim
   ·exact finish_ob h
   ·split at h
    ·rename_i hd; exact fun p hp => run_ob _ _ _ _ h p (doList_ob hd p hp)
    ·exact h.elim
   ·split at h
    ·rename_i hd; exact fun p hp => run_ob _ _ _ _ h p (open_ob hd p hp)
    ·exact h.elim
   ·exact h
   ·exact h.elim
  ·exact h.elim
end
end Go.Sx
