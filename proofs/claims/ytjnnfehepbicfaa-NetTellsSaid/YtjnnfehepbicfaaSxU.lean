/- The symbolic evaluator: a function's body, and calls to any depth, in the end. -/
import Derived.Test.YtjnnfehepbicfaaSxT
namespace Go.Sx
open Go Go.RowKit
section
variable {ds : List Deferred}
variable {P : Program} {f : FuncId} {fn : Func} {R : Ending → World → Prop} {call : CallFn} {eff : FuncId → Bool} {lim : Nat}

/-- what a statement is to come to -/
def Nrm (K : Act → World → Prop) : Exit → Act → World → Prop
  | .normal, a, w => K a w
  | _, _, _ => False
theorem goes_ret {ρ : Env} {B : KZ} {W w : World} {S : St} {a : Act} (hr : RelD ds ρ B W fn.ntmps S a w)
    (hh : (finish P fn S).holds) (hF : FinD ds P f R ρ B W fn.ntmps (finish P fn S)) :
    ∃ u, R (.returned u) w ∧ ∀ w', CX w w' → (results fn a.tmps).run P w' = .ok u w' := by
  cases hfin : finish P fn S with
  | done v m h ob =>
    rw [hfin] at hh hF
    obtain ⟨rfl, u, h1, h2⟩ := finish_sound hr hfin hh
    exact ⟨u, hF u w [] (by rw [List.append_nil]; exact h1) (by rw [List.append_nil]; exact hr.m), h2⟩
  | stop k S' =>
    rw [hfin] at hh
    unfold finish at hfin
    split at hfin <;> split at hfin <;> cases hfin
  | bad => rw [hfin] at hh; exact hh.elim

theorem goes_end {k : List Item} {a : Act} {w : World} {u : Value} (hf : P.funcs[f]? = some fn) (hR : R (.returned u) w) (hres : ∀ w', CX w w' → (results fn a.tmps).run P w' = .ok u w')
    (hs : ∀ cs, step P (lone ((At f).at a k) cs w) = .next (lone { (At f).at a k with mode := .returning } cs w)) : Goes P f R k a w :=
  fun cs => ⟨.returned u, w, { (At f).at a k with mode := .returning }, hR, .one (hs cs), rfl, rfl, rfl, rfl, fn, hf, hres⟩

theorem run_sound (hc : CallOk P call) (hf : P.funcs[f]? = some fn) {B : KZ} {W : World} : ∀ (n : Nat) (ls : List Bool) (k : List Item) (S : St) (ρ : Env) (a : Act) (w : World),
    (run P call eff fn lim n ls k S).holds → FinD ds P f R ρ B W fn.ntmps (run P call eff fn lim n ls k S) → RelD ds ρ B W fn.ntmps S a w → Goes P f R k a w
  | 0, _, k, S, ρ, a, w, _, hF, hr => hF a w [] (by rw [List.append_nil]; exact hr)
  | n + 1, ls, k, S, ρ, a, w, h, hF, hr => by
    unfold run at h hF
    split at h
    · cases ‹_ + 1 = 0›
    · obtain ⟨u, h1, h2⟩ := goes_ret hr h hF
      exact goes_end hf h1 h2 fun cs => step_end
    · rename_i he; cases he
      exact .step (fun cs => step_inBlock) (run_sound hc hf _ _ _ _ _ _ _ h hF hr)
    · rename_i he; cases he
      simp only at hF
      split at h
      · rename_i hl; rw [hl] at hF
        exact hF a w [] (by rw [List.append_nil]; exact hr)
      · rename_i hl; rw [hl] at hF
        exact .step (fun cs => step_inLoop) (run_sound hc hf _ _ _ _ _ _ _ h hF hr)
    · rename_i he; cases he
      simp only at hF
      split at h
      · exact .step (fun cs => step_skip) (run_sound hc hf _ _ _ _ _ _ _ h hF hr)
      · exact .step (fun cs => step_seq) (run_sound hc hf _ _ _ _ _ _ _ h hF hr)
      · exact .step (fun cs => step_block) (run_sound hc hf _ _ _ _ _ _ _ h hF hr)
      · simp only at hF
        split at h
        · exact hF a w [] (by rw [List.append_nil]; exact hr)
        · exact .step (fun cs => step_loop) (run_sound hc hf _ _ _ _ _ _ _ h hF hr)
        · exact .step (fun cs => step_loop) (run_sound hc hf _ _ _ _ _ _ _ h hF hr)
      · simp only at hF
        split at h
        · rename_i S' hcd; simp only [hcd] at hF
          obtain ⟨hr', hv⟩ := condB_sound hcd (run_ob _ _ _ _ h) hr
          exact .step (fun cs => step_cond hv) (run_sound hc hf _ _ _ _ _ _ _ h hF hr')
        · rename_i S' hcd; simp only [hcd] at hF
          obtain ⟨hr', hv⟩ := condB_sound hcd (run_ob _ _ _ _ h) hr
          exact .step (fun cs => step_cond hv) (run_sound hc hf _ _ _ _ _ _ _ h hF hr')
        · exact h.elim
      · simp only at hF
        split at h
        · rename_i k' hx; simp only [hx] at hF
          exact .step (fun cs => step_exit hx) (run_sound hc hf _ _ _ _ _ _ _ h hF hr)
        · exact h.elim
      · obtain ⟨u, h1, h2⟩ := goes_ret hr h hF
        exact goes_end hf h1 h2 fun cs => step_ret
      · simp only at hF
        split at h
        · rename_i S' hd; simp only [hd] at hF
          refine Goes.code (Q := Nrm fun a' w' => a'.defers = a.defers ∧ Goes P f R _ a' w') (wp_region_list (doList_sound hc hd (run_ob _ _ _ _ h) hr fun a' w' ρ' hr' => ?_)) (fun e a' w' hq => by cases e <;> first | exact ⟨rfl, hq⟩ | exact hq.elim)
          exact ⟨hr'.sl.defers.trans hr.sl.defers.symm, run_sound hc hf _ _ _ _ _ _ _ h (hF.app ρ') hr'⟩
        · exact h.elim
      · simp only at hF
        split at h
        · rename_i S' hsel hd; simp only [hsel, hd] at hF
          simp only [Bool.and_eq_true] at hsel
          refine Goes.code (Q := Nrm fun a' w' => a'.defers = a.defers ∧ Goes P f R _ a' w') (wp_region_any hsel.2 (wpAnyE_any _ _ _ _ (open_sound hc hsel.1 (R := fun a' w' => a'.defers = a.defers ∧ Goes P f R _ a' w') (fun _ _ _ h => h) (fun _ _ h => h) hd (run_ob _ _ _ _ h) ⟨hr.sl, hr.m.drew⟩ fun a' w' ρ' hr' => ?_)))
            (fun e a' w' hq => by cases e <;> first | exact ⟨rfl, hq⟩ | exact hq.elim)
          exact ⟨hr'.sl.defers.trans hr.sl.defers.symm, run_sound hc hf _ _ _ _ _ _ _ h (hF.app ρ') hr'⟩
        · exact h.elim
      · exact hF a w [] (by rw [List.append_nil]; exact hr)
      · exact h.elim
    · exact h.elim

theorem argSlots_rel {ρ : Env} : ∀ {args : List V} {us : List Value} (i t : Nat) (v : V), relVs ρ args us → look (argSlots i args) t = some v → i ≤ t ∧ ∃ u, us[t - i]? = some u ∧ v.rel ρ u
  | [], _, _, _, _, _, h => by cases h
  | x :: r, us, i, t, v, hu, h => by
    obtain ⟨u, s, rfl, h1, h2⟩ := hu
    simp only [argSlots] at h
    rw [look_cons] at h
    split at h
    · rename_i he; subst he
      injection h with h; subst h
      exact ⟨Nat.le_refl _, u, by simp, h1⟩
    · obtain ⟨k1, u', k2, k3⟩ := argSlots_rel (i + 1) t v h2 h
      refine ⟨by omega, u', ?_, k3⟩
      rw [show t - i = (t - (i + 1)) + 1 by omega, List.getElem?_cons_succ]
      exact k2
theorem relVs_length {ρ : Env} : ∀ {args : List V} {us : List Value}, relVs ρ args us → us.length = args.length
  | [], us, h => by simp only [relVs] at h; subst h; rfl
  | x :: r, us, h => by
    obtain ⟨u, s, rfl, h1, h2⟩ := h
    simp [relVs_length h2]
theorem args_slots {ρ : Env} {args : List V} {us : List Value} {n : Nat} (h : relVs ρ args us) (hn : args.length ≤ n) :
    SlotsRel [] ρ n (argSlots 0 args) { tmps := us.toArray ++ Array.replicate (n - us.toArray.size) undef, defers := [] } where
  size := by
    have := relVs_length h
    simp; omega
  defers := rfl
  slot := fun t v hv => by
    obtain ⟨_, u, h1, h2⟩ := argSlots_rel 0 t v h hv
    simp only [Nat.sub_zero] at h1
    have hlt := (List.getElem?_eq_some_iff.1 h1).1
    rw [Array.getD_eq_getD_getElem?, Array.getElem?_append_left (by simpa using hlt)]
    simp only [List.getElem?_toArray, h1, Option.getD_some]
    exact h2

/-- what is known of one function -/
def TabOk (P : Program) (f : FuncId) (g : List V → List SB → List Bool → Option CallR) : Prop := ∀ args m h v m' h' ob, g args m h = some (v, m', h', ob) → (∀ p ∈ ob, p) →
  ∀ (ρ : Env) (B : KZ) (W w : World) (us : List Value), MemRel ρ B W w m → relVs ρ args us →
    Calls P f us.toArray w (fun e w' => ∃ u ρ', e = .returned u ∧ V.rel (ρ ++ ρ') v u ∧ MemRel (ρ ++ ρ') B W w' m')

theorem calls_run (hc : CallOk P call) (hf : P.funcs[f]? = some fn) {c : Code} (hb : fn.body = some c) {args : List V} (hn : args.length ≤ fn.ntmps) {ls : List Bool} {fuel : Nat} {m : List SB} {h : List Bool}
    {ρ : Env} {B : KZ} {W w : World} {us : List Value} (hm : MemRel ρ B W w m) (hu : relVs ρ args us)
    (hh : (run P call eff fn lim fuel ls [.code c] ⟨argSlots 0 args, m, h, []⟩).holds) (hF : Fin P f R ρ B W fn.ntmps (run P call eff fn lim fuel ls [.code c] ⟨argSlots 0 args, m, h, []⟩)) :
    Calls P f us.toArray w R := by
  intro cs
  have henter : Frame.enter P f us.toArray .normal =
      (At f).at { tmps := us.toArray ++ Array.replicate (fn.ntmps - us.toArray.size) undef, defers := [] } [.code c] := by
    simp [Frame.enter, Frame.at, hf, hb, At]
  rw [henter]
  obtain ⟨e, w', fr, k1, k2, k3, k4⟩ := run_sound (ds := []) hc hf _ _ _ _ _ _ _ hh hF ⟨args_slots hu hn, hm⟩ cs
  exact ⟨e, w', fr, k1, k2, k3, leavingD_nil k4⟩

theorem callN_sound {T : FuncId → Option (List V → List SB → List Bool → Option CallR)} (hT : ∀ f g, T f = some g → TabOk P f g) {fuel : Nat} : ∀ d, CallOk P (callN P T eff fuel d)
  | 0 => fun _ _ _ _ _ _ _ _ h => by cases h
  | d + 1 => by
    intro f args m h v m' h' ob hcall hob ρ B W w us hm hu
    simp only [callN] at hcall
    split at hcall
    · rename_i g hg
      exact hT f g hg args m h v m' h' ob hcall hob ρ B W w us hm hu
    · split at hcall
      · rename_i fn hf
        split at hcall
        · rename_i c hb hn
          split at hcall
          · rename_i v1 m1 h1 ob1 hrun
            injection hcall with hcall; injection hcall with e1 e2; injection e2 with e2 e3; injection e3 with e3 e4
            subst e1; subst e2; subst e3; subst e4
            refine calls_run (callN_sound (fuel := fuel) hT d) hf hb (Nat.le_of_ble_eq_true hn) hm hu (lim := 0) (fuel := fuel) (ls := []) (eff := eff) (h := h) ?_ ?_
            · rw [hrun]; exact hob
            · rw [hrun]; exact fun u w' ρ' k1 k2 => ⟨u, ρ', rfl, k1, k2⟩
          · cases hcall
        · cases hcall
      · cases hcall
end
end Go.Sx
