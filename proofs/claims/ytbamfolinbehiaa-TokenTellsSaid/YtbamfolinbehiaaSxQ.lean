/- The symbolic evaluator: calls, and one operation with its guard. -/
import Derived.Test.YtbamfolinbehiaaSxP
namespace Go.Sx
open Go Go.RowKit
section
variable {ds : List Deferred}
variable {P : Program} {ρ : Env}
def CallOk (P : Program) (call : CallFn) : Prop := ∀ f args m h v m' h' ob, call f args m h = some (v, m', h', ob) → (∀ p ∈ ob, p) →
 ∀ (ρ : Env) (B : Nat → Prop) (W w : World) (us : List Value), MemRel ρ B W w m → relVs ρ args us →
  Calls P f us.toArray w (fun e w' => ∃ u ρ', e = .returned u ∧ V.rel (ρ ++ ρ') v u ∧ MemRel (ρ ++ ρ') B W w' m')
theorem noRefC_rel {ρ ρ' : Env} {c : C} {u : Value} (h : noRefC c = true) (hr : c.rel ρ u) : c.rel ρ' u := by
 cases c with
 | ptr b i st sub => cases h
 | slice b i st l cl => cases h
 | mapr b => cases h
 | clos f caps =>
  cases caps with
  | cons x r => cases h
  | nil =>
   obtain ⟨es, h1, h2⟩ := hr
   exact ⟨es, h1, h2⟩
 | _ => exact hr
theorem noRefL_rel {ρ ρ' : Env} : ∀ {l : List C} {us : List Value}, l.all noRefC = true → relL ρ l us → relL ρ' l us
 | [], _, _, h => h
 | c :: r, us, ha, h => by
  simp only [List.all_cons, Bool.and_eq_true] at ha
  obtain ⟨u, s, rfl, h1, h2⟩ := h
  exact ⟨u, s, rfl, noRefC_rel ha.1 h1, noRefL_rel ha.2 h2⟩
theorem noRef1_rel {ρ ρ' : Env} {x : V1} {u : Value} (h : noRef1 x = true) (hr : x.rel ρ u) : x.rel ρ' u := by
 cases x with
 | one c => exact ⟨noRefC_rel h hr.1, hr.2⟩
 | agg l =>
  obtain ⟨us, h1, h2, h3⟩ := hr
  exact ⟨us, h1, noRefL_rel h h2, h3⟩
 | aggi k l => exact hr
theorem noRefL1_rel {ρ ρ' : Env} : ∀ {l : List V1} {us : List Value}, l.all noRef1 = true → relL1 ρ l us → relL1 ρ' l us
 | [], _, _, h => h
 | c :: r, us, ha, h => by
  simp only [List.all_cons, Bool.and_eq_true] at ha
  obtain ⟨u, s, rfl, h1, h2⟩ := h
  exact ⟨u, s, rfl, noRef1_rel ha.1 h1, noRefL1_rel ha.2 h2⟩
theorem noRef_rel {ρ ρ' : Env} {v : V} {u : Value} (h : noRef v = true) (hr : v.rel ρ u) : v.rel ρ' u := by
 cases v with
 | v x => exact noRef1_rel h hr
 | tup l =>
  obtain ⟨us, h1, h2⟩ := hr
  exact ⟨us, h1, noRefL1_rel h h2⟩
theorem MemRel.frz {B : Nat → Prop} {W w : World} {m : List SB} (hm : MemRel ρ B W w m) : MemRel ρ (upto w) w w (frz m) where
 below := .refl _ _
 base := fun _ h => h
 len := by simp [Sx.frz, hm.len]
 blk := fun i e s he hs hl => by
  simp only [Sx.frz, List.getElem?_map, Option.map_eq_some_iff] at hs
  obtain ⟨s0, h0, rfl⟩ := hs
  obtain ⟨cur, ty, fz, h1, h2, h3, h4⟩ := hm.blk i e s0 he h0 hl
  exact ⟨cur, ty, fz, h1, h2, fun h => (by cases h), h4⟩
 own := fun i e s he hs ho _ => by
  simp only [Sx.frz, List.getElem?_map, Option.map_eq_some_iff] at hs
  obtain ⟨s0, h0, rfl⟩ := hs
  cases ho
 sep := fun i j e e' s s' _ _ _ hs _ ho => by
  simp only [Sx.frz, List.getElem?_map, Option.map_eq_some_iff] at hs
  obtain ⟨s0, h0, rfl⟩ := hs
  cases ho
 maps := fun i e s kk l he hs hc => by
  simp only [Sx.frz, List.getElem?_map, Option.map_eq_some_iff] at hs
  obtain ⟨s0, h0, rfl⟩ := hs
  exact hm.maps i e s0 kk l he h0 hc
 msep := fun i j e e' s s' kk kk' l l' hne he he' hs hs' hc hc' => by
  simp only [Sx.frz, List.getElem?_map, Option.map_eq_some_iff] at hs hs'
  obtain ⟨s0, h0, rfl⟩ := hs
  obtain ⟨s1, h1, rfl⟩ := hs'
  exact hm.msep i j e e' s0 s1 kk kk' l l' hne he he' h0 h1 hc hc'
theorem MemRel.behind {ρ' : Env} {B : Nat → Prop} {W w w' : World} {m m' : List SB} (hm : MemRel ρ B W w m) (hm' : MemRel (ρ ++ ρ') (upto w) w w' m')
  (ho : (m'.drop m.length).all (fun s => s.own) = true) : MemRel (ρ ++ ρ') B W w' (m ++ m'.drop m.length) := by
 have hx : Ext w w' := ⟨hm'.below.size, hm'.below.block⟩
 have hmx : MemRel ρ B W w' m := hm.ext hx (hm.below.trans (hm'.below.mono fun k hk => hm.base k hk))
 have hlen := hm'.len
 rw [List.length_append, hm.len] at hlen
 have hob : ∀ k s, m'[m.length + k]? = some s → s.own = true := fun k s h => by
  refine List.all_eq_true.1 ho s (List.mem_of_getElem? (i := k) ?_)
  rw [List.getElem?_drop]; exact h
 have old : ∀ (k : Nat) (e : E) (s : SB), k < m.length → (ρ ++ ρ')[k]? = some e → (m ++ m'.drop m.length)[k]? = some s → ρ[k]? = some e ∧ m[k]? = some s := by
  intro k e s hk he hs
  rw [List.getElem?_append_left (by rw [hm.len]; exact hk)] at he
  rw [List.getElem?_append_left hk] at hs
  exact ⟨he, hs⟩
 have new : ∀ (k : Nat) (s : SB), ¬ k < m.length → (m ++ m'.drop m.length)[k]? = some s → m'[k]? = some s := by
  intro k s hk hs
  rw [List.getElem?_append_right (by omega), List.getElem?_drop] at hs
  rw [← hs]; congr 1; omega
 refine ⟨hmx.below, hmx.base, ?_, ?_, ?_, ?_, ?_, ?_⟩
 ·simp [hm.len, List.length_drop]; omega
 ·intro i e s he hs
  by_cases hi : i < m.length
  ·obtain ⟨h1, h2⟩ := old i e s hi he hs
   intro hl
   obtain ⟨cur, ty, fz, k1, k2, k3, k4⟩ := hmx.blk i e s h1 h2 hl
   exact ⟨cur, ty, fz, k1, k2, k3, Cells.rel_app _ k4⟩
  ·exact hm'.blk i e s he (new i s hi hs)
 ·intro i e s he hs hown hsol
  by_cases hi : i < m.length
  ·obtain ⟨h1, h2⟩ := old i e s hi he hs
   exact hmx.own i e s h1 h2 hown hsol
  ·exact fun hb => hm'.own i e s he (new i s hi hs) hown hsol (hm.base _ hb)
 ·intro i j e e' s s' hne he he' hs hs' hown hl hl' h0 h0'
  by_cases hi : i < m.length
  ·obtain ⟨h1, h2⟩ := old i e s hi he hs
   by_cases hj : j < m.length
   ·obtain ⟨k1, k2⟩ := old j e' s' hj he' hs'
    exact hmx.sep i j e e' s s' hne h1 k1 h2 k2 hown hl hl' h0 h0'
   ·have hb := new j s' hj hs'
    have k1 := hm'.own j e' s' he' hb (hob (j - m.length) s' (by rw [← hb]; congr 1; omega)) (.inl ⟨hl', h0'⟩)
    have k2 := hm.lt h1 h2 hl h0
    exact fun hbb => k1 (hbb ▸ k2)
  ·have ha := new i s hi hs
   by_cases hj : j < m.length
   ·obtain ⟨k1, k2⟩ := old j e' s' hj he' hs'
    have k3 := hm'.own i e s he ha hown (.inl ⟨hl, h0⟩)
    have k4 := hm.lt k1 k2 hl' h0'
    exact fun hbb => k3 (hbb ▸ k4)
   ·exact hm'.sep i j e e' s s' hne he he' ha (new j s' hj hs') hown hl hl' h0 h0'
 ·intro i e s kk l he hs hc
  by_cases hi : i < m.length
  ·obtain ⟨h1, h2⟩ := old i e s hi he hs
   exact MapAt.app _ (hmx.maps i e s kk l h1 h2 hc)
  ·exact hm'.maps i e s kk l he (new i s hi hs) hc
 ·intro i j e e' s s' kk kk' l l' hne he he' hs hs' hc hc'
  have low : ∀ (i : Nat) (e : E) (s : SB) (kk : IntKind) (l : List (Int × V1)), ρ[i]? = some e → m[i]? = some s → s.c = .imap kk l → e.blk < w.heap.size := fun i e s kk l h1 h2 h3 => by
   obtain ⟨es, cl, h4, _⟩ := hm.maps i e s kk l h1 h2 h3
   exact (Array.getElem?_eq_some_iff.1 h4).1
  by_cases hi : i < m.length
  ·obtain ⟨h1, h2⟩ := old i e s hi he hs
   by_cases hj : j < m.length
   ·obtain ⟨k1, k2⟩ := old j e' s' hj he' hs'
    exact hmx.msep i j e e' s s' kk kk' l l' hne h1 k1 h2 k2 hc hc'
   ·have hb := new j s' hj hs'
    have k1 := hm'.own j e' s' he' hb (hob (j - m.length) s' (by rw [← hb]; congr 1; omega)) (.inr ⟨_, _, hc'⟩)
    exact fun hbb => k1 (hbb ▸ low i e s kk l h1 h2 hc)
  ·have ha := new i s hi hs
   by_cases hj : j < m.length
   ·obtain ⟨k1, k2⟩ := old j e' s' hj he' hs'
    have k3 := hm'.own i e s he ha (hob (i - m.length) s (by rw [← ha]; congr 1; omega)) (.inr ⟨_, _, hc⟩)
    exact fun hbb => k3 (hbb ▸ low j e' s' kk' l' k1 k2 hc')
   ·exact hm'.msep i j e e' s s' kk kk' l l' hne he he' ha (new j s' hj hs') hc hc'
theorem doCall_sound {call : CallFn} (hc : CallOk P call) {eff : FuncId → Bool} {f : FuncId} {args : List V} {m m' : List SB} {h h' : List Bool} {v : V} {ob : List Prop}
  (hd : doCall call eff f args m h = some (v, m', h', ob)) (ho : ∀ p ∈ ob, p) {B : Nat → Prop} {W w : World} {us : List Value} (hm : MemRel ρ B W w m) (hu : relVs ρ args us) :
  Calls P f us.toArray w (fun e w' => ∃ u ρ', e = .returned u ∧ V.rel (ρ ++ ρ') v u ∧ MemRel (ρ ++ ρ') B W w' m' ∧ (eff f = false → Ext w w')) := by
 unfold doCall at hd
 split at hd
 ·rename_i he
  refine (hc _ _ _ _ _ _ _ _ hd ho ρ B W w us hm hu).mono fun e w' h => ?_
  obtain ⟨u, ρ', h1, h2, h3⟩ := h
  exact ⟨u, ρ', h1, h2, h3, fun h => by rw [he] at h; cases h⟩
 ·rename_i he
  split at hd
  ·rename_i v1 m1 h1 ob1 hcall
   split at hd
   ·rename_i hn
    injection hd with hd; injection hd with e1 e2; injection e2 with e2 e3; injection e3 with e3 e4
    subst e1; subst e2; subst e3; subst e4
    refine (hc _ _ _ _ _ _ _ _ hcall ho ρ _ w w us hm.frz hu).mono fun e w' h => ?_
    obtain ⟨u, ρ', h1, h2, h3⟩ := h
    have hx : Ext w w' := ⟨h3.below.size, h3.below.block⟩
    exact ⟨u, [], h1, noRef_rel hn h2, by rw [List.append_nil]; exact hm.ext hx (hm.below.trans (h3.below.mono fun k hk => hm.base k hk)), fun _ => hx⟩
   ·split at hd
    ·rename_i hall
     injection hd with hd; injection hd with e1 e2; injection e2 with e2 e3; injection e3 with e3 e4
     subst e1; subst e2; subst e3; subst e4
     refine (hc _ _ _ _ _ _ _ _ hcall ho ρ _ w w us hm.frz hu).mono fun e w' h => ?_
     obtain ⟨u, ρ', h1, h2, h3⟩ := h
     exact ⟨u, ρ', h1, h2, hm.behind h3 hall, fun _ => ⟨h3.below.size, h3.below.block⟩⟩
    ·cases hd
  ·cases hd
theorem relVs_append : ∀ {l l' : List V} {us us' : List Value}, relVs ρ l us → relVs ρ l' us' → relVs ρ (l ++ l') (us ++ us')
 | [], _, _, _, h, h' => by simp only [relVs] at h; subst h; exact h'
 | v :: r, _, _, _, h, h' => by
  obtain ⟨u, s, rfl, h1, h2⟩ := h
  exact ⟨u, s ++ _, rfl, h1, relVs_append h2 h'⟩
theorem capV_rel : ∀ {caps : List Nat} {es : List E}, caps.map (fun b => ρ[b]?) = es.map some → relVs ρ (capV caps) (es.map fun e => Value.pointer (some ⟨e.blk, e.off, none⟩))
 | [], [], _ => rfl
 | [], _ :: _, h => by simp at h
 | _ :: _, [], h => by simp at h
 | b :: r, e :: es, h => by
  simp only [List.map_cons, List.cons.injEq] at h
  exact ⟨_, _, rfl, ⟨⟨e, h.1, by simp [N.v]⟩, rfl⟩, capV_rel h.2⟩
theorem callee_sound {n : Nat} {sl : Slots} {a : Act} (hs : SlotsRel ds ρ n sl a) {o : Oper} {f : FuncId} {args : List V} (h : callee P sl o.op = some (f, args)) (w : World) :
  ∃ us, relVs ρ args us ∧ (execOp a.eval o).run P w = .ok (.enter f us.toArray) w := by
 unfold execOp
 generalize o.op = op at h ⊢
 unfold callee at h
 split at h
 ·rename_i fo xs tys
  split at h
  ·rename_i g caps l hf hl
   split at h
   ·rename_i he
    injection h with h; injection h with h1 h2; subst h1; subst h2
    obtain ⟨⟨es, h1, h2⟩, _⟩ := evO_rel hs hf
    refine ⟨xs.toList.map a.eval ++ es.map fun e => Value.pointer (some ⟨e.blk, e.off, none⟩), relVs_append (evArgs_rel hs hl) (capV_rel h1), ?_⟩
    unfold enterOk at he
    split at he
    ·rename_i fn hfn
     simp only [Bool.and_eq_true, Bool.not_eq_true'] at he
     have hb : fn.body.isNone = false := by
      cases hbb : fn.body with
      | none => rw [hbb] at he; simp at he
      | some c => rfl
     have hargs : xs.map a.eval ++ (es.map fun e => Value.pointer (some ⟨e.blk, e.off, none⟩)).toArray = (xs.toList.map a.eval ++ es.map fun e => Value.pointer (some ⟨e.blk, e.off, none⟩)).toArray := by
      apply Array.ext'; simp
     rw [← hargs]
     simp only [resolve, h2, Deferred.ofValue, Sem.run_bind, Sem.run_pure, Result.andThen_ok, invoke, callFunc, run_program, hfn, he.2, hb, Bool.false_eq_true, if_false, Array.empty_append]
    ·cases he
   ·cases h
  ·cases h
 ·cases h
end
end Go.Sx
