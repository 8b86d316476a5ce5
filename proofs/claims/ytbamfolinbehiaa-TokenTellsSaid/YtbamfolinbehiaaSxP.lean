/- The symbolic evaluator: one operation. -/
import Derived.Test.YtbamfolinbehiaaSxOn
namespace Go.Sx
open Go Go.RowKit
section
variable {ds : List Deferred}
variable {P : Program} {ρ : Env}
structure RelD (ds : List Deferred) (ρ : Env) (B : Nat → Prop) (W : World) (n : Nat) (S : St) (a : Act) (w : World) : Prop where
 sl : SlotsRel ds ρ n S.sl a
 m : MemRel ρ B W w S.m
abbrev Rel (ρ : Env) (B : Nat → Prop) (W : World) (n : Nat) (S : St) (a : Act) (w : World) : Prop := RelD [] ρ B W n S a w
theorem evRW_sound {B : Nat → Prop} {W w : World} {m : List SB} (hm : MemRel ρ B W w m) {n : Nat} {sl : Slots} {a : Act} (hs : SlotsRel ds ρ n sl a) {o : Oper} {v : Option V} {m' : List SB} {h h' : List Bool} {ps : List Prop}
  (hev : evRW P m sl h o.op = some (v, m', h', ps)) (hp : ∀ p ∈ ps, p) : RWs P B W w (execOp a.eval o) ρ v m' := by
 unfold execOp
 generalize o.op = op at hev
 unfold evRW at hev
 split at hev
 -- makeMap
 ·split at hev
  ·rename_i kk hkk hr
   injection hev with hev; injection hev with e1 e2; injection e2 with e2 e3
   subst e1; subst e2
   exact (makeMap_sound hm hs hkk hr).rw
  ·cases hev
 -- mapUpdate
 ·split at hev
  ·rename_i b kk n y hx hk hy
   exact evPutM_sound hm hev (cOf_rel hs hx).1 (cOf_rel hs hk).1 (evO_rel hs hy)
  ·cases hev
 -- insert
 ·split at hev
  ·rename_i b kk n y hx hk hy
   exact evPutM_sound hm hev (cOf_rel hs hx).1 (cOf_rel hs hk).1 (evO_rel hs hy)
  ·cases hev
 -- alloc
 ·split at hev
  ·rename_i z hz
   injection hev with hev; injection hev with e1 e2; injection e2 with e2 e3
   subst e1; subst e2
   exact (alloc_sound hm hz true (.tuple #[]) rfl).rw
  ·cases hev
 -- box
 ·split at hev
  ·rename_i y hy
   injection hev with hev; injection hev with e1 e2; injection e2 with e2 e3
   subst e1; subst e2
   exact (box_sound hm (evO_rel hs hy)).rw
  ·cases hev
 -- buildSlice
 ·split at hev
  ·rename_i e ht
   split at hev
   ·rename_i inf z qs hi hz hps
    split at hev
    ·rename_i hg
     simp only [Bool.and_eq_true] at hg
     split at hev
     ·rename_i l hf
      injection hev with hev; injection hev with e1 e2; injection e2 with e2 e3
      subst e1; subst e2
      exact (buildSlice_sound hm hs ht hi hz hps (Nat.le_of_ble_eq_true hg.1.1) (Nat.eq_of_beq_eq_true hg.1.2) (Nat.le_of_ble_eq_true hg.2) hf).rw
     ·cases hev
    ·cases hev
   ·cases hev
  ·cases hev
 -- store
 ·split at hev
  ·rename_i b i st sub y ha hx
   split at hev
   ·rename_i inf hi
    split at hev
    ·rename_i qs c rs h1 h2 h3
     injection hev with hev; injection hev with e1 e2; injection e2 with e2 e3; injection e3 with e3 e4
     subst e1; subst e2; subst e4
     exact store_sound hm hi h1 h2 h3 (fun p h => hp p (by simp [h])) (fun p h => hp p (by simp [h])) (evO_rel hs ha).1 (evO_rel hs hx)
    ·cases hev
   ·cases hev
  ·cases hev
 -- makeSlice
 ·split at hev
  ·rename_i x y hx hy
   exact (evMake_sound hm hev hp (cOf_rel hs hx).1 (cOf_rel hs hy).1).rw
  ·cases hev
 -- convert
 ·rename_i src dst x
  split at hev
  ·rename_i c hx
   have hc := (cOf_rel hs hx).1
   split at hev
   ·rename_i hb
    exact evMark_sound hm hb hev hc
   have hkind : (∃ e, P.underlying src = some (.slice e)) ∨ P.underlying src = some .string := by
    unfold evConvW at hev
    split at hev
    ·rename_i e h1 _; exact .inl ⟨e, h1⟩
    ·rename_i e h1 _; exact .inr h1
    ·cases hev
   rcases hkind with hk | hk
   ·obtain ⟨rfl, r, rfl, u, hu, hr⟩ := toStr_sound hm hk hev hp hc
    exact ⟨_, w, [], hr w (Ext.refl w), ⟨u, rfl, by rw [List.append_nil]; exact hu⟩, by rw [List.append_nil]; exact hm⟩
   ·exact (toBytes_sound hm hk hev hp hc).rw
  ·cases hev
 -- builtins
 ·rename_i b args tys
  split at hev
  ·rename_i x y t t' ha htys
   have hargs : args.map a.eval = #[a.eval x, a.eval y] := by apply Array.ext'; simp [ha]
   have htt : tys = #[t, t'] := by apply Array.ext'; simp [htys]
   split at hev
   ·rename_i p q hst hx hy
    obtain ⟨X, w', ρ', h1, h2, h3⟩ := evAppend_sound (ty := o.type) hm hst hev hp (cOf_rel hs hx).1 (cOf_rel hs hy).1
    refine ⟨X, w', ρ', ?_, h2, h3⟩
    rw [← h1, htt]
    simp only [resolve, hargs, Sem.run_bind, Sem.run_pure, Result.andThen_ok, invoke, builtin]
   ·rename_i p kk q hst hx hy
    obtain ⟨X, w', ρ', h1, h2, h3⟩ := evAppendZ_sound (ty := o.type) (kk := kk) hm hev hp (cOf_rel hs hx).1 (cOf_rel hs hy).1
    refine ⟨X, w', ρ', ?_, h2, h3⟩
    rw [← h1, htt]
    simp only [resolve, hargs, Sem.run_bind, Sem.run_pure, Result.andThen_ok, invoke, builtin]
   ·rename_i p kk q hst hx hy
    obtain ⟨X, w', ρ', h1, h2, h3⟩ := evAppendZ_sound (ty := o.type) (kk := kk) hm hev hp (cOf_rel hs hx).1 (cOf_rel hs hy).1
    refine ⟨X, w', ρ', ?_, h2, h3⟩
    rw [← h1, htt]
    simp only [resolve, hargs, Sem.run_bind, Sem.run_pure, Result.andThen_ok, invoke, builtin]
   ·cases hev
  ·rename_i x y t r ha htys
   have hargs : args.map a.eval = #[a.eval x, a.eval y] := by apply Array.ext'; simp [ha]
   split at hev
   ·rename_i p q hx hy
    obtain ⟨X, w', ρ', h1, h2, h3⟩ := evCopy_sound (t' := 0) (ty := o.type) hm hev hp (cOf_rel hs hx).1 (cOf_rel hs hy).1
    refine ⟨X, w', ρ', ?_, h2, h3⟩
    rw [← h1]
    have ht0 : tys[0]? = some t := by
     have := congrArg (fun l => l[0]?) htys
     simpa using this
    simp only [resolve, hargs, Sem.run_bind, Sem.run_pure, Result.andThen_ok, invoke, builtin, Builtin.copy_, ht0, List.getElem?_toArray, List.getElem?_cons_zero, List.getElem?_cons_succ]
   ·cases hev
  ·cases hev
 ·cases hev
theorem look_cons (i : Nat) (v : V) (r : Slots) (t : Nat) : look ((i, v) :: r) t = if i = t then some v else look r t := by
 simp only [look]
 by_cases h : i = t
 ·subst h
  rw [if_pos rfl, show Nat.beq i i = true from Nat.beq_refl i]
 ·have : Nat.beq i t = false := by
   cases hb : Nat.beq i t with
   | false => rfl
   | true => exact absurd (Nat.eq_of_beq_eq_true hb) h
  rw [if_neg h, this]
theorem decideB_sound {n : Nat} {S S' : St} {t : Nat} {r : Option Bool} (h : decideB S t = some (r, S')) :
  S'.m = S.m ∧ (∀ p ∈ S.ob, p ∈ S'.ob) ∧ ((∀ p ∈ S'.ob, p) → ∀ {a : Act}, SlotsRel ds ρ n S.sl a → SlotsRel ds ρ n S'.sl a ∧
   (match r with | some b => a.tmps.getD t undef = .bool b ∧ look S'.sl t = some (.v (.one (.bool b))) | none => a.tmps.getD t undef = undef)) := by
 unfold decideB at h
 split at h
 ·rename_i hl
  injection h with h; injection h with h1 h2; subst h1; subst h2
  exact ⟨rfl, fun _ h => h, fun _ a hs => ⟨hs, (hs.slot t _ hl).1, hl⟩⟩
 ·rename_i hl
  injection h with h; injection h with h1 h2; subst h1; subst h2
  exact ⟨rfl, fun _ h => h, fun _ a hs => ⟨hs, (hs.slot t _ hl).1, hl⟩⟩
 ·rename_i p hl
  split at h
  ·rename_i b hr hh
   injection h with h; injection h with h1 h2; subst h1; subst h2
   refine ⟨rfl, fun q hq => List.mem_cons_of_mem _ hq, fun hob a hs => ?_⟩
   have hpb : p = b := hob _ (List.mem_cons_self)
   have hv : a.tmps.getD t undef = .bool b := by rw [← hpb]; exact (hs.slot t _ hl).1
   refine ⟨⟨hs.size, hs.defers, fun t' v hv' => ?_⟩, hv, by simp [look_cons]⟩
   rw [look_cons] at hv'
   split at hv'
   ·rename_i he; subst he
    injection hv' with hv'; subst hv'
    exact ⟨hv, by rw [hv]; rfl⟩
   ·exact hs.slot t' v hv'
  ·cases h
 ·rename_i hl
  injection h with h; injection h with h1 h2; subst h1; subst h2
  refine ⟨rfl, fun _ h => h, fun _ a hs => ⟨hs, ?_⟩⟩
  obtain ⟨us, hu, hr⟩ := hs.slot t _ hl
  simp only [relL1] at hr
  subst hr
  exact hu
 ·cases h
theorem preDecide_sound {n : Nat} {S S' : St} {op : Op} (h : preDecide S op = some S') :
  S'.m = S.m ∧ (∀ p ∈ S.ob, p ∈ S'.ob) ∧ ((∀ p ∈ S'.ob, p) → ∀ {a : Act}, SlotsRel ds ρ n S.sl a → SlotsRel ds ρ n S'.sl a) := by
 unfold preDecide at h
 split at h
 ·split at h
  ·rename_i r S1 hd
   injection h with h; subst h
   obtain ⟨h1, h2, h3⟩ := decideB_sound (ρ := ρ) (n := n) hd
   exact ⟨h1, h2, fun ho a hs => (h3 ho hs).1⟩
  ·cases h
 ·injection h with h; subst h
  exact ⟨rfl, fun _ h => h, fun _ _ hs => hs⟩
theorem guardOf_sound {n : Nat} {all : Array Oper} {S S' : St} {o : Oper} {b : Bool} (h : guardOf all S o = some (b, S')) :
  S'.m = S.m ∧ (∀ p ∈ S.ob, p ∈ S'.ob) ∧ ((∀ p ∈ S'.ob, p) → ∀ {a : Act}, SlotsRel ds ρ n S.sl a → SlotsRel ds ρ n S'.sl a ∧ Region.wanted o (yielded all a.tmps) = b) := by
 unfold guardOf at h
 split at h
 ·rename_i hg
  injection h with h; injection h with h1 h2; subst h1; subst h2
  exact ⟨rfl, fun _ h => h, fun _ a hs => ⟨hs, by simp [Region.wanted, hg]⟩⟩
 ·rename_i j want hg
  split at h
  ·rename_i d hd
   have hy : ∀ a : Act, yielded all a.tmps j = match a.tmps[d]? with | some (.bool b) => some b | _ => none := by
    intro a; simp only [yielded, hd, Option.bind_some]
    cases a.tmps[d]? with
    | none => rfl
    | some u => cases u <;> rfl
   split at h
   ·rename_i b' S1 hdec
    injection h with h; injection h with h1 h2; subst h1; subst h2
    obtain ⟨h1, h2, h3⟩ := decideB_sound (ρ := ρ) (n := n) hdec
    refine ⟨h1, h2, fun ho a hs => ?_⟩
    obtain ⟨h4, h5, _⟩ := h3 ho hs
    refine ⟨h4, ?_⟩
    have hget : a.tmps[d]? = some (.bool b') := by
     rw [Array.getD_eq_getD_getElem?] at h5
     cases hx : a.tmps[d]? with
     | none => rw [hx] at h5; simp [undef] at h5
     | some u => rw [hx] at h5; simp at h5; rw [h5]
    simp only [Region.wanted, hg, hy, hget]
    cases b' <;> cases want <;> rfl
   ·rename_i S1 hdec
    injection h with h; injection h with h1 h2; subst h1; subst h2
    obtain ⟨h1, h2, h3⟩ := decideB_sound (ρ := ρ) (n := n) hdec
    refine ⟨h1, h2, fun ho a hs => ?_⟩
    obtain ⟨h4, h5⟩ := h3 ho hs
    refine ⟨h4, ?_⟩
    have hget : (match a.tmps[d]? with | some (.bool b) => some b | _ => none) = (none : Option Bool) := by
     simp only at h5
     rw [Array.getD_eq_getD_getElem?] at h5
     cases hx : a.tmps[d]? with
     | none => rfl
     | some u => rw [hx] at h5; simp at h5; rw [h5]; rfl
    simp only [Region.wanted, hg, hy, hget]
    cases want <;> rfl
   ·cases h
  ·cases h
theorem putS_sound {n : Nat} {S S' : St} {d : Option Tmp} {v : V} (h : putS n S d v = some S') :
  S'.m = S.m ∧ S'.ob = S.ob ∧ ∀ {a : Act} {u : Value}, SlotsRel ds ρ n S.sl a → v.rel ρ u → SlotsRel ds ρ n S'.sl (a.put d u) := by
 unfold putS at h
 split at h
 ·injection h with h; subst h
  exact ⟨rfl, rfl, fun hs _ => hs⟩
 ·rename_i d
  split at h
  ·rename_i hlt
   have hlt : d < n := Nat.le_of_ble_eq_true hlt
   injection h with h; subst h
   refine ⟨rfl, rfl, fun {a u} hs hv => ⟨by simp [Act.put, hs.size], hs.defers, fun t x hx => ?_⟩⟩
   rw [look_cons] at hx
   simp only [Act.put, Array.getD_eq_getD_getElem?]
   split at hx
   ·rename_i he; subst he
    injection hx with hx; subst hx
    rw [Array.getElem?_setIfInBounds_self_of_lt (by rw [hs.size]; exact hlt)]
    exact hv
   ·rename_i he
    rw [Array.getElem?_setIfInBounds_ne he]
    have := hs.slot t x hx
    rwa [Array.getD_eq_getD_getElem?] at this
  ·cases h
theorem SlotsRel.app {n : Nat} {sl : Slots} {a : Act} (hs : SlotsRel ds ρ n sl a) (ρ' : Env) : SlotsRel ds (ρ ++ ρ') n sl a :=
 ⟨hs.size, hs.defers, fun t v hv => V.rel_app ρ' (hs.slot t v hv)⟩
end
end Go.Sx
