/- The symbolic evaluator: maps that are made and written. -/
import Derived.Test.YtbamfolinbehiaaSxO
namespace Go.Sx
open Go Go.RowKit
section
variable {ds : List Deferred}
variable {P : Program} {ρ : Env}
theorem mapKind_spec {t : TypeId} {k : IntKind} (h : mapKind P t = some k) : ∃ kt et, P.underlying t = some (.map kt et) ∧ P.underlying kt = some (.int k) := by
 unfold mapKind at h
 split at h
 ·rename_i kt et ht
  split at h
  ·rename_i k' hk; injection h with h; subst h; exact ⟨kt, et, ht, hk⟩
  ·cases h
 ·cases h
theorem makeMap_sound {B : Nat → Prop} {W w : World} {m : List SB} (hm : MemRel ρ B W w m) {n : Nat} {sl : Slots} {a : Act} (hs : SlotsRel ds ρ n sl a) {t : TypeId} {kk : IntKind} (hk : mapKind P t = some kk) {r : Option Operand} (hr : resOk sl r = true) :
  Fresh P B W w (do pure (Next.value (← Instr.makeMap t (r.map a.eval)))) ρ (some (.v (.one (.mapr m.length)))) (newB m t (.imap kk [])) := by
 obtain ⟨kt, et, h1, h2⟩ := mapKind_spec hk
 have hpush : MemRel (ρ ++ [⟨w.heap.size, 0, 0⟩]) B W (w.alloc (.map #[] 0)) (m ++ [⟨true, .imap kk []⟩]) := by
  refine (hm.alloc _).push _ _ (fun h => by cases h) (fun _ _ hb => Nat.lt_irrefl _ (hm.base _ hb)) (fun kk' l' h => ?_) (fun _ _ _ _ _ _ _ h _ _ => by simp at h)
  injection h with e1 e2; subst e1; subst e2
  refine ⟨⟨#[], 0, heap_alloc_new w _, rfl⟩, fun j e s kk' l' he hs hc => ?_⟩
  obtain ⟨es, cl, g1, _⟩ := hm.maps j e s kk' l' he hs hc
  have := (Array.getElem?_eq_some_iff.1 g1).1
  simp only; omega
 have hrun : (Instr.makeMap t (r.map a.eval)).run P w = .ok (.map (some w.heap.size)) (w.alloc (.map #[] 0)) := by
  unfold resOk at hr
  cases r with
  | none => simp [Instr.makeMap, run_newObj]
  | some o =>
   simp only at hr
   split at hr
   ·rename_i k' x hx
    have hx := (cOf_rel hs hx).1
    simp only [C.rel] at hx
    simp [Instr.makeMap, run_newObj, run_underlying h1, asInt, asIntOf, hx]
   ·cases hr
 refine ⟨_, w.alloc (.map #[] 0), [⟨w.heap.size, 0, 0⟩], by simp only [Sem.run_bind, hrun, Result.andThen_ok, Sem.run_pure], ⟨_, rfl, ⟨⟨_, getLen hm _, rfl⟩, rfl⟩⟩, hpush, Ext.alloc w _⟩
theorem setM_none {n : Int} {y : V1} : ∀ {l : List (Int × V1)}, findM l n = none → setM l n y = l ++ [(n, y)]
 | [], _ => rfl
 | (k, v) :: r, h => by
  simp only [findM] at h
  by_cases hn : n = k
  ·simp [hn] at h
  ·simp only [hn, decide_false] at h
   simp only [setM, hn, decide_false, setM_none h, List.cons_append]
theorem ent_push {kk : IntKind} {n : Int} {y : V1} {u : Value} {c : Nat} (hy : y.rel ρ u) : ∀ {l : List (Int × V1)} {es : List MapEntry}, entRel ρ kk l es → entRel ρ kk (l ++ [(n, y)]) (es ++ [{ key := .int kk n, val := u, born := c }])
 | [], _, h => by simp only [entRel] at h; subst h; exact ⟨_, [], rfl, rfl, hy, rfl⟩
 | (_, _) :: _, _, h => by obtain ⟨e, r', rfl, h2, h3, h4⟩ := h; exact ⟨e, _, rfl, h2, h3, ent_push hy h4⟩
theorem ent_set {k0 kk : IntKind} {n : Int} {y : V1} {u : Value} (hy : y.rel ρ u) : ∀ {l : List (Int × V1)} {es : List MapEntry} (i : Nat) {j : Nat} {x : Value}, entRel ρ kk l es → Instr.findNow (.int k0) (.int kk n) es i = some (some (i + j, x)) →
  ∃ e, es[j]? = some e ∧ e.key = .int kk n ∧ entRel ρ kk (setM l n y) (es.modify j fun e => { e with key := .int kk n, val := u })
 | [], _, i, j, x, h, hf => by
  simp only [entRel] at h; subst h
  simp [Instr.findNow] at hf
 | (k, v) :: r, es, i, j, x, h, hf => by
  obtain ⟨e, r', rfl, h1, h2, h3⟩ := h
  simp only [Instr.findNow, h1, sameNow_int] at hf
  by_cases hn : n = k
  ·subst hn
   simp only [beq_self_eq_true] at hf
   injection hf with hf; injection hf with hf; injection hf with hf _
   have : j = 0 := by omega
   subst this
   exact ⟨e, rfl, h1, by simp only [setM, decide_true, List.modify_zero_cons]; exact ⟨_, _, rfl, rfl, hy, h3⟩⟩
  ·have hb : (n == k) = false := by simpa using hn
   simp only [hb] at hf
   have hj : ∃ j', j = j' + 1 := by
    cases j with
    | succ j' => exact ⟨j', rfl⟩
    | zero =>
     exfalso
     obtain ⟨q, g1, g2⟩ := findNow_ent (k0 := k0) (n := n) (i + 1) h3
     rw [hf] at g1
     injection g1 with g1
     subst g1
     cases hfm : findM r n with
     | none => rw [hfm] at g2; cases g2
     | some v' =>
      rw [hfm] at g2
      obtain ⟨j2, x2, g3, _⟩ := g2
      injection g3 with g3; injection g3 with g3 _
      omega
   obtain ⟨j', rfl⟩ := hj
   rw [show i + (j' + 1) = i + 1 + j' by omega] at hf
   obtain ⟨e', g1, g2, g3⟩ := ent_set hy (i + 1) h3 hf
   refine ⟨e', by simpa using g1, g2, ?_⟩
   simp only [setM, hn, decide_false, List.modify_succ_cons]
   exact ⟨e, _, rfl, h1, h2, g3⟩
theorem evPutM_sound {B : Nat → Prop} {W w : World} {m : List SB} (hm : MemRel ρ B W w m) {t : TypeId} {b : Nat} {k : IntKind} {n : Int} {y : V1} {h h' : List Bool} {v : Option V} {m' : List SB} {ps : List Prop}
  (hev : evPutM P m t b k n y h = some (v, m', h', ps)) {um uk u : Value} (hb : (C.mapr b).rel ρ um) (hk : (C.int k n).rel ρ uk) (hy : y.rel ρ u) :
  RWs P B W w (do Instr.mapUpdate t um uk u; pure Next.skip) ρ v m' := by
 unfold evPutM at hev
 split at hev
 ·rename_i k0 kk l hkd hs
  split at hev
  ·rename_i hkk
   have hkk := of_decide_eq_true hkk; subst hkk
   injection hev with hev; injection hev with e1 e2; injection e2 with e2 e3
   subst e1; subst e2
   obtain ⟨kt, et, ht, hkt⟩ := mapKind_spec hkd
   obtain ⟨e, he, rfl⟩ := hb
   simp only [C.rel] at hk; subst hk
   obtain ⟨es, clock, hh, hent⟩ := hm.maps b e _ k l he hs rfl
   have hlt := (Array.getElem?_eq_some_iff.1 hh).1
   obtain ⟨r, g1, g2⟩ := findNow_ent (k0 := k0) (n := n) 0 hent
   have hck : (Instr.checkKey false 10000 kt (.int k n)).run P w = .ok () w := by
    unfold Instr.checkKey
    simp only [Sem.run_bind, run_underlying hkt, Result.andThen]
    rfl
   have hfk : (Instr.findKey kt (.int k n) es.toList).run P w = .ok r w := by simp [Instr.findKey, run_underlying hkt, Result.andThen, g1]
   have hout : ∃ es' clock', (Instr.mapUpdate t (.map (some e.blk)) (.int k n) u).run P w = .ok () { w with heap := w.heap.setIfInBounds e.blk (.map es' clock') } ∧ entRel ρ k (setM l n y) es'.toList := by
    cases hf : findM l n with
    | none =>
     rw [hf] at g2; subst g2
     refine ⟨es.push { key := .int k n, val := u, born := clock }, clock + 1, ?_, by rw [Array.toList_push, setM_none hf]; exact ent_push hy hent⟩
     simp only [Instr.mapUpdate, Sem.run_bind, run_underlying ht, Result.andThen_ok, getMapRun hh, hck, hfk, setMapRun _ hh]
    | some v' =>
     rw [hf] at g2
     obtain ⟨j, x, rfl, _⟩ := g2
     obtain ⟨e', q1, q2, q3⟩ := ent_set (ρ := ρ) hy 0 hent g1
     rw [Nat.zero_add] at *
     refine ⟨es.modify j fun e => { e with key := .int k n, val := u }, clock, ?_, by simpa using q3⟩
     have hkey : (Option.map (·.key) es[j]?).getD (Value.int k n) = .int k n := by
      have : es[j]? = some e' := by simpa using q1
      rw [this]; exact q2
     have hstay : (Instr.keyThatStays ((Option.map (·.key) es[j]?).getD (Value.int k n)) (.int k n)).run P w = .ok (.int k n) w := by
      rw [hkey]
      simp [Instr.keyThatStays, Instr.sameBits]
     simp only [Instr.mapUpdate, Sem.run_bind, run_underlying ht, Result.andThen_ok, getMapRun hh, hck, hfk, hstay, setMapRun _ hh]
   obtain ⟨es', clock', hrun, hent'⟩ := hout
   have hother : ∀ q, q ≠ e.blk → (w.heap.setIfInBounds e.blk (.map es' clock'))[q]? = w.heap[q]? := fun q hq => Array.getElem?_setIfInBounds_ne (Ne.symm hq)
   have hnb : ¬ B e.blk := hm.own b e _ he hs rfl (.inr ⟨_, _, rfl⟩)
   refine ⟨.skip, { w with heap := w.heap.setIfInBounds e.blk (.map es' clock') }, [], by simp only [Sem.run_bind, hrun, Result.andThen_ok, Sem.run_pure], rfl, ?_⟩
   rw [List.append_nil]
   refine ⟨hm.below.trans ⟨rfl, rfl, rfl, by simp, fun q hq => hother q (fun h => hnb (h ▸ hq))⟩, fun q hq => by simpa using hm.base q hq, by rw [setBlk_length]; exact hm.len, ?_, ?_, ?_, ?_, ?_⟩
   ·intro i e1 s1 he1 hs1 hl
    rw [setBlk_get hs] at hs1
    by_cases hi : i = b
    ·rw [if_pos hi] at hs1; injection hs1 with hs1; subst hs1; cases hl
    ·rw [if_neg hi] at hs1
     obtain ⟨cur, ty, fz, q1, q2, q3, q4⟩ := hm.blk i e1 s1 he1 hs1 hl
     refine ⟨cur, ty, fz, q1.imp_right fun q => ?_, q2, q3, q4⟩
     show (w.heap.setIfInBounds e.blk (.map es' clock'))[e1.blk]? = _
     rw [hother _ (fun hq => by rw [hq, hh] at q; cases q)]
     exact q
   ·intro i e1 s1 he1 hs1 ho hsol
    rw [setBlk_get hs] at hs1
    by_cases hi : i = b
    ·subst hi; rw [he] at he1; injection he1 with he1; subst he1; exact hnb
    ·rw [if_neg hi] at hs1; exact hm.own i e1 s1 he1 hs1 ho hsol
   ·intro i j e1 e2 s1 s2 hne he1 he2 hs1 hs2 ho hl1 hl2
    rw [setBlk_get hs] at hs1 hs2
    by_cases hi : i = b
    ·rw [if_pos hi] at hs1; injection hs1 with hs1; subst hs1; cases hl1
    ·rw [if_neg hi] at hs1
     by_cases hj : j = b
     ·rw [if_pos hj] at hs2; injection hs2 with hs2; subst hs2; cases hl2
     ·rw [if_neg hj] at hs2
      exact hm.sep i j e1 e2 s1 s2 hne he1 he2 hs1 hs2 ho hl1 hl2
   ·intro i e1 s1 kk1 l1 he1 hs1 hc1
    rw [setBlk_get hs] at hs1
    by_cases hi : i = b
    ·rw [if_pos hi] at hs1; injection hs1 with hs1; subst hs1
     injection hc1 with c1 c2; subst c1; subst c2
     subst hi; rw [he] at he1; injection he1 with he1; subst he1
     exact ⟨es', clock', by show (w.heap.setIfInBounds e.blk (.map es' clock'))[e.blk]? = _; rw [Array.getElem?_setIfInBounds_self_of_lt hlt], hent'⟩
    ·rw [if_neg hi] at hs1
     obtain ⟨es1, cl1, q1, q2⟩ := hm.maps i e1 s1 kk1 l1 he1 hs1 hc1
     refine ⟨es1, cl1, ?_, q2⟩
     show (w.heap.setIfInBounds e.blk (.map es' clock'))[e1.blk]? = _
     rw [hother _ (hm.msep i b e1 e s1 _ kk1 k l1 l hi he1 he hs1 hs hc1 rfl)]
     exact q1
   ·intro i j e1 e2 s1 s2 kk1 kk2 l1 l2 hne he1 he2 hs1 hs2 hc1 hc2
    rw [setBlk_get hs] at hs1 hs2
    by_cases hi : i = b
    ·by_cases hj : j = b
     ·omega
     ·rw [if_neg hj] at hs2
      subst hi
      exact hm.msep i j e1 e2 _ s2 k kk2 l l2 hne he1 he2 hs hs2 rfl hc2
    ·rw [if_neg hi] at hs1
     by_cases hj : j = b
     ·subst hj
      exact hm.msep i j e1 e2 s1 _ kk1 k l1 l hne he1 he2 hs1 hs hc1 rfl
     ·rw [if_neg hj] at hs2
      exact hm.msep i j e1 e2 s1 s2 kk1 kk2 l1 l2 hne he1 he2 hs1 hs2 hc1 hc2
  ·cases hev
 ·cases hev
end
end Go.Sx
