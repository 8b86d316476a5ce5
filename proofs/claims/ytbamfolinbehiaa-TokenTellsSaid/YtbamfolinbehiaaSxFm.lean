/- The symbolic evaluator: maps that are read. -/
import Derived.Test.YtbamfolinbehiaaSxF
import Derived.MapKept
namespace Go.Sx
open Go Go.RowKit
section
variable {P : Program} {ρ : Env}
theorem getMapRun {w : World} {r : Nat} {es : Array MapEntry} {clock : Nat} (hb : w.heap[r]? = some (.map es clock)) : (getObj r).run P w = .ok (.map es clock) w := by
 simp [getObj, Sem.run, hb]
theorem setMapRun {w : World} {r : Nat} {es : Array MapEntry} {clock : Nat} (o : Obj) (hb : w.heap[r]? = some (.map es clock)) : (setObj r o).run P w = .ok () { w with heap := w.heap.setIfInBounds r o } := by
 simp [setObj, Sem.run, hb]
theorem sameNow_int (k0 k : IntKind) (a b : Int) : Instr.sameNow (.int k0) (.int k a) (.int k b) = some (a == b) := by simp [Instr.sameNow]
theorem findNow_ent {k0 kk : IntKind} {n : Int} : ∀ {l : List (Int × V1)} {es : List MapEntry} (i : Nat), entRel ρ kk l es →
  ∃ r, Instr.findNow (.int k0) (.int kk n) es i = some r ∧ (match findM l n with | some v => ∃ j x, r = some (i + j, x) ∧ v.rel ρ x ∧ ∃ e, es[j]? = some e ∧ e.key = .int kk n | none => r = none)
 | [], _, i, h => by
  simp only [entRel] at h; subst h
  exact ⟨none, rfl, rfl⟩
 | (k, v) :: r, es, i, h => by
  obtain ⟨e, r', rfl, h1, h2, h3⟩ := h
  simp only [Instr.findNow, h1, sameNow_int, findM]
  by_cases hn : n = k
  ·subst hn
   simp only [beq_self_eq_true, decide_true]
   exact ⟨_, rfl, 0, e.val, rfl, h2, e, rfl, h1⟩
  ·have hb : (n == k) = false := by simpa using hn
   simp only [hb, hn, decide_false]
   obtain ⟨q, g1, g2⟩ := findNow_ent (k0 := k0) (n := n) (i + 1) h3
   refine ⟨q, g1, ?_⟩
   cases hf : findM r n with
   | none => rw [hf] at g2; exact g2
   | some v' =>
    rw [hf] at g2
    obtain ⟨j, x, g3, g4, e', g5, g6⟩ := g2
    exact ⟨j + 1, x, by rw [g3, show i + 1 + j = i + (j + 1) by omega], g4, e', by simpa using g5, g6⟩
theorem assocI_find {vk : IntKind} : ∀ {l : List (Int × V1)} {n : Int}, intsM vk l = true → (match findM l n with | some v => v = .one (.int vk (assocI l n)) | none => assocI l n = 0)
 | [], n, _ => rfl
 | (k, v) :: r, n, h => by
  unfold intsM at h
  split at h
  ·rename_i he; cases he
  ·rename_i k0 k' x r' he
   injection he with he1 he2
   injection he1 with e1 e2; subst e1; subst e2; subst he2
   split at h
   ·rename_i hk
    have hk := of_decide_eq_true hk
    subst hk
    simp only [findM, assocI]
    by_cases hn : n = k
    ·simp [hn]
    ·simp only [hn, decide_false, if_false]
     exact assocI_find h
   ·cases h
  ·cases h
theorem isIntT_spec {t : TypeId} (h : isIntT P t = true) : ∃ k, P.underlying t = some (.int k) := by
 unfold isIntT at h
 split at h
 ·exact ⟨_, ‹_›⟩
 ·cases h
theorem zeroV_spec {t : TypeId} {z : V1} (h : zeroV P t = some z) : ∃ u, z.rel ρ u ∧ ∀ w, (zeroValue t).run P w = .ok u w := by
 unfold zeroV at h
 split at h
 ·rename_i inf hi
  split at h
  ·rename_i zz hz
   split at h
   ·rename_i x hx
    injection h with h; subst h
    exact ⟨zz, ofV_rel (ρ := ρ) hx, fun w => zeroRun hi hz w⟩
   ·cases h
  ·cases h
 ·cases h
theorem blkC_map {m : List SB} {b : Nat} {kk : IntKind} {l : List (Int × V1)} (h : blkC m b = .imap kk l) : ∃ s, m[b]? = some s ∧ s.c = .imap kk l := by
 unfold blkC at h
 split at h
 ·rename_i s hs; exact ⟨s, hs, h⟩
 ·cases h
theorem evLook_sound {B : Nat → Prop} {W w : World} {m : List SB} (hm : MemRel ρ B W w m) {t : TypeId} {b : Nat} {key : C} {ok : Bool} {v : V} {ps : List Prop}
  (h : evLook P m t b key ok = some (v, ps)) {e : E} (he : ρ[b]? = some e) {uk : Value} (hk : key.rel ρ uk) :
  ∃ r, v.rel ρ r ∧ ∀ w', Ext w w' → (Instr.lookup t (.map (some e.blk)) uk ok).run P w' = .ok r w' := by
 unfold evLook at h
 split at h
 ·rename_i kt et kk l ht hb
  obtain ⟨s, hs, hsc⟩ := blkC_map hb
  obtain ⟨es, clock, hh, hent⟩ := hm.maps b e s kk l he hs hsc
  have hheap : ∀ w', Ext w w' → w'.heap[e.blk]? = some (.map es clock) := fun w' hx => by rw [hx.2 _ (Array.getElem?_eq_some_iff.1 hh).1]; exact hh
  split at h
  ·rename_i z hkt hz
   obtain ⟨k0, hk0⟩ := isIntT_spec hkt
   obtain ⟨zu, hzr, hzrun⟩ := zeroV_spec (ρ := ρ) hz
   have run : ∀ (n : Int) (a : Option (Nat × Value)), Instr.findNow (.int k0) (.int kk n) es.toList 0 = some a → ∀ w', Ext w w' →
     (Instr.lookup t (.map (some e.blk)) (.int kk n) ok).run P w' = .ok (match a with | some (_, x) => if ok then .tuple #[x, .bool true] else x | none => if ok then .tuple #[zu, .bool false] else zu) w' := by
    intro n a ha w' hx
    have hck : (Instr.checkKey es.isEmpty 10000 kt (.int kk n)).run P w' = .ok () w' := by
     unfold Instr.checkKey
     simp only [Sem.run_bind, run_underlying hk0, Result.andThen]
     rfl
    have hfk : (Instr.findKey kt (.int kk n) es.toList).run P w' = .ok a w' := by simp [Instr.findKey, run_underlying hk0, Result.andThen, ha]
    simp only [Instr.lookup, Sem.run_bind, run_underlying ht, Result.andThen_ok, getMapRun (hheap w' hx), Sem.run_pure, hck, hfk]
    cases a with
    | none => cases ok <;> simp [hzrun w']
    | some p => obtain ⟨j, x⟩ := p; cases ok <;> simp
   split at h
   ·rename_i k n
    simp only [C.rel] at hk
    subst hk
    obtain ⟨r, g1, g2⟩ := findNow_ent (k0 := k0) (n := n) 0 hent
    split at h
    ·rename_i v' hkk hf
     have hkk := of_decide_eq_true hkk; subst hkk
     rw [hf] at g2
     obtain ⟨j, x, rfl, g4, _⟩ := g2
     injection h with h; injection h with h _; subst h
     exact ⟨x, g4, fun w' hx => run n _ g1 w' hx⟩
    ·rename_i hkk hf
     have hkk := of_decide_eq_true hkk; subst hkk
     rw [hf] at g2; subst g2
     injection h with h; injection h with h _; subst h
     exact ⟨zu, hzr, fun w' hx => run n _ g1 w' hx⟩
    ·rename_i v' hkk hf
     have hkk := of_decide_eq_true hkk; subst hkk
     rw [hf] at g2
     obtain ⟨j, x, rfl, g4, _⟩ := g2
     injection h with h; injection h with h _; subst h
     exact ⟨.tuple #[x, .bool true], ⟨[x, .bool true], rfl, x, _, rfl, g4, _, _, rfl, ⟨rfl, rfl⟩, rfl⟩, fun w' hx => run n _ g1 w' hx⟩
    ·rename_i hkk hf
     have hkk := of_decide_eq_true hkk; subst hkk
     rw [hf] at g2; subst g2
     injection h with h; injection h with h _; subst h
     exact ⟨.tuple #[zu, .bool false], ⟨[zu, .bool false], rfl, zu, _, rfl, hzr, _, _, rfl, ⟨rfl, rfl⟩, rfl⟩, fun w' hx => run n _ g1 w' hx⟩
    ·cases h
   ·rename_i k n
    simp only [C.rel] at hk
    subst hk
    obtain ⟨r, g1, g2⟩ := findNow_ent (k0 := k0) (n := n) 0 hent
    split at h
    ·rename_i vk hkk
     have hkk := of_decide_eq_true hkk; subst hkk
     split at h
     ·rename_i hi
      have ha := assocI_find (n := n) hi
      injection h with h; injection h with h _; subst h
      cases hf : findM l n with
      | none =>
       rw [hf] at ha g2
       simp only at ha g2
       subst g2
       refine ⟨zu, ?_, fun w' hx => run n _ g1 w' hx⟩
       have := hzr.1
       simp only [C.rel] at this
       subst this
       exact ⟨by simp only [C.rel]; rw [ha], rfl⟩
      | some v' =>
       rw [hf] at ha g2
       simp only at ha g2
       subst ha
       obtain ⟨j, x, rfl, g4, _⟩ := g2
       exact ⟨x, g4, fun w' hx => run n _ g1 w' hx⟩
     ·cases h
    ·cases h
   ·cases h
  ·cases h
 ·cases h
end
end Go.Sx
