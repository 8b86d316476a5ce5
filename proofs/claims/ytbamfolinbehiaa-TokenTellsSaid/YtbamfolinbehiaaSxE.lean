/- The symbolic evaluator: composite values; operations that only read. -/
import Derived.Test.YtbamfolinbehiaaSxC
namespace Go.Sx
open Go Go.RowKit
section
variable {ds : List Deferred}
variable {P : Program} {ρ : Env}
theorem layV (us : List Value) : ∀ (off k : Nat) (A : Array Value), off + k + us.length ≤ A.size →
  ((us.zipIdx k).foldl (fun cs x => cs.setIfInBounds (off + x.2) x.1) A).toList = A.toList.take (off + k) ++ (us ++ A.toList.drop (off + k + us.length)) := by
 induction us with
 | nil => intro off k A _; simp
 | cons u us ih =>
  intro off k A h
  simp only [List.length_cons] at h
  simp only [List.zipIdx_cons, List.foldl_cons]
  rw [ih off (k + 1) _ (by simp; omega)]
  simp only [Array.toList_setIfInBounds]
  have hlt : off + k < A.toList.length := by simp; omega
  rw [List.take_set, List.drop_set_of_lt (by omega)]
  have e1 : A.toList.take (off + (k + 1)) = A.toList.take (off + k) ++ [A.toList[off + k]] := by
   rw [show off + (k + 1) = off + k + 1 by omega, List.take_succ_eq_append_getElem hlt]
  rw [e1, List.set_append_right _ _ (by simp; omega)]
  have e2 : off + k - (A.toList.take (off + k)).length = 0 := by
   rw [List.length_take]; omega
  rw [e2]
  simp only [List.set_cons_zero, List.append_assoc, List.cons_append, List.nil_append, List.length_cons]
  congr 3
  congr 1
  omega
theorem lay_rel {l cs : List C} {A : List Value} {us : List Value} (off : Nat) (h : relL ρ l A) (h' : relL ρ cs us) : relL ρ (lay l off cs) (A.take off ++ (us ++ A.drop (off + us.length))) := by
 unfold lay
 rw [h'.length]
 exact (h.take off).append (h'.append (h.drop _))
theorem lay_one {l : List C} {off : Nat} {c : C} (h : off < l.length) : l.set off c = lay l off [c] := by
 unfold lay
 rw [List.set_eq_take_append_cons_drop, if_pos h]
 rfl
def relP (ρ : Env) : List (Nat × V) → List (Nat × Value) → Prop
 | [], us => us = []
 | (i, v) :: r, us => ∃ u s, us = (i, u) :: s ∧ v.rel ρ u ∧ relP ρ r s
theorem evParts_rel {n : Nat} {sl : Slots} {a : Act} (hs : SlotsRel ds ρ n sl a) : ∀ {l : List (Nat × Operand)} {ps : List (Nat × V)}, evParts sl l = some ps → relP ρ ps (l.map fun x => (x.1, a.eval x.2))
 | [], ps, h => by simp only [evParts, Option.some.injEq] at h; subst h; rfl
 | (i, o) :: r, ps, h => by
  simp only [evParts] at h
  split at h
  ·rename_i v hv
   split at h
   ·rename_i l' hl
    injection h with h; subst h
    exact ⟨a.eval o, _, rfl, evO_rel hs hv, evParts_rel hs hl⟩
   ·cases h
  ·cases h
theorem fillC_sound {pl : Nat → Option (Nat × Nat)} : ∀ {parts : List (Nat × V)} {us : List (Nat × Value)} {l l' : List C} {A : Array Value}, fillC pl l parts = some l' → relP ρ parts us → relL ρ l A.toList → (∀ x ∈ A.toList, x.oneCell' = true) →
  ∃ A', Instr.fill pl A us = some A' ∧ relL ρ l' A'.toList ∧ (∀ x ∈ A'.toList, x.oneCell' = true)
 | [], us, l, l', A, h, hu, hl, ho => by
  simp only [fillC, Option.some.injEq] at h; subst h
  subst hu
  exact ⟨A, rfl, hl, ho⟩
 | (i, v) :: parts, us, l, l', A, h, hu, hl, ho => by
  obtain ⟨u, s, rfl, hv, hs⟩ := hu
  have step : ∀ (off sz : Nat) (cs : List C) (vs : List Value), pl i = some (off, sz) → u.cells = vs.toArray → vs.length = sz → off + sz ≤ l.length → relL ρ cs vs → (∀ x ∈ vs, x.oneCell' = true) →
    fillC pl (lay l off cs) parts = some l' → ∃ A', Instr.fill pl A ((i, u) :: s) = some A' ∧ relL ρ l' A'.toList ∧ (∀ x ∈ A'.toList, x.oneCell' = true) := by
   intro off sz cs vs hp hc hlen hle hcs hone hf
   have hAl : A.toList.length = l.length := hl.length
   have hAs : A.size = l.length := by simpa using hAl
   simp only [Instr.fill, hp, hc]
   rw [if_neg (by simp [hlen]; omega)]
   have hfold : vs.toArray.zipIdx.foldl (fun cs x => cs.setIfInBounds (off + x.2) x.1) A = (vs.zipIdx 0).foldl (fun cs x => cs.setIfInBounds (off + x.2) x.1) A := by
    rw [← Array.foldl_toList]; simp
   have hlist := layV vs off 0 A (by rw [hAs]; omega)
   rw [Nat.add_zero] at hlist
   have hr : relL ρ (lay l off cs) ((vs.zipIdx 0).foldl (fun cs x => cs.setIfInBounds (off + x.2) x.1) A).toList := by
    rw [hlist]; exact lay_rel off hl hcs
   have ho' : ∀ x ∈ ((vs.zipIdx 0).foldl (fun cs x => cs.setIfInBounds (off + x.2) x.1) A).toList, x.oneCell' = true := by
    rw [hlist]
    intro x hx
    rcases List.mem_append.1 hx with hx | hx
    ·exact ho x (List.mem_of_mem_take hx)
    ·rcases List.mem_append.1 hx with hx | hx
     ·exact hone x hx
     ·exact ho x (List.mem_of_mem_drop hx)
   obtain ⟨A', h1, h2⟩ := fillC_sound hf hs hr ho'
   refine ⟨A', ?_, h2⟩
   rw [← h1]
   congr 1
  unfold fillC at h
  split at h
  ·rename_i heq; cases heq
  ·rename_i i' c r heq
   injection heq with heq hr; injection heq with hi hv'; subst hi; subst hv'; subst hr
   split at h
   ·rename_i off sz hp
    split at h
    ·rename_i hb
     simp only [Bool.and_eq_true] at hb
     have h1 := Nat.eq_of_beq_eq_true hb.1
     have h2 := Nat.le_of_ble_eq_true hb.2
     subst h1
     rw [lay_one (by omega)] at h
     have hcell : u.cells = [u].toArray := by
      have := hv.2
      cases u <;> first | rfl | simp [Value.oneCell'] at this
     exact step off 1 [c] [u] hp hcell rfl h2 ⟨u, [], rfl, hv.1, rfl⟩ (by simpa using hv.2) h
    ·cases h
   ·cases h
  ·rename_i i' cs r heq
   injection heq with heq hr; injection heq with hi hv'; subst hi; subst hv'; subst hr
   split at h
   ·rename_i off sz hp
    split at h
    ·rename_i hb
     simp only [Bool.and_eq_true] at hb
     have h1 := Nat.eq_of_beq_eq_true hb.1
     have h2 := Nat.le_of_ble_eq_true hb.2
     obtain ⟨vs, rfl, hcs, hone⟩ := hv
     exact step off sz cs vs hp rfl (by rw [hcs.length]; exact h1.symm) h2 hcs hone h
    ·cases h
   ·cases h
  ·cases h
theorem zeroC_sound {t : TypeId} {z : List C} (h : zeroC P t = some z) : ∃ inf zv, P.info? t = some inf ∧ inf.zero = some zv ∧ relL ρ z zv.cells.toList ∧ (∀ x ∈ zv.cells.toList, x.oneCell' = true) ∧ zv.cells.size = z.length := by
 unfold zeroC at h
 split at h
 ·rename_i inf hi
  split at h
  ·rename_i zv hz
   split at h
   ·rename_i hall
    injection h with h; subst h
    exact ⟨inf, zv, hi, hz, relL_ofC ρ _, fun x hx => List.all_eq_true.1 hall x hx, by simp⟩
   ·cases h
  ·cases h
 ·cases h
theorem zeroRun {t : TypeId} {inf : TypeInfo} {zv : Value} (h1 : P.info? t = some inf) (h2 : inf.zero = some zv) (w : World) : (zeroValue t).run P w = .ok zv w := by
 simp [zeroValue, typeInfo, h1, h2]
theorem mapM_places (fs : List Field) (h : ∀ f ∈ fs, (P.info? f.type).isSome = true) (w : World) :
  (fs.mapM fun f => (do pure (f.offset, ← sizeOf f.type) : Sem (Nat × Nat))).run P w = .ok (fs.map fun f => (f.offset, szT P f.type)) w := by
 induction fs with
 | nil => rfl
 | cons f fs ih =>
  obtain ⟨inf, hi⟩ := Option.isSome_iff_exists.1 (h f (by simp))
  have ih := ih (fun g hg => h g (by simp [hg]))
  simp only [List.mapM_cons, Sem.run_bind, sizeRun hi, Result.andThen_ok, Sem.run_pure, ih, List.map_cons, szT_eq hi]
theorem evBuild_sound {n : Nat} {sl : Slots} {a : Act} (hs : SlotsRel ds ρ n sl a) {t : TypeId} {parts : Array (Nat × Operand)} {v : V} {ps : List Prop} (h : evBuild P sl t parts.toList = some (v, ps)) :
  Pure P (Instr.build t (parts.map fun (i, x) => (i, a.eval x))) ρ v := by
 unfold evBuild at h
 split at h
 ·rename_i z pl qs hz hpl hqs
  split at h
  ·rename_i l hf
   injection h with h; injection h with h _; subst h
   obtain ⟨inf, zv, h1, h2, h3, h4, _⟩ := zeroC_sound (P := P) (ρ := ρ) hz
   obtain ⟨A', hA, hr, ho⟩ := fillC_sound hf (evParts_rel hs hqs) h3 h4
   have hparts : (parts.map fun x => (x.1, a.eval x.2)).toList = parts.toList.map fun x => (x.1, a.eval x.2) := by simp
   refine ⟨.agg A', ⟨A'.toList, by simp, hr, ho⟩, fun w => ?_⟩
   unfold placeOf at hpl
   simp only [Instr.build, Sem.run_bind, zeroRun h1 h2, Result.andThen_ok]
   split at hpl
   ·rename_i fs ht
    split at hpl
    ·rename_i hall
     injection hpl with hpl
     have hm := mapM_places (P := P) fs.toList (fun f hf => by
      have := Array.all_eq_true_iff_forall_mem.1 hall f (by simpa using hf)
      exact this) w
     have hmA : (fs.mapM fun f => (do pure (f.offset, ← sizeOf f.type) : Sem (Nat × Nat))).run P w = .ok (fs.map fun f => (f.offset, szT P f.type)) w := by
      rw [Array.mapM_eq_mapM_toList, Sem.run_map, hm]
      simp only [Result.andThen_ok]
      congr 1
      apply Array.ext'
      simp
     have hplace : (fun i => (fs.map fun f => (f.offset, szT P f.type))[i]?) = pl := by
      rw [← hpl]
      funext i
      rw [Array.getElem?_map]
      cases fs[i]? <;> rfl
     simp only [run_underlying ht, Result.andThen_ok, Sem.run_bind, hmA, hplace, hparts, hA, Sem.run_pure]
    ·cases hpl
   ·rename_i k e ht
    split at hpl
    ·rename_i hsome
     injection hpl with hpl
     obtain ⟨ie, hie⟩ := Option.isSome_iff_exists.1 hsome
     have hplace : (fun i => some (i * ie.size, ie.size)) = pl := by rw [← hpl, szT_eq hie]
     simp only [run_underlying ht, Result.andThen_ok, Sem.run_bind, sizeRun hie, hplace, hparts, hA, Sem.run_pure]
    ·cases hpl
   ·cases hpl
  ·cases h
 ·cases h
end
end Go.Sx
