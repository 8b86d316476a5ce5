/- The symbolic evaluator: operations that only read. -/
import Derived.Test.YtbamfolinbehiaaSxE
namespace Go.Sx
open Go Go.RowKit
section
variable {P : Program} {ρ : Env}
theorem isAggRun {t : TypeId} {b : Bool} (h : isAggT P t = some b) (w : World) : (isAgg t).run P w = .ok b w := by
 unfold isAggT at h
 split at h
 ·rename_i fs ht; injection h with h; subst h; simp [isAgg, run_underlying ht]
 ·rename_i k e ht; injection h with h; subst h; simp [isAgg, run_underlying ht]
 ·rename_i d h1 h2 ht
  injection h with h; subst h
  simp only [isAgg, Sem.run_bind, run_underlying ht, Result.andThen_ok]
  cases d <;> first | rfl | exact absurd ht (h1 _) | exact absurd ht (h2 _ _)
 ·cases h
theorem loadRO {B : Nat → Prop} {W w : World} {m : List SB} (hm : MemRel ρ B W w m) {b : Nat} {e : E} (he : ρ[b]? = some e) {i : N} {st sub : Nat} {t : TypeId} {v : V} {ps : List Prop}
  (h : (match isAggT P t with
   | some true => match P.info? t with
    | some inf => ldA (blkC m b) i st sub inf.size
    | none => none
   | some false => match ldC (blkC m b) i st sub with
    | some (c, ps) => oneP c ps
    | none => none
   | none => none) = some (v, ps)) (hp : ∀ p ∈ ps, p) :
  ∃ u, v.rel ρ u ∧ ∀ w', CX w w' → (loadVar t ⟨e.blk, e.off + (i.v * st + sub), none⟩).run P w' = .ok u w' := by
 split at h
 ·rename_i ha
  split at h
  ·rename_i inf hi
   obtain ⟨us, hl, hv, hc⟩ := ldA_sound hm he h hp
   refine ⟨_, hv, fun w' hw => ?_⟩
   have := run_loadCells_list (P := P) w' ⟨e.blk, e.off + (i.v * st + sub), none⟩ us (fun j u hj => by rw [Addr.add_lit]; exact hw _ _ (hc j u hj))
   rw [hl] at this
   simp only [loadVar, Sem.run_bind, isAggRun ha, Result.andThen_ok, if_true, sizeRun hi, this, Sem.run_pure]
  ·cases h
 ·rename_i ha
  split at h
  ·rename_i c qs hc
   obtain ⟨rfl, hps⟩ := oneP_eq h
   subst hps
   obtain ⟨u, h1, h2, h3⟩ := ldC_sound hm he hc hp
   refine ⟨u, ⟨h1, h2⟩, fun w' hw => ?_⟩
   simp only [loadVar, Sem.run_bind, isAggRun ha, Result.andThen_ok, Bool.false_eq_true, if_false, run_load, hw _ _ h3]
  ·cases h
 ·cases h
theorem ptrCut' {B : Nat → Prop} {W w : World} {m : List SB} (hm : MemRel ρ B W w m) {e : TypeId} {n b st sub : Nat} {i : N} {lo hi : Option C} {lo' hi' : Option Value} {v : V} {ps : List Prop}
  (h : (match i, Nat.ble 1 (szT P e) && Nat.ble n 9223372036854775807, fits (blkC m b) (n * szT P e) with
   | .c k, true, some qs => match decide (k * st + sub = 0) with
    | true => match rng (.c n) (.c n) lo hi with
     | some (a, h, ps) => oneP (.slice b a (szT P e) (h.sub a) ((N.c n).sub a)) (ps ++ qs)
     | none => none
    | false => none
   | _, _, _ => none) = some (v, ps)) (hp : ∀ p ∈ ps, p) (hl : relO ρ lo lo') (hh : relO ρ hi hi') {en : E} (hb : ρ[b]? = some en) :
  ∃ u, v.rel ρ u ∧ ∀ w, (do
   let (l, h, m) ← Instr.sliceBounds false n n lo' hi' none
   let size ← sizeOf e
   pure (Value.slice (some (if m = l then ⟨en.blk, en.off + (i.v * st + sub), none⟩ else (⟨en.blk, en.off + (i.v * st + sub), none⟩ : Addr).add (l * size))) (h - l) (m - l)) : Sem Value).run P w = .ok u w := by
 split at h
 ·rename_i k qs hs hf
  simp only [Bool.and_eq_true] at hs
  have h1 := Nat.le_of_ble_eq_true hs.1
  have h2 := Nat.le_of_ble_eq_true hs.2
  have hqs : ∀ p ∈ qs, p := by
   split at h
   ·split at h
    ·obtain ⟨_, rfl⟩ := oneP_eq h
     exact fun p hm => hp p (by simp [hm])
    ·cases h
   ·cases h
  exact ptrCut h1 h hp hl hh h2 hb (fun hn => hm.fits hb hf hqs (Nat.mul_pos hn h1))
 ·cases h
theorem evSlice_sound {B : Nat → Prop} {W w : World} {m : List SB} (hm : MemRel ρ B W w m) {t : TypeId} {x : C} {a : Value} {lo hi : Option C} {lo' hi' : Option Value} {v : V} {ps : List Prop}
  (h : evSlice P m t x lo hi = some (v, ps)) (hp : ∀ p ∈ ps, p) (hx : x.rel ρ a) (hl : relO ρ lo lo') (hh : relO ρ hi hi') : Pure P (Instr.sliceAt t a lo' hi' none) ρ v := by
 unfold evSlice at h
 split at h <;> simp only [C.rel] at hx
 ·rename_i l ht
  subst hx
  have hsz : (⟨l.toArray⟩ : ByteArray).size = l.length := by show l.toArray.size = _; simp
  split at h
  ·rename_i p q qs hr
   obtain ⟨rfl, hps⟩ := oneP_eq h
   subst hps
   obtain ⟨_, _, h3⟩ := rng_sound (P := P) hr hp hl hh false l.length (Nat.le_refl _) (Nat.le_refl _)
   exact mkPure (fun w => by
    have h3 := h3 w
    simp only [N.v] at h3
    simp only [Instr.sliceAt, Instr.slice, Sem.run_bind, run_underlying ht, Result.andThen_ok, Option.isSome_none, Bool.false_eq_true, if_false, hsz, h3, Sem.run_pure]
    rw [extract_mk]) rfl rfl
  ·rename_i p q qs hne hr
   obtain ⟨rfl, hps⟩ := oneP_eq h
   subst hps
   obtain ⟨_, _, h3⟩ := rng_sound (P := P) hr hp hl hh false l.length (Nat.le_refl _) (Nat.le_refl _)
   exact mkPure (fun w => by
    have h3 := h3 w
    rw [show (N.c l.length).v = l.length from rfl] at h3
    simp only [Instr.sliceAt, Instr.slice, Sem.run_bind, run_underlying ht, Result.andThen_ok, Option.isSome_none, Bool.false_eq_true, if_false, hsz, h3, Sem.run_pure]
    rw [extract_mk]) rfl rfl
  ·cases h
 ·rename_i l ht
  subst hx
  have hsz : (⟨l.toArray⟩ : ByteArray).size = l.length := by show l.toArray.size = _; simp
  split at h
  ·rename_i p q qs hr
   obtain ⟨rfl, hps⟩ := oneP_eq h
   subst hps
   obtain ⟨_, _, h3⟩ := rng_sound (P := P) hr hp hl hh false l.length (Nat.le_refl _) (Nat.le_refl _)
   exact mkPure (fun w => by
    have h3 := h3 w
    rw [show (N.s l.length).v = l.length from rfl] at h3
    simp only [Instr.sliceAt, Instr.slice, Sem.run_bind, run_underlying ht, Result.andThen_ok, Option.isSome_none, Bool.false_eq_true, if_false, hsz, h3, Sem.run_pure]
    rw [extract_mk]) rfl rfl
  ·cases h
 ·rename_i e b i st len cl ht
  obtain ⟨en, hb, hu⟩ := hx
  split at h
  ·rename_i hs
   simp only [Bool.and_eq_true] at hs
   have h1 := Nat.eq_of_beq_eq_true hs.1
   have h2 := Nat.le_of_ble_eq_true hs.2
   obtain ⟨inf, hi, hsi⟩ := szT_pos (P := P) (e := e) (by omega)
   split at h
   ·rename_i p q qs hr
    obtain ⟨rfl, hps⟩ := oneP_eq h
    subst hps
    rcases hu with ⟨h0, h0', rfl⟩ | ⟨o, cap, rfl, hlc, hcc, hcm, hoff⟩
    ·obtain ⟨g1, g2, h3⟩ := rng_sound (P := P) hr hp hl hh true 0 (by omega) (by omega)
     refine mkPure (u := .slice none 0 0) (fun w => ?_) ⟨en, hb, .inl ⟨by rw [N.sub_v]; omega, by rw [N.sub_v]; omega, rfl⟩⟩ rfl
     have h3 := h3 w
     rw [h0] at h3
     simp only [Instr.sliceAt, Instr.slice, Sem.run_bind, run_underlying ht, Result.andThen_ok, h3, sizeRun hi, Sem.run_pure]
     have e1 : p.v = 0 := by omega
     have e2 : q.v = 0 := by omega
     rw [e1, e2]
     rfl
    ·obtain ⟨g1, g2, h3⟩ := rng_sound (P := P) hr hp hl hh true cap hcc hlc
     refine mkPure (u := .slice (if cap = p.v then some ⟨en.blk, o, none⟩ else (some ⟨en.blk, o, none⟩ : Option Addr).map (·.add (p.v * inf.size))) (q.v - p.v) (cap - p.v)) (fun w => ?_) ⟨en, hb, .inr ?_⟩ ?_
     ·have h3 := h3 w
      simp only [Instr.sliceAt, Instr.slice, Sem.run_bind, run_underlying ht, Result.andThen_ok, h3, sizeRun hi, Sem.run_pure]
     ·by_cases hcp : cap = p.v
      ·refine ⟨o, cap - p.v, by rw [if_pos hcp, N.sub_v], ?_, ?_, by omega, .inl (by omega)⟩
       ·rw [N.sub_v, N.sub_v]; omega
       ·rw [N.sub_v]; omega
      ·refine ⟨o + p.v * inf.size, cap - p.v, by rw [if_neg hcp, N.sub_v, Option.map_some, Addr.add_lit], ?_, ?_, by omega, ?_⟩
       ·rw [N.sub_v, N.sub_v]; omega
       ·rw [N.sub_v]; omega
       ·rcases hoff with h0 | ⟨hof, hfit⟩
        ·exact .inl (by omega)
        ·refine .inr ⟨?_, ?_⟩
         ·rw [hof, N.add_v, ← h1, hsi, Nat.add_mul, Nat.add_assoc]
         ·rw [← h1, hsi] at hfit ⊢
          rw [Nat.add_assoc, ← Nat.add_mul, show p.v + (cap - p.v) = cap by omega]
          exact hfit
     ·split <;> rfl
   ·cases h
  ·cases h
 ·rename_i e ht
  subst hx
  split at h
  ·rename_i p q qs hsome hr
   obtain ⟨rfl, hps⟩ := oneP_eq h
   subst hps
   obtain ⟨inf, hi⟩ := Option.isSome_iff_exists.1 hsome
   obtain ⟨g1, g2, h3⟩ := rng_sound (P := P) hr hp hl hh true 0 (Nat.le_refl _) (Nat.le_refl _)
   have g2 : q.v ≤ 0 := g2
   have e1 : p.v = 0 := by omega
   have e2 : q.v = 0 := by omega
   exact mkPure (u := .slice none 0 0) (fun w => by
    have h3 := h3 w
    rw [show (N.c 0).v = 0 from rfl] at h3
    simp only [Instr.sliceAt, Instr.slice, Sem.run_bind, run_underlying ht, Result.andThen_ok, h3, sizeRun hi, Sem.run_pure]
    rw [e1, e2]
    rfl) rfl rfl
  ·cases h
 ·rename_i ar b i st sub ht
  obtain ⟨en, hb, rfl⟩ := hx
  split at h
  ·rename_i n e har
   obtain ⟨u, hu, hrun⟩ := ptrCut' hm h hp hl hh hb
   refine ⟨u, hu, fun w => ?_⟩
   have := hrun w
   simp only [Sem.run_bind] at this
   simp only [Instr.sliceAt, Instr.slice, Sem.run_bind, run_underlying ht, Result.andThen_ok, asAddr, Sem.run_pure, run_underlying har]
   exact this
  ·cases h
 ·rename_i n e b i st sub ht
  obtain ⟨en, hb, rfl⟩ := hx
  obtain ⟨u, hu, hrun⟩ := ptrCut' hm h hp hl hh hb
  refine ⟨u, hu, fun w => ?_⟩
  have := hrun w
  simp only [Sem.run_bind] at this
  simp only [Instr.sliceAt, Sem.run_bind, run_underlying ht, Result.andThen_ok, Instr.sureAddr, Sem.run_pure]
  exact this
 ·cases h
theorem evSlice3_sound {t : TypeId} {x lo hi mx : C} {a lo' hi' mx' : Value} {v : V} {ps : List Prop}
  (h : evSlice3 P t x lo hi mx = some (v, ps)) (hp : ∀ p ∈ ps, p) (hx : x.rel ρ a) (hl : lo.rel ρ lo') (hh : hi.rel ρ hi') (hm : mx.rel ρ mx') : Pure P (Instr.sliceAt t a (some lo') (some hi') (some mx')) ρ v := by
 unfold evSlice3 at h
 split at h
 ·rename_i e b i st len cl ht
  obtain ⟨en, hb, hu⟩ := hx
  split at h
  ·rename_i mn p1 hs hc1
   simp only [Bool.and_eq_true] at hs
   have h1 := Nat.eq_of_beq_eq_true hs.1
   have h2 := Nat.le_of_ble_eq_true hs.2
   obtain ⟨inf, hi, hsi⟩ := szT_pos (P := P) (e := e) (by omega)
   split at h
   ·rename_i hn p2 hc2
    split at h
    ·rename_i ln p3 hc3
     obtain ⟨rfl, hps⟩ := oneP_eq h
     subst hps
     obtain ⟨k1, i1, rfl, q0, q1, q2⟩ := cutN_sound hc1 (fun p hm => hp p (by simp [hm])) hm
     obtain ⟨k2, i2, rfl, r0, r1, r2⟩ := cutN_sound hc2 (fun p hm => hp p (by simp [hm])) hh
     obtain ⟨k3, i3, rfl, s0, s1, s2⟩ := cutN_sound hc3 (fun p hm => hp p (by simp [hm])) hl
     rcases hu with ⟨h0, h0', rfl⟩ | ⟨o, cap, rfl, hlc, hcc, hcm, hoff⟩
     ·refine mkPure (u := .slice none 0 0) (fun w => ?_) ⟨en, hb, .inl ⟨by rw [N.sub_v]; omega, by rw [N.sub_v]; omega, rfl⟩⟩ rfl
      have e1 := boundRun (P := P) (k := k1) (i := i1) (y := 0) .slice3Acap q0 (by omega) w
      have e2 := boundRun (P := P) (k := k2) (i := i2) (y := i1.toNat) .slice3B r0 (by omega) w
      have e3 := boundRun (P := P) (k := k3) (i := i3) (y := i2.toNat) .slice3C s0 (by omega) w
      simp only [Instr.sliceAt, Instr.slice, Instr.sliceBounds, Sem.run_bind, run_underlying ht, Result.andThen_ok, sizeRun hi, Sem.run_pure, if_true, Option.isSome_some, e1, e2, e3]
      rw [show i1.toNat = 0 by omega, show i2.toNat = 0 by omega, show i3.toNat = 0 by omega]
      rfl
     ·refine mkPure (u := .slice (if mn.v = ln.v then some ⟨en.blk, o, none⟩ else (some ⟨en.blk, o, none⟩ : Option Addr).map (·.add (ln.v * inf.size))) (hn.v - ln.v) (mn.v - ln.v)) (fun w => ?_) ⟨en, hb, .inr ?_⟩ ?_
      ·have e1 := boundRun (P := P) (k := k1) (i := i1) (y := cap) .slice3Acap q0 (by omega) w
       have e2 := boundRun (P := P) (k := k2) (i := i2) (y := i1.toNat) .slice3B r0 (by omega) w
       have e3 := boundRun (P := P) (k := k3) (i := i3) (y := i2.toNat) .slice3C s0 (by omega) w
       simp only [Instr.sliceAt, Instr.slice, Instr.sliceBounds, Sem.run_bind, run_underlying ht, Result.andThen_ok, sizeRun hi, Sem.run_pure, if_true, Option.isSome_some, e1, e2, e3]
       rw [show mn.v = i1.toNat by omega, show hn.v = i2.toNat by omega, show ln.v = i3.toNat by omega]
      ·by_cases hcp : mn.v = ln.v
       ·refine ⟨o, mn.v - ln.v, by rw [if_pos hcp, N.sub_v], ?_, ?_, by omega, .inl (by omega)⟩
        ·rw [N.sub_v, N.sub_v]; omega
        ·rw [N.sub_v]; omega
       ·refine ⟨o + ln.v * inf.size, mn.v - ln.v, by rw [if_neg hcp, N.sub_v, Option.map_some, Addr.add_lit], ?_, ?_, by omega, ?_⟩
        ·rw [N.sub_v, N.sub_v]; omega
        ·rw [N.sub_v]; omega
        ·rcases hoff with h0 | ⟨hof, hfit⟩
         ·exact .inl (by omega)
         ·refine .inr ⟨?_, ?_⟩
          ·rw [hof, N.add_v, ← h1, hsi, Nat.add_mul, Nat.add_assoc]
          ·rw [← h1, hsi] at hfit ⊢
           have hmc : mn.v * inf.size ≤ cap * inf.size := Nat.mul_le_mul_right _ (by omega)
           rw [Nat.add_assoc, ← Nat.add_mul, show ln.v + (mn.v - ln.v) = mn.v by omega]
           omega
      ·split <;> rfl
    ·cases h
   ·cases h
  ·cases h
 ·cases h
end
end Go.Sx
