/- The symbolic evaluator: all operations that make memory, or write it. -/
import Derived.Test.YtbamfolinbehiaaSxM
namespace Go.Sx
open Go Go.RowKit
section
variable {P : Program} {ρ : Env}
theorem zeroFits_sound {e : TypeId} {inf : TypeInfo} (hi : P.info? e = some inf) (h : zeroFits P e inf.size = true) : ∃ zv, inf.zero = some zv ∧ zv.cells.size = inf.size := by
 unfold zeroFits at h
 split at h
 ·rename_i z hz
  obtain ⟨inf', zv, g1, g2, _, _, g5⟩ := zeroC_sound (P := P) (ρ := []) hz
  obtain rfl : inf' = inf := Option.some.inj (g1.symm.trans hi)
  exact ⟨zv, g2, by rw [g5]; exact (Nat.eq_of_beq_eq_true h).symm⟩
 ·cases h
theorem emptyNew {B : Nat → Prop} {W w : World} {m : List SB} (hm : MemRel ρ B W w m) {t : TypeId} {c : Cells} {us : List Value} (hc : c.vals ρ us) (hus : us.length = 0) {st : Nat} {len : N} (hl : len.v = 0) :
  MemRel (ρ ++ [⟨w.heap.size, 0, 0⟩]) B W w (newB m t c) ∧ (V.v (.one (.slice m.length (.c 0) st len len))).rel (ρ ++ [⟨w.heap.size, 0, 0⟩]) (.slice none 0 0) := by
 refine ⟨hm.push _ ⟨true, c⟩ (fun _ => ⟨#[], 0, (0, 0), .inl rfl, rfl, fun _ => nofz _, ?_⟩) (fun _ _ hb => Nat.lt_irrefl _ (hm.base _ hb)) (fun kk l h => (vals_nm hc kk l h).elim) (fun _ _ _ _ _ _ _ h _ _ => by simp at h), ⟨⟨_, getLen hm _, .inl ⟨hl, hl, rfl⟩⟩, rfl⟩⟩
 have := Cells.rel_app [⟨w.heap.size, 0, 0⟩] (vals_rel hc [])
 have hnil : us = [] := List.eq_nil_of_length_eq_zero hus
 subst hnil
 simpa using this
theorem evAppend_sound {B : Nat → Prop} {W w : World} {m : List SB} (hm : MemRel ρ B W w m) {t t' ty : TypeId} (ht' : sliceOrStr P t' = true) {x y : C} {a b : Value} {h h' : List Bool} {v : Option V} {m' : List SB} {ps : List Prop}
  (hev : evAppend P m t x y h = some (v, m', h', ps)) (hp : ∀ p ∈ ps, p) (hx : x.rel ρ a) (hy : y.rel ρ b) :
  RWs P B W w (do pure (Next.value (← Builtin.append_ #[t, t'] ty #[a, b]))) ρ v m' := by
 unfold evAppend at hev
 split at hev
 ·rename_i e ht
  split at hev
  ·rename_i inf hi
   split at hev
   ·rename_i hg
    simp only [Bool.and_eq_true] at hg
    have hpos := Nat.le_of_ble_eq_true hg.1
    obtain ⟨zv, hz, hzs⟩ := zeroFits_sound hi hg.2
    simp only at hev
    split at hev
    -- onto nothing
    ·split at hev
     ·rename_i c n h1 qs hseg
      split at hev
      ·rename_i rs hroom
       injection hev with hev; injection hev with e1 e2; injection e2 with e2 e3; injection e3 with e3 e4
       subst e1; subst e2; subst e4
       simp only [C.rel] at hx; subst hx
       obtain ⟨us, v1, v2, v3, v4⟩ := segOf_sound (P := P) hm hseg (fun p h => hp p (by simp [h])) hy
       obtain ⟨r1, r2⟩ := room_sound hroom (fun p h => hp p (by simp [h]))
       by_cases hn : n.v = 0
       ·obtain ⟨m1, m2⟩ := emptyNew hm (t := e) v1 (by rw [v2, hn]; simp) (st := inf.size) hn
        have hrun := roomRun (P := P) (w := w) (w' := w) (ty := ty) ht ht' hi (base := none) (sLen := 0) (sCap := 0) v3 (v4 n.v (Nat.le_refl _) w (Ext.refl w)) (by omega) rfl
        refine ⟨.value (.slice none 0 0), w, _, ?_, ⟨_, rfl, m2⟩, m1⟩
        simp only [Sem.run_bind, hrun, Result.andThen_ok, Sem.run_pure, hn]
       ·have hrun := growRun (P := P) (w := w) (ty := ty) ht ht' hi hz (base := none) (sLen := 0) (sCap := 0) (olds := []) v3 (by rw [run_firstCells_none]) (v4 n.v (Nat.le_refl _) w.drew (Ext.drew w)) (by omega) (by omega) (by rw [Nat.zero_add]; exact r1)
        have htk : us.take (n.v * inf.size) = us := by rw [List.take_of_length_le]; omega
        rw [htk] at hrun
        obtain ⟨m1, m2⟩ := hm.grown (t := e) (e := e) hzs (st := inf.size) rfl (us := us) (n := 0 + n.v) (sCap := 0) (by rw [v2]; simp) v1 (A := ([] : List Value).toArray ++ us.toArray ++ Builtin.zeroCells zv.cells (grownCap w (0 + n.v) 0 e - (0 + n.v))) (by simp) (len := n) (by simp) (by omega)
        refine ⟨.value (.slice (some ⟨w.heap.size, 0, none⟩) (0 + n.v) (grownCap w (0 + n.v) 0 e)), _, _, ?_, ⟨_, rfl, m2⟩, m1⟩
        simp only [Sem.run_bind, hrun, Result.andThen_ok, Sem.run_pure]
      ·cases hev
     ·cases hev
    -- onto a slice of one's own
    ·rename_i b0 st' n0 cl0
     split at hev
     ·rename_i hcond
      simp only [Bool.and_eq_true] at hcond
      have hst := Nat.eq_of_beq_eq_true hcond.1
      obtain ⟨s, hs, ho, hl, hbc⟩ := ownB_eq hcond.2
      subst hst
      split at hev
      ·rename_i c1 h1 qs1 hseg1
       split at hev
       ·rename_i c2 n2 h2 qs2 hseg2
        split at hev
        ·rename_i d rs hcat hroom
         injection hev with hev; injection hev with e1 e2; injection e2 with e2 e3; injection e3 with e3 e4
         subst e1; subst e2; subst e4
         obtain ⟨e0, he0, hu⟩ := hx
         obtain ⟨us, u1, u2, u3⟩ := seg_sound hm he0 hseg1 (fun p h => hp p (by simp [h]))
         obtain ⟨vs, v1, v2, v3, v4⟩ := segOf_sound (P := P) hm hseg2 (fun p h => hp p (by simp [h])) hy
         obtain ⟨r1, r2⟩ := room_sound hroom (fun p h => hp p (by simp [h]))
         rw [N.add_v] at r1 r2
         have hcv := catC_vals hcat u1 v1
         have htk : vs.take (n2.v * inf.size) = vs := by rw [List.take_of_length_le]; omega
         have hlen : (us ++ vs).length = (n0.v + n2.v) * inf.size := by rw [List.length_append, u2, v2, Nat.add_mul]
         -- it grows
         have grow : ∀ (base : Option Addr) (sCap : Nat), a = .slice base n0.v sCap → sCap < n0.v + n2.v → (Builtin.firstCells inf.size n0.v (.slice base n0.v sCap)).run P w.drew = .ok us.toArray w.drew →
           RWs P B W w (do pure (Next.value (← Builtin.append_ #[t, t'] ty #[a, b]))) ρ (some (.v (.one (.slice m.length (.c 0) inf.size (n0.add n2) (n0.add n2))))) (newB (setBlk m b0 .dead) e d) := by
          intro base sCap ha hlt hfc
          have hrun := growRun (P := P) (w := w) (ty := ty) ht ht' hi hz v3 hfc (v4 n2.v (Nat.le_refl _) w.drew (Ext.drew w)) hlt r2 r1
          rw [htk] at hrun
          obtain ⟨m1, m2⟩ := (hm.kill b0).grown (t := e) (e := e) hzs (st := inf.size) rfl hlen (sCap := sCap) hcv (A := us.toArray ++ vs.toArray ++ Builtin.zeroCells zv.cells (grownCap w (n0.v + n2.v) sCap e - (n0.v + n2.v))) (by simp) (len := n0.add n2) (N.add_v _ _) r2
          rw [setBlk_length] at m2
          refine ⟨.value (.slice (some ⟨w.heap.size, 0, none⟩) (n0.v + n2.v) (grownCap w (n0.v + n2.v) sCap e)), _, _, ?_, ⟨_, rfl, m2⟩, m1⟩
          rw [ha]
          simp only [Sem.run_bind, hrun, Result.andThen_ok, Sem.run_pure]
         rcases hu with ⟨hz0, _, ha⟩ | ⟨o, cap, ha, hlc, hcc, hcm, hoff⟩
         ·
          have hus : us = [] := List.eq_nil_of_length_eq_zero (by rw [u2, hz0]; simp)
          by_cases hn : n2.v = 0
          ·obtain ⟨m1, m2⟩ := emptyNew (hm.kill b0) (t := e) hcv (by rw [hlen, hz0, hn]; simp) (st := inf.size) (len := n0.add n2) (by rw [N.add_v]; omega)
           rw [setBlk_length] at m2
           have hrun := roomRun (P := P) (w := w) (w' := w) (ty := ty) ht ht' hi (base := none) (sLen := 0) (sCap := 0) v3 (v4 n2.v (Nat.le_refl _) w (Ext.refl w)) (by omega) rfl
           refine ⟨.value (.slice none 0 0), w, _, ?_, ⟨_, rfl, m2⟩, m1⟩
           rw [ha]
           simp only [Sem.run_bind, hrun, Result.andThen_ok, Sem.run_pure, hn]
          ·refine grow none 0 (by rw [ha, hz0]) (by omega) ?_
           rw [run_firstCells_none, hus]
         ·by_cases hfit : n0.v + n2.v ≤ cap
          ·
           by_cases hc0 : cap = 0
           ·have hn0 : n0.v = 0 := by omega
            have hn2 : n2.v = 0 := by omega
            have hvs : vs = [] := List.eq_nil_of_length_eq_zero (by rw [v2, hn2]; simp)
            have hus : us = [] := List.eq_nil_of_length_eq_zero (by rw [u2, hn0]; simp)
            have hrun := roomRun (P := P) (w := w) (w' := w) (ty := ty) ht ht' hi (base := some ⟨e0.blk, o, none⟩) (sLen := n0.v) (sCap := cap) v3 (v4 n2.v (Nat.le_refl _) w (Ext.refl w)) hfit (by
             rw [htk, hvs]; rfl)
            have hpush := (hm.kill b0).push ⟨e0.blk, 0, 0⟩ ⟨true, d⟩ (fun _ => ⟨#[], 0, (0, 0), .inl rfl, rfl, fun _ => nofz _, by
             have := Cells.rel_app [⟨e0.blk, 0, 0⟩] (vals_rel hcv [])
             rw [hus, hvs] at this
             simpa using this⟩) (fun _ hsol => by
             rcases hsol with ⟨_, h⟩ | ⟨_, _, h⟩
             ·simp at h
             ·exact absurd h (vals_nm hcv _ _)) (fun kk l h => (vals_nm hcv kk l h).elim) (fun _ _ _ _ _ _ _ h _ _ => by simp at h)
            refine ⟨.value (.slice (some ⟨e0.blk, o, none⟩) (n0.v + n2.v) cap), w, [⟨e0.blk, 0, 0⟩], ?_, ⟨_, rfl, ⟨⟨⟨e0.blk, 0, 0⟩, getLen hm _, .inr ⟨o, cap, by rw [N.add_v], Nat.le_refl _, by rw [N.add_v]; exact hfit, hcm, .inl hc0⟩⟩, rfl⟩⟩, hpush⟩
            rw [ha]
            simp only [Sem.run_bind, hrun, Result.andThen_ok, Sem.run_pure]
           ·rcases hoff with h0 | ⟨hof, hsz⟩
            ·exact absurd h0 hc0
            ·have hof : o = e0.off := by rw [hof]; simp [N.v]
             subst hof
             obtain ⟨cur, ty0, fz, hh, hcs, hfz, hr⟩ := hm.blk b0 e0 s he0 hs hl
             have hcpos : 0 < cap * inf.size := Nat.mul_pos (by omega) hpos
             have hepos : 0 < e0.sz := by omega
             rcases hh with hh | hh
             ·omega
             ·have hfit' : (n0.v + n2.v) * inf.size ≤ cap * inf.size := Nat.mul_le_mul_right _ hfit
              have hroomc : e0.off + n0.v * inf.size + vs.length ≤ cur.size := by
               rw [v2, hcs, Nat.add_assoc, ← Nat.add_mul]; omega
              have hstore := storeRun (P := P) e0.blk (e0.off + n0.v * inf.size) ty0 fz vs 0 cur w hh (hfz ho) (by simpa using hroomc) (vals_one v1)
              have hrun := roomRun (P := P) (w := w) (w' := w.setRow e0.blk (layR cur (e0.off + n0.v * inf.size) vs)) (ty := ty) ht ht' hi (base := some ⟨e0.blk, e0.off, none⟩) (sLen := n0.v) (sCap := cap) v3 (v4 n2.v (Nat.le_refl _) w (Ext.refl w)) hfit (by
               rw [htk]; simp only [Addr.add_lit]; exact hstore)
              -- the row anew, as a block of its own
              have hcells : ∀ j u, (us ++ vs)[j]? = some u → (layR cur (e0.off + n0.v * inf.size) vs)[e0.off + j]? = some u := by
               intro j u hj
               rw [layR_get hroomc]
               by_cases hjl : j < us.length
               ·rw [List.getElem?_append_left hjl] at hj
                rw [upd_out (by omega)]
                have := (u3 j u hj).1
                rw [show (N.c 0).v * inf.size = 0 by simp [N.v], Nat.add_zero, cell_of_row w e0.blk (e0.off + j) cur ty0 fz hh] at this
                exact this
               ·rw [List.getElem?_append_right (by omega)] at hj
                have := (List.getElem?_eq_some_iff.1 hj).1
                rw [upd_in ⟨by omega, by omega⟩, show e0.off + j - (e0.off + n0.v * inf.size) = j - us.length by omega]
                exact hj
              have hdrel : d.rel ρ (fun j => (layR cur (e0.off + n0.v * inf.size) vs)[e0.off + j]?) := by
               have hcut : (fun (j : Nat) => (layR cur (e0.off + n0.v * inf.size) vs)[e0.off + j]?) = fun (j : Nat) => ((us ++ vs) ++ ((layR cur (e0.off + n0.v * inf.size) vs).toList.drop (e0.off + (us ++ vs).length)))[j]? := by
                funext j
                by_cases hjl : j < (us ++ vs).length
                ·rw [List.getElem?_append_left hjl]
                 rw [List.getElem?_eq_getElem hjl]
                 exact hcells j _ (List.getElem?_eq_getElem hjl)
                ·rw [List.getElem?_append_right (by omega), List.getElem?_drop]
                 rw [show e0.off + (us ++ vs).length + (j - (us ++ vs).length) = e0.off + j by omega]
                 simp
               rw [hcut]; exact vals_rel hcv _
              have hw := hm.write he0 hs ho hl hh hcs (hfz ho) (layR_size hroomc) hdrel hepos (vals_nm hcv)
              have hkill := hw.kill b0
              have hkk : setBlk (setBlk m b0 d) b0 .dead = setBlk m b0 .dead := by
               apply List.ext_getElem?
               intro q
               have hs' : (setBlk m b0 d)[b0]? = some { s with c := d } := by rw [setBlk_get hs, if_pos rfl]
               rw [setBlk_get hs', setBlk_get hs, setBlk_get hs]
               by_cases hq : q = b0
               ·simp [hq]
               ·simp [hq]
              rw [hkk] at hkill
              have hpush := hkill.push e0 ⟨true, d⟩ (fun _ => ⟨layR cur (e0.off + n0.v * inf.size) vs, ty0, fz, .inr (setRow_heap w e0.blk cur _ ty0 fz hh), (layR_size hroomc).trans hcs, fun _ => by rw [layR_size hroomc]; exact hfz ho, Cells.rel_app _ hdrel⟩)
               (fun _ _ => hm.own b0 e0 s he0 hs ho (.inl ⟨hl, hepos⟩)) (fun kk l h => (vals_nm hcv kk l h).elim) (fun j ej sj hej hsj hlj hpj _ _ _ => by
                rw [setBlk_get hs] at hsj
                by_cases hjb : j = b0
                ·rw [if_pos hjb] at hsj; injection hsj with hsj; subst hsj; cases hlj
                ·rw [if_neg hjb] at hsj
                 exact hm.sep b0 j e0 ej s sj (Ne.symm hjb) he0 hej hs hsj ho hl hlj hepos hpj)
              refine ⟨.value (.slice (some ⟨e0.blk, e0.off, none⟩) (n0.v + n2.v) cap), _, [e0], ?_, ⟨_, rfl, ⟨⟨e0, getLen hm _, .inr ⟨e0.off, cap, by rw [N.add_v], Nat.le_refl _, by rw [N.add_v]; exact hfit, hcm, .inr ⟨by simp [N.v], hsz⟩⟩⟩, rfl⟩⟩, hpush⟩
              rw [ha]
              simp only [Sem.run_bind, hrun, Result.andThen_ok, Sem.run_pure]
          ·refine grow (some ⟨e0.blk, o, none⟩) cap ha (by omega) ?_
           have := run_firstCells_some (P := P) w.drew inf.size n0.v ⟨e0.blk, o, none⟩ n0.v cap us u2 (fun j v hj => by
            rcases hoff with h0 | ⟨hof, _⟩
            ·have hjl := (List.getElem?_eq_some_iff.1 hj).1
             have : n0.v = 0 := by omega
             rw [u2, this] at hjl
             omega
            ·rw [Addr.add_lit, hof]
             exact (Ext.drew w).cell (u3 j v hj).1)
           exact this
        ·cases hev
       ·cases hev
      ·cases hev
     ·cases hev
    ·cases hev
   ·cases hev
  ·cases hev
 ·cases hev
theorem strT_spec {ts : TypeId} (h : strT P = some ts) : P.underlying ts = some .string := by
 have := List.find?_some h
 split at this
 ·assumption
 ·cases this
theorem append_nat {t t' ts ty e : TypeId} {ik kk : IntKind} {inf : TypeInfo} {zv : Value} (ht : P.underlying t = some (.slice e)) (ht' : P.underlying t' = some (.int ik)) (hts : P.underlying ts = some .string) (hi : P.info? e = some inf)
  (hsz : inf.size = 1) (hb : inf.bytes = 1) (hz : inf.zero = some zv) (hzc : zv.cells = #[.int .u8 0]) {base : Option Addr} {sLen sCap m : Nat} (h1 : sLen + m ≤ 140737488355328) (w : World) {z : ByteArray} (hsize : z.size = m)
  (hcells : ∀ w' : World, Sem.run P (Builtin.firstCells 1 m (.string z)) w' = .ok (Array.replicate m (Value.int .u8 0)) w') :
  (Builtin.append_ #[t, t'] ty #[.slice base sLen sCap, .int kk (m : Int)]).run P w = (Builtin.append_ #[t, ts] ty #[.slice base sLen sCap, .string z]).run P w := by
 have hw : IntKind.wrap .i64 (m : Int) = (m : Int) := wrap_in ⟨by simp [IntKind.min, IntKind.signed, IntKind.bits] <;> omega, by simp [IntKind.max, IntKind.signed, IntKind.bits] <;> omega⟩
 have hw0 : IntKind.wrap .i64 0 = 0 := by decide
 have hn1 : ¬ (281474976710656 < (m : Int)) := by omega
 have hzero : Builtin.zeroCells #[Value.int .u8 0] m = Array.replicate m (Value.int .u8 0) := by
  apply Array.ext
  ·simp [Builtin.zeroCells]
  ·intro i h1 h2
   simp [Builtin.zeroCells, Nat.mod_one]
 have hneg : ¬ ((m : Int) < 0) := by omega
 by_cases hroom : sLen + m ≤ sCap
 ·by_cases hnz : m = 0
  ·subst hnz
   have hr' : sLen ≤ sCap := hroom
   simp [Builtin.append_, run_underlying ht, run_underlying ht', run_underlying hts, sizeOf, typeInfo, zeroValue, hi, hz, hsz, hb, asInt, asIntOf, hw0, hn1, Builtin.lenOf, hsize, hr', hcells, hzc]
  ·simp [Builtin.append_, run_underlying ht, run_underlying ht', run_underlying hts, sizeOf, typeInfo, zeroValue, hi, hz, hsz, hb, asInt, asIntOf, hw, hn1, hneg, Builtin.lenOf, hsize, hroom, hcells, hnz, hzc, hzero]
 ·have h63 : ¬ (9223372036854775807 < ((sLen : Int) + (m : Int))) := by omega
  have h48 : ¬ (281474976710656 < Builtin.nextslicecap (sLen + m) sCap) := by
   have := growslice_fits (bytes := 1) (show sCap < sLen + m by omega) (by omega)
   omega
  have hnz : ¬ m = 0 ∨ m = 0 := by omega
  rcases hnz with hnz | hnz
  ·simp [Builtin.append_, run_underlying ht, run_underlying ht', run_underlying hts, sizeOf, typeInfo, zeroValue, hi, hz, hsz, hb, asInt, asIntOf, hw, hn1, hneg, Builtin.lenOf, hsize, hroom, hcells, hnz, hzc, hzero, h63, h48]
  ·subst hnz
   have hr' : ¬ sLen ≤ sCap := hroom
   have h63' : ¬ (9223372036854775807 < (sLen : Int)) := by omega
   have h48' : ¬ (281474976710656 < Builtin.nextslicecap sLen sCap) := h48
   simp [Builtin.append_, run_underlying ht, run_underlying ht', run_underlying hts, sizeOf, typeInfo, zeroValue, hi, hz, hsz, hb, asInt, asIntOf, hw0, hn1, Builtin.lenOf, hsize, hr', hcells, hzc, h63', h48']
theorem append_int {t t' ts ty e : TypeId} {ik kk : IntKind} {inf : TypeInfo} {zv : Value} (ht : P.underlying t = some (.slice e)) (ht' : P.underlying t' = some (.int ik)) (hts : P.underlying ts = some .string) (hi : P.info? e = some inf)
  (hsz : inf.size = 1) (hb : inf.bytes = 1) (hz : inf.zero = some zv) (hzc : zv.cells = #[.int .u8 0]) {base : Option Addr} {sLen sCap : Nat} {n : Int} (h0 : 0 ≤ n) (h1 : sLen + n.toNat ≤ 140737488355328) (w : World) :
  (Builtin.append_ #[t, t'] ty #[.slice base sLen sCap, .int kk n]).run P w = (Builtin.append_ #[t, ts] ty #[.slice base sLen sCap, .string ⟨(List.replicate n.toNat (0 : UInt8)).toArray⟩]).run P w := by
 obtain ⟨m, rfl⟩ : ∃ m : Nat, n = (m : Int) := ⟨n.toNat, by omega⟩
 have e : ((m : Nat) : Int).toNat = m := by omega
 rw [e] at h1 ⊢
 refine append_nat ht ht' hts hi hsz hb hz hzc h1 w (by show (List.replicate m (0 : UInt8)).toArray.size = _; simp) fun w' => ?_
 simp only [Builtin.firstCells, Sem.run_pure]
 congr 1
 rw [extract_mk]
 apply Array.ext'
 simp
theorem lenCZ_rel {x : C} {n0 : N} {a : Value} (h : lenCZ x = some n0) (hx : x.rel ρ a) : ∃ base cap, a = .slice base n0.v cap := by
 unfold lenCZ at h
 split at h
 ·injection h with h; subst h
  exact ⟨_, _, hx⟩
 ·injection h with h; subst h
  obtain ⟨en, _, hu⟩ := hx
  rcases hu with ⟨h0, h0', rfl⟩ | ⟨o, cap, rfl, _⟩
  ·exact ⟨_, _, by rw [h0]⟩
  ·exact ⟨_, _, rfl⟩
 ·cases h
theorem evAppendZ_sound {B : Nat → Prop} {W w : World} {m : List SB} (hm : MemRel ρ B W w m) {t t' ty : TypeId} {kk : IntKind} {x : C} {n : Int} {a b : Value} {h h' : List Bool} {v : Option V} {m' : List SB} {ps : List Prop}
  (hev : evAppendZ P m t t' x n h = some (v, m', h', ps)) (hp : ∀ p ∈ ps, p) (hx : x.rel ρ a) (hy : b = .int kk n) :
  RWs P B W w (do pure (Next.value (← Builtin.append_ #[t, t'] ty #[a, b]))) ρ v m' := by
 unfold evAppendZ at hev
 split at hev
 ·rename_i e ik ts n0 ht ht' hts hl
  split at hev
  ·rename_i inf hi hz
   split at hev
   ·rename_i hs
    simp only [Bool.and_eq_true] at hs
    have hsz := Nat.eq_of_beq_eq_true hs.1
    have hb := Nat.eq_of_beq_eq_true hs.2
    split at hev
    ·rename_i v1 m1 h1 ps1 hap
     injection hev with hev; injection hev with e1 e2; injection e2 with e2 e3; injection e3 with e3 e4
     subst e1; subst e2; subst e4
     have q0 : 0 ≤ n := hp _ (List.Mem.head _)
     have q1 : n0.v + n.toNat ≤ 140737488355328 := hp _ (List.Mem.tail _ (List.Mem.head _))
     obtain ⟨inf', zv, g1, g2, g3, g4, g5⟩ := zeroC_sound (P := P) (ρ := ρ) hz
     obtain rfl : inf' = inf := Option.some.inj (g1.symm.trans hi)
     have hzc : zv.cells = #[.int .u8 0] := by
      obtain ⟨u, r, hu, hr1, hr2⟩ := g3
      simp only [relL] at hr2
      subst hr2
      simp only [C.rel] at hr1
      subst hr1
      apply Array.ext'; rw [hu]
     obtain ⟨X, w', ρ', k1, k2, k3⟩ := evAppend_sound (ty := ty) (t' := ts) hm (by simp [sliceOrStr, strT_spec hts]) hap (fun p h => hp p (List.Mem.tail _ (List.Mem.tail _ h))) hx (b := .string ⟨(List.replicate n.toNat (0 : UInt8)).toArray⟩) rfl
     refine ⟨X, w', ρ', ?_, k2, k3⟩
     rw [← k1]
     subst hy
     obtain ⟨o, cap, rfl⟩ := lenCZ_rel hl hx
     simp only [Sem.run_bind]
     rw [append_int ht ht' (strT_spec hts) hi hsz hb g2 hzc q0 q1]
    ·cases hev
   ·cases hev
  ·cases hev
 ·cases hev
end
end Go.Sx
