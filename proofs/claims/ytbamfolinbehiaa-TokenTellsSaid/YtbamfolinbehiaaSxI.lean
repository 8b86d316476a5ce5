/- The symbolic evaluator: slices made, and variables written. -/
import Derived.Test.YtbamfolinbehiaaSxH
namespace Go.Sx
open Go Go.RowKit
section
variable {ds : List Deferred}
variable {P : Program} {ρ : Env}
theorem rangeMap0 (f : Nat → Value) : (Array.range 0).map f = #[] := by
 apply Array.ext'
 simp
theorem makeRun {t e : TypeId} {inf : TypeInfo} {zv : Value} (ht : P.underlying t = some (.slice e)) (hi : P.info? e = some inf) (hz : inf.zero = some zv) (hsz : zv.cells.size = inf.size) (_hpos : 1 ≤ inf.size)
  {n k : Int} (h0 : 0 ≤ n) (h1 : n ≤ k) (h2 : k.toNat * inf.bytes ≤ 140737488355328) (h3 : k.toNat ≤ 9223372036854775807) (w : World) :
  ∃ cur : Array Value, cur.toList = (List.replicate k.toNat zv.cells.toList).flatten ∧ cur.size = k.toNat * inf.size ∧
   (Instr.makeSlice t (.int .i64 n) (.int .i64 k)).run P w = .ok (.slice (some ⟨w.heap.size, 0, none⟩) n.toNat k.toNat) (w.alloc (.cells cur e)) := by
 obtain ⟨k, rfl⟩ := Int.eq_ofNat_of_zero_le (show 0 ≤ k by omega)
 obtain ⟨n, rfl⟩ := Int.eq_ofNat_of_zero_le h0
 simp only [Int.toNat_natCast] at h2 h3 ⊢
 have hnk : n ≤ k := by omega
 have hw1 : IntKind.i64.wrap (n : Int) = n := wrap_in ⟨Int.le_trans (by decide : IntKind.i64.min ≤ 0) (Int.natCast_nonneg _), by rw [IntKind.max_i64]; omega⟩
 have hw2 : IntKind.i64.wrap (k : Int) = k := wrap_in ⟨Int.le_trans (by decide : IntKind.i64.min ≤ 0) (Int.natCast_nonneg _), by rw [IntKind.max_i64]; omega⟩
 have hb : (inf.bytes : Int) * (k : Int) ≤ 2 ^ 48 := by
  have h2' : inf.bytes * k ≤ 140737488355328 := by rw [Nat.mul_comm]; exact h2
  have h2' := Int.ofNat_le.2 h2'
  rw [Int.natCast_mul] at h2'
  have e48 : (2 : Int) ^ 48 = 281474976710656 := by decide
  rw [e48]
  omega
 refine ⟨(Array.range (k * zv.cells.size)).map fun i => zv.cells[i % zv.cells.size]!, replArr _ _, by simp [hsz], ?_⟩
 simp only [Instr.makeSlice, Sem.run_bind, run_underlying ht, Result.andThen_ok, asInt, asIntOf, Sem.run_pure, typeInfo, run_program, hi, hw1, hw2]
 rw [if_neg]
 ·have hroom : ¬ (k * inf.bytes > roomBytes) := by
   unfold roomBytes
   omega
  simp only [Sem.run_bind, Sem.run_pure, Result.andThen_ok, askRoom, Int.toNat_natCast, if_neg hroom, sizeRun hi]
  by_cases hk : k * inf.size = 0
  ·rw [if_pos hk]
   simp only [Sem.run_pure, Result.andThen_ok, newRow, Sem.run_bind, run_newObj, hk, hsz]
   show Result.ok _ (w.alloc _) = Result.ok _ (w.alloc _)
   rw [rangeMap0, rangeMap0]
  ·rw [if_neg hk]
   simp only [Sem.run_bind, zeroRun hi hz, Result.andThen_ok, Sem.run_pure, newRow, run_newObj, hsz]
   rfl
 ·simp only [Bool.or_eq_true, decide_eq_true_eq, not_or]
  refine ⟨⟨⟨by omega, by omega⟩, by omega⟩, by omega⟩
theorem sliceNew {ρ : Env} {m : List SB} {B : Nat → Prop} {W w : World} (hm : MemRel ρ B W w m) (blk sz st : Nat) {len cap : N} (h1 : len.v ≤ cap.v) (h2 : cap.v ≤ maxLen) (h3 : cap.v * st ≤ sz) :
  (V.v (.one (.slice m.length (.c 0) st len cap))).rel (ρ ++ [⟨blk, 0, sz⟩]) (.slice (some ⟨blk, 0, none⟩) len.v cap.v) :=
 ⟨⟨_, getLen hm _, .inr ⟨0, cap.v, rfl, h1, Nat.le_refl _, h2, .inr ⟨by simp [N.v], by simpa using h3⟩⟩⟩, rfl⟩
theorem maxLen_le {n : Nat} (h : n ≤ 9223372036854775807) : n ≤ maxLen := by
 unfold maxLen; omega
theorem zksOf_spec : ∀ {z : List C} {ks : List IntKind}, zksOf z = some ks → z.length = ks.length ∧ ∀ (ρ : Env) (us : List Value), relL ρ z us → us = ks.map fun k => Value.int k 0
 | [], ks, h => by
  simp only [zksOf, Option.some.injEq] at h; subst h
  exact ⟨rfl, fun ρ us h => h⟩
 | c :: r, ks, h => by
  unfold zksOf at h
  split at h
  ·rename_i heq; cases heq
  ·rename_i k r' heq
   injection heq with h1 h2; subst h1; subst h2
   split at h
   ·rename_i ks' hks
    injection h with h; subst h
    obtain ⟨h1, h2⟩ := zksOf_spec hks
    refine ⟨by simp [h1], fun ρ us hu => ?_⟩
    obtain ⟨u, s, rfl, h3, h4⟩ := hu
    simp only [C.rel] at h3
    rw [h3, h2 _ _ h4]; rfl
   ·cases h
  ·cases h
theorem flat_rep {α : Type} (l : List α) : ∀ (n q j : Nat), j < l.length → q < n → ((List.replicate n l).flatten)[q * l.length + j]? = l[j]?
 | 0, _, _, _, h => by omega
 | n + 1, 0, j, hj, _ => by
  rw [List.replicate_succ, List.flatten_cons, Nat.zero_mul, Nat.zero_add, List.getElem?_append_left hj]
 | n + 1, q + 1, j, hj, hq => by
  rw [List.replicate_succ, List.flatten_cons, List.getElem?_append_right (by rw [Nat.succ_mul]; omega)]
  rw [show (q + 1) * l.length + j - l.length = q * l.length + j by rw [Nat.succ_mul]; omega]
  exact flat_rep l n q j hj (by omega)
theorem evMake_sound {B : Nat → Prop} {W w : World} {m : List SB} (hm : MemRel ρ B W w m) {t : TypeId} {x y : C} {a b : Value} {h h' : List Bool} {v : Option V} {m' : List SB} {ps : List Prop}
  (hev : evMake P m t x y h = some (v, m', h', ps)) (hp : ∀ p ∈ ps, p) (hx : x.rel ρ a) (hy : y.rel ρ b) :
  Fresh P B W w (do pure (Next.value (← Instr.makeSlice t a b))) ρ v m' := by
 unfold evMake at hev
 split at hev
 ·rename_i e ht
  split at hev
  ·rename_i inf z hi hz
   obtain ⟨inf', zv, g1, g2, g3, g4, g5⟩ := zeroC_sound (P := P) (ρ := ρ) hz
   obtain rfl : inf' = inf := Option.some.inj (g1.symm.trans hi)
   split at hev
   ·rename_i n k hs
    simp only [Bool.and_eq_true] at hs
    have hpos := Nat.le_of_ble_eq_true hs.1
    have hsz := Nat.eq_of_beq_eq_true hs.2
    simp only [C.rel] at hx hy
    subst hx; subst hy
    split at hev
    ·rename_i hd
     simp only [Bool.and_eq_true, decide_eq_true_eq] at hd
     obtain ⟨⟨⟨d1, d2⟩, d3⟩, d4⟩ := hd
     have d3 := Nat.le_of_ble_eq_true d3
     have d4 := Nat.le_of_ble_eq_true d4
     injection hev with hev; injection hev with e1 e2; injection e2 with e2 e3; injection e3 with e3 e4
     subst e1; subst e2
     obtain ⟨cur, hc1, hc2, hrun⟩ := makeRun ht hi g2 (by omega) hpos d1 d2 d3 d4 w
     refine ⟨.value (.slice (some ⟨w.heap.size, 0, none⟩) n.toNat k.toNat), w.alloc (.cells cur e), [⟨w.heap.size, 0, cur.size⟩], by simp only [Sem.run_bind, hrun, Result.andThen_ok, Sem.run_pure], ⟨_, rfl, ?_⟩, hm.new e cur (0, 0) _ (fun _ _ h => by cases h) (nofz _) ?_, Ext.alloc w _⟩
     ·exact sliceNew hm w.heap.size cur.size inf'.size (len := .c n.toNat) (cap := .c k.toNat) (by simp only [N.v]; omega) (maxLen_le d4) (by rw [hc2]; exact Nat.le_refl _)
     ·have := relL_rel (repC_rel g3 k.toNat) (mem_repl g4) []
      simpa [← hc1] using this
    ·cases hev
   ·rename_i n k hs
    simp only [Bool.and_eq_true] at hs
    have hpos := Nat.le_of_ble_eq_true hs.1
    have hsz := Nat.eq_of_beq_eq_true hs.2
    simp only [C.rel] at hx hy
    subst hx; subst hy
    split at hev
    ·rename_i ik
     injection hev with hev; injection hev with e1 e2; injection e2 with e2 e3; injection e3 with e3 e4
     subst e1; subst e2; subst e4
     have d1 := hp _ (List.Mem.head _)
     have d2 := hp _ (List.Mem.tail _ (List.Mem.head _))
     have d3 := hp _ (List.Mem.tail _ (List.Mem.tail _ (List.Mem.head _)))
     have d4 := hp _ (List.Mem.tail _ (List.Mem.tail _ (List.Mem.tail _ (List.Mem.head _))))
     obtain ⟨cur, hc1, hc2, hrun⟩ := makeRun ht hi g2 (by omega) hpos d1 d2 d3 d4 w
     refine ⟨.value (.slice (some ⟨w.heap.size, 0, none⟩) n.toNat k.toNat), w.alloc (.cells cur e), [⟨w.heap.size, 0, cur.size⟩], by simp only [Sem.run_bind, hrun, Result.andThen_ok, Sem.run_pure], ⟨_, rfl, ?_⟩, hm.new e cur (0, 0) _ (fun _ _ h => by cases h) (nofz _) ?_, Ext.alloc w _⟩
     ·exact sliceNew hm w.heap.size cur.size inf'.size (len := .s n.toNat) (cap := .s k.toNat) (by simp only [N.v]; omega) (maxLen_le d4) (by rw [hc2]; exact Nat.le_refl _)
     ·obtain ⟨u, r, hu, hr1, hr2⟩ := g3
      simp only [relL] at hr2
      subst hr2
      simp only [C.rel] at hr1
      subst hr1
      intro j nn hj
      have hjl : j < k.toNat := by
       have := (List.getElem?_eq_some_iff.1 hj).1
       simpa using this
      have hnn : nn = 0 := by
       have := List.mem_of_getElem? hj
       exact List.eq_of_mem_replicate this
      subst hnn
      have hfl : (List.replicate k.toNat [Value.int ik 0]).flatten = List.replicate k.toNat (Value.int ik 0) := by
       generalize k.toNat = q
       induction q with
       | zero => rfl
       | succ q ih => rw [List.replicate_succ, List.flatten_cons, ih, List.replicate_succ]; rfl
      show cur[j]? = _
      rw [← Array.getElem?_toList, hc1, hu, hfl]
      simp [hjl]
    ·split at hev
     ·rename_i ks hks
      injection hev with hev; injection hev with e1 e2; injection e2 with e2 e3; injection e3 with e3 e4
      subst e1; subst e2; subst e4
      have d1 := hp _ (List.Mem.head _)
      have d2 := hp _ (List.Mem.tail _ (List.Mem.head _))
      have d3 := hp _ (List.Mem.tail _ (List.Mem.tail _ (List.Mem.head _)))
      have d4 := hp _ (List.Mem.tail _ (List.Mem.tail _ (List.Mem.tail _ (List.Mem.head _))))
      obtain ⟨cur, hc1, hc2, hrun⟩ := makeRun ht hi g2 (by omega) hpos d1 d2 d3 d4 w
      refine ⟨.value (.slice (some ⟨w.heap.size, 0, none⟩) n.toNat k.toNat), w.alloc (.cells cur e), [⟨w.heap.size, 0, cur.size⟩], by simp only [Sem.run_bind, hrun, Result.andThen_ok, Sem.run_pure], ⟨_, rfl, ?_⟩, hm.new e cur (0, 0) _ (fun _ _ h => by cases h) (nofz _) ?_, Ext.alloc w _⟩
      ·exact sliceNew hm w.heap.size cur.size inf'.size (len := .s n.toNat) (cap := .s k.toNat) (by simp only [N.v]; omega) (maxLen_le d4) (by rw [hc2]; exact Nat.le_refl _)
      ·obtain ⟨q1, q2⟩ := zksOf_spec hks
       have hzl : zv.cells.toList = ks.map fun k => Value.int k 0 := q2 _ _ g3
       intro q r hq
       have hql : q < k.toNat := by
        have := (List.getElem?_eq_some_iff.1 hq).1
        simpa using this
       have hr := List.eq_of_mem_replicate (List.mem_of_getElem? hq)
       subst hr
       refine ⟨by simp, fun j nn kk hj hkk => ?_⟩
       have hjl := (List.getElem?_eq_some_iff.1 hkk).1
       have hnn : nn = 0 := by simpa [hkk, Eq.comm] using hj
       subst hnn
       show cur[q * ks.length + j]? = _
       have hfr := flat_rep (ks.map fun k => Value.int k 0) k.toNat q j (by simpa using hjl) hql
       rw [List.length_map] at hfr
       rw [← Array.getElem?_toList, hc1, hzl, hfr]
       simp [hkk]
     ·cases hev
   ·rename_i n k hs
    simp only [Bool.and_eq_true] at hs
    have hpos := Nat.le_of_ble_eq_true hs.1
    have hsz := Nat.eq_of_beq_eq_true hs.2
    simp only [C.rel] at hx hy
    subst hx; subst hy
    split at hev
    ·rename_i h0
     have h0 := of_decide_eq_true h0
     subst h0
     injection hev with hev; injection hev with e1 e2; injection e2 with e2 e3; injection e3 with e3 e4
     subst e1; subst e2; subst e4
     have d2 := hp _ (List.Mem.head _)
     have d3 := hp _ (List.Mem.tail _ (List.Mem.head _))
     have d4 := hp _ (List.Mem.tail _ (List.Mem.tail _ (List.Mem.head _)))
     obtain ⟨cur, hc1, hc2, hrun⟩ := makeRun ht hi g2 (by omega) hpos (Int.le_refl 0) d2 d3 d4 w
     refine ⟨.value (.slice (some ⟨w.heap.size, 0, none⟩) (0 : Int).toNat k.toNat), w.alloc (.cells cur e), [⟨w.heap.size, 0, cur.size⟩], by simp only [Sem.run_bind, hrun, Result.andThen_ok, Sem.run_pure], ⟨_, rfl, ?_⟩, hm.new e cur (0, 0) _ (fun _ _ h => by cases h) (nofz _) (fun j c h => by simp at h), Ext.alloc w _⟩
     exact ⟨⟨_, getLen hm _, .inr ⟨0, k.toNat, by simp [N.v], Nat.le_refl _, Nat.zero_le _, maxLen_le d4, .inr ⟨by simp [N.v], by rw [hc2]; simp⟩⟩⟩, rfl⟩
    ·cases hev
   ·cases hev
  ·cases hev
 ·cases hev
theorem buildSlice_sound {B : Nat → Prop} {W w : World} {m : List SB} (hm : MemRel ρ B W w m) {nn : Nat} {sl : Slots} {a : Act} (hs : SlotsRel ds ρ nn sl a) {t e : TypeId} {len : Nat} {parts : Array (Nat × Operand)} {inf : TypeInfo} {z l : List C} {ps : List (Nat × V)}
  (ht : P.underlying t = some (.slice e)) (hi : P.info? e = some inf) (hz : zeroC P e = some z) (hps : evParts sl parts.toList = some ps) (hpos : 1 ≤ inf.size) (hsz : inf.size = z.length) (hle : len * inf.size ≤ 16777216)
  (hf : fillC (fun i => some (i * inf.size, inf.size)) (repC z len) ps = some l) :
  Fresh P B W w (do pure (Next.value (← Instr.buildSlice t len (parts.map fun (i, x) => (i, a.eval x))))) ρ (some (.v (.one (.slice m.length (.c 0) inf.size (.c len) (.c len))))) (newB m e (.exp l)) := by
 obtain ⟨inf', zv, g1, g2, g3, g4, g5⟩ := zeroC_sound (P := P) (ρ := ρ) hz
 obtain rfl : inf' = inf := Option.some.inj (g1.symm.trans hi)
 have hst : ((Array.range (len * zv.cells.size)).map fun i => zv.cells[i % zv.cells.size]!).toList = (List.replicate len zv.cells.toList).flatten := replArr _ _
 obtain ⟨A', hA, hr, ho⟩ := fillC_sound (A := (Array.range (len * zv.cells.size)).map fun i => zv.cells[i % zv.cells.size]!) hf (evParts_rel hs hps)
  (by rw [hst]; exact repC_rel g3 len) (by rw [hst]; exact mem_repl g4)
 have hparts : (parts.map fun x => (x.1, a.eval x.2)).toList = parts.toList.map fun x => (x.1, a.eval x.2) := by simp
 have hlen : A'.size = len * inf'.size := by
  have h1 := hr.length
  have h2 : l.length = (repC z len).length := by
   clear hA hr ho hst
   have : ∀ (ps : List (Nat × V)) (l0 l : List C), fillC (fun i => some (i * inf'.size, inf'.size)) l0 ps = some l → l.length = l0.length := by
    intro ps
    induction ps with
    | nil => intro l0 l h; simp only [fillC, Option.some.injEq] at h; subst h; rfl
    | cons x ps ih =>
     intro l0 l h
     obtain ⟨i, v⟩ := x
     unfold fillC at h
     split at h
     ·rename_i heq; cases heq
     ·rename_i i' c r heq
      injection heq with heq hr'; injection heq with _ _; subst hr'
      split at h
      ·split at h
       ·rw [ih _ _ h]; simp
       ·cases h
      ·cases h
     ·rename_i i' cs r heq
      injection heq with heq hr'; injection heq with _ _; subst hr'
      split at h
      ·rename_i off sz hp
       split at h
       ·rename_i hb
        simp only [Bool.and_eq_true] at hb
        have h1 := Nat.eq_of_beq_eq_true hb.1
        have h2 := Nat.le_of_ble_eq_true hb.2
        rw [ih _ _ h]
        simp [lay]
        omega
       ·cases h
      ·cases h
     ·cases h
   exact this _ _ _ hf
  have h3 : (repC z len).length = len * z.length := by
   clear h2 hf hA
   induction len with
   | zero => simp [repC]
   | succ n ih =>
    have ih := ih (by rw [Nat.succ_mul] at hle; omega) (replArr _ _)
    rw [repC, List.length_append, ih, Nat.succ_mul]; omega
  simp only [Array.length_toList] at h1
  rw [h1, h2, h3, hsz]
 refine ⟨.value (.slice (some ⟨w.heap.size, 0, none⟩) len len), w.alloc (.cells A' e), [⟨w.heap.size, 0, A'.size⟩], ?_, ⟨.slice (some ⟨w.heap.size, 0, none⟩) len len, rfl, ?_⟩, hm.new e A' (0, 0) _ (fun _ _ h => by cases h) (nofz _) ?_, Ext.alloc w _⟩
 ·have hA0 : Instr.fill (fun i => some (i * inf'.size, inf'.size)) ((Array.range (len * inf'.size)).map fun i => zv.cells[i % zv.cells.size]!) (parts.toList.map fun x => (x.1, a.eval x.2)) = some A' := by
   rw [← hA, show zv.cells.size = inf'.size by omega]
  simp only [Instr.buildSlice, Sem.run_bind, run_underlying ht, Result.andThen_ok, sizeRun hi]
  rw [if_neg (by omega)]
  simp only [Sem.run_pure]
  by_cases hk : len * inf'.size = 0
  ·have hlen0 : len = 0 := by
    rcases Nat.mul_eq_zero.1 hk with h | h
    ·exact h
    ·omega
   subst hlen0
   rw [if_pos hk]
   have hA0' : Instr.fill (fun i => some (i * inf'.size, inf'.size)) ((Array.range (0 * inf'.size)).map fun i => (#[] : Array Value)[i % (#[] : Array Value).size]!) (parts.toList.map fun x => (x.1, a.eval x.2)) = some A' := by
    rw [← hA0, Nat.zero_mul, rangeMap0, rangeMap0]
   simp only [Sem.run_pure, Result.andThen_ok, hparts, hA0', newRow, Sem.run_bind, run_newObj]
   rfl
  ·rw [if_neg hk]
   simp only [Sem.run_bind, zeroRun hi g2, Result.andThen_ok, Sem.run_pure, hparts, hA0, newRow, run_newObj]
   rfl
 ·exact sliceNew hm w.heap.size A'.size inf'.size (len := .c len) (cap := .c len) (Nat.le_refl _) (maxLen_le (by
   simp only [N.v]
   have : len ≤ len * inf'.size := Nat.le_mul_of_pos_right _ hpos
   omega)) (by rw [hlen]; exact Nat.le_refl _)
 ·have := relL_rel hr ho []
  simpa using this
end
end Go.Sx
