/- The symbolic evaluator: all operations that only read. -/
import Derived.Test.YtbamfolinbehiaaSxFm
namespace Go.Sx
open Go Go.RowKit
section
variable {ds : List Deferred}
variable {P : Program} {ρ : Env}
def RO (P : Program) (cls : World → Prop) (s : Sem Next) (ρ : Env) (v : V) : Prop := ∃ u, v.rel ρ u ∧ ∀ w', cls w' → s.run P w' = .ok (.value u) w'
theorem RO.mk {cls : World → Prop} {s : Sem Next} {v : V} {u : Value} (h : v.rel ρ u) (hr : ∀ w', cls w' → s.run P w' = .ok (.value u) w') : RO P cls s ρ v := ⟨u, h, hr⟩
theorem RO.pure {cls : World → Prop} {s : Sem Value} {s' : Sem Next} {v : V} (h : Pure P s ρ v) (hs : s' = (do pure (.value (← s)))) : RO P cls s' ρ v := by
 obtain ⟨u, hu, hr⟩ := h
 subst hs
 exact ⟨u, hu, fun w' _ => by simp only [Sem.run_bind, hr, Result.andThen_ok, Sem.run_pure]⟩
theorem mv {cls : World → Prop} {u : Value} {v : V} (h : v.rel ρ u) : RO P cls (Pure.pure (Next.value u)) ρ v := ⟨u, h, fun _ _ => rfl⟩
theorem capsOf_rel {n : Nat} {sl : Slots} {a : Act} (hs : SlotsRel ds ρ n sl a) : ∀ {os : List Operand} {l : List Nat}, capsOf sl os = some l →
  ∃ es : List E, l.map (fun b => ρ[b]?) = es.map some ∧ os.map a.eval = es.map fun e => Value.pointer (some ⟨e.blk, e.off, none⟩)
 | [], l, h => by simp only [capsOf, Option.some.injEq] at h; subst h; exact ⟨[], rfl, rfl⟩
 | o :: r, l, h => by
  simp only [capsOf] at h
  split at h
  ·rename_i b k st sub ho
   split at h
   ·rename_i hz
    have hz := Nat.eq_of_beq_eq_true hz
    split at h
    ·rename_i l' hl
     injection h with h; subst h
     obtain ⟨es, h1, h2⟩ := capsOf_rel hs hl
     obtain ⟨⟨e, he, hu⟩, _⟩ := evO_rel hs ho
     refine ⟨e :: es, by simp [he, h1], ?_⟩
     simp only [List.map_cons, h2, hu]
     simp [N.v, hz]
    ·cases h
   ·cases h
  ·cases h
def relVs (ρ : Env) : List V → List Value → Prop
 | [], us => us = []
 | v :: r, us => ∃ u s, us = u :: s ∧ v.rel ρ u ∧ relVs ρ r s
theorem evArgs_rel {n : Nat} {sl : Slots} {a : Act} (hs : SlotsRel ds ρ n sl a) : ∀ {os : List Operand} {l : List V}, evArgs sl os = some l → relVs ρ l (os.map a.eval)
 | [], l, h => by simp only [evArgs, Option.some.injEq] at h; subst h; rfl
 | o :: r, l, h => by
  simp only [evArgs] at h
  split at h
  ·rename_i v hv
   split at h
   ·rename_i l' hl
    injection h with h; subst h
    exact ⟨a.eval o, _, rfl, evO_rel hs hv, evArgs_rel hs hl⟩
   ·cases h
  ·cases h
def ldB : Op → Bool
 | .load .. => true
 | .lookup .. => true
 | _ => false
theorem evRO_sound {B : Nat → Prop} {W w : World} {m : List SB} (hm : MemRel ρ B W w m) {n : Nat} {sl : Slots} {a : Act} (hs : SlotsRel ds ρ n sl a) {o : Oper} {v : V} {ps : List Prop}
  (h : evRO P m sl o.op = some (v, ps)) (hp : ∀ p ∈ ps, p) : RO P (fun w' => ldB o.op = true → Ext w w') (execOp a.eval o) ρ v := by
 unfold execOp
 generalize o.op = op at h ⊢
 unfold evRO at h
 split at h
 -- lookup
 ·rename_i t x ix ok
  split at h
  ·rename_i b key hx hk
   obtain ⟨⟨e, he, hu⟩, _⟩ := cOf_rel hs hx
   obtain ⟨r, h1, h2⟩ := evLook_sound hm h he (cOf_rel hs hk).1
   exact RO.mk h1 (fun w' hw => by simp only [hu, Sem.run_bind, h2 w' (hw rfl), Result.andThen_ok, Sem.run_pure])
  ·cases h
 -- move
 ·split at h
  ·rename_i hv; injection h with h; injection h with h _; subst h; exact mv (evO_rel hs hv)
  ·cases h
 -- assign
 ·split at h
  ·rename_i hv; injection h with h; injection h with h _; subst h; exact mv (evO_rel hs hv)
  ·cases h
 -- pick
 ·split at h
  ·rename_i hc
   have hc := (evO_rel hs hc).1
   simp only [C.rel] at hc
   split at h
   ·rename_i hv; injection h with h; injection h with h _; subst h
    exact RO.mk (evO_rel hs hv) (fun w' _ => by simp [hc, asBool])
   ·cases h
  ·rename_i hc
   have hc := (evO_rel hs hc).1
   simp only [C.rel] at hc
   split at h
   ·rename_i hv; injection h with h; injection h with h _; subst h
    exact RO.mk (evO_rel hs hv) (fun w' _ => by simp [hc, asBool])
   ·cases h
  ·cases h
 -- load
 ·split at h
  ·rename_i b i st sub hv
   obtain ⟨⟨e, he, hu⟩, _⟩ := evO_rel hs hv
   obtain ⟨u, h1, h2⟩ := loadRO hm he h hp
   exact RO.mk h1 (fun w' hw => by simp only [Instr.loadAt, hu, Instr.sureAddr, Sem.run_bind, Sem.run_pure, Result.andThen_ok, h2 w' (hw rfl).cx])
  ·cases h
 -- nilCheck
 ·split at h
  ·rename_i b i st sub hv
   have hr := evO_rel hs hv
   obtain ⟨⟨e, he, hu⟩, h1⟩ := evO_rel hs hv
   obtain ⟨rfl, _⟩ := one_eq h
   exact RO.mk hr (fun w' _ => by simp only [hu]; rfl)
  ·cases h
 -- fieldAddr
 ·split at h
  ·rename_i b i st sub hv
   obtain ⟨⟨e, he, hu⟩, _⟩ := evO_rel hs hv
   split at h
   ·rename_i fs ht
    split at h
    ·rename_i fd hf
     split at h
     ·rename_i hsz
      obtain ⟨inf, hi, hsi⟩ := szT_pos (P := P) (Nat.le_of_ble_eq_true hsz)
      have hpos := Nat.le_of_ble_eq_true hsz
      obtain ⟨rfl, _⟩ := one_eq h
      refine RO.mk (u := .pointer (some ⟨e.blk, e.off + (i.v * st + (sub + fd.offset)), none⟩)) ⟨⟨e, he, rfl⟩, rfl⟩ (fun w' _ => ?_)
      have hne : ¬ inf.size = 0 := by omega
      simp only [Instr.fieldAt, hu, Sem.run_bind, run_underlying ht, Result.andThen_ok, hf, Instr.sureAddr, Sem.run_pure, fieldPlace, sizeRun hi, if_neg hne, Addr.add_lit]
      rw [show e.off + (i.v * st + sub) + fd.offset = e.off + (i.v * st + (sub + fd.offset)) by omega]
     ·cases h
    ·cases h
   ·cases h
  ·cases h
 -- field
 ·split at h
  ·rename_i l hv
   obtain ⟨us, hu, hr, hone⟩ := evO_rel hs hv
   split at h
   ·rename_i fs ht
    split at h
    ·rename_i fd hf
     split at h
     ·rename_i ha
      split at h
      ·rename_i inf hi
       injection h with h; injection h with h _; subst h
       refine RO.mk (u := .agg ((us.drop fd.offset).take inf.size).toArray) ⟨_, rfl, (hr.drop _).take _, fun x hx => hone x (List.mem_of_mem_drop (List.mem_of_mem_take hx))⟩ (fun w' _ => ?_)
       simp only [Instr.field, hu, Sem.run_bind, run_underlying ht, Result.andThen_ok, hf, asAgg, Sem.run_pure, part, isAggRun ha, if_true, sizeRun hi]
       congr 3
       apply Array.ext'
       simp
      ·cases h
     ·rename_i ha
      split at h
      ·rename_i c hc
       obtain ⟨rfl, _⟩ := one_eq h
       obtain ⟨u, h1, h2⟩ := hr.get _ _ hc
       refine RO.mk (u := u) ⟨h2, hone u (List.mem_of_getElem? h1)⟩ (fun w' _ => ?_)
       have h1' : us.toArray[fd.offset]? = some u := by simpa using h1
       simp only [Instr.field, hu, Sem.run_bind, run_underlying ht, Result.andThen_ok, hf, asAgg, Sem.run_pure, part, isAggRun ha, Bool.false_eq_true, if_false, h1']
      ·cases h
     ·cases h
    ·cases h
   ·cases h
  ·cases h
 -- indexAddr
 ·rename_i t x ix
  split at h
  ·rename_i b i st len cl j hv hj
   obtain ⟨⟨e, he, hu⟩, _⟩ := evO_rel hs hv
   obtain ⟨hj, _⟩ := cOf_rel hs hj
   split at h
   ·rename_i el ht
    split at h
    ·rename_i hsz
     simp only [Bool.and_eq_true] at hsz
     obtain ⟨inf, hi⟩ := Option.isSome_iff_exists.1 hsz.1.1
     have hst := Nat.eq_of_beq_eq_true hsz.1.2
     have hpos := Nat.le_of_ble_eq_true hsz.2
     rw [szT_eq hi] at hst
     split at h
     ·rename_i jn qs hjx
      obtain ⟨rfl, hps⟩ := oneP_eq h
      subst hps
      obtain ⟨k, jj, hjj, h0, h1, h2⟩ := ixN_sound hjx hp hj
      rcases hu with ⟨hz, _⟩ | ⟨o', cap, hu, hlc, hcc, _, hoff⟩
      ·omega
      ·have hoff : o' = e.off + i.v * st := by rcases hoff with h | h <;> omega
       refine RO.mk (u := .pointer (some ⟨e.blk, e.off + ((i.add jn).v * st + 0), none⟩)) ⟨⟨e, he, rfl⟩, rfl⟩ (fun w' _ => ?_)
       simp only [Instr.indexAt, hu, hjj, asIntOf, Sem.run_bind, Sem.run_pure, Result.andThen_ok, run_underlying ht]
       rw [if_pos ⟨h0, h1⟩]
       simp only [Sem.run_bind, sizeRun hi, Result.andThen_ok, Sem.run_pure, Addr.add_lit]
       rw [N.add_v, h2, hoff, hst, Nat.add_zero, Nat.add_mul, Nat.add_assoc]
     ·cases h
    ·cases h
   ·cases h
  ·rename_i b k st sub j hv hj
   obtain ⟨⟨e, he, hu⟩, _⟩ := evO_rel hs hv
   obtain ⟨hj, _⟩ := cOf_rel hs hj
   split at h
   ·rename_i n' el ht
    split at h
    ·rename_i hsz
     obtain ⟨inf, hi⟩ := Option.isSome_iff_exists.1 hsz
     have key : ∀ (jn : N) (qs : List Prop), ixN j (.c n') = some (jn, qs) → (∀ p ∈ qs, p) → ∀ w', (Instr.indexAt t (a.eval x) (a.eval ix)).run P w' = .ok (.pointer (some ⟨e.blk, e.off + (k * st + sub) + jn.v * inf.size, none⟩)) w' := by
      intro jn qs hjx hqs w'
      obtain ⟨ik, jj, hjj, h0, h1, h2⟩ := ixN_sound hjx hqs hj
      simp only [Instr.indexAt, hu, hjj, asIntOf, Sem.run_bind, Sem.run_pure, Result.andThen_ok, run_underlying ht, Instr.sureAddr]
      rw [if_pos ⟨h0, h1⟩]
      simp only [Sem.run_bind, sizeRun hi, Result.andThen_ok, Sem.run_pure, Addr.add_lit, h2]
      rfl
     split at h
     ·rename_i jn qs hjx
      obtain ⟨rfl, hps⟩ := oneP_eq h
      subst hps
      refine RO.mk (u := .pointer (some ⟨e.blk, e.off + (k * st + sub + jn * szT P el) * 1 + 0, none⟩)) ⟨⟨e, he, rfl⟩, rfl⟩ (fun w' _ => ?_)
      simp only [Sem.run_bind, key _ _ hjx hp w', Result.andThen_ok, Sem.run_pure]
      rw [szT_eq hi]
      simp only [N.v, Nat.mul_one, Nat.add_zero, Nat.add_assoc]
     ·rename_i jn qs hjx
      split at h
      ·rename_i hz
       have hz := Nat.eq_of_beq_eq_true hz
       obtain ⟨rfl, hps⟩ := oneP_eq h
       subst hps
       refine RO.mk (u := .pointer (some ⟨e.blk, e.off + (jn * szT P el + 0), none⟩)) ⟨⟨e, he, rfl⟩, rfl⟩ (fun w' _ => ?_)
       simp only [Sem.run_bind, key _ _ hjx hp w', Result.andThen_ok, Sem.run_pure]
       rw [szT_eq hi, hz]
       simp only [N.v, Nat.add_zero]
      ·cases h
     ·cases h
    ·cases h
   ·cases h
  ·cases h
 -- index
 ·rename_i t x ix
  split at h
  ·rename_i l j hv hj
   obtain ⟨us, hu, hr, hone⟩ := evO_rel hs hv
   obtain ⟨hj, _⟩ := cOf_rel hs hj
   split at h
   ·rename_i n' el ht
    split at h
    ·rename_i jn qs inf hjx hi ha
     injection h with h; injection h with h h'; subst h; subst h'
     obtain ⟨ik, jj, hjj, h0, h1, h2⟩ := ixN_sound hjx hp hj
     refine RO.mk (u := .agg ((us.drop (jn * inf.size)).take inf.size).toArray) ⟨_, rfl, (hr.drop _).take _, fun x hx => hone x (List.mem_of_mem_drop (List.mem_of_mem_take hx))⟩ (fun w' _ => ?_)
     simp only [Instr.index, hu, hjj, asIntOf, Sem.run_bind, Sem.run_pure, run_underlying ht, Result.andThen_ok]
     rw [if_pos ⟨h0, h1⟩]
     simp only [Sem.run_bind, sizeRun hi, Result.andThen_ok, part, isAggRun ha, if_true, Sem.run_pure, h2]
     congr 3
     apply Array.ext'
     simp [N.v]
    ·rename_i jn qs inf hjx hi ha
     split at h
     ·rename_i c hc
      obtain ⟨rfl, hps⟩ := oneP_eq h
      subst hps
      obtain ⟨ik, jj, hjj, h0, h1, h2⟩ := ixN_sound hjx hp hj
      obtain ⟨u, g1, g2⟩ := hr.get _ _ hc
      refine RO.mk (u := u) ⟨g2, hone u (List.mem_of_getElem? g1)⟩ (fun w' _ => ?_)
      have g1' : us.toArray[jn * inf.size]? = some u := by simpa using g1
      simp only [Instr.index, hu, hjj, asIntOf, Sem.run_bind, Sem.run_pure, run_underlying ht, Result.andThen_ok]
      rw [if_pos ⟨h0, h1⟩]
      simp only [Sem.run_bind, sizeRun hi, Result.andThen_ok, part, isAggRun ha, Bool.false_eq_true, if_false, h2, N.v, g1', Sem.run_pure]
     ·cases h
    ·cases h
   ·cases h
  ·rename_i k l j hv hj
   have hu := evO_rel hs hv
   simp only [V.rel, V1.rel] at hu
   obtain ⟨hj, _⟩ := cOf_rel hs hj
   split at h
   ·rename_i n' el ht
    split at h
    ·rename_i jn qs inf hjx hi ha
     split at h
     ·rename_i hsz
      have hsz := Nat.eq_of_beq_eq_true hsz
      obtain ⟨rfl, hps⟩ := oneP_eq h
      subst hps
      obtain ⟨ik, jj, hjj, h0, h1, h2⟩ := ixN_sound hjx (fun p hm => hp p (by simp [hm])) hj
      have hlt : jn.v < l.length := hp _ (by simp)
      refine RO.mk (u := .int k (l.getD jn.v 0)) ⟨rfl, rfl⟩ (fun w' _ => ?_)
      have g1' : (l.map (Value.int k)).toArray[jn.v]? = some (.int k (l.getD jn.v 0)) := by
       simp [List.getD, List.getElem?_eq_getElem hlt]
      simp only [Instr.index, hu, hjj, asIntOf, Sem.run_bind, Sem.run_pure, run_underlying ht, Result.andThen_ok]
      rw [if_pos ⟨h0, h1⟩]
      simp only [Sem.run_bind, sizeRun hi, Result.andThen_ok, part, isAggRun ha, Bool.false_eq_true, if_false, h2, hsz, Nat.mul_one, g1', Sem.run_pure]
     ·cases h
    ·cases h
   ·cases h
  ·rename_i l j hv hj
   have hu := (evO_rel hs hv).1
   simp only [C.rel] at hu
   obtain ⟨hj, _⟩ := cOf_rel hs hj
   split at h
   ·rename_i ht
    have key : ∀ (jn : N) (qs : List Prop), ixN j (.c l.length) = some (jn, qs) → (∀ p ∈ qs, p) → ∀ w', (Instr.index t (a.eval x) (a.eval ix)).run P w' = .ok (.int .u8 ((l.getD jn.v 0).toNat : Int)) w' := by
     intro jn qs hjx hqs w'
     obtain ⟨ik, jj, hjj, h0, h1, h2⟩ := ixN_sound hjx hqs hj
     have h1 : jj < (l.length : Int) := h1
     have hlt : jn.v < l.length := by omega
     have hsb : (⟨l.toArray⟩ : ByteArray)[jj.toNat]? = some (l.getD jn.v 0) := by
      rw [h2]
      have hlt' : jn.v < (⟨l.toArray⟩ : ByteArray).size := by show jn.v < l.toArray.size; simpa using hlt
      rw [show (⟨l.toArray⟩ : ByteArray)[jn.v]? = some ((⟨l.toArray⟩ : ByteArray)[jn.v]'hlt') from getElem?_pos (⟨l.toArray⟩ : ByteArray) jn.v hlt']
      simp only [List.getD, List.getElem?_eq_getElem hlt, Option.getD_some]
      rfl
     simp only [Instr.index, hu, hjj, asIntOf, Sem.run_bind, Sem.run_pure, run_underlying ht, Result.andThen_ok, if_pos h0, hsb]
    split at h
    ·rename_i jn qs hjx
     obtain ⟨rfl, hps⟩ := oneP_eq h
     subst hps
     exact RO.mk (u := .int .u8 ((l.getD jn 0).toNat : Int)) ⟨rfl, rfl⟩ (fun w' _ => by simp only [Sem.run_bind, key _ _ hjx hp w', Result.andThen_ok, Sem.run_pure]; rfl)
    ·rename_i jn qs hjx
     obtain ⟨rfl, hps⟩ := oneP_eq h
     subst hps
     exact RO.mk (u := .int .u8 ((l.getD jn 0).toNat : Int)) ⟨rfl, rfl⟩ (fun w' _ => by simp only [Sem.run_bind, key _ _ hjx hp w', Result.andThen_ok, Sem.run_pure]; rfl)
    ·cases h
   ·cases h
  ·rename_i l j hv hj
   have hu := (evO_rel hs hv).1
   simp only [C.rel] at hu
   obtain ⟨hj, _⟩ := cOf_rel hs hj
   split at h
   ·rename_i ht
    split at h
    ·rename_i jn qs hjx
     obtain ⟨rfl, hps⟩ := oneP_eq h
     subst hps
     obtain ⟨ik, jj, hjj, h0, h1, h2⟩ := ixN_sound hjx hp hj
     have h1 : jj < (l.length : Int) := h1
     have hlt : jn.v < l.length := by omega
     have hsb : (⟨l.toArray⟩ : ByteArray)[jj.toNat]? = some (l.getD jn.v 0) := by
      rw [h2]
      have hlt' : jn.v < (⟨l.toArray⟩ : ByteArray).size := by show jn.v < l.toArray.size; simpa using hlt
      rw [show (⟨l.toArray⟩ : ByteArray)[jn.v]? = some ((⟨l.toArray⟩ : ByteArray)[jn.v]'hlt') from getElem?_pos (⟨l.toArray⟩ : ByteArray) jn.v hlt']
      simp only [List.getD, List.getElem?_eq_getElem hlt, Option.getD_some]
      rfl
     exact RO.mk (u := .int .u8 ((l.getD jn.v 0).toNat : Int)) ⟨rfl, rfl⟩ (fun w' _ => by
      simp only [Instr.index, hu, hjj, asIntOf, Sem.run_bind, Sem.run_pure, run_underlying ht, Result.andThen_ok, if_pos h0, hsb])
    ·cases h
   ·cases h
  ·cases h
 -- slice
 ·split at h
  ·rename_i c l hi hx hlo hhi
   exact RO.pure (evSlice_sound hm h hp (cOf_rel hs hx).1 (optC_rel hs hlo) (optC_rel hs hhi)) rfl
  ·cases h
 -- slice, with a bound on the room
 ·split at h
  ·rename_i c l hi k hx hlo hhi hk
   exact RO.pure (evSlice3_sound h hp (cOf_rel hs hx).1 (cOf_rel hs hlo).1 (cOf_rel hs hhi).1 (cOf_rel hs hk).1) rfl
  ·cases h
 -- binOp
 ·split at h
  ·rename_i x y hx hy
   exact RO.pure (evBin_sound h hp (evO_rel hs hx) (evO_rel hs hy) _ _) rfl
  ·cases h
 -- unOp
 ·split at h
  ·rename_i c hx
   exact RO.pure (evUn_sound h hp (cOf_rel hs hx).1) rfl
  ·cases h
 -- convert
 ·split at h
  ·rename_i c hx
   exact RO.pure (evConv_sound h hp (cOf_rel hs hx).1) rfl
  ·cases h
 -- extract
 ·rename_i t j
  split at h
  ·rename_i l hv
   obtain ⟨us, hu, hr⟩ := evO_rel hs hv
   split at h
   ·rename_i x hx
    injection h with h; injection h with h _; subst h
    obtain ⟨u, h1, h2⟩ := hr.get _ _ hx
    refine RO.mk (u := u) h2 (fun w' _ => ?_)
    have h1' : us.toArray[j]? = some u := by simpa using h1
    simp only [Instr.extract, hu, h1', Sem.run_bind, Sem.run_pure, Result.andThen_ok]
   ·cases h
  ·cases h
 -- makeFunc
 ·rename_i f first caps
  split at h
  ·rename_i l hf hc
   obtain ⟨rfl, _⟩ := one_eq h
   obtain ⟨es, h1, h2⟩ := capsOf_rel hs hc
   refine RO.mk (u := .func (.func f) #[] (es.map fun e => Value.pointer (some ⟨e.blk, e.off, none⟩)).toArray) ⟨⟨es, h1, rfl⟩, rfl⟩ (fun w' _ => ?_)
   have e1 : first.map a.eval = #[] := by
    apply Array.ext'
    simp [hf]
   have e2 : caps.map a.eval = (es.map fun e => Value.pointer (some ⟨e.blk, e.off, none⟩)).toArray := by
    apply Array.ext'
    simp [h2]
   simp only [Instr.makeFunc, e1, e2, Sem.run_bind, Sem.run_pure, Result.andThen_ok]
  ·cases h
 -- build
 ·exact RO.pure (evBuild_sound hs h) rfl
 -- builtins
 ·rename_i b args tys
  split at h
  ·rename_i x t r ha htys
   have hargs : args.map a.eval = #[a.eval x] := by apply Array.ext'; simp [ha]
   have ht0 : tys[0]? = some t := by
    have := congrArg (fun l => l[0]?) htys
    simpa using this
   split at h
   ·rename_i bb i st len cl e hx ht
    obtain ⟨⟨en, _, hu⟩, _⟩ := cOf_rel hs hx
    obtain ⟨rfl, _⟩ := one_eq h
    have : ∃ ad cap, a.eval x = .slice ad len.v cap := by
     rcases hu with ⟨h0, _, h1⟩ | ⟨o', cap, h1, _⟩
     ·exact ⟨_, _, by rw [h1, h0]⟩
     ·exact ⟨_, _, h1⟩
    obtain ⟨ad, cap, hu⟩ := this
    refine RO.mk (u := .int .i64 (len.v : Int)) ⟨by cases len <;> rfl, rfl⟩ (fun w' _ => ?_)
    simp only [resolve, hargs, Sem.run_bind, Sem.run_pure, Result.andThen_ok, invoke, builtin, Builtin.len_, ht0]
    simp only [List.getElem?_toArray, List.getElem?_cons_zero, hu, Sem.run_bind, run_underlying ht, Result.andThen_ok, Sem.run_pure]
    rfl
   ·rename_i e hx ht
    have hu := (cOf_rel hs hx).1
    simp only [C.rel] at hu
    obtain ⟨rfl, _⟩ := one_eq h
    refine RO.mk (u := .int .i64 0) ⟨rfl, rfl⟩ (fun w' _ => ?_)
    simp only [resolve, hargs, Sem.run_bind, Sem.run_pure, Result.andThen_ok, invoke, builtin, Builtin.len_, ht0]
    simp only [List.getElem?_toArray, List.getElem?_cons_zero, hu, Sem.run_bind, run_underlying ht, Result.andThen_ok, Sem.run_pure]
    rfl
   ·rename_i l hx ht
    have hu := (cOf_rel hs hx).1
    simp only [C.rel] at hu
    obtain ⟨rfl, _⟩ := one_eq h
    refine RO.mk (u := .int .i64 (l.length : Int)) ⟨rfl, rfl⟩ (fun w' _ => ?_)
    have hsz : (⟨l.toArray⟩ : ByteArray).size = l.length := by show l.toArray.size = _; simp
    simp only [resolve, hargs, Sem.run_bind, Sem.run_pure, Result.andThen_ok, invoke, builtin, Builtin.len_, ht0]
    simp only [List.getElem?_toArray, List.getElem?_cons_zero, hu, Sem.run_bind, run_underlying ht, Result.andThen_ok, Sem.run_pure, hsz]
    rfl
   ·rename_i l hx ht
    have hu := (cOf_rel hs hx).1
    simp only [C.rel] at hu
    obtain ⟨rfl, _⟩ := one_eq h
    refine RO.mk (u := .int .i64 (l.length : Int)) ⟨rfl, rfl⟩ (fun w' _ => ?_)
    have hsz : (⟨l.toArray⟩ : ByteArray).size = l.length := by show l.toArray.size = _; simp
    simp only [resolve, hargs, Sem.run_bind, Sem.run_pure, Result.andThen_ok, invoke, builtin, Builtin.len_, ht0]
    simp only [List.getElem?_toArray, List.getElem?_cons_zero, hu, Sem.run_bind, run_underlying ht, Result.andThen_ok, Sem.run_pure, hsz]
    rfl
   ·cases h
  ·rename_i x t r ha htys
   have hargs : args.map a.eval = #[a.eval x] := by apply Array.ext'; simp [ha]
   have ht0 : tys[0]? = some t := by
    have := congrArg (fun l => l[0]?) htys
    simpa using this
   split at h
   ·rename_i e hx ht
    have hu := (cOf_rel hs hx).1
    simp only [C.rel] at hu
    obtain ⟨rfl, _⟩ := one_eq h
    refine RO.mk (u := .int .i64 0) ⟨rfl, rfl⟩ (fun w' _ => ?_)
    simp only [resolve, hargs, Sem.run_bind, Sem.run_pure, Result.andThen_ok, invoke, builtin, Builtin.cap_, ht0]
    simp only [List.getElem?_toArray, List.getElem?_cons_zero, hu, Sem.run_bind, run_underlying ht, Result.andThen_ok, Sem.run_pure]
    rfl
   ·cases h
  ·rename_i x y ha
   have hargs : args.map a.eval = #[a.eval x, a.eval y] := by apply Array.ext'; simp [ha]
   split at h
   ·rename_i c d hx hy
    split at h
    ·rename_i c' qs hmin
     obtain ⟨rfl, _⟩ := oneP_eq h
     obtain ⟨u, h1, h2, h3⟩ := min1_sound (P := P) hmin (cOf_rel hs hx).1 (cOf_rel hs hy).1
     refine RO.mk (u := u) ⟨h1, h2⟩ (fun w' _ => ?_)
     have h3 := h3 w'
     simp only at h3
     simp only [resolve, hargs, Sem.run_bind, Sem.run_pure, Result.andThen_ok, invoke, builtin, Builtin.min_, List.foldlM_cons, List.foldlM_nil, h3]
    ·cases h
   ·cases h
  ·rename_i x y ha
   have hargs : args.map a.eval = #[a.eval x, a.eval y] := by apply Array.ext'; simp [ha]
   split at h
   ·rename_i c d hx hy
    split at h
    ·rename_i c' qs hmin
     obtain ⟨rfl, _⟩ := oneP_eq h
     obtain ⟨u, h1, h2, h3⟩ := min1_sound (P := P) hmin (cOf_rel hs hx).1 (cOf_rel hs hy).1
     refine RO.mk (u := u) ⟨h1, h2⟩ (fun w' _ => ?_)
     have h3 := h3 w'
     simp only at h3
     simp only [resolve, hargs, Sem.run_bind, Sem.run_pure, Result.andThen_ok, invoke, builtin, Builtin.max_, List.foldlM_cons, List.foldlM_nil, h3]
    ·cases h
   ·cases h
  ·cases h
 ·cases h
theorem evROw_sound {B : Nat → Prop} {W w : World} {m : List SB} (hm : MemRel ρ B W w m) {n : Nat} {sl : Slots} {a : Act} (hs : SlotsRel ds ρ n sl a) {o : Oper} {v : V} {ps : List Prop} {eff : FuncId → Bool}
  (h : evROw P eff m sl o.op = some (v, ps)) (hp : ∀ p ∈ ps, p) : RO P (fun w' => ldB o.op = true → Ext w w') (execOp a.eval o) ρ v := by
 unfold evROw at h
 split at h
 ·split at h
  ·rename_i xt x y yt hop
   split at h
   ·rename_i p q hx hy
    obtain ⟨rfl, _⟩ := one_eq h
    have hx := (evO_rel hs hx).1
    have hy := (evO_rel hs hy).1
    simp only [C.rel] at hx hy
    unfold execOp
    rw [hop]
    exact RO.pure (s := binOp .add xt (a.eval x) (a.eval y)) (by rw [hx, hy]; exact mkPure (arRun xt rfl) rfl rfl) rfl
   ·exact evRO_sound hm hs h hp
  ·exact evRO_sound hm hs h hp
 ·exact evRO_sound hm hs h hp
end
end Go.Sx
