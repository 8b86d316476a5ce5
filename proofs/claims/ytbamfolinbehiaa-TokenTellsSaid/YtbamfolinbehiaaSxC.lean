/- The symbolic evaluator: conversions, cuts, indexes, what lies in memory. -/
import Derived.Test.YtbamfolinbehiaaSxB
import Derived.Lib.Strings
namespace Go.Sx
open Go Go.RowKit
section
variable {ds : List Deferred}
variable {P : Program} {ρ : Env}
theorem evUn_sound {op : UnOp} {c : C} {a : Value} {v : V} {ps : List Prop} (h : evUn op c = some (v, ps)) (hp : ∀ p ∈ ps, p) (hc : c.rel ρ a) : Pure P (Op.unary op a) ρ v := by
 unfold evUn at h
 split at h <;> simp only [C.rel] at hc <;> (try subst hc)
 ·split at h
  ·obtain ⟨rfl, _⟩ := one_eq h; exact mkPure (fun w => rfl) rfl rfl
  ·cases h
 ·split at h
  ·obtain ⟨rfl, _⟩ := one_eq h; exact mkPure (fun w => rfl) rfl rfl
  ·cases h
 ·split at h
  ·obtain ⟨rfl, _⟩ := one_eq h; exact mkPure (fun w => rfl) rfl rfl
  ·obtain ⟨rfl, _⟩ := one_eq h; exact mkPure (fun w => rfl) rfl rfl
  ·cases h
 ·split at h
  ·split at h
   ·obtain ⟨rfl, hps⟩ := oneP_eq h
    have hw := wrap_in (mem1 hps hp).1
    exact mkPure (fun w => by show Result.ok (Value.int .i64 (IntKind.i64.wrap (0 - _))) w = _; rw [hw]) rfl rfl
   ·obtain ⟨rfl, _⟩ := one_eq h; exact mkPure (fun w => rfl) rfl rfl
  ·obtain ⟨rfl, _⟩ := one_eq h; exact mkPure (fun w => rfl) rfl rfl
  ·cases h
 ·cases h
theorem convRun {src dst : TypeId} {k s : IntKind} {n : Int} (hs : P.underlying src = some (.int s)) (hd : P.underlying dst = some (.int k)) (k' : IntKind) (w : World) :
  (convert src dst (.int k' n)).run P w = .ok (.int k (k.wrap n)) w := by
 simp [convert, run_underlying hs, run_underlying hd, Conv.intToInt]
theorem evConv_sound {src dst : TypeId} {c : C} {a : Value} {v : V} {ps : List Prop} (h : evConv P src dst c = some (v, ps)) (hp : ∀ p ∈ ps, p) (hc : c.rel ρ a) : Pure P (convert src dst a) ρ v := by
 unfold evConv at h
 split at h <;> simp only [C.rel] at hc <;> (try subst hc)
 ·split at h
  ·rename_i h1 h2
   obtain ⟨rfl, _⟩ := one_eq h; exact mkPure (convRun h1 h2 _) rfl rfl
  ·cases h
 ·split at h
  ·rename_i h1 h2
   split at h
   ·obtain ⟨rfl, hps⟩ := oneP_eq h
    have hw := wrap_in (mem1 hps hp).1
    exact mkPure (fun w => by rw [convRun h1 h2, hw]) rfl rfl
   ·obtain ⟨rfl, _⟩ := one_eq h; exact mkPure (convRun h1 h2 _) rfl rfl
  ·cases h
 ·split at h
  ·rename_i h1 h2
   obtain ⟨rfl, _⟩ := one_eq h; exact mkPure (fun w => by simp [convert, run_underlying h1, run_underlying h2]) rfl rfl
  ·cases h
 ·split at h
  ·rename_i h1 h2
   obtain ⟨rfl, _⟩ := one_eq h; exact mkPure (fun w => by simp [convert, run_underlying h1, run_underlying h2]) rfl rfl
  ·cases h
 ·cases h
theorem min1_sound {b : Bool} {x y c : C} {p q : Value} {ps : List Prop} (h : min1 b x y = some (c, ps)) (hx : x.rel ρ p) (hy : y.rel ρ q) :
  ∃ u, c.rel ρ u ∧ u.oneCell' = true ∧ ∀ w, (match b with | true => Builtin.max2 p q | false => Builtin.min2 p q).run P w = .ok u w := by
 unfold min1 at h
 split at h <;> simp only [C.rel] at hx hy
 ·subst hx; subst hy; injection h with h; injection h with h _; subst h
  cases b <;> exact ⟨_, rfl, rfl, fun w => rfl⟩
 ·subst hx; subst hy; injection h with h; injection h with h _; subst h
  cases b <;> exact ⟨_, rfl, rfl, fun w => rfl⟩
 ·subst hx; subst hy; injection h with h; injection h with h _; subst h
  cases b <;> exact ⟨_, rfl, rfl, fun w => rfl⟩
 ·subst hx; subst hy; injection h with h; injection h with h _; subst h
  cases b <;> exact ⟨_, rfl, rfl, fun w => rfl⟩
 ·cases h
theorem ixN_sound {j : C} {n jn : N} {ps : List Prop} {u : Value} (h : ixN j n = some (jn, ps)) (hp : ∀ p ∈ ps, p) (hj : j.rel ρ u) :
  ∃ k i, u = .int k i ∧ 0 ≤ i ∧ i < (n.v : Int) ∧ i.toNat = jn.v := by
 unfold ixN at h
 split at h <;> simp only [C.rel] at hj
 ·split at h
  ·rename_i hd
   simp only [Bool.and_eq_true, decide_eq_true_eq] at hd
   injection h with h; injection h with h _; subst h
   exact ⟨_, _, hj, hd.1, hd.2, rfl⟩
  ·cases h
 ·split at h
  ·rename_i hd
   injection h with h; injection h with h h2; subst h; subst h2
   exact ⟨_, _, hj, of_decide_eq_true hd, hp _ (List.Mem.head _), rfl⟩
  ·cases h
 ·injection h with h; injection h with h h2; subst h; subst h2
  exact ⟨_, _, hj, hp _ (by simp), hp _ (by simp), rfl⟩
 ·cases h
theorem cutN_sound {j : C} {n jn : N} {ps : List Prop} {u : Value} (h : cutN j n = some (jn, ps)) (hp : ∀ p ∈ ps, p) (hj : j.rel ρ u) :
  ∃ k i, u = .int k i ∧ 0 ≤ i ∧ i ≤ (n.v : Int) ∧ i.toNat = jn.v := by
 unfold cutN at h
 split at h <;> simp only [C.rel] at hj
 ·split at h
  ·rename_i hd
   simp only [Bool.and_eq_true, decide_eq_true_eq] at hd
   injection h with h; injection h with h _; subst h
   exact ⟨_, _, hj, hd.1, hd.2, rfl⟩
  ·cases h
 ·split at h
  ·rename_i hd
   injection h with h; injection h with h h2; subst h
   have := of_decide_eq_true hd; subst this
   exact ⟨_, _, hj, by simp, by simp, rfl⟩
  ·split at h
   ·rename_i hd
    injection h with h; injection h with h h2; subst h; subst h2
    exact ⟨_, _, hj, of_decide_eq_true hd, hp _ (List.Mem.head _), rfl⟩
   ·cases h
 ·injection h with h; injection h with h h2; subst h; subst h2
  exact ⟨_, _, hj, hp _ (by simp), hp _ (by simp), rfl⟩
 ·cases h
theorem boundRun {k : IntKind} {i : Int} {y : Nat} (code : BoundsCode) (h0 : 0 ≤ i) (h1 : i ≤ (y : Int)) (w : World) : (Instr.sliceBound (.int k i) y code).run P w = .ok i.toNat w := by
 simp [Instr.sliceBound, asIntOf, h0, h1]
def relO (ρ : Env) : Option C → Option Value → Prop
 | none, none => True
 | some c, some u => c.rel ρ u
 | _, _ => False
theorem rng_sound {len cl a hN : N} {lo hi : Option C} {lo' hi' : Option Value} {ps : List Prop} (h : rng len cl lo hi = some (a, hN, ps)) (hp : ∀ p ∈ ps, p) (hl : relO ρ lo lo') (hh : relO ρ hi hi')
  (isS : Bool) (cap : Nat) (hc : cl.v ≤ cap) (hlc : len.v ≤ cl.v) :
  a.v ≤ hN.v ∧ hN.v ≤ cl.v ∧ ∀ w, (Instr.sliceBounds isS len.v cap lo' hi' none).run P w = .ok (a.v, hN.v, cap) w := by
 unfold rng at h
 split at h
 ·injection h with h; injection h with h1 h2; injection h2 with h2 _; subst h1; subst h2
  cases lo' <;> cases hi' <;> simp only [relO] at hl hh
  exact ⟨Nat.zero_le _, hlc, fun w => by simp [Instr.sliceBounds, N.v]⟩
 ·split at h
  ·rename_i c hn qs hcut
   injection h with h; injection h with h1 h2; injection h2 with h2 h3; subst h1; subst h2; subst h3
   cases lo' <;> cases hi' <;> simp only [relO] at hl hh
   obtain ⟨k, i, rfl, h0, h1, h2⟩ := cutN_sound hcut hp hh
   refine ⟨Nat.zero_le _, by omega, fun w => ?_⟩
   have := boundRun (P := P) (k := k) (if isS then .sliceAcap else .sliceAlen) h0 (show i ≤ (cap : Int) by omega) w
   simp [Instr.sliceBounds, N.v, this, h2]
  ·cases h
 ·split at h
  ·rename_i c ln qs hcut
   injection h with h; injection h with h1 h2; injection h2 with h2 h3; subst h1; subst h2; subst h3
   cases lo' <;> cases hi' <;> simp only [relO] at hl hh
   obtain ⟨k, i, rfl, h0, h1, h2⟩ := cutN_sound hcut hp hl
   refine ⟨by omega, by omega, fun w => ?_⟩
   have := boundRun (P := P) (k := k) .sliceB h0 h1 w
   simp [Instr.sliceBounds, this, h2]
  ·cases h
 ·split at h
  ·rename_i c1 c2 hn qs hcut
   split at h
   ·rename_i ln rs hcut2
    injection h with h; injection h with h1 h2; injection h2 with h2 h3; subst h1; subst h2; subst h3
    cases lo' <;> cases hi' <;> simp only [relO] at hl hh
    obtain ⟨k, i, rfl, h0, h1, h2⟩ := cutN_sound hcut (fun p hm => hp p (by simp [hm])) hh
    obtain ⟨k', i', rfl, h0', h1', h2'⟩ := cutN_sound hcut2 (fun p hm => hp p (by simp [hm])) hl
    refine ⟨by omega, by omega, fun w => ?_⟩
    have e1 := boundRun (P := P) (k := k) (if isS then .sliceAcap else .sliceAlen) h0 (show i ≤ (cap : Int) by omega) w
    have e2 := boundRun (P := P) (k := k') .sliceB h0' h1' w
    simp [Instr.sliceBounds, e1, h2, e2, h2']
   ·cases h
  ·cases h
theorem optC_rel {n : Nat} {sl : Slots} {a : Act} (hs : SlotsRel ds ρ n sl a) {o : Option Operand} {c : Option C} (h : optC sl o = some c) : relO ρ c (o.map a.eval) := by
 unfold optC at h
 split at h
 ·injection h with h; subst h; trivial
 ·split at h
  ·rename_i c' hc
   injection h with h; subst h
   exact (cOf_rel hs hc).1
  ·cases h
theorem N.add_v (a b : N) : (a.add b).v = a.v + b.v := by
 rcases a with a | a <;> rcases b with b | b
 ·rfl
 ·cases a <;> simp [N.add, N.v]
 ·cases b <;> simp [N.add, N.v]
 ·rfl
theorem N.sub_v (a b : N) : (a.sub b).v = a.v - b.v := by
 rcases a with a | a <;> rcases b with b | b
 ·rfl
 ·rfl
 ·cases b <;> simp [N.sub, N.v]
 ·rfl
theorem extract_mk (l : List UInt8) (a b : Nat) : (⟨l.toArray⟩ : ByteArray).extract a b = ⟨((l.take b).drop a).toArray⟩ := by
 rw [Lib.extract_eq]
 congr 1
 simp [List.drop_take]
theorem sizeRun {e : TypeId} {inf : TypeInfo} (h : P.info? e = some inf) (w : World) : (sizeOf e).run P w = .ok inf.size w := by
 simp [sizeOf, typeInfo, h]
theorem szT_eq {e : TypeId} {inf : TypeInfo} (h : P.info? e = some inf) : szT P e = inf.size := by simp [szT, h]
theorem szT_pos {e : TypeId} (h : 1 ≤ szT P e) : ∃ inf, P.info? e = some inf ∧ szT P e = inf.size := by
 unfold szT at *
 split at h
 ·rename_i inf hi; exact ⟨inf, hi, by simp⟩
 ·omega
def Ext (w w' : World) : Prop := w.heap.size ≤ w'.heap.size ∧ ∀ k, k < w.heap.size → w'.heap[k]? = w.heap[k]?
theorem Ext.refl (w : World) : Ext w w := ⟨Nat.le_refl _, fun _ _ => rfl⟩
theorem Ext.trans {a b c : World} (h : Ext a b) (k : Ext b c) : Ext a c := ⟨Nat.le_trans h.1 k.1, fun i hi => (k.2 i (Nat.lt_of_lt_of_le hi h.1)).trans (h.2 i hi)⟩
theorem Ext.cell {w w' : World} (h : Ext w w') {a : Addr} {u : Value} (hc : w.cell? a = some u) : w'.cell? a = some u :=
 (World.cell?_of_block (h.2 a.block (World.block_lt_of_cell? w a hc))).trans hc
theorem Ext.drew (w : World) : Ext w w.drew := ⟨Nat.le_refl _, fun _ _ => rfl⟩
def CX (w w' : World) : Prop := ∀ a u, w.cell? a = some u → w'.cell? a = some u
theorem CX.refl (w : World) : CX w w := fun _ _ h => h
theorem Ext.cx {w w' : World} (h : Ext w w') : CX w w' := fun _ _ hc => h.cell hc
theorem SB.cells {w : World} {e : E} {s : SB} (h : s.rel ρ w e) (hl : s.c.live = true) :
  ∃ g : Nat → Option Value, s.c.rel ρ g ∧ (∀ j u, g j = some u → w.cell? ⟨e.blk, e.off + j, none⟩ = some u ∧ e.off + j < e.sz) := by
 obtain ⟨cur, ty, fz, hh, hs, _, hr⟩ := h hl
 refine ⟨_, hr, fun j u hj => ?_⟩
 have hj' : e.off + j < cur.size := (Array.getElem?_eq_some_iff.1 hj).1
 rcases hh with hh | hh
 ·omega
 ·exact ⟨by rw [cell_of_row w e.blk (e.off + j) cur ty fz hh]; exact hj, by omega⟩
theorem blkC_eq {m : List SB} {b : Nat} {c : Cells} (h : blkC m b = c) (hl : c.live = true) : ∃ s, m[b]? = some s ∧ s.c = c := by
 unfold blkC at h
 split at h
 ·rename_i s hs; exact ⟨s, hs, h⟩
 ·subst h; cases hl
theorem MemRel.cells {B : Nat → Prop} {W w : World} {m : List SB} (hm : MemRel ρ B W w m) {b : Nat} {e : E} (he : ρ[b]? = some e) {c : Cells} (h : blkC m b = c) (hl : c.live = true) :
  ∃ g : Nat → Option Value, c.rel ρ g ∧ (∀ j u, g j = some u → w.cell? ⟨e.blk, e.off + j, none⟩ = some u ∧ e.off + j < e.sz) := by
 obtain ⟨s, hs, rfl⟩ := blkC_eq h hl
 exact SB.cells (hm.blk b e s he hs) hl
theorem MemRel.fits {B : Nat → Prop} {W w : World} {m : List SB} (hm : MemRel ρ B W w m) {b : Nat} {e : E} (he : ρ[b]? = some e) {k : Nat} {ps : List Prop} (h : fits (blkC m b) k = some ps) (hp : ∀ p ∈ ps, p) (hk : 0 < k) :
  e.off + k ≤ e.sz := by
 cases hc : blkC m b with
 | dead => rw [hc] at h; simp [Sx.fits] at h
 | imap kk l => rw [hc] at h; simp [Sx.fits] at h
 | exp l =>
  obtain ⟨g, hr, hg⟩ := hm.cells he hc rfl
  rw [hc] at h
  simp only [Sx.fits] at h
  split at h
  ·rename_i hle
   have hle := Nat.le_of_ble_eq_true hle
   obtain ⟨u, h1, _⟩ := hr (k - 1) l[k - 1] (List.getElem?_eq_getElem (by omega))
   have := (hg _ _ h1).2
   omega
  ·cases h
 | ints ik l =>
  obtain ⟨g, hr, hg⟩ := hm.cells he hc rfl
  rw [hc] at h
  simp only [Sx.fits] at h
  injection h with h; subst h
  have hle := hp _ (List.Mem.head _)
  have := (hg _ _ (hr (k - 1) l[k - 1] (List.getElem?_eq_getElem (by omega)))).2
  omega
 | recs ks l =>
  obtain ⟨g, hr, hg⟩ := hm.cells he hc rfl
  rw [hc] at h
  simp only [Sx.fits] at h
  injection h with h; subst h
  have hle : k ≤ l.length * ks.length := hp _ (List.Mem.head _)
  have hks : 0 < ks.length := by
   rcases Nat.eq_zero_or_pos ks.length with h0 | h0
   ·rw [h0] at hle; omega
   ·exact h0
  have hi : (k - 1) / ks.length < l.length := Nat.div_lt_of_lt_mul (by rw [Nat.mul_comm]; omega)
  obtain ⟨h1, h2⟩ := hr _ _ (List.getElem?_eq_getElem hi)
  have hj : (k - 1) % ks.length < ks.length := Nat.mod_lt _ hks
  have := (hg _ _ (h2 ((k - 1) % ks.length) _ _ (List.getElem?_eq_getElem (by omega)) (List.getElem?_eq_getElem hj))).2
  have e := Nat.div_add_mod (k - 1) ks.length
  rw [Nat.mul_comm] at e
  omega
theorem intOfC_rel {k : IntKind} {c : C} {n : Int} (h : intOfC k c = some n) {u : Value} (hr : c.rel ρ u) : u = .int k n := by
 unfold intOfC at h
 split at h
 ·split at h
  ·rename_i hk; injection h with h; subst h
   have := of_decide_eq_true hk; subst this; exact hr
  ·cases h
 ·split at h
  ·rename_i hk; injection h with h; subst h
   have := of_decide_eq_true hk; subst this; exact hr
  ·cases h
 ·cases h
theorem intsOf_cell {k : IntKind} : ∀ {l : List C} {l' : List Int} {j : Nat} {n : Int}, intsOf k l = some l' → l'[j]? = some n → ∃ c, l[j]? = some c ∧ intOfC k c = some n
 | [], l', j, n, h, hj => by simp only [intsOf, Option.some.injEq] at h; subst h; simp at hj
 | c :: r, l', j, n, h, hj => by
  simp only [intsOf] at h
  split at h
  ·cases h
  ·rename_i m hm
   split at h
   ·cases h
   ·rename_i l0 hl
    injection h with h; subst h
    cases j with
    | zero => simp only [List.getElem?_cons_zero, Option.some.injEq] at hj; subst hj; exact ⟨c, rfl, hm⟩
    | succ j => simp only [List.getElem?_cons_succ] at hj ⊢; exact intsOf_cell hl hj
theorem ldC_sound {B : Nat → Prop} {W w : World} {m : List SB} (hm : MemRel ρ B W w m) {b : Nat} {e : E} (he : ρ[b]? = some e) {i : N} {st sub : Nat} {c : C} {ps : List Prop}
  (h : ldC (blkC m b) i st sub = some (c, ps)) (hp : ∀ p ∈ ps, p) : ∃ u, c.rel ρ u ∧ u.oneCell' = true ∧ w.cell? ⟨e.blk, e.off + (i.v * st + sub), none⟩ = some u := by
 unfold ldC at h
 split at h
 ·rename_i st sub _ _ _ _ l n hc
  split at h
  ·rename_i c' hj
   injection h with h; injection h with h _; subst h
   obtain ⟨g, hr, hg⟩ := hm.cells he hc rfl
   obtain ⟨u, h1, h2, h3⟩ := hr _ _ hj
   exact ⟨u, h2, h3, (hg _ _ h1).1⟩
  ·cases h
 ·rename_i l n hc
  split at h
  ·rename_i k hk
   split at h
   ·rename_i l' hl
    injection h with h; injection h with h h2; subst h; subst h2
    obtain ⟨g, hr, hg⟩ := hm.cells he hc rfl
    have hlt : n < l'.length := hp _ (List.Mem.head _)
    obtain ⟨c0, h1, h2⟩ := intsOf_cell hl (List.getElem?_eq_getElem hlt)
    obtain ⟨u, h3, h4, _⟩ := hr n c0 h1
    have := intOfC_rel h2 h4
    subst this
    refine ⟨_, rfl, rfl, ?_⟩
    have := (hg _ _ h3).1
    rw [Nat.mul_one, Nat.add_zero, show (N.s n).v = n from rfl, this]
    simp [List.getD, List.getElem?_eq_getElem hlt]
   ·cases h
  ·cases h
 ·rename_i i _ _ _ _ k l hc
  injection h with h; injection h with h h2; subst h; subst h2
  obtain ⟨g, hr, hg⟩ := hm.cells he hc rfl
  have hlt : i.v < l.length := hp _ (List.Mem.head _)
  refine ⟨_, rfl, rfl, ?_⟩
  have := (hg _ _ (hr _ _ (List.getElem?_eq_getElem hlt))).1
  rw [Nat.mul_one, Nat.add_zero, this]
  simp [List.getD, List.getElem?_eq_getElem hlt]
 ·rename_i i st sub _ _ _ _ ks l hc
  split at h
  ·rename_i hst
   have hst := Nat.eq_of_beq_eq_true hst
   split at h
   ·rename_i k hk
    injection h with h; injection h with h h2; subst h; subst h2
    obtain ⟨g, hr, hg⟩ := hm.cells he hc rfl
    have hlt : i.v < l.length := hp _ (List.Mem.head _)
    obtain ⟨h1, h2⟩ := hr _ _ (List.getElem?_eq_getElem hlt)
    have hsub : sub < ks.length := (List.getElem?_eq_some_iff.1 hk).1
    refine ⟨_, rfl, rfl, ?_⟩
    have := (hg _ _ (h2 sub _ _ (List.getElem?_eq_getElem (by omega)) hk)).1
    rw [hst, this]
    simp [List.getD, List.getElem?_eq_getElem hlt, List.getElem?_eq_getElem (show sub < l[i.v].length by omega)]
   ·cases h
  ·cases h
 ·cases h
theorem relL_row : ∀ (ks : List IntKind) (j : Nat) (r : List Int), relL ρ (cellsOfRow r ks j) ((ks.zipIdx j).map fun x => Value.int x.1 (r.getD x.2 0))
 | [], _, _ => rfl
 | k :: ks, j, r => ⟨_, _, by simp, rfl, relL_row ks (j + 1) r⟩
theorem ldA_sound {B : Nat → Prop} {W w : World} {m : List SB} (hm : MemRel ρ B W w m) {b : Nat} {e : E} (he : ρ[b]? = some e) {i : N} {st sub sz : Nat} {v : V} {ps : List Prop}
  (h : ldA (blkC m b) i st sub sz = some (v, ps)) (hp : ∀ p ∈ ps, p) :
  ∃ us : List Value, us.length = sz ∧ v.rel ρ (.agg us.toArray) ∧ ∀ (j : Nat) (u : Value), us[j]? = some u → w.cell? ⟨e.blk, e.off + (i.v * st + sub) + j, none⟩ = some u := by
 unfold ldA at h
 split at h
 ·rename_i st sub sz _ _ _ _ _ l n hc
  split at h
  ·rename_i hle
   have hle := Nat.le_of_ble_eq_true hle
   injection h with h; injection h with h _; subst h
   obtain ⟨g, hr, hg⟩ := hm.cells he hc rfl
   have hall : ∀ j, j < sz → ∃ u, g (n * st + sub + j) = some u ∧ (l[n * st + sub + j]?.getD .nilp).rel ρ u ∧ u.oneCell' = true := fun j hj => by
    obtain ⟨u, h1, h2, h3⟩ := hr (n * st + sub + j) _ (List.getElem?_eq_getElem (by omega))
    exact ⟨u, h1, by simpa [List.getElem?_eq_getElem (show n * st + sub + j < l.length by omega)] using h2, h3⟩
   refine ⟨(List.range sz).map fun j => (g (n * st + sub + j)).getD undef, by simp, ⟨_, rfl, relL.of_get (by simp; omega) fun j c hj => ?_, ?_⟩, fun j u hj => ?_⟩
   ·have hjs : j < sz := by
     have := (List.getElem?_eq_some_iff.1 hj).1
     simp at this; omega
    obtain ⟨u, h1, h2, _⟩ := hall j hjs
    refine ⟨u, by simp [hjs, h1], ?_⟩
    rw [List.getElem?_take, if_pos hjs, List.getElem?_drop] at hj
    rw [hj] at h2
    exact h2
   ·intro x hx
    obtain ⟨j, hj, rfl⟩ := List.mem_map.1 hx
    obtain ⟨u, h1, _, h3⟩ := hall j (List.mem_range.1 hj)
    simpa [h1] using h3
   ·have hjs : j < sz := by
     have := (List.getElem?_eq_some_iff.1 hj).1
     simpa using this
    obtain ⟨u', h1, _⟩ := hall j hjs
    simp [hjs, h1] at hj
    subst hj
    have := (hg _ _ h1).1
    rw [← Nat.add_assoc] at this
    exact this
  ·cases h
 ·rename_i st sz _ _ _ _ _ k l hc
  injection h with h; injection h with h h2; subst h; subst h2
  obtain ⟨g, hr, hg⟩ := hm.cells he hc rfl
  have hl : l.length = sz := hp _ (List.Mem.head _)
  refine ⟨l.map (Value.int k), by simp [hl], rfl, fun j u hj => ?_⟩
  rw [List.getElem?_map] at hj
  cases hlj : l[j]? with
  | none => simp [hlj] at hj
  | some n =>
   simp [hlj] at hj
   subst hj
   have := (hg _ _ (hr _ _ hlj)).1
   simpa [N.v] using this
 ·rename_i i st sz _ _ _ _ _ ks l hc
  split at h
  ·rename_i hst
   simp only [Bool.and_eq_true] at hst
   have h1 := Nat.eq_of_beq_eq_true hst.1
   have h2 := Nat.eq_of_beq_eq_true hst.2
   injection h with h; injection h with h h3; subst h; subst h3
   obtain ⟨g, hr, hg⟩ := hm.cells he hc rfl
   have hlt : i.v < l.length := hp _ (List.Mem.head _)
   obtain ⟨h4, h5⟩ := hr _ _ (List.getElem?_eq_getElem hlt)
   have hgd : l.getD i.v [] = l[i.v] := by simp [List.getD, List.getElem?_eq_getElem hlt]
   refine ⟨(ks.zipIdx 0).map fun x => Value.int x.1 ((l.getD i.v []).getD x.2 0), by simp [h2], ⟨_, rfl, relL_row ks 0 _, ?_⟩, fun j u hj => ?_⟩
   ·intro x hx
    obtain ⟨y, _, rfl⟩ := List.mem_map.1 hx
    rfl
   ·rw [List.getElem?_map, List.getElem?_zipIdx] at hj
    cases hk : ks[j]? with
    | none => simp [hk] at hj
    | some k =>
     simp only [hk, Option.map_some, Option.some.injEq, Nat.zero_add] at hj
     have hjl : j < ks.length := (List.getElem?_eq_some_iff.1 hk).1
     have := (hg _ _ (h5 j _ k (List.getElem?_eq_getElem (by omega)) hk)).1
     rw [h1, Nat.add_zero, Nat.add_assoc, this, ← hj, hgd]
     simp [List.getD, List.getElem?_eq_getElem (show j < l[i.v].length by omega)]
  ·cases h
 ·rename_i i st sz _ _ _ _ _ ks l s hc
  split at h
  ·rename_i hst
   simp only [Bool.and_eq_true] at hst
   have h1 := Nat.eq_of_beq_eq_true hst.1
   have h2 := Nat.le_of_ble_eq_true hst.2
   injection h with h; injection h with h h3; subst h; subst h3
   obtain ⟨g, hr, hg⟩ := hm.cells he hc rfl
   have hlt : i.v < l.length := hp _ (List.Mem.head _)
   obtain ⟨h4, h5⟩ := hr _ _ (List.getElem?_eq_getElem hlt)
   have hgd : l.getD i.v [] = l[i.v] := by simp [List.getD, List.getElem?_eq_getElem hlt]
   refine ⟨(((ks.drop (s + 1)).take sz).zipIdx (s + 1)).map fun x => Value.int x.1 ((l.getD i.v []).getD x.2 0), by simp; omega, ⟨_, rfl, relL_row _ (s + 1) _, ?_⟩, fun j u hj => ?_⟩
   ·intro x hx
    obtain ⟨y, _, rfl⟩ := List.mem_map.1 hx
    rfl
   ·rw [List.getElem?_map, List.getElem?_zipIdx] at hj
    cases hk : ((ks.drop (s + 1)).take sz)[j]? with
    | none => simp [hk] at hj
    | some k =>
     simp only [hk, Option.map_some, Option.some.injEq] at hj
     have hjs : j < sz := by
      have := (List.getElem?_eq_some_iff.1 hk).1
      rw [List.length_take] at this; omega
     rw [List.getElem?_take, if_pos hjs, List.getElem?_drop] at hk
     have hjl : s + 1 + j < ks.length := (List.getElem?_eq_some_iff.1 hk).1
     have := (hg _ _ (h5 (s + 1 + j) _ k (List.getElem?_eq_getElem (by omega)) hk)).1
     rw [h1, show e.off + (i.v * ks.length + (s + 1)) + j = e.off + (i.v * ks.length + (s + 1 + j)) by omega, this, ← hj, hgd]
     simp [List.getD, List.getElem?_eq_getElem (show s + 1 + j < l[i.v].length by omega)]
  ·cases h
 ·cases h
theorem ptrCut {e : TypeId} {n b k st sub : Nat} {lo hi : Option C} {lo' hi' : Option Value} {v : V} {ps qs : List Prop} (hsz : 1 ≤ szT P e)
  (h : (match decide (k * st + sub = 0) with
    | true => match rng (.c n) (.c n) lo hi with
     | some (a, h, ps) => oneP (.slice b a (szT P e) (h.sub a) ((N.c n).sub a)) (ps ++ qs)
     | none => none
    | false => none) = some (v, ps)) (hp : ∀ p ∈ ps, p) (hl : relO ρ lo lo') (hh : relO ρ hi hi') (hn : n ≤ maxLen) {en : E} (hb : ρ[b]? = some en) (hfit : 0 < n → en.off + n * szT P e ≤ en.sz) :
  ∃ u, v.rel ρ u ∧ ∀ w, (do
   let (l, h, m) ← Instr.sliceBounds false n n lo' hi' none
   let size ← sizeOf e
   pure (Value.slice (some (if m = l then ⟨en.blk, en.off + (k * st + sub), none⟩ else (⟨en.blk, en.off + (k * st + sub), none⟩ : Addr).add (l * size))) (h - l) (m - l)) : Sem Value).run P w = .ok u w := by
 split at h
 ·rename_i hz
  have hz := of_decide_eq_true hz
  split at h
  ·rename_i a hN qs' hr
   obtain ⟨rfl, hps⟩ := oneP_eq h
   subst hps
   obtain ⟨h1, h2, h3⟩ := rng_sound (P := P) hr (fun p hm => hp p (by simp [hm])) hl hh false n (Nat.le_refl _) (Nat.le_refl _)
   obtain ⟨inf, hi, hsi⟩ := szT_pos hsz
   have h2 : hN.v ≤ n := h2
   refine ⟨.slice (some (if n = a.v then ⟨en.blk, en.off + (k * st + sub), none⟩ else (⟨en.blk, en.off + (k * st + sub), none⟩ : Addr).add (a.v * inf.size))) (hN.v - a.v) (n - a.v), ⟨⟨en, hb, .inr ?_⟩, rfl⟩, fun w => ?_⟩
   ·by_cases hna : n = a.v
    ·refine ⟨en.off, n - a.v, ?_, ?_, ?_, ?_, .inl (by omega)⟩
     ·rw [if_pos hna, hz, N.sub_v]; rfl
     ·rw [N.sub_v, N.sub_v]; show hN.v - a.v ≤ n - a.v; omega
     ·rw [N.sub_v]; exact Nat.le_refl _
     ·omega
    ·refine ⟨en.off + a.v * inf.size, n - a.v, ?_, ?_, ?_, ?_, .inr ⟨by rw [hsi], ?_⟩⟩
     ·rw [if_neg hna, hz, Addr.add_lit, N.sub_v]; rfl
     ·rw [N.sub_v, N.sub_v]; show hN.v - a.v ≤ n - a.v; omega
     ·rw [N.sub_v]; exact Nat.le_refl _
     ·omega
     ·rw [← hsi, Nat.add_assoc, ← Nat.add_mul]
      have : a.v + (n - a.v) = n := by omega
      rw [this]; exact hfit (by omega)
   ·have h3 := h3 w
    simp only [Sem.run_bind]
    rw [show (Instr.sliceBounds false n n lo' hi' none).run P w = _ from h3]
    simp only [Result.andThen_ok, sizeRun hi]
    rfl
  ·cases h
 ·cases h
end
end Go.Sx
