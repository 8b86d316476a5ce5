/- The symbolic evaluator: rows written. -/
import Derived.Test.YtbamfolinbehiaaSxJ
namespace Go.Sx
open Go Go.RowKit
section
variable {P : Program} {ρ : Env}
def layR (cur : Array Value) (o : Nat) (us : List Value) : Array Value := (cur.toList.take o ++ us ++ cur.toList.drop (o + us.length)).toArray
theorem layR_size {cur : Array Value} {o : Nat} {us : List Value} (h : o + us.length ≤ cur.size) : (layR cur o us).size = cur.size := by
 simp [layR]; omega
theorem layR_get {cur : Array Value} {o : Nat} {us : List Value} (h : o + us.length ≤ cur.size) (j : Nat) : (layR cur o us)[j]? = upd (fun j => cur[j]?) o us j := by
 have htl : (cur.toList.take o).length = o := by simp; omega
 simp only [layR, List.getElem?_toArray]
 by_cases h1 : j < o
 ·rw [upd_out (by omega), List.append_assoc, List.getElem?_append_left (by omega), List.getElem?_take, if_pos h1]
  simp
 ·rw [List.append_assoc, List.getElem?_append_right (by omega), htl]
  by_cases h2 : j < o + us.length
  ·rw [upd_in ⟨by omega, h2⟩, List.getElem?_append_left (by omega)]
  ·rw [upd_out (by omega), List.getElem?_append_right (by omega), List.getElem?_drop]
   rw [show o + us.length + (j - o - us.length) = j by omega]
   simp
theorem setRow_other (w : World) (g k : Nat) (cs : Array Value) (h : k ≠ g) : (w.setRow g cs).heap[k]? = w.heap[k]? := by
 simp only [World.setRow, Array.getElem?_modify]
 rw [if_neg (by omega)]
theorem setRow_hsize (w : World) (g : Nat) (cs : Array Value) : (w.setRow g cs).heap.size = w.heap.size := by simp [World.setRow]
theorem setRow_setRow' (w : World) (g : Nat) (a b : Array Value) : (w.setRow g a).setRow g b = w.setRow g b := by
 unfold World.setRow
 congr 1
 apply Array.ext_getElem?
 intro i
 simp only [Array.getElem?_modify]
 split
 ·cases w.heap[i]? with
  | none => rfl
  | some o => cases o <;> rfl
 ·rfl
theorem storeRun (g o : Nat) (t : TypeId) (fz : Nat × Nat) : ∀ (vs : List Value) (i : Nat) (cur : Array Value) (w : World), w.heap[g]? = some (.cells cur t fz) →
  (∀ j, j < cur.size → (decide (fz.1 ≤ j) && decide (j < fz.2)) = false) → o + i + vs.length ≤ cur.size → (∀ v ∈ vs, v.oneCell' = true) →
  (storeCells ⟨g, o, none⟩ vs i).run P w = .ok () (w.setRow g (layR cur (o + i) vs))
 | [], i, cur, w, hg, _, _, _ => by
  have : layR cur (o + i) [] = cur := by simp [layR]
  rw [this, setRow_self w g cur t fz hg]
  rfl
 | v :: rest, i, cur, w, hg, hfz, hl, h1 => by
  have hi : o + i < cur.size := by simp at hl; omega
  have hcell : w.cell? ⟨g, o + i, none⟩ = some cur[o + i] := by simp [World.cell?, hg, hi]
  have hfro : w.frozen? ⟨g, o + i, none⟩ = false := by
   have := hfz (o + i) hi
   simpa [World.frozen?, hg] using this
  have hst : (store ((⟨g, o, none⟩ : Addr).add i) v).run P w = .ok () (w.setRow g (cur.setIfInBounds (o + i) v)) := by
   rw [Addr.add_lit, run_store P w _ v _ (h1 v (by simp)), hcell]
   simp [hfro, setCell_eq_setRow w g (o + i) cur t fz v hg]
  have ih := storeRun g o t fz rest (i + 1) (cur.setIfInBounds (o + i) v) (w.setRow g (cur.setIfInBounds (o + i) v)) (setRow_heap w g cur _ t _ hg) (by simpa using hfz) (by simp at hl ⊢; omega) (fun x hx => h1 x (by simp [hx]))
  simp only [storeCells, Sem.run_bind, hst, Result.andThen_ok, ih, setRow_setRow']
  congr 2
  apply Array.ext_getElem?
  intro j
  rw [layR_get (by simp at hl ⊢; omega), layR_get hl]
  simp only [upd, List.length_cons]
  by_cases h1 : o + (i + 1) ≤ j ∧ j < o + (i + 1) + rest.length
  ·rw [if_pos h1, if_pos (by omega), show j - (o + i) = (j - (o + (i + 1))) + 1 by omega, List.getElem?_cons_succ]
  ·rw [if_neg h1]
   by_cases h2 : o + i ≤ j ∧ j < o + i + (rest.length + 1)
   ·have hj : j = o + i := by omega
    rw [if_pos h2, hj]
    simp [hi]
   ·rw [if_neg h2]
    rw [Array.getElem?_setIfInBounds_ne (by omega)]
theorem layR_rel {cur : Array Value} {o off : Nat} {us : List Value} {c : Cells} (h : off + o + us.length ≤ cur.size) (hc : c.rel ρ (upd (fun j => cur[off + j]?) o us)) : c.rel ρ (fun j => (layR cur (off + o) us)[off + j]?) := by
 have : (fun j => (layR cur (off + o) us)[off + j]?) = upd (fun j => cur[off + j]?) o us := by
  funext j
  rw [layR_get h]
  simp only [upd]
  by_cases h1 : o ≤ j ∧ j < o + us.length
  ·rw [if_pos h1, if_pos (by omega), show off + j - (off + o) = j - o by omega]
  ·rw [if_neg h1, if_neg (by omega)]
 rw [this]; exact hc
theorem setBlk_get {m : List SB} {b : Nat} {s : SB} (hs : m[b]? = some s) (c : Cells) (i : Nat) : (setBlk m b c)[i]? = if i = b then some { s with c := c } else m[i]? := by
 unfold setBlk
 simp only [hs]
 by_cases h : i = b
 ·subst h
  rw [if_pos rfl, List.getElem?_set_self (List.getElem?_eq_some_iff.1 hs).1]
 ·rw [if_neg h, List.getElem?_set_ne (by omega)]
theorem setBlk_length (m : List SB) (b : Nat) (c : Cells) : (setBlk m b c).length = m.length := by
 unfold setBlk
 split <;> simp
theorem MemRel.mapsSet {B : Nat → Prop} {W w : World} {m : List SB} (hm : MemRel ρ B W w m) {b : Nat} {s : SB} (hs : m[b]? = some s) {c : Cells} (hnm : ∀ kk l, c ≠ .imap kk l) :
  (∀ (i : Nat) (e : E) (s : SB) (kk : IntKind) (l : List (Int × V1)), ρ[i]? = some e → (setBlk m b c)[i]? = some s → s.c = .imap kk l → MapAt ρ w e.blk kk l) ∧
  (∀ (i j : Nat) (e e' : E) (s s' : SB) (kk kk' : IntKind) (l l' : List (Int × V1)), i ≠ j → ρ[i]? = some e → ρ[j]? = some e' → (setBlk m b c)[i]? = some s → (setBlk m b c)[j]? = some s' →
   s.c = .imap kk l → s'.c = .imap kk' l' → e.blk ≠ e'.blk) := by
 have conv : ∀ {kk : IntKind} {l : List (Int × V1)} (i : Nat) (s' : SB), (setBlk m b c)[i]? = some s' → s'.c = .imap kk l → m[i]? = some s' := by
  intro kk l i s' h hl
  rw [setBlk_get hs] at h
  by_cases hi : i = b
  ·rw [if_pos hi] at h; injection h with h; subst h; exact absurd hl (hnm kk l)
  ·rw [if_neg hi] at h; exact h
 exact ⟨fun i e s' kk l he hs' hc => hm.maps i e s' kk l he (conv i s' hs' hc) hc,
  fun i j e e' s1 s2 kk kk' l l' hne he he' h1 h2 hc1 hc2 => hm.msep i j e e' s1 s2 kk kk' l l' hne he he' (conv i s1 h1 hc1) (conv j s2 h2 hc2) hc1 hc2⟩
theorem MemRel.write {B : Nat → Prop} {W w : World} {m : List SB} (hm : MemRel ρ B W w m) {b : Nat} {e : E} {s : SB} (he : ρ[b]? = some e) (hs : m[b]? = some s) (ho : s.own = true) (hl : s.c.live = true)
  {cur : Array Value} {ty : TypeId} {fz : Nat × Nat} (hh : w.heap[e.blk]? = some (.cells cur ty fz)) (hsz : cur.size = e.sz) (hfz : ∀ j, j < cur.size → (decide (fz.1 ≤ j) && decide (j < fz.2)) = false)
  {cur' : Array Value} (hsz' : cur'.size = cur.size) {c : Cells} (hc : c.rel ρ (fun j => cur'[e.off + j]?)) (hpos : 0 < e.sz) (hnm : ∀ kk l, c ≠ .imap kk l) : MemRel ρ B W (w.setRow e.blk cur') (setBlk m b c) where
 below := hm.below.trans ⟨rfl, rfl, rfl, by rw [setRow_hsize]; exact Nat.le_refl _, fun k hk => setRow_other w _ _ _ (fun hkk => hm.own b e s he hs ho (.inl ⟨hl, hpos⟩) (hkk ▸ hk))⟩
 base := by rw [setRow_hsize]; exact hm.base
 maps := fun i e' s' kk l he' hs' hcc => by
  rw [setBlk_get hs] at hs'
  by_cases hi : i = b
  ·rw [if_pos hi] at hs'; injection hs' with hs'; subst hs'
   exact absurd hcc (hnm kk l)
  ·rw [if_neg hi] at hs'
   obtain ⟨es, cl, h1, h2⟩ := hm.maps i e' s' kk l he' hs' hcc
   refine ⟨es, cl, ?_, h2⟩
   rw [setRow_other w _ _ _ (fun hkk => by rw [hkk, hh] at h1; cases h1)]
   exact h1
 msep := fun i j e1 e2 s1 s2 kk kk' l l' hne he1 he2 hs1 hs2 hc1 hc2 => by
  rw [setBlk_get hs] at hs1 hs2
  by_cases hi : i = b
  ·rw [if_pos hi] at hs1; injection hs1 with hs1; subst hs1
   exact absurd hc1 (hnm kk l)
  ·rw [if_neg hi] at hs1
   by_cases hj : j = b
   ·rw [if_pos hj] at hs2; injection hs2 with hs2; subst hs2
    exact absurd hc2 (hnm kk' l')
   ·rw [if_neg hj] at hs2
    exact hm.msep i j e1 e2 s1 s2 kk kk' l l' hne he1 he2 hs1 hs2 hc1 hc2
 len := by rw [setBlk_length]; exact hm.len
 blk := fun i e' s' he' hs' => by
  rw [setBlk_get hs] at hs'
  by_cases hi : i = b
  ·rw [if_pos hi] at hs'
   injection hs' with hs'; subst hs'
   subst hi
   rw [he] at he'; injection he' with he'; subst he'
   exact fun _ => ⟨cur', ty, fz, .inr (setRow_heap w _ cur cur' _ _ hh), hsz'.trans hsz, fun _ => by rw [hsz']; exact hfz, hc⟩
  ·rw [if_neg hi] at hs'
   intro hl'
   obtain ⟨cu, ty', f, h1, h2, h3, h4⟩ := hm.blk i e' s' he' hs' hl'
   refine ⟨cu, ty', f, ?_, h2, h3, h4⟩
   rcases Nat.eq_zero_or_pos e'.sz with h0 | h0
   ·exact .inl h0
   ·rw [setRow_other w _ _ _ (hm.sep b i e e' s s' (Ne.symm hi) he he' hs hs' ho hl hl' hpos h0).symm]; exact h1
 own := fun i e' s' he' hs' h hsol => by
  rw [setBlk_get hs] at hs'
  by_cases hi : i = b
  ·rw [if_pos hi] at hs'
   injection hs' with hs'; subst hs'
   subst hi
   rw [he] at he'; injection he' with he'; subst he'
   exact hm.own i e s he hs ho (.inl ⟨hl, hpos⟩)
  ·rw [if_neg hi] at hs'; exact hm.own i e' s' he' hs' h hsol
 sep := fun i j e1 e2 s1 s2 hne he1 he2 hs1 hs2 ho1 hl1 hl2 p1 p2 => by
  have conv : ∀ (i : Nat) (s' : SB), (setBlk m b c)[i]? = some s' → ∃ s0, m[i]? = some s0 ∧ s0.own = s'.own ∧ (s'.c.live = true → s0.c.live = true) := by
   intro i s' h
   rw [setBlk_get hs] at h
   by_cases hi : i = b
   ·rw [if_pos hi] at h; injection h with h; subst h; subst hi
    exact ⟨s, hs, rfl, fun _ => hl⟩
   ·rw [if_neg hi] at h; exact ⟨s', h, rfl, id⟩
  obtain ⟨t1, a1, a2, a3⟩ := conv i s1 hs1
  obtain ⟨t2, b1, _, b3⟩ := conv j s2 hs2
  exact hm.sep i j e1 e2 t1 t2 hne he1 he2 a1 b1 (a2.trans ho1) (a3 hl1) (b3 hl2) p1 p2
theorem MemRel.kill {B : Nat → Prop} {W w : World} {m : List SB} (hm : MemRel ρ B W w m) (b : Nat) : MemRel ρ B W w (setBlk m b .dead) := by
 cases hs : m[b]? with
 | none => unfold setBlk; simp only [hs]; exact hm
 | some s =>
  have conv : ∀ (i : Nat) (s' : SB), (setBlk m b .dead)[i]? = some s' → s'.c.live = true → i ≠ b ∧ m[i]? = some s' := by
   intro i s' h hl
   rw [setBlk_get hs] at h
   by_cases hi : i = b
   ·rw [if_pos hi] at h; injection h with h; subst h; cases hl
   ·rw [if_neg hi] at h; exact ⟨hi, h⟩
  have convm : ∀ {kk : IntKind} {l : List (Int × V1)} (i : Nat) (s' : SB), (setBlk m b .dead)[i]? = some s' → s'.c = .imap kk l → i ≠ b ∧ m[i]? = some s' := by
   intro kk l i s' h hl
   rw [setBlk_get hs] at h
   by_cases hi : i = b
   ·rw [if_pos hi] at h; injection h with h; subst h; cases hl
   ·rw [if_neg hi] at h; exact ⟨hi, h⟩
  refine ⟨hm.below, hm.base, by rw [setBlk_length]; exact hm.len, fun i e s' he hs' hl => ?_, fun i e s' he hs' ho hsol => ?_, fun i j e1 e2 s1 s2 hne he1 he2 hs1 hs2 ho1 hl1 hl2 => ?_, fun i e s' kk l he hs' hcc => ?_, fun i j e1 e2 s1 s2 kk kk' l l' hne he1 he2 hs1 hs2 hc1 hc2 => ?_⟩
  ·obtain ⟨_, h⟩ := conv i s' hs' hl
   exact hm.blk i e s' he h hl
  ·rw [setBlk_get hs] at hs'
   by_cases hi : i = b
   ·rw [if_pos hi] at hs'; injection hs' with hs'; subst hs'; subst hi
    rcases hsol with ⟨h, _⟩ | ⟨_, _, h⟩ <;> cases h
   ·rw [if_neg hi] at hs'; exact hm.own i e s' he hs' ho hsol
  ·obtain ⟨_, h1⟩ := conv i s1 hs1 hl1
   obtain ⟨_, h2⟩ := conv j s2 hs2 hl2
   exact hm.sep i j e1 e2 s1 s2 hne he1 he2 h1 h2 ho1 hl1 hl2
  ·obtain ⟨_, h⟩ := convm i s' hs' hcc
   exact hm.maps i e s' kk l he h hcc
  ·obtain ⟨_, h1⟩ := convm i s1 hs1 hc1
   obtain ⟨_, h2⟩ := convm j s2 hs2 hc2
   exact hm.msep i j e1 e2 s1 s2 kk kk' l l' hne he1 he2 h1 h2 hc1 hc2
theorem ownB_eq {m : List SB} {b : Nat} (h : ownB m b = true) : ∃ s, m[b]? = some s ∧ s.own = true ∧ s.c.live = true ∧ blkC m b = s.c := by
 unfold ownB at h
 unfold blkC
 split at h
 ·rename_i s hs
  simp only [Bool.and_eq_true] at h
  exact ⟨s, hs, h.1, h.2, by simp⟩
 ·cases h
theorem sizeOk_sound {sz : Nat} {y : V1} {u : Value} {ps : List Prop} (h : sizeOk sz y = some ps) (hp : ∀ p ∈ ps, p) (hy : y.rel ρ u) : u.cells.size = sz := by
 unfold sizeOk at h
 split at h
 ·split at h
  ·rename_i hb; rw [cells_one hy.2]; exact (Nat.eq_of_beq_eq_true hb).symm
  ·cases h
 ·split at h
  ·rename_i hb
   obtain ⟨us, rfl, hr, _⟩ := hy
   have := hr.length
   simp only [Value.cells, List.size_toArray]
   have := Nat.eq_of_beq_eq_true hb
   omega
  ·cases h
 ·injection h with h; subst h
  have hl := hp _ (List.Mem.head _)
  simp only [V1.rel] at hy
  subst hy
  simp [Value.cells, hl]
theorem cells_ones {y : V1} {u : Value} (hy : y.rel ρ u) : ∀ x ∈ u.cells.toList, x.oneCell' = true := by
 cases y with
 | one c => rw [cells_one hy.2]; simpa using hy.2
 | agg l => obtain ⟨us, rfl, _, ho⟩ := hy; simpa [Value.cells] using ho
 | aggi k l => simp only [V1.rel] at hy; subst hy; simp [Value.cells, Value.oneCell']
theorem stA_nm {c : Cells} {i : N} {st sub : Nat} {y : V1} {c' : Cells} {qs : List Prop} (h : stA c i st sub y = some (c', qs)) : ∀ kk l, c' ≠ .imap kk l := by
 intro kk l hc
 subst hc
 unfold stA at h
 repeat' split at h
 all_goals (first | cases h | (injection h with h; injection h with h _; cases h))
theorem store_sound {B : Nat → Prop} {W w : World} {m : List SB} (hm : MemRel ρ B W w m) {t : TypeId} {inf : TypeInfo} (hi : P.info? t = some inf) {b : Nat} {i : N} {st sub : Nat} {y : V1} {c : Cells} {ps qs : List Prop} {ua u : Value}
  (h1 : sizeOk inf.size y = some ps) (h2 : ownB m b = true) (h3 : stA (blkC m b) i st sub y = some (c, qs)) (hp : ∀ p ∈ ps, p) (hq : ∀ p ∈ qs, p) (ha : (C.ptr b i st sub).rel ρ ua) (hy : y.rel ρ u) :
  RWs P B W w (do Instr.storeAt t ua u; pure Next.skip) ρ none (setBlk m b c) := by
 obtain ⟨e, he, rfl⟩ := ha
 obtain ⟨s, hs, ho, hl, hbc⟩ := ownB_eq h2
 rw [hbc] at h3
 obtain ⟨cur, ty, fz, hh, hsz, hfz, hr⟩ := hm.blk b e s he hs hl
 obtain ⟨g1, g2, g3⟩ := stA_sound' h3 hq hr hy _ rfl _ rfl
 have hlen : u.cells.toList.length = u.cells.size := by simp
 have hus := sizeOk_sound h1 hp hy
 by_cases hz : u.cells.size = 0
 ·have hnil : u.cells.toList = [] := List.eq_nil_of_length_eq_zero (by omega)
  rw [hnil] at g2
  have hupd : upd (fun j => cur[e.off + j]?) (i.v * st + sub) [] = fun j => cur[e.off + j]? := by
   funext j; exact upd_out (by simp)
  rw [hupd] at g2
  refine ⟨.skip, w, [], ?_, rfl, ?_⟩
  ·simp only [Instr.storeAt, Instr.sureAddr, Sem.run_bind, Sem.run_pure, Result.andThen_ok, storeVar, sizeRun hi]
   rw [if_neg (by omega)]
   simp [hnil, storeCells]
  ·rw [List.append_nil]
   refine ⟨hm.below, hm.base, by rw [setBlk_length]; exact hm.len, fun j e' s' he' hs' => ?_, fun j e' s' he' hs' ho' hsol => ?_, fun j k e1 e2 s1 s2 hne he1 he2 hs1 hs2 ho1 hl1 hl2 => ?_, (hm.mapsSet hs (stA_nm h3)).1, (hm.mapsSet hs (stA_nm h3)).2⟩
   ·rw [setBlk_get hs] at hs'
    by_cases hj : j = b
    ·rw [if_pos hj] at hs'; injection hs' with hs'; subst hs'; subst hj
     rw [he] at he'; injection he' with he'; subst he'
     exact fun _ => ⟨cur, ty, fz, hh, hsz, fun _ => hfz ho, g2⟩
    ·rw [if_neg hj] at hs'; exact hm.blk j e' s' he' hs'
   ·rw [setBlk_get hs] at hs'
    by_cases hj : j = b
    ·rw [if_pos hj] at hs'; injection hs' with hs'; subst hs'; subst hj
     rcases hsol with ⟨_, h⟩ | ⟨_, _, h⟩
     ·exact hm.own j e' s he' hs ho (.inl ⟨hl, h⟩)
     ·exact absurd h (stA_nm h3 _ _)
    ·rw [if_neg hj] at hs'; exact hm.own j e' s' he' hs' ho' hsol
   ·have conv : ∀ (i : Nat) (s' : SB), (setBlk m b c)[i]? = some s' → ∃ s0, m[i]? = some s0 ∧ s0.own = s'.own ∧ (s'.c.live = true → s0.c.live = true) := by
     intro i s' h
     rw [setBlk_get hs] at h
     by_cases hi : i = b
     ·rw [if_pos hi] at h; injection h with h; subst h; subst hi
      exact ⟨s, hs, rfl, fun _ => hl⟩
     ·rw [if_neg hi] at h; exact ⟨s', h, rfl, id⟩
    obtain ⟨t1, a1, a2, a3⟩ := conv j s1 hs1
    obtain ⟨t2, b1, _, b3⟩ := conv k s2 hs2
    exact hm.sep j k e1 e2 t1 t2 hne he1 he2 a1 b1 (a2.trans ho1) (a3 hl1) (b3 hl2)
 ·obtain ⟨x, hx⟩ := g3 (u.cells.size - 1) (by omega)
  have hlt := (Array.getElem?_eq_some_iff.1 hx).1
  have hpos : 0 < e.sz := by omega
  rcases hh with hh | hh
  ·omega
  ·have hfit : e.off + (i.v * st + sub) + u.cells.toList.length ≤ cur.size := by omega
   have hrun := storeRun (P := P) e.blk (e.off + (i.v * st + sub)) ty fz u.cells.toList 0 cur w hh (hfz ho) (by simpa using hfit) (cells_ones hy)
   refine ⟨.skip, w.setRow e.blk (layR cur (e.off + (i.v * st + sub)) u.cells.toList), [], ?_, rfl, ?_⟩
   ·simp only [Instr.storeAt, Instr.sureAddr, Sem.run_bind, Sem.run_pure, Result.andThen_ok, storeVar, sizeRun hi]
    rw [if_neg (by omega)]
    simp only [Result.andThen_ok, hrun]
    rfl
   ·rw [List.append_nil]
    exact hm.write he hs ho hl hh hsz (hfz ho) (layR_size hfit) (layR_rel hfit g2) hpos (stA_nm h3)
end
end Go.Sx
