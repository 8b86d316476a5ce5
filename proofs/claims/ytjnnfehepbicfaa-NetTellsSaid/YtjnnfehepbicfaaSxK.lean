/- The symbolic evaluator: rows written. -/
import Derived.Test.YtjnnfehepbicfaaSxJ
namespace Go.Sx
open Go Go.RowKit
section
variable {P : Program} {ρ : Env}

/-- a row with some cells anew -/
def layR (cur : Array Value) (o : Nat) (us : List Value) : Array Value := (cur.toList.take o ++ us ++ cur.toList.drop (o + us.length)).toArray
theorem layR_size {cur : Array Value} {o : Nat} {us : List Value} (h : o + us.length ≤ cur.size) : (layR cur o us).size = cur.size := by
  simp [layR]; omega
theorem layR_get {cur : Array Value} {o : Nat} {us : List Value} (h : o + us.length ≤ cur.size) (j : Nat) : (layR cur o us)[j]? = upd (fun j => cur[j]?) o us j := by
  have htl : (cur.toList.take o).length = o := by simp; omega
  simp only [layR, List.getElem?_toArray]
  by_cases h1 : j < o
  · rw [upd_out (by omega), List.append_assoc, List.getElem?_append_left (by omega), List.getElem?_take, if_pos h1]
    simp
  · rw [List.append_assoc, List.getElem?_append_right (by omega), htl]
    by_cases h2 : j < o + us.length
    · rw [upd_in ⟨by omega, h2⟩, List.getElem?_append_left (by omega)]
    · rw [upd_out (by omega), List.getElem?_append_right (by omega), List.getElem?_drop]
      rw [show o + us.length + (j - o - us.length) = j by omega]
      simp
theorem setRow_other (w : World) (g k : Nat) (cs : Array Value) (h : k ≠ g) : (w.setRow g cs).heap[k]? = w.heap[k]? := by
  simp only [World.setRow, Array.getElem?_modify]
  rw [if_neg (by omega)]
theorem setRow_hsize (w : World) (g : Nat) (cs : Array Value) : (w.setRow g cs).heap.size = w.heap.size := by simp [World.setRow]
theorem setRow_setRow' (w : World) (g : Nat) (a b : Array Value) : (w.setRow g a).setRow g b = w.setRow g b := by
  unfold World.setRow
  congr 1
  apply Array.ext_getElem?
  intro i
  simp only [Array.getElem?_modify]
  split
  · cases w.heap[i]? with
    | none => rfl
    | some o => cases o <;> rfl
  · rfl
theorem storeRun (g o : Nat) (t : TypeId) (fz : Nat × Nat) : ∀ (vs : List Value) (i : Nat) (cur : Array Value) (w : World), w.heap[g]? = some (.cells cur t fz) →
    (∀ j, j < cur.size → (decide (fz.1 ≤ j) && decide (j < fz.2)) = false) → o + i + vs.length ≤ cur.size → (∀ v ∈ vs, v.oneCell' = true) →
    (storeCells ⟨g, o, none⟩ vs i).run P w = .ok () (w.setRow g (layR cur (o + i) vs))
  | [], i, cur, w, hg, _, _, _ => by
    have : layR cur (o + i) [] = cur := by simp [layR]
    rw [this, setRow_self w g cur t fz hg]
    rfl
  | v :: rest, i, cur, w, hg, hfz, hl, h1 => by
    have hi : o + i < cur.size := by simp at hl; omega
    have hcell : w.cell? ⟨g, o + i, none⟩ = some cur[o + i] := by simp [World.cell?, hg, hi]
    have hfro : w.frozen? ⟨g, o + i, none⟩ = false := by
      have := hfz (o + i) hi
      simpa [World.frozen?, hg] using this
    have hst : (store ((⟨g, o, none⟩ : Addr).add i) v).run P w = .ok () (w.setRow g (cur.setIfInBounds (o + i) v)) := by
      rw [Addr.add_lit, run_store P w _ v _ (h1 v (by simp)), hcell]
      simp [hfro, setCell_eq_setRow w g (o + i) cur t fz v hg]
    have ih := storeRun g o t fz rest (i + 1) (cur.setIfInBounds (o + i) v) (w.setRow g (cur.setIfInBounds (o + i) v)) (setRow_heap w g cur _ t _ hg) (by simpa using hfz) (by simp at hl ⊢; omega) (fun x hx => h1 x (by simp [hx]))
    simp only [storeCells, Sem.run_bind, hst, Result.andThen_ok, ih, setRow_setRow']
    congr 2
    apply Array.ext_getElem?
    intro j
    rw [layR_get (by simp at hl ⊢; omega), layR_get hl]
    simp only [upd, List.length_cons]
    by_cases h1 : o + (i + 1) ≤ j ∧ j < o + (i + 1) + rest.length
    · rw [if_pos h1, if_pos (by omega), show j - (o + i) = (j - (o + (i + 1))) + 1 by omega, List.getElem?_cons_succ]
    · rw [if_neg h1]
      by_cases h2 : o + i ≤ j ∧ j < o + i + (rest.length + 1)
      · have hj : j = o + i := by omega
        rw [if_pos h2, hj]
        simp [hi]
      · rw [if_neg h2]
        rw [Array.getElem?_setIfInBounds_ne (by omega)]
theorem layR_rel {cur : Array Value} {o off : Nat} {us : List Value} {c : Cells} (h : off + o + us.length ≤ cur.size) (hc : c.rel ρ (upd (fun j => cur[off + j]?) o us)) : c.rel ρ (fun j => (layR cur (off + o) us)[off + j]?) := by
  have : (fun j => (layR cur (off + o) us)[off + j]?) = upd (fun j => cur[off + j]?) o us := by
    funext j
    rw [layR_get h]
    simp only [upd]
    by_cases h1 : o ≤ j ∧ j < o + us.length
    · rw [if_pos h1, if_pos (by omega), show off + j - (off + o) = j - o by omega]
    · rw [if_neg h1, if_neg (by omega)]
  rw [this]; exact hc

theorem setBlk_get {m : List SB} {b : Nat} {s : SB} (hs : m[b]? = some s) (c : Cells) (i : Nat) : (setBlk m b c)[i]? = if i = b then some { s with c := c } else m[i]? := by
  unfold setBlk
  simp only [hs]
  by_cases h : i = b
  · subst h
    rw [if_pos rfl, List.getElem?_set_self (List.getElem?_eq_some_iff.1 hs).1]
  · rw [if_neg h, List.getElem?_set_ne (by omega)]
theorem setBlk_length (m : List SB) (b : Nat) (c : Cells) : (setBlk m b c).length = m.length := by
  unfold setBlk
  split <;> simp
theorem okN_set {B : KZ} {W : World} {m : List SB} {b : Nat} {e : E} {s : SB} {c : Cells} {k : Nat} (hs : m[b]? = some s) (he : ρ[b]? = some e) (hc : s.own = true → solid c e → solid s.c e) (h : okN ρ B W m k) : okN ρ B W (setBlk m b c) k := by
  refine ⟨h.1, fun j e1 s1 he1 hs1 ho1 hsol => ?_⟩
  rw [setBlk_get hs] at hs1
  by_cases hj : j = b
  · rw [if_pos hj] at hs1; injection hs1 with hs1; subst hs1; subst hj
    rw [he] at he1; injection he1 with he1; subst he1
    exact h.2 j e s he hs ho1 (hc ho1 hsol)
  · rw [if_neg hj] at hs1; exact h.2 j e1 s1 he1 hs1 ho1 hsol
theorem MemRel.nestSet {B : KZ} {W w : World} {m : List SB} (hm : MemRel ρ B W w m) {b : Nat} {e : E} {s : SB} {c : Cells} (hs : m[b]? = some s) (he : ρ[b]? = some e) (hsol : s.own = true → solid c e → solid s.c e)
    (hc : NestC (okN ρ B W (setBlk m b c)) w e c) (i : Nat) (e' : E) (s' : SB) (he' : ρ[i]? = some e') (hs' : (setBlk m b c)[i]? = some s') : NestC (okN ρ B W (setBlk m b c)) w e' s'.c := by
  rw [setBlk_get hs] at hs'
  by_cases hi : i = b
  · rw [if_pos hi] at hs'; injection hs' with hs'; subst hs'; subst hi
    rw [he] at he'; injection he' with he'; subst he'
    exact hc
  · rw [if_neg hi] at hs'
    exact (hm.nest i e' s' he' hs').mono (fun k h1 _ => ⟨okN_set hs he hsol h1, rfl⟩) fun _ _ => rfl
theorem liveSolid {s : SB} {c : Cells} {e : E} (hl : s.c.live = true) (hnm : ∀ kk l, c ≠ .imap kk l) : s.own = true → solid c e → solid s.c e := fun _ h => by
  rcases h with ⟨_, h⟩ | ⟨kk, l, h⟩
  · exact .inl ⟨hl, h⟩
  · exact absurd h (hnm kk l)
theorem MemRel.mapsSet {B : KZ} {W w : World} {m : List SB} (hm : MemRel ρ B W w m) {b : Nat} {s : SB} (hs : m[b]? = some s) {c : Cells} (hnm : ∀ kk l, c ≠ .imap kk l) :
    (∀ (i : Nat) (e : E) (s : SB) (kk : IntKind) (l : List (Int × V1)), ρ[i]? = some e → (setBlk m b c)[i]? = some s → s.c = .imap kk l → MapAt ρ w e.blk kk l) ∧
    (∀ (i j : Nat) (e e' : E) (s s' : SB) (kk kk' : IntKind) (l l' : List (Int × V1)), i ≠ j → ρ[i]? = some e → ρ[j]? = some e' → (setBlk m b c)[i]? = some s → (setBlk m b c)[j]? = some s' →
      s.c = .imap kk l → s'.c = .imap kk' l' → e.blk ≠ e'.blk) := by
  have conv : ∀ {kk : IntKind} {l : List (Int × V1)} (i : Nat) (s' : SB), (setBlk m b c)[i]? = some s' → s'.c = .imap kk l → m[i]? = some s' := by
    intro kk l i s' h hl
    rw [setBlk_get hs] at h
    by_cases hi : i = b
    · rw [if_pos hi] at h; injection h with h; subst h; exact absurd hl (hnm kk l)
    · rw [if_neg hi] at h; exact h
  exact ⟨fun i e s' kk l he hs' hc => hm.maps i e s' kk l he (conv i s' hs' hc) hc,
    fun i j e e' s1 s2 kk kk' l l' hne he he' h1 h2 hc1 hc2 => hm.msep i j e e' s1 s2 kk kk' l l' hne he he' (conv i s1 h1 hc1) (conv j s2 h2 hc2) hc1 hc2⟩
/-- an own block written -/
theorem MemRel.write {B : KZ} {W w : World} {m : List SB} (hm : MemRel ρ B W w m) {b : Nat} {e : E} {s : SB} (he : ρ[b]? = some e) (hs : m[b]? = some s) (ho : s.own = true) (hl : s.c.live = true)
    {cur : Array Value} {ty : TypeId} {fz : Nat × Nat} (hh : w.heap[e.blk]? = some (.cells cur ty fz)) (hsz : cur.size = e.sz) (hfz : ∀ j, j < cur.size → (decide (fz.1 ≤ j) && decide (j < fz.2)) = false)
    {cur' : Array Value} (hsz' : cur'.size = cur.size) {c : Cells} (hc : c.rel ρ (fun j => cur'[e.off + j]?)) (hpos : 0 < e.sz) (hnm : ∀ kk l, c ≠ .imap kk l) (hnc : NestC (okN ρ B W m) (w.setRow e.blk cur') e c) : MemRel ρ B W (w.setRow e.blk cur') (setBlk m b c) where
  nest := fun i e' s' he' hs' => by
    rw [setBlk_get hs] at hs'
    by_cases hi : i = b
    · rw [if_pos hi] at hs'; injection hs' with hs'; subst hs'; subst hi
      rw [he] at he'; injection he' with he'; subst he'
      exact hnc.mono (fun k h1 _ => ⟨okN_set hs he (liveSolid hl hnm) h1, rfl⟩) fun _ _ => rfl
    · rw [if_neg hi] at hs'
      exact (hm.nest i e' s' he' hs').mono (fun k h1 _ => ⟨okN_set hs he (liveSolid hl hnm) h1, setRow_other w _ _ _ (h1.2 b e s he hs ho (.inl ⟨hl, hpos⟩)).symm⟩)
        fun hl' h0 => setRow_other w _ _ _ (hm.sep b i e e' s s' (Ne.symm hi) he he' hs hs' ho hl hl' hpos h0).symm
  below := hm.below.trans ⟨rfl, rfl, rfl, by rw [setRow_hsize]; exact Nat.le_refl _, fun k hk => setRow_other w _ _ _ (fun hkk => hm.own b e s he hs ho (.inl ⟨hl, hpos⟩) (hkk ▸ hk))⟩
  base := by rw [setRow_hsize]; exact hm.base
  maps := fun i e' s' kk l he' hs' hcc => by
    rw [setBlk_get hs] at hs'
    by_cases hi : i = b
    · rw [if_pos hi] at hs'; injection hs' with hs'; subst hs'
      exact absurd hcc (hnm kk l)
    · rw [if_neg hi] at hs'
      obtain ⟨es, cl, h1, h2⟩ := hm.maps i e' s' kk l he' hs' hcc
      refine ⟨es, cl, ?_, h2⟩
      rw [setRow_other w _ _ _ (fun hkk => by rw [hkk, hh] at h1; cases h1)]
      exact h1
  msep := fun i j e1 e2 s1 s2 kk kk' l l' hne he1 he2 hs1 hs2 hc1 hc2 => by
    rw [setBlk_get hs] at hs1 hs2
    by_cases hi : i = b
    · rw [if_pos hi] at hs1; injection hs1 with hs1; subst hs1
      exact absurd hc1 (hnm kk l)
    · rw [if_neg hi] at hs1
      by_cases hj : j = b
      · rw [if_pos hj] at hs2; injection hs2 with hs2; subst hs2
        exact absurd hc2 (hnm kk' l')
      · rw [if_neg hj] at hs2
        exact hm.msep i j e1 e2 s1 s2 kk kk' l l' hne he1 he2 hs1 hs2 hc1 hc2
  len := by rw [setBlk_length]; exact hm.len
  blk := fun i e' s' he' hs' => by
    rw [setBlk_get hs] at hs'
    by_cases hi : i = b
    · rw [if_pos hi] at hs'
      injection hs' with hs'; subst hs'
      subst hi
      rw [he] at he'; injection he' with he'; subst he'
      exact fun _ => ⟨cur', ty, fz, .inr (setRow_heap w _ cur cur' _ _ hh), hsz'.trans hsz, fun _ => by rw [hsz']; exact hfz, hc⟩
    · rw [if_neg hi] at hs'
      intro hl'
      obtain ⟨cu, ty', f, h1, h2, h3, h4⟩ := hm.blk i e' s' he' hs' hl'
      refine ⟨cu, ty', f, ?_, h2, h3, h4⟩
      rcases Nat.eq_zero_or_pos e'.sz with h0 | h0
      · exact .inl h0
      · rw [setRow_other w _ _ _ (hm.sep b i e e' s s' (Ne.symm hi) he he' hs hs' ho hl hl' hpos h0).symm]; exact h1
  own := fun i e' s' he' hs' h hsol => by
    rw [setBlk_get hs] at hs'
    by_cases hi : i = b
    · rw [if_pos hi] at hs'
      injection hs' with hs'; subst hs'
      subst hi
      rw [he] at he'; injection he' with he'; subst he'
      exact hm.own i e s he hs ho (.inl ⟨hl, hpos⟩)
    · rw [if_neg hi] at hs'; exact hm.own i e' s' he' hs' h hsol
  sep := fun i j e1 e2 s1 s2 hne he1 he2 hs1 hs2 ho1 hl1 hl2 p1 p2 => by
    have conv : ∀ (i : Nat) (s' : SB), (setBlk m b c)[i]? = some s' → ∃ s0, m[i]? = some s0 ∧ s0.own = s'.own ∧ (s'.c.live = true → s0.c.live = true) := by
      intro i s' h
      rw [setBlk_get hs] at h
      by_cases hi : i = b
      · rw [if_pos hi] at h; injection h with h; subst h; subst hi
        exact ⟨s, hs, rfl, fun _ => hl⟩
      · rw [if_neg hi] at h; exact ⟨s', h, rfl, id⟩
    obtain ⟨t1, a1, a2, a3⟩ := conv i s1 hs1
    obtain ⟨t2, b1, _, b3⟩ := conv j s2 hs2
    exact hm.sep i j e1 e2 t1 t2 hne he1 he2 a1 b1 (a2.trans ho1) (a3 hl1) (b3 hl2) p1 p2
/-- a block forgotten -/
theorem MemRel.kill {B : KZ} {W w : World} {m : List SB} (hm : MemRel ρ B W w m) (b : Nat) : MemRel ρ B W w (setBlk m b .dead) := by
  cases hs : m[b]? with
  | none => unfold setBlk; simp only [hs]; exact hm
  | some s =>
    have conv : ∀ (i : Nat) (s' : SB), (setBlk m b .dead)[i]? = some s' → s'.c.live = true → i ≠ b ∧ m[i]? = some s' := by
      intro i s' h hl
      rw [setBlk_get hs] at h
      by_cases hi : i = b
      · rw [if_pos hi] at h; injection h with h; subst h; cases hl
      · rw [if_neg hi] at h; exact ⟨hi, h⟩
    have convm : ∀ {kk : IntKind} {l : List (Int × V1)} (i : Nat) (s' : SB), (setBlk m b .dead)[i]? = some s' → s'.c = .imap kk l → i ≠ b ∧ m[i]? = some s' := by
      intro kk l i s' h hl
      rw [setBlk_get hs] at h
      by_cases hi : i = b
      · rw [if_pos hi] at h; injection h with h; subst h; cases hl
      · rw [if_neg hi] at h; exact ⟨hi, h⟩
    refine ⟨hm.below, hm.base, by rw [setBlk_length]; exact hm.len, fun i e s' he hs' hl => ?_, fun i e s' he hs' ho hsol => ?_, fun i j e1 e2 s1 s2 hne he1 he2 hs1 hs2 ho1 hl1 hl2 => ?_, fun i e s' kk l he hs' hcc => ?_, fun i j e1 e2 s1 s2 kk kk' l l' hne he1 he2 hs1 hs2 hc1 hc2 => ?_, ?_⟩
    rotate_right
    · intro i e' s' he' hs'
      have hlt : b < ρ.length := by rw [hm.len]; exact (List.getElem?_eq_some_iff.1 hs).1
      exact hm.nestSet hs (List.getElem?_eq_getElem hlt) (fun _ h => by rcases h with ⟨h, _⟩ | ⟨_, _, h⟩ <;> cases h) (flat_nest (c := .dead) rfl) i e' s' he' hs'
    · obtain ⟨_, h⟩ := conv i s' hs' hl
      exact hm.blk i e s' he h hl
    · rw [setBlk_get hs] at hs'
      by_cases hi : i = b
      · rw [if_pos hi] at hs'; injection hs' with hs'; subst hs'; subst hi
        rcases hsol with ⟨h, _⟩ | ⟨_, _, h⟩ <;> cases h
      · rw [if_neg hi] at hs'; exact hm.own i e s' he hs' ho hsol
    · obtain ⟨_, h1⟩ := conv i s1 hs1 hl1
      obtain ⟨_, h2⟩ := conv j s2 hs2 hl2
      exact hm.sep i j e1 e2 s1 s2 hne he1 he2 h1 h2 ho1 hl1 hl2
    · obtain ⟨_, h⟩ := convm i s' hs' hcc
      exact hm.maps i e s' kk l he h hcc
    · obtain ⟨_, h1⟩ := convm i s1 hs1 hc1
      obtain ⟨_, h2⟩ := convm j s2 hs2 hc2
      exact hm.msep i j e1 e2 s1 s2 kk kk' l l' hne he1 he2 h1 h2 hc1 hc2
theorem deadSolid {s : SB} {e : E} : s.own = true → solid .dead e → solid s.c e := fun _ h => by rcases h with ⟨h, _⟩ | ⟨_, _, h⟩ <;> cases h
/-- an own block written, and forgotten: what is told of others' bytes stands, and they are not in it -/
theorem MemRel.nestKill {B : KZ} {W w : World} {m : List SB} (hm : MemRel ρ B W w m) {b : Nat} {e : E} {s : SB} (he : ρ[b]? = some e) (hs : m[b]? = some s) (ho : s.own = true) (hl : s.c.live = true) (hpos : 0 < e.sz) (cur' : Array Value)
    (i : Nat) (e1 : E) (s1 : SB) (he1 : ρ[i]? = some e1) (hs1 : (setBlk m b .dead)[i]? = some s1) : NestC (fun k => okN ρ B W (setBlk m b .dead) k ∧ e.blk ≠ k) (w.setRow e.blk cur') e1 s1.c := by
  rw [setBlk_get hs] at hs1
  by_cases hi : i = b
  · rw [if_pos hi] at hs1; injection hs1 with hs1; subst hs1; exact flat_nest (c := .dead) rfl
  · rw [if_neg hi] at hs1
    have hne : ∀ k, okN ρ B W m k → e.blk ≠ k := fun k h => h.2 b e s he hs ho (.inl ⟨hl, hpos⟩)
    exact (hm.nest i e1 s1 he1 hs1).mono (fun k h1 _ => ⟨⟨okN_set hs he deadSolid h1, hne k h1⟩, setRow_other w _ _ _ (hne k h1).symm⟩)
      fun hl' h0 => setRow_other w _ _ _ (hm.sep b i e e1 s s1 (Ne.symm hi) he he1 hs hs1 ho hl hl' hpos h0).symm
/-- a block that has no place brings nothing that others' bytes could lie in -/
theorem MemRel.nestFree {B : KZ} {W w : World} {m : List SB} (hm : MemRel ρ B W w m) {s0 : SB} {e0 : E} (h : ¬ solid s0.c e0) (i : Nat) (e : E) (s : SB) (he : ρ[i]? = some e) (hs : m[i]? = some s) :
    NestC (fun k => okN ρ B W m k ∧ (s0.own = true → solid s0.c e0 → e0.blk ≠ k)) w e s.c := (hm.nest i e s he hs).mono (fun k h1 _ => ⟨⟨h1, fun _ hs => (h hs).elim⟩, rfl⟩) fun _ _ => rfl
theorem flatSolid {c : Cells} {b o : Nat} (hf : c.flat = true) : ¬ solid c ⟨b, o, 0⟩ := fun h => by
  rcases h with ⟨_, h⟩ | ⟨_, _, h⟩
  · exact absurd h (Nat.lt_irrefl _)
  · exact flat_nm hf _ _ h
/-- bytes that are told of, as a block -/
theorem MemRel.pushFz {B : KZ} {W w : World} {m : List SB} (hm : MemRel ρ B W w m) {u : Value} {d : List Int} (h : Nst (okN ρ B W m) w u d) :
    ∃ e, MemRel (ρ ++ [e]) B W w (m ++ [⟨false, .fz d⟩]) ∧ (behindC m d).rel (ρ ++ [e]) u ∧ u.oneCell' = true := by
  have free : ∀ (e0 : E) (i : Nat) (e : E) (s : SB), ρ[i]? = some e → m[i]? = some s → NestC (fun k => okN ρ B W m k ∧ ((⟨false, .fz d⟩ : SB).own = true → solid (.fz d) e0 → e0.blk ≠ k)) w e s.c := fun e0 i e s he hs =>
    (hm.nest i e s he hs).mono (fun k h1 _ => ⟨⟨h1, fun h => by cases h⟩, rfl⟩) fun _ _ => rfl
  have none' : ∀ k o : Nat, d = [] → MemRel (ρ ++ [⟨k, o, 0⟩]) B W w (m ++ [⟨false, .fz d⟩]) := fun k o hd => by
    subst hd
    exact hm.push ⟨k, o, 0⟩ ⟨false, .fz []⟩ (fun _ => ⟨#[], 0, (0, 0), .inl rfl, rfl, (fun h => by cases h), fun j n h => by simp at h⟩) (fun h => by cases h) (fun kk l h => by cases h)
      (fun _ _ _ _ _ _ _ h _ _ => by simp at h) (free _) (.inl rfl)
  rcases h with ⟨hd, hu⟩ | ⟨k, o, sp, cap, hu, h1, h2, h3⟩
  · refine ⟨⟨0, 0, 0⟩, none' 0 0 hd, ⟨⟨0, 0, 0⟩, by rw [← hm.len]; simp, .inl ⟨?_, ?_, hu⟩⟩, by rw [hu]; rfl⟩
    · rw [hd]; rfl
    · rw [hd]; rfl
  · rcases h3 with h3 | ⟨hsp, h3, cur, ty, fz, h4, h5, h6⟩
    · have hd : d = [] := List.eq_nil_of_length_eq_zero (by omega)
      exact ⟨⟨k, o, 0⟩, none' k o hd, ⟨⟨k, o, 0⟩, by rw [← hm.len]; simp, .inr ⟨o, sp, cap, hu, Nat.le_refl _, h1, h2, .inl h3⟩⟩, by rw [hu]; rfl⟩
    · refine ⟨⟨k, o, cur.size⟩, hm.push ⟨k, o, cur.size⟩ ⟨false, .fz d⟩ (fun _ => ⟨cur, ty, fz, .inr h4, rfl, (fun h => by cases h), h6⟩) (fun h => by cases h) (fun kk l h => by cases h)
        (fun j e s he hs hl p1 _ _ ho => ?_) (free _) (.inr ⟨⟨h3, fun h => by cases h⟩, cur, ty, fz, h4⟩), ⟨⟨k, o, cur.size⟩, by rw [← hm.len]; simp, .inr ⟨o, sp, cap, hu, Nat.le_refl _, h1, h2, .inr ⟨hsp, by simp [N.v], by simpa using h5⟩⟩⟩, by rw [hu]; rfl⟩
      rcases ho with ho | ho
      · cases ho
      · exact (h3.2 j e s he hs ho (.inl ⟨hl, p1⟩)).symm
theorem blkC_recB {m : List SB} {b : Nat} {ks : List IntKind} {l : List (List Int × List Int)} (h : blkC m b = .recB ks l) : ∃ s, m[b]? = some s ∧ s.c = .recB ks l := by
  obtain ⟨s, hs, h1⟩ := blkC_eq h rfl
  refine ⟨s, hs, ?_⟩
  cases hc : s.c <;> rw [hc] at h1 <;> first | exact h1 | cases h1
/-- the end of a row -/
theorem ldRow_sound {B : KZ} {W w : World} {m : List SB} (hm : MemRel ρ B W w m) {b : Nat} {e : E} (he : ρ[b]? = some e) {i : N} {st sub sz : Nat} {cs : List C} {d : List Int} {ps : List Prop}
    (h : ldRow (blkC m b) i st sub sz = some (cs, d, ps)) (hp : ∀ p ∈ ps, p) :
    ∃ (us : List Value) (u : Value), us.length + 1 = sz ∧ relL ρ cs us ∧ (∀ x ∈ us, x.oneCell' = true) ∧ Nst (okN ρ B W m) w u d ∧
      ∀ (j : Nat) (v : Value), (us ++ [u])[j]? = some v → w.cell? ⟨e.blk, e.off + (i.v * st + sub) + j, none⟩ = some v := by
  unfold ldRow at h
  split at h
  · rename_i i st sub sz _ _ _ _ _ ks l hc
    split at h
    · rename_i hst
      simp only [Bool.and_eq_true] at hst
      have h1 := Nat.eq_of_beq_eq_true hst.1.1
      have h2 := Nat.eq_of_beq_eq_true hst.1.2
      have h3 := Nat.le_of_ble_eq_true hst.2
      injection h with h; injection h with e1 h; injection h with e2 e3
      subst e1; subst e2; subst e3
      have hlt : i.v < l.length := hp _ (List.Mem.head _)
      obtain ⟨g, hr, hg⟩ := hm.cells he hc rfl
      obtain ⟨r1, r2, _⟩ := hr _ _ (List.getElem?_eq_getElem hlt)
      obtain ⟨s, hs, hsc⟩ := blkC_recB hc
      have hn := hm.nest b e s he hs
      rw [hsc] at hn
      obtain ⟨_, cur, ty, fz, u, n1, n2, n3⟩ := hn i.v _ (List.getElem?_eq_getElem hlt)
      have hgd : l.getD i.v ([], []) = l[i.v] := by simp [List.getD, List.getElem?_eq_getElem hlt]
      rw [hgd]
      refine ⟨((ks.drop sub).zipIdx sub).map fun x => Value.int x.1 (l[i.v].1.getD x.2 0), u, by simp; omega, relL_row _ sub _, ?_, n3, fun j v hj => ?_⟩
      · intro x hx
        obtain ⟨y, _, rfl⟩ := List.mem_map.1 hx
        rfl
      · by_cases hjl : j < ks.length - sub
        · rw [List.getElem?_append_left (by simpa using hjl), List.getElem?_map, List.getElem?_zipIdx, List.getElem?_drop] at hj
          have hk : ks[sub + j]? = some (ks[sub + j]'(by omega)) := List.getElem?_eq_getElem (by omega)
          rw [hk] at hj
          simp only [Option.map_some, Option.some.injEq] at hj
          have := (hg _ _ (r2 (sub + j) _ _ (List.getElem?_eq_getElem (by omega)) hk)).1
          rw [h1, Nat.add_assoc e.off, Nat.add_assoc (i.v * (ks.length + 1)), this, ← hj]
          simp [List.getD, List.getElem?_eq_getElem (show sub + j < l[i.v].1.length by omega)]
        · have hjj : j = ks.length - sub := by
            have := (List.getElem?_eq_some_iff.1 hj).1
            simp at this; omega
          subst hjj
          rw [List.getElem?_append_right (by simp)] at hj
          simp at hj
          subst hj
          rw [h1, cell_of_row w e.blk _ cur ty fz n1, show e.off + (i.v * (ks.length + 1) + sub) + (ks.length - sub) = e.off + (i.v * (ks.length + 1) + ks.length) by omega]
          exact n2
    · cases h
  · cases h
theorem evLdRow_sound {B : KZ} {W w : World} {m : List SB} (hm : MemRel ρ B W w m) {t : TypeId} {b : Nat} {e : E} (he : ρ[b]? = some e) {i : N} {st sub : Nat} {h h' : List Bool} {v : Option V} {m' : List SB} {ps : List Prop}
    (hev : evLdRow P m t b i st sub h = some (v, m', h', ps)) (hp : ∀ p ∈ ps, p) :
    ∃ r e1 u, v = some r ∧ MemRel (ρ ++ [e1]) B W w m' ∧ r.rel (ρ ++ [e1]) u ∧ ∀ w', CX w w' → (loadVar t ⟨e.blk, e.off + (i.v * st + sub), none⟩).run P w' = .ok u w' := by
  unfold evLdRow at hev
  split at hev
  · rename_i inf ha hi
    split at hev
    · rename_i cs d qs hld
      injection hev with hev; injection hev with e1 e2; injection e2 with e2 e3; injection e3 with e3 e4
      subst e1; subst e2; subst e4
      obtain ⟨us, u, h1, h2, h3, h4, h5⟩ := ldRow_sound hm he hld hp
      obtain ⟨e1, h6, h7, h8⟩ := hm.pushFz h4
      refine ⟨_, e1, .agg (us ++ [u]).toArray, rfl, h6, ⟨us ++ [u], rfl, (relL_app [e1] h2).append ⟨u, [], rfl, h7, rfl⟩, fun x hx => ?_⟩, fun w' hw => ?_⟩
      · rcases List.mem_append.1 hx with hx | hx
        · exact h3 x hx
        · rw [List.mem_singleton.1 hx]; exact h8
      · have := run_loadCells_list (P := P) w' ⟨e.blk, e.off + (i.v * st + sub), none⟩ (us ++ [u]) (fun j v hj => by rw [Addr.add_lit]; exact hw _ _ (h5 j v hj))
        rw [List.length_append, List.length_singleton, h1] at this
        simp only [loadVar, Sem.run_bind, isAggRun ha, Result.andThen_ok, if_true, sizeRun hi, this, Sem.run_pure]
    · cases hev
  · rename_i inf ha hi
    split at hev
    · rename_i d qs hld
      injection hev with hev; injection hev with e1 e2; injection e2 with e2 e3; injection e3 with e3 e4
      subst e1; subst e2; subst e4
      obtain ⟨us, u, h1, h2, h3, h4, h5⟩ := ldRow_sound hm he hld hp
      obtain ⟨e1, h6, h7, h8⟩ := hm.pushFz h4
      have hus : us = [] := List.eq_nil_of_length_eq_zero (by omega)
      subst hus
      refine ⟨_, e1, u, rfl, h6, ⟨h7, h8⟩, fun w' hw => ?_⟩
      have := h5 0 u rfl
      rw [Nat.add_zero] at this
      simp only [loadVar, Sem.run_bind, isAggRun ha, Result.andThen_ok, Bool.false_eq_true, if_false, run_load, hw _ _ this]
    · cases hev
  · cases hev
/-- an own block of bytes is not written any more, and may be told of -/
theorem MemRel.freeze {B : KZ} {W w : World} {m : List SB} (hm : MemRel ρ B W w m) {b : Nat} {s : SB} {d : List Int} (hs : m[b]? = some s) (ho : s.own = true) (hl : s.c.live = true) (hc : ∀ g : Nat → Option Value, s.c.rel ρ g → (Cells.fz d).rel ρ g) :
    MemRel ρ B W w (m.set b ⟨false, .fz d⟩) := by
  have hb := (List.getElem?_eq_some_iff.1 hs).1
  have get : ∀ (i : Nat) (s' : SB), (m.set b ⟨false, .fz d⟩)[i]? = some s' → (i = b ∧ s' = ⟨false, .fz d⟩) ∨ (i ≠ b ∧ m[i]? = some s') := fun i s' h => by
    by_cases hi : i = b
    · subst hi; rw [List.getElem?_set_self hb] at h; injection h with h; exact .inl ⟨rfl, h.symm⟩
    · rw [List.getElem?_set_ne (Ne.symm hi)] at h; exact .inr ⟨hi, h⟩
  refine ⟨hm.below, hm.base, by rw [List.length_set]; exact hm.len, fun i e s' he h => ?_, fun i e s' he h ho' hsol => ?_, fun i j e e' s1 s2 hne he he' h1 h2 o1 l1 l2 p1 p2 => ?_, fun i e s' kk l he h hcc => ?_, fun i j e e' s1 s2 kk kk' l l' hne he he' h1 h2 c1 c2 => ?_, fun i e s' he h => ?_⟩
  · rcases get i s' h with ⟨rfl, rfl⟩ | ⟨_, h⟩
    · obtain ⟨cur, ty, fz, q1, q2, _, q4⟩ := hm.blk _ e s he hs hl
      exact fun _ => ⟨cur, ty, fz, q1, q2, (fun h => by cases h), hc _ q4⟩
    · exact hm.blk i e s' he h
  · rcases get i s' h with ⟨rfl, rfl⟩ | ⟨_, h⟩
    · cases ho'
    · exact hm.own i e s' he h ho' hsol
  · rcases get i s1 h1 with ⟨_, rfl⟩ | ⟨_, g1⟩
    · cases o1
    · rcases get j s2 h2 with ⟨ej, rfl⟩ | ⟨_, g2⟩
      · exact hm.sep i j e e' s1 s hne he he' g1 (ej ▸ hs) o1 l1 hl p1 p2
      · exact hm.sep i j e e' s1 s2 hne he he' g1 g2 o1 l1 l2 p1 p2
  · rcases get i s' h with ⟨rfl, rfl⟩ | ⟨_, h⟩
    · cases hcc
    · exact hm.maps i e s' kk l he h hcc
  · rcases get i s1 h1 with ⟨rfl, rfl⟩ | ⟨_, h1⟩
    · cases c1
    · rcases get j s2 h2 with ⟨rfl, rfl⟩ | ⟨_, h2⟩
      · cases c2
      · exact hm.msep i j e e' s1 s2 kk kk' l l' hne he he' h1 h2 c1 c2
  · have up : ∀ k, okN ρ B W m k → okN ρ B W (m.set b ⟨false, .fz d⟩) k := fun k hk => ⟨hk.1, fun j e1 s1 he1 h1 o1 hsol => by
      rcases get j s1 h1 with ⟨rfl, rfl⟩ | ⟨_, h1⟩
      · cases o1
      · exact hk.2 j e1 s1 he1 h1 o1 hsol⟩
    rcases get i s' h with ⟨rfl, rfl⟩ | ⟨_, h⟩
    · rcases Nat.eq_zero_or_pos e.sz with h0 | h0
      · exact .inl h0
      · obtain ⟨cur, ty, fz, q1, _⟩ := hm.blk _ e s he hs hl
        rcases q1 with q1 | q1
        · omega
        refine .inr ⟨⟨.inr (hm.own _ e s he hs ho (.inl ⟨hl, h0⟩)), fun j e1 s1 he1 h1 o1 hsol => ?_⟩, cur, ty, fz, q1⟩
        rcases get j s1 h1 with ⟨rfl, rfl⟩ | ⟨hne, h1⟩
        · cases o1
        · rcases hsol with ⟨z1, z2⟩ | ⟨kk, l, z⟩
          · exact hm.sep j _ e1 e s1 s hne he1 he h1 hs o1 z1 hl z2 h0
          · obtain ⟨es, cl, z3, _⟩ := hm.maps j e1 s1 kk l he1 h1 z
            intro heq
            rw [heq, q1] at z3; cases z3
    · exact (hm.nest i e s' he h).mono (fun k h1 _ => ⟨up k h1, rfl⟩) fun _ _ => rfl
theorem okN_freeze {B : KZ} {W : World} {m : List SB} {b : Nat} {c : Cells} {k : Nat} (h : okN ρ B W m k) : okN ρ B W (m.set b ⟨false, c⟩) k := by
  refine ⟨h.1, fun j e1 s1 he1 h1 o1 hsol => ?_⟩
  by_cases hj : j = b
  · subst hj
    rw [List.getElem?_set] at h1
    simp only [if_true] at h1
    split at h1
    · injection h1 with h1; subst h1; cases o1
    · cases h1
  · rw [List.getElem?_set_ne (Ne.symm hj)] at h1
    exact h.2 j e1 s1 he1 h1 o1 hsol
/-- a block told otherwise -/
theorem MemRel.recast {B : KZ} {W w : World} {m : List SB} (hm : MemRel ρ B W w m) {b : Nat} {e : E} {s : SB} (he : ρ[b]? = some e) (hs : m[b]? = some s) (hl : s.c.live = true) {c : Cells}
    (hb : SB.rel ρ w e { s with c := c }) (hnm : ∀ kk l, c ≠ .imap kk l) (hn : NestC (okN ρ B W m) w e c) : MemRel ρ B W w (setBlk m b c) := by
  refine ⟨hm.below, hm.base, by rw [setBlk_length]; exact hm.len, fun i e' s' he' hs' => ?_, fun i e' s' he' hs' h hsol => ?_, fun i j e1 e2 s1 s2 hne he1 he2 hs1 hs2 ho1 hl1 hl2 p1 p2 => ?_, (hm.mapsSet hs hnm).1, (hm.mapsSet hs hnm).2, hm.nestSet hs he (liveSolid hl hnm) (hn.mono (fun k h1 _ => ⟨okN_set hs he (liveSolid hl hnm) h1, rfl⟩) fun _ _ => rfl)⟩
  · rw [setBlk_get hs] at hs'
    by_cases hi : i = b
    · rw [if_pos hi] at hs'; injection hs' with hs'; subst hs'; subst hi
      rw [he] at he'; injection he' with he'; subst he'
      exact hb
    · rw [if_neg hi] at hs'; exact hm.blk i e' s' he' hs'
  · rw [setBlk_get hs] at hs'
    by_cases hi : i = b
    · rw [if_pos hi] at hs'; injection hs' with hs'; subst hs'; subst hi
      rcases hsol with ⟨_, h1⟩ | ⟨_, _, h1⟩
      · exact hm.own i e' s he' hs h (.inl ⟨hl, h1⟩)
      · exact absurd h1 (hnm _ _)
    · rw [if_neg hi] at hs'; exact hm.own i e' s' he' hs' h hsol
  · have conv : ∀ (i : Nat) (s' : SB), (setBlk m b c)[i]? = some s' → ∃ s0, m[i]? = some s0 ∧ s0.own = s'.own ∧ (s'.c.live = true → s0.c.live = true) := by
      intro i s' h
      rw [setBlk_get hs] at h
      by_cases hi : i = b
      · rw [if_pos hi] at h; injection h with h; subst h; subst hi
        exact ⟨s, hs, rfl, fun _ => hl⟩
      · rw [if_neg hi] at h; exact ⟨s', h, rfl, id⟩
    obtain ⟨t1, a1, a2, a3⟩ := conv i s1 hs1
    obtain ⟨t2, b1, _, b3⟩ := conv j s2 hs2
    exact hm.sep i j e1 e2 t1 t2 hne he1 he2 a1 b1 (a2.trans ho1) (a3 hl1) (b3 hl2) p1 p2
/-- the bytes of a block that nobody writes, in a slice -/
theorem nst_fz {B : KZ} {W w : World} {m : List SB} (hm : MemRel ρ B W w m) {b : Nat} {o : Bool} {d : List Int} (hs : m[b]? = some ⟨o, .fz d⟩) {len cl : N} (hl : len.v = d.length) {u : Value} (hu : (C.slice b (.c 0) 1 len cl).rel ρ u) : Nst (okN ρ B W m) w u d := by
  obtain ⟨e, he, hu⟩ := hu
  rcases hu with ⟨h0, _, rfl⟩ | ⟨o, sp, cap, rfl, h1, h2, h3, h4⟩
  · exact .inl ⟨List.eq_nil_of_length_eq_zero (by omega), rfl⟩
  · refine .inr ⟨e.blk, o, sp, cap, by rw [hl], by omega, h3, ?_⟩
    rcases h4 with h4 | ⟨hsp, h4, h5⟩
    · exact .inl h4
    · have hn := hm.nest b e _ he hs
      obtain ⟨cur, ty, fz, k1, k2, k3, k4⟩ := hm.blk b e _ he hs rfl
      simp only [N.v, Nat.zero_mul, Nat.mul_one, Nat.add_zero] at h4 h5
      rcases hn with hn | ⟨hn, _⟩
      · exact .inl (by omega)
      · rcases k1 with k1 | k1
        · exact .inl (by omega)
        · exact .inr ⟨hsp, hn, cur, ty, fz, k1, by omega, fun j n hj => by rw [h4]; exact k4 j n hj⟩
theorem ints_exp {k : IntKind} {l : List C} {l' : List Int} (h : intsOf k l = some l') {g : Nat → Option Value} (hr : (Cells.exp l).rel ρ g) : (Cells.ints k l').rel ρ g := fun j n hj => by
  obtain ⟨c, h1, h2⟩ := intsOf_cell h hj
  obtain ⟨u, h3, h4, _⟩ := hr j c h1
  rw [h3, intOfC_rel h2 h4]
theorem frzS_sound {B : KZ} {W w : World} {m m' : List SB} (hm : MemRel ρ B W w m) {b0 : Nat} {c : C} {d : List Int} {ps : List Prop} (h : frzS m b0 c = some (d, m', ps)) (hp : ∀ p ∈ ps, p) {u : Value} (hu : c.rel ρ u) :
    MemRel ρ B W w m' ∧ (∀ k, okN ρ B W m k → okN ρ B W m' k) ∧ m'[b0]? = m[b0]? ∧ Nst (okN ρ B W m') w u d := by
  have key : ∀ {b : Nat} {len cl : N} {d : List Int} {s : SB}, u = u → Nat.beq b b0 = false → m[b]? = some s → s.own = true → s.c.live = true → (∀ g : Nat → Option Value, s.c.rel ρ g → (Cells.fz d).rel ρ g) → len.v = d.length → (C.slice b (.c 0) 1 len cl).rel ρ u →
      MemRel ρ B W w (m.set b ⟨false, .fz d⟩) ∧ (∀ k, okN ρ B W m k → okN ρ B W (m.set b ⟨false, .fz d⟩) k) ∧ (m.set b ⟨false, .fz d⟩)[b0]? = m[b0]? ∧ Nst (okN ρ B W (m.set b ⟨false, .fz d⟩)) w u d := by
    intro b len cl d s _ hb hs ho hl hc hlen hu
    have hne : b ≠ b0 := fun e => by subst e; rw [Nat.beq_refl b] at hb; cases hb
    have h1 := hm.freeze hs ho hl hc
    refine ⟨h1, fun k => okN_freeze, List.getElem?_set_ne hne, nst_fz h1 (List.getElem?_set_self (List.getElem?_eq_some_iff.1 hs).1) hlen hu⟩
  unfold frzS at h
  split at h
  · injection h with h; injection h with h1 h; injection h with h2 h3; subst h1; subst h2
    exact ⟨hm, fun _ h => h, rfl, .inl ⟨rfl, hu⟩⟩
  · split at h
    · rename_i hb hs
      injection h with h; injection h with h1 h; injection h with h2 h3; subst h1; subst h2; subst h3
      exact ⟨hm, fun _ h => h, rfl, nst_fz hm hs (hp _ (List.Mem.head _)) hu⟩
    · rename_i hb hs
      injection h with h; injection h with h1 h; injection h with h2 h3; subst h1; subst h2; subst h3
      exact key rfl hb hs rfl rfl (fun g h => h) (hp _ (List.Mem.head _)) hu
    · rename_i hb hs
      split at h
      · rename_i d' n hi
        split at h
        · rename_i hn
          injection h with h; injection h with h1 h; injection h with h2 h3; subst h1; subst h2; subst h3
          exact key rfl hb hs rfl rfl (fun g h => ints_exp hi h) (show (N.c n).v = _ from Nat.eq_of_beq_eq_true hn) hu
        · cases h
      · rename_i d' n hi
        injection h with h; injection h with h1 h; injection h with h2 h3; subst h1; subst h2; subst h3
        exact key rfl hb hs rfl rfl (fun g h => ints_exp hi h) (hp _ (List.Mem.head _)) hu
      · cases h
    · cases h
  · cases h
theorem ownB_eq {m : List SB} {b : Nat} (h : ownB m b = true) : ∃ s, m[b]? = some s ∧ s.own = true ∧ s.c.live = true ∧ blkC m b = s.c := by
  unfold ownB at h
  unfold blkC
  split at h
  · rename_i s hs
    simp only [Bool.and_eq_true] at h
    refine ⟨s, hs, h.1.1, h.1.2, ?_⟩
    have h2 := h.2
    cases hc : s.c <;> first | rfl | (rw [hc] at h2; cases h2)
  · cases h

theorem sizeOk_sound {sz : Nat} {y : V1} {u : Value} {ps : List Prop} (h : sizeOk sz y = some ps) (hp : ∀ p ∈ ps, p) (hy : y.rel ρ u) : u.cells.size = sz := by
  unfold sizeOk at h
  split at h
  · split at h
    · rename_i hb; rw [cells_one hy.2]; exact (Nat.eq_of_beq_eq_true hb).symm
    · cases h
  · split at h
    · rename_i hb
      obtain ⟨us, rfl, hr, _⟩ := hy
      have := hr.length
      simp only [Value.cells, List.size_toArray]
      have := Nat.eq_of_beq_eq_true hb
      omega
    · cases h
  · injection h with h; subst h
    have hl := hp _ (List.Mem.head _)
    simp only [V1.rel] at hy
    subst hy
    simp [Value.cells, hl]
theorem cells_ones {y : V1} {u : Value} (hy : y.rel ρ u) : ∀ x ∈ u.cells.toList, x.oneCell' = true := by
  cases y with
  | one c => rw [cells_one hy.2]; simpa using hy.2
  | agg l => obtain ⟨us, rfl, _, ho⟩ := hy; simpa [Value.cells] using ho
  | aggi k l => simp only [V1.rel] at hy; subst hy; simp [Value.cells, Value.oneCell']

theorem stA_flat {c : Cells} {i : N} {st sub : Nat} {y : V1} {c' : Cells} {qs : List Prop} (h : stA c i st sub y = some (c', qs)) : c'.flat = true := by
  unfold stA at h
  repeat' split at h
  all_goals (first | (injection h with h; injection h with h _; subst h; rfl) | cases h)
theorem stA_nm {c : Cells} {i : N} {st sub : Nat} {y : V1} {c' : Cells} {qs : List Prop} (h : stA c i st sub y = some (c', qs)) : ∀ kk l, c' ≠ .imap kk l := by
  intro kk l hc
  subst hc
  unfold stA at h
  repeat' split at h
  all_goals (first | cases h | (injection h with h; injection h with h _; cases h))
theorem store_sound {B : KZ} {W w : World} {m : List SB} (hm : MemRel ρ B W w m) {t : TypeId} {inf : TypeInfo} (hi : P.info? t = some inf) {b : Nat} {i : N} {st sub : Nat} {y : V1} {c : Cells} {ps qs : List Prop} {ua u : Value}
    (h1 : sizeOk inf.size y = some ps) (h2 : ownB m b = true) (h3 : stA (blkC m b) i st sub y = some (c, qs)) (hp : ∀ p ∈ ps, p) (hq : ∀ p ∈ qs, p) (ha : (C.ptr b i st sub).rel ρ ua) (hy : y.rel ρ u) :
    RWs P B W w (do Instr.storeAt t ua u; pure Next.skip) ρ none (setBlk m b c) := by
  obtain ⟨e, he, rfl⟩ := ha
  obtain ⟨s, hs, ho, hl, hbc⟩ := ownB_eq h2
  rw [hbc] at h3
  obtain ⟨cur, ty, fz, hh, hsz, hfz, hr⟩ := hm.blk b e s he hs hl
  obtain ⟨g1, g2, g3⟩ := stA_sound' h3 hq hr hy _ rfl _ rfl
  have hlen : u.cells.toList.length = u.cells.size := by simp
  have hus := sizeOk_sound h1 hp hy
  by_cases hz : u.cells.size = 0
  · have hnil : u.cells.toList = [] := List.eq_nil_of_length_eq_zero (by omega)
    rw [hnil] at g2
    have hupd : upd (fun j => cur[e.off + j]?) (i.v * st + sub) [] = fun j => cur[e.off + j]? := by
      funext j; exact upd_out (by simp)
    rw [hupd] at g2
    refine ⟨.skip, w, [], ?_, rfl, ?_⟩
    · simp only [Instr.storeAt, Instr.sureAddr, Sem.run_bind, Sem.run_pure, Result.andThen_ok, storeVar, sizeRun hi]
      rw [if_neg (by omega)]
      simp [hnil, storeCells]
    · rw [List.append_nil]
      refine ⟨hm.below, hm.base, by rw [setBlk_length]; exact hm.len, fun j e' s' he' hs' => ?_, fun j e' s' he' hs' ho' hsol => ?_, fun j k e1 e2 s1 s2 hne he1 he2 hs1 hs2 ho1 hl1 hl2 => ?_, (hm.mapsSet hs (stA_nm h3)).1, (hm.mapsSet hs (stA_nm h3)).2, hm.nestSet hs he (liveSolid hl (stA_nm h3)) (flat_nest (stA_flat h3))⟩
      · rw [setBlk_get hs] at hs'
        by_cases hj : j = b
        · rw [if_pos hj] at hs'; injection hs' with hs'; subst hs'; subst hj
          rw [he] at he'; injection he' with he'; subst he'
          exact fun _ => ⟨cur, ty, fz, hh, hsz, fun _ => hfz ho, g2⟩
        · rw [if_neg hj] at hs'; exact hm.blk j e' s' he' hs'
      · rw [setBlk_get hs] at hs'
        by_cases hj : j = b
        · rw [if_pos hj] at hs'; injection hs' with hs'; subst hs'; subst hj
          rcases hsol with ⟨_, h⟩ | ⟨_, _, h⟩
          · exact hm.own j e' s he' hs ho (.inl ⟨hl, h⟩)
          · exact absurd h (stA_nm h3 _ _)
        · rw [if_neg hj] at hs'; exact hm.own j e' s' he' hs' ho' hsol
      · have conv : ∀ (i : Nat) (s' : SB), (setBlk m b c)[i]? = some s' → ∃ s0, m[i]? = some s0 ∧ s0.own = s'.own ∧ (s'.c.live = true → s0.c.live = true) := by
          intro i s' h
          rw [setBlk_get hs] at h
          by_cases hi : i = b
          · rw [if_pos hi] at h; injection h with h; subst h; subst hi
            exact ⟨s, hs, rfl, fun _ => hl⟩
          · rw [if_neg hi] at h; exact ⟨s', h, rfl, id⟩
        obtain ⟨t1, a1, a2, a3⟩ := conv j s1 hs1
        obtain ⟨t2, b1, _, b3⟩ := conv k s2 hs2
        exact hm.sep j k e1 e2 t1 t2 hne he1 he2 a1 b1 (a2.trans ho1) (a3 hl1) (b3 hl2)
  · obtain ⟨x, hx⟩ := g3 (u.cells.size - 1) (by omega)
    have hlt := (Array.getElem?_eq_some_iff.1 hx).1
    have hpos : 0 < e.sz := by omega
    rcases hh with hh | hh
    · omega
    · have hfit : e.off + (i.v * st + sub) + u.cells.toList.length ≤ cur.size := by omega
      have hrun := storeRun (P := P) e.blk (e.off + (i.v * st + sub)) ty fz u.cells.toList 0 cur w hh (hfz ho) (by simpa using hfit) (cells_ones hy)
      refine ⟨.skip, w.setRow e.blk (layR cur (e.off + (i.v * st + sub)) u.cells.toList), [], ?_, rfl, ?_⟩
      · simp only [Instr.storeAt, Instr.sureAddr, Sem.run_bind, Sem.run_pure, Result.andThen_ok, storeVar, sizeRun hi]
        rw [if_neg (by omega)]
        simp only [Result.andThen_ok, hrun]
        rfl
      · rw [List.append_nil]
        exact hm.write he hs ho hl hh hsz (hfz ho) (layR_size hfit) (layR_rel hfit g2) hpos (stA_nm h3) (flat_nest (stA_flat h3))
end
end Go.Sx
