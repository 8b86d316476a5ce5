/- The symbolic evaluator: copy; strings and bytes; all operations that make memory, or write it. -/
import Derived.Test.YtbamfolinbehiaaSxN
namespace Go.Sx
open Go Go.RowKit
section
variable {P : Program} {ρ : Env}
theorem writeHead {B : Nat → Prop} {W w : World} {m : List SB} (hm : MemRel ρ B W w m) {b : Nat} {e : E} {s : SB} (he : ρ[b]? = some e) (hs : m[b]? = some s) (ho : s.own = true) (hl : s.c.live = true) {us : List Value} (h1 : ∀ x ∈ us, x.oneCell' = true) {c : Cells}
  (hc : ∀ g : Nat → Option Value, s.c.rel ρ g → c.rel ρ (upd g 0 us) ∧ ∀ j, j < us.length → ∃ x, g j = some x) (hne : us ≠ []) (hnm : ∀ kk l, c ≠ .imap kk l) :
  ∃ w', (storeCells ⟨e.blk, e.off, none⟩ us).run P w = .ok () w' ∧ MemRel ρ B W w' (setBlk m b c) := by
 obtain ⟨cur, ty, fz, hh, hsz, hfz, hr⟩ := hm.blk b e s he hs hl
 obtain ⟨g2, g3⟩ := hc _ hr
 have hpos : 0 < us.length := List.length_pos_iff.2 hne
 obtain ⟨x, hx⟩ := g3 (us.length - 1) (by omega)
 have hlt := (Array.getElem?_eq_some_iff.1 hx).1
 rcases hh with hh | hh
 ·omega
 ·have hfit : e.off + 0 + us.length ≤ cur.size := by omega
  have hrun := storeRun (P := P) e.blk e.off ty fz us 0 cur w hh (hfz ho) (by simpa using hfit) h1
  exact ⟨_, hrun, hm.write he hs ho hl hh hsz (hfz ho) (layR_size hfit) (layR_rel hfit g2) (by omega) hnm⟩
theorem setBlk_same {B : Nat → Prop} {W w : World} {m : List SB} (hm : MemRel ρ B W w m) {b : Nat} {e : E} {s : SB} (he : ρ[b]? = some e) (hs : m[b]? = some s) (hl : s.c.live = true) {c : Cells}
  (hc : ∀ g : Nat → Option Value, s.c.rel ρ g → c.rel ρ g) (hnm : ∀ kk l, c ≠ .imap kk l) : MemRel ρ B W w (setBlk m b c) := by
 refine ⟨hm.below, hm.base, by rw [setBlk_length]; exact hm.len, fun i e' s' he' hs' => ?_, fun i e' s' he' hs' h hsol => ?_, fun i j e1 e2 s1 s2 hne he1 he2 hs1 hs2 ho1 hl1 hl2 p1 p2 => ?_, (hm.mapsSet hs hnm).1, (hm.mapsSet hs hnm).2⟩
 ·rw [setBlk_get hs] at hs'
  by_cases hi : i = b
  ·rw [if_pos hi] at hs'; injection hs' with hs'; subst hs'; subst hi
   rw [he] at he'; injection he' with he'; subst he'
   obtain ⟨cur, ty, fz, h1, h2, h3, h4⟩ := hm.blk i e s he hs hl
   exact fun _ => ⟨cur, ty, fz, h1, h2, h3, hc _ h4⟩
  ·rw [if_neg hi] at hs'; exact hm.blk i e' s' he' hs'
 ·rw [setBlk_get hs] at hs'
  by_cases hi : i = b
  ·rw [if_pos hi] at hs'; injection hs' with hs'; subst hs'; subst hi
   rcases hsol with ⟨_, h1⟩ | ⟨_, _, h1⟩
   ·exact hm.own i e' s he' hs h (.inl ⟨hl, h1⟩)
   ·exact absurd h1 (hnm _ _)
  ·rw [if_neg hi] at hs'; exact hm.own i e' s' he' hs' h hsol
 ·have conv : ∀ (i : Nat) (s' : SB), (setBlk m b c)[i]? = some s' → ∃ s0, m[i]? = some s0 ∧ s0.own = s'.own ∧ (s'.c.live = true → s0.c.live = true) := by
   intro i s' h
   rw [setBlk_get hs] at h
   by_cases hi : i = b
   ·rw [if_pos hi] at h; injection h with h; subst h; subst hi
    exact ⟨s, hs, rfl, fun _ => hl⟩
   ·rw [if_neg hi] at h; exact ⟨s', h, rfl, id⟩
  obtain ⟨t1, a1, a2, a3⟩ := conv i s1 hs1
  obtain ⟨t2, b1, _, b3⟩ := conv j s2 hs2
  exact hm.sep i j e1 e2 t1 t2 hne he1 he2 a1 b1 (a2.trans ho1) (a3 hl1) (b3 hl2) p1 p2
theorem copyRun {w w' : World} {t t' ty e : TypeId} {inf : TypeInfo} (ht : P.underlying t = some (.slice e)) (hi : P.info? e = some inf) {base : Option Addr} {dl dc n k : Nat} {u : Value} {us : List Value}
  (hlen : (Builtin.lenOf u).run P w = .ok n w) (hk : k = min n dl) (hf : (Builtin.firstCells inf.size k u).run P w = .ok us.toArray w)
  (hst : (match base with | some a => (storeCells a us).run P w = .ok () w' | none => w' = w)) :
  (Builtin.copy_ #[t, t'] ty #[.slice base dl dc, u]).run P w = .ok (.int .i64 (k : Int)) w' := by
 subst hk
 have hmin : Nat.min n dl = min n dl := rfl
 simp only [Builtin.copy_, List.getElem?_toArray, List.getElem?_cons_zero, List.getElem?_cons_succ, Sem.run_bind, run_underlying ht, Result.andThen_ok, hlen, sizeRun hi, hmin, hf]
 cases base with
 | none => simp only at hst; subst hst; rfl
 | some a => simp only at hst; simp only [hst, Result.andThen_ok, Sem.run_pure, Sem.run_bind]; rfl
theorem evCopy_sound {B : Nat → Prop} {W w : World} {m : List SB} (hm : MemRel ρ B W w m) {t t' ty : TypeId} {x y : C} {a b : Value} {h h' : List Bool} {v : Option V} {m' : List SB} {ps : List Prop}
  (hev : evCopy P m t x y h = some (v, m', h', ps)) (hp : ∀ p ∈ ps, p) (hx : x.rel ρ a) (hy : y.rel ρ b) :
  RWs P B W w (do pure (Next.value (← Builtin.copy_ #[t, t'] ty #[a, b]))) ρ v m' := by
 unfold evCopy at hev
 split at hev
 ·rename_i e ht
  split at hev
  ·rename_i inf b0 st n cl hi
   split at hev
   ·rename_i c' n' h2 qs hcond hseg
    simp only [Bool.and_eq_true] at hcond
    have hst := Nat.eq_of_beq_eq_true hcond.1.1
    have hsz := Nat.eq_of_beq_eq_true hcond.1.2
    obtain ⟨s, hs, ho, hl, hbc⟩ := ownB_eq hcond.2
    subst hst
    obtain ⟨e0, he0, hu⟩ := hx
    -- in general
    have key : ∀ (c : Cells) (r : V), (∀ kk l, c ≠ .imap kk l) → (∀ p ∈ qs, p) → (∀ (us : List Value), c'.vals ρ us → us.length = n'.v →
       (∀ g : Nat → Option Value, s.c.rel ρ g → c.rel ρ (upd g 0 (us.take (min n'.v n.v))) ∧ ∀ j, j < (us.take (min n'.v n.v)).length → ∃ x, g j = some x)) → r.rel ρ (.int .i64 ((min n'.v n.v : Nat) : Int)) →
      RWs P B W w (do pure (Next.value (← Builtin.copy_ #[t, t'] ty #[a, b]))) ρ (some r) (setBlk m b0 c) := by
     intro c r hnm hqs hc hr
     obtain ⟨us, u1, u2, u3, u4⟩ := segOf_sound (P := P) hm hseg hqs hy
     rw [Nat.mul_one] at u2
     have hf := u4 (min n'.v n.v) (Nat.min_le_left _ _) w (Ext.refl w)
     rw [Nat.mul_one, ← hsz] at hf
     have hcc := hc us u1 u2
     have h1 : ∀ x ∈ us.take (min n'.v n.v), x.oneCell' = true := fun x hx => vals_one u1 x (List.mem_of_mem_take hx)
     by_cases hnil : us.take (min n'.v n.v) = []
     ·have hmm := setBlk_same hm he0 hs hl (c := c) (fun g hg => by
       have := (hcc g hg).1
       rw [hnil] at this
       have hupd : upd g 0 [] = g := by funext j; exact upd_out (by simp)
       rwa [hupd] at this) hnm
      refine ⟨.value (.int .i64 ((min n'.v n.v : Nat) : Int)), w, [], ?_, ⟨_, rfl, by rw [List.append_nil]; exact hr⟩, by rw [List.append_nil]; exact hmm⟩
      rcases hu with ⟨h0, _, ha⟩ | ⟨o, cap, ha, _⟩
      ·have := copyRun (P := P) (w := w) (w' := w) (t' := t') (ty := ty) ht hi (base := none) (dl := 0) (dc := 0) (k := min n'.v n.v) (u3 w) (by rw [h0]) hf rfl
       rw [ha]; simp only [Sem.run_bind, this, Result.andThen_ok, Sem.run_pure]
      ·have := copyRun (P := P) (w := w) (w' := w) (t' := t') (ty := ty) ht hi (base := some ⟨e0.blk, o, none⟩) (dl := n.v) (dc := cap) (k := min n'.v n.v) (u3 w) rfl hf (by rw [hnil]; rfl)
       rw [ha]; simp only [Sem.run_bind, this, Result.andThen_ok, Sem.run_pure]
     ·rcases hu with ⟨h0, _, ha⟩ | ⟨o, cap, ha, hlc, hcc', _, hoff⟩
      ·exact absurd (by rw [h0]; simp) hnil
      ·have ho0 : o = e0.off := by
        rcases hoff with hc0 | ⟨hof, _⟩
        ·exact absurd (by
          have : n.v = 0 := by omega
          rw [this]; simp) hnil
        ·rw [hof]; simp [N.v]
       subst ho0
       obtain ⟨w', hrun, hmm⟩ := writeHead (P := P) hm he0 hs ho hl h1 hcc hnil hnm
       refine ⟨.value (.int .i64 ((min n'.v n.v : Nat) : Int)), w', [], ?_, ⟨_, rfl, by rw [List.append_nil]; exact hr⟩, by rw [List.append_nil]; exact hmm⟩
       have := copyRun (P := P) (w := w) (w' := w') (t' := t') (ty := ty) ht hi (base := some ⟨e0.blk, e0.off, none⟩) (dl := n.v) (dc := cap) (k := min n'.v n.v) (u3 w) rfl hf hrun
       rw [ha]; simp only [Sem.run_bind, this, Result.andThen_ok, Sem.run_pure]
    have intsKey : ∀ (k : IntKind) (l l' : List Int), (∀ g : Nat → Option Value, s.c.rel ρ g → (Cells.ints k l).rel ρ g) → n.v ≤ l.length → ∀ us, us = l'.map (Value.int k) → us.length = n'.v →
      (∀ g : Nat → Option Value, s.c.rel ρ g → (Cells.ints k (l'.take (min n'.v n.v) ++ l.drop (min n'.v n.v))).rel ρ (upd g 0 (us.take (min n'.v n.v))) ∧ ∀ j, j < (us.take (min n'.v n.v)).length → ∃ x, g j = some x) := by
     intro k l l' hconv hnl us hus hlen g hg
     have hg := hconv g hg
     subst hus
     have hl' : l'.length = n'.v := by simpa using hlen
     have hmin : min n'.v n.v ≤ n'.v := Nat.min_le_left _ _
     have hmin2 : min n'.v n.v ≤ n.v := Nat.min_le_right _ _
     have htk : (l'.take (min n'.v n.v)).length = min n'.v n.v := by rw [List.length_take]; omega
     refine ⟨fun j x hj => ?_, fun j hj => ?_⟩
     ·by_cases hjl : j < min n'.v n.v
      ·rw [List.getElem?_append_left (by omega), List.getElem?_take, if_pos hjl] at hj
       rw [upd_in ⟨by omega, by simp; omega⟩, Nat.sub_zero, List.getElem?_take, if_pos hjl, List.getElem?_map, hj]
       rfl
      ·rw [List.getElem?_append_right (by omega), htk, List.getElem?_drop, show min n'.v n.v + (j - min n'.v n.v) = j by omega] at hj
       rw [upd_out (by simp; omega)]
       exact hg j x hj
     ·simp at hj
      exact ⟨_, hg j _ (List.getElem?_eq_getElem (show j < l.length by omega))⟩
    split at hev
    ·rename_i l l' aa aa' hb1
     split at hev
     ·rename_i hle
      have hle := Nat.le_of_ble_eq_true hle
      injection hev with hev; injection hev with e1 e2; injection e2 with e2 e3; injection e3 with e3 e4
      subst e1; subst e2; subst e4
      refine key _ _ (fun _ _ h => by cases h) hp (fun us hus hlen g hg => ?_) ⟨rfl, rfl⟩
      rw [← hbc, hb1] at hg
      simp only [N.v] at hlen ⊢
      have hl' := hus.1.length
      have htk : (l'.take (min aa' aa)).length = min aa' aa := by rw [List.length_take]; omega
      refine ⟨fun j cc hj => ?_, fun j hj => ?_⟩
      ·by_cases hjl : j < min aa' aa
       ·rw [List.getElem?_append_left (by omega), List.getElem?_take, if_pos hjl] at hj
        obtain ⟨x, hx, hxr⟩ := hus.1.get _ _ hj
        refine ⟨x, ?_, hxr, hus.2 x (List.mem_of_getElem? hx)⟩
        rw [upd_in ⟨by omega, by simp; omega⟩, Nat.sub_zero, List.getElem?_take, if_pos hjl]
        exact hx
       ·rw [List.getElem?_append_right (by omega), htk, List.getElem?_drop, show min aa' aa + (j - min aa' aa) = j by omega] at hj
        rw [upd_out (by simp; omega)]
        exact hg j cc hj
      ·simp at hj
       obtain ⟨x, hx, _⟩ := hg j _ (List.getElem?_eq_getElem (show j < l.length by omega))
       exact ⟨x, hx⟩
     ·cases hev
    ·rename_i k l k' l' hb1
     split at hev
     ·rename_i hk
      have hk := of_decide_eq_true hk; subst hk
      injection hev with hev; injection hev with e1 e2; injection e2 with e2 e3; injection e3 with e3 e4
      subst e1; subst e2; subst e4
      exact key _ _ (fun _ _ h => by cases h) (fun p h => hp p (by simp [h])) (fun us hus hlen => intsKey k l l' (fun g hg => by rw [← hbc, hb1] at hg; exact hg) (hp _ (by simp)) us hus hlen) ⟨rfl, rfl⟩
     ·cases hev
    ·rename_i l k l' aa hb1
     split at hev
     ·rename_i l0 hl0
      injection hev with hev; injection hev with e1 e2; injection e2 with e2 e3; injection e3 with e3 e4
      subst e1; subst e2; subst e4
      refine key _ _ (fun _ _ h => by cases h) (fun p h => hp p (by simp [h])) (fun us hus hlen => intsKey k l0 l' (fun g hg => ?_) (hp (aa ≤ l0.length) (by simp)) us hus hlen) ⟨rfl, rfl⟩
      rw [← hbc, hb1] at hg
      intro j x hj
      have hgen : ∀ (cs : List C) (q : List Int), intsOf k cs = some q → ∀ (j : Nat) (x : Int), q[j]? = some x → ∃ c, cs[j]? = some c ∧ intOfC k c = some x := by
       intro cs
       induction cs with
       | nil => intro q hq j x hx; simp only [intsOf, Option.some.injEq] at hq; subst hq; simp at hx
       | cons c cs ih =>
        intro q hq j x hx
        simp only [intsOf] at hq
        split at hq
        ·cases hq
        ·rename_i n hn
         split at hq
         ·cases hq
         ·rename_i q' hq'
          injection hq with hq; subst hq
          cases j with
          | zero => simp at hx; subst hx; exact ⟨c, rfl, hn⟩
          | succ j => simpa using ih q' hq' j x (by simpa using hx)
      obtain ⟨c, hc1, hc2⟩ := hgen l l0 hl0 j x hj
      obtain ⟨u, hu1, hu2, _⟩ := hg j c hc1
      rw [hu1, intOfC_sound hc2 hu2]
     ·cases hev
    ·cases hev
   ·cases hev
  ·cases hev
 ·cases hev
theorem toStr_sound {B : Nat → Prop} {W w : World} {m : List SB} (hm : MemRel ρ B W w m) {src dst : TypeId} {x : C} {a : Value} {h h' : List Bool} {v : Option V} {m' : List SB} {ps : List Prop}
  (hsrc : ∃ e, P.underlying src = some (.slice e)) (hev : evConvW P m src dst x h = some (v, m', h', ps)) (hp : ∀ p ∈ ps, p) (hx : x.rel ρ a) :
  m' = m ∧ ∃ r, v = some r ∧ RO P (Ext w) (do pure (Next.value (← convert src dst a))) ρ r := by
 obtain ⟨e', hsrc⟩ := hsrc
 unfold evConvW at hev
 split at hev
 ·rename_i e ht hd
  have key : ∀ (l : List Int) (c : Cells) (n : N) (h'' : List Bool) (qs : List Prop), P.underlying e = some (.int .u8) → isSl x = true → segOf m 1 h x = some (c, n, h'', qs) → (∀ p ∈ qs, p) → (∀ us, c.vals ρ us → us = l.map (Value.int .u8)) →
    ∀ w', Ext w w' → (do pure (Next.value (← convert src dst a)) : Sem Next).run P w' = .ok (.value (.string ⟨(l.map fun n => UInt8.ofNat n.toNat).toArray⟩)) w' := by
   intro l c n h'' qs he hsl hseg hqs hvals w' hw
   obtain ⟨us, u1, u2, u3, u4⟩ := segOf_sound (P := P) hm hseg hqs hx
   have hus := hvals us u1
   have hf := u4 n.v (Nat.le_refl _) w' hw
   rw [List.take_of_length_le (by omega)] at hf
   -- the shapes a slice may have
   have hform : (∃ o ln cap, a = .slice o ln cap ∧ ln = n.v ∧ (o = none → n.v = 0)) := by
    unfold segOf at hseg
    split at hseg
    ·injection hseg with hseg; injection hseg with _ hs2; injection hs2 with hs2 _; subst hs2
     simp only [C.rel] at hx
     exact ⟨none, 0, 0, hx, rfl, fun _ => rfl⟩
    ·cases hsl
    ·split at hseg
     ·split at hseg
      ·injection hseg with hseg; injection hseg with _ hs2; injection hs2 with hs2 _; subst hs2
       obtain ⟨en, _, hu⟩ := hx
       rcases hu with ⟨h0, _, ha⟩ | ⟨o, cap, ha, _⟩
       ·exact ⟨none, 0, 0, ha, h0.symm, fun _ => h0⟩
       ·exact ⟨some ⟨en.blk, o, none⟩, _, cap, ha, rfl, fun h => by cases h⟩
      ·cases hseg
     ·cases hseg
    ·cases hsl
    ·cases hsl
    ·cases hseg
   obtain ⟨o, ln, cap, ha, hln, ho⟩ := hform
   subst hln
   rw [ha] at hf ⊢
   simp only [Sem.run_bind]
   rw [run_convert_bytes_string w' src dst e o n.v cap ht he hd]
   cases o with
   | none =>
    have hn0 := ho rfl
    have : l = [] := by
     have : (l.map (Value.int .u8)).length = 0 := by rw [← hus, u2, hn0]
     simpa using this
    subst this
    rfl
   | some ad =>
    simp only [Builtin.firstCells, Nat.mul_one] at hf
    rw [hus] at hf
    rw [run_bytesToString w' ad n.v cap l hf, foldl_push_bytes]
    simp only [Result.andThen_ok, Sem.run_pure]
    congr 3
    simp only [ByteArray.empty, ByteArray.emptyWithCapacity]
    show (⟨(#[] : Array UInt8) ++ _⟩ : ByteArray) = _
    simp
  split at hev
  ·rename_i l n h'' qs he hsl hseg
   split at hev
   ·rename_i l0 hl0
    injection hev with hev; injection hev with e1 e2; injection e2 with e2 e3; injection e3 with e3 e4
    subst e1; subst e2; subst e4
    exact ⟨rfl, _, rfl, RO.mk (u := .string ⟨(l0.map fun (n : Int) => UInt8.ofNat n.toNat).toArray⟩) ⟨rfl, rfl⟩ (key l0 _ _ _ _ he hsl hseg hp (fun us hus => intsOf_sound hl0 hus.1))⟩
   ·cases hev
  ·rename_i l n h'' qs he hsl hseg
   injection hev with hev; injection hev with e1 e2; injection e2 with e2 e3; injection e3 with e3 e4
   subst e1; subst e2; subst e4
   exact ⟨rfl, _, rfl, RO.mk (u := .string ⟨(l.map fun (n : Int) => UInt8.ofNat n.toNat).toArray⟩) ⟨rfl, rfl⟩ (key l _ _ _ _ he hsl hseg hp (fun us hus => hus))⟩
  ·cases hev
 ·rename_i e ht hd
  rw [hsrc] at ht; cases ht
 ·cases hev
theorem toBytes_sound {B : Nat → Prop} {W w : World} {m : List SB} (hm : MemRel ρ B W w m) {src dst : TypeId} {x : C} {a : Value} {h h' : List Bool} {v : Option V} {m' : List SB} {ps : List Prop}
  (hsrc : P.underlying src = some .string) (hev : evConvW P m src dst x h = some (v, m', h', ps)) (hp : ∀ p ∈ ps, p) (hx : x.rel ρ a) :
  Fresh P B W w (do pure (Next.value (← convert src dst a))) ρ v m' := by
 have key : ∀ (l : List UInt8) (e : TypeId) (c : Cells) (len : N), P.underlying dst = some (.slice e) → P.underlying e = some (.int .u8) → a = .string ⟨l.toArray⟩ → len.v = l.length → l.length ≤ 9223372036854775807 → c.vals ρ (l.map fun x => Value.int .u8 x.toNat) →
   Fresh P B W w (do pure (Next.value (← convert src dst a))) ρ (some (.v (.one (.slice m.length (.c 0) 1 len len)))) (newB m e c) := by
  intro l e c len hd he ha hlen hle hc
  have hsz : (⟨l.toArray⟩ : ByteArray).size = l.length := by show l.toArray.size = _; simp
  have hrun := run_bytes_of_string (P := P) w src dst e ⟨l.toArray⟩ hsrc hd he
  rw [hsz] at hrun
  have hge := grownCap_ge w l.length 0 e
  have hcm := grownCap_le_maxLen w l.length 0 e (maxLen_le hle)
  have hbl : (bytesRow ⟨l.toArray⟩ (grownCap w l.length 0 e)).toList = (l.map fun x => Value.int .u8 x.toNat) ++ List.replicate (grownCap w l.length 0 e - l.length) (Value.int .u8 0) := by
   simp [bytesRow, hsz]
  have hbs : (bytesRow ⟨l.toArray⟩ (grownCap w l.length 0 e)).size = grownCap w l.length 0 e := by
   rw [← Array.length_toList, hbl]; simp; omega
  have hnew := hm.drew.new e (bytesRow ⟨l.toArray⟩ (grownCap w l.length 0 e)) ((bytesRow ⟨l.toArray⟩ (grownCap w l.length 0 e)).size, (bytesRow ⟨l.toArray⟩ (grownCap w l.length 0 e)).size + 1) c (vals_nm hc)
   (fun j hj => by simp; omega) (by
    have := vals_rel hc (List.replicate (grownCap w l.length 0 e - l.length) (Value.int .u8 0))
    have heq : (fun (j : Nat) => (bytesRow ⟨l.toArray⟩ (grownCap w l.length 0 e))[j]?) = fun (j : Nat) => ((l.map fun x => Value.int .u8 x.toNat) ++ List.replicate (grownCap w l.length 0 e - l.length) (Value.int .u8 0))[j]? := by
     funext j
     rw [← Array.getElem?_toList, hbl]
    rw [heq]; exact this)
  refine ⟨.value (.slice (some ⟨w.heap.size, 0, none⟩) l.length (grownCap w l.length 0 e)), _, _, by rw [ha]; simp only [Sem.run_bind, hrun, Result.andThen_ok, Sem.run_pure], ⟨_, rfl, ?_⟩, hnew, (Ext.drew w).trans (Ext.alloc _ _)⟩
  exact ⟨⟨_, getLen hm _, .inr ⟨0, grownCap w l.length 0 e, by rw [hlen]; rfl, Nat.le_refl _, by rw [hlen]; exact hge, hcm, .inr ⟨by simp [N.v], by simp [hbs]⟩⟩⟩, rfl⟩
 unfold evConvW at hev
 split at hev
 ·rename_i e ht hd
  rw [hsrc] at ht; cases ht
 ·rename_i e ht hd
  split at hev
  ·rename_i l he
   split at hev
   ·rename_i hle
    injection hev with hev; injection hev with e1 e2; injection e2 with e2 e3; injection e3 with e3 e4
    subst e1; subst e2
    simp only [C.rel] at hx
    refine key l e _ _ hd he hx rfl (Nat.le_of_ble_eq_true hle) ⟨?_, fun x hx => ?_⟩
    ·clear hx hle key
     induction l with
     | nil => rfl
     | cons x l ih => exact ⟨_, _, rfl, rfl, ih⟩
    ·obtain ⟨y, _, rfl⟩ := List.mem_map.1 hx; rfl
   ·cases hev
  ·rename_i l he
   injection hev with hev; injection hev with e1 e2; injection e2 with e2 e3; injection e3 with e3 e4
   subst e1; subst e2; subst e4
   simp only [C.rel] at hx
   refine key l e _ _ hd he hx rfl (hp _ (List.Mem.head _)) ?_
   simp only [Cells.vals, List.map_map]; rfl
  ·cases hev
 ·cases hev
end
end Go.Sx
