/- The symbolic evaluator: bytes that are marked as a string's. -/
import Derived.Test.YtbamfolinbehiaaSxOm
namespace Go.Sx
open Go Go.RowKit
section
variable {P : Program} {ρ : Env}
theorem bothSl_spec {src dst : TypeId} (h : bothSl P src dst = true) : ∃ e e', P.underlying src = some (.slice e) ∧ P.underlying dst = some (.slice e') := by
 unfold bothSl at h
 split at h
 ·rename_i e e' h1 h2; exact ⟨e, e', h1, h2⟩
 ·cases h
theorem lendB_get {m : List SB} {b : Nat} {s : SB} (hs : m[b]? = some s) (i : Nat) : (lendB m b)[i]? = if i = b then some { s with own := false } else m[i]? := by
 unfold lendB
 simp only [hs]
 by_cases h : i = b
 ·subst h
  rw [if_pos rfl, List.getElem?_set_self (List.getElem?_eq_some_iff.1 hs).1]
 ·rw [if_neg h, List.getElem?_set_ne (by omega)]
theorem lendB_spec {m : List SB} {b : Nat} {s : SB} (hs : m[b]? = some s) {i : Nat} {s' : SB} (h : (lendB m b)[i]? = some s') : ∃ s0, m[i]? = some s0 ∧ s'.c = s0.c ∧ (s'.own = true → s0.own = true) := by
 rw [lendB_get hs] at h
 by_cases hi : i = b
 ·rw [if_pos hi] at h; injection h with h; subst h; subst hi
  exact ⟨s, hs, rfl, fun h => by cases h⟩
 ·rw [if_neg hi] at h; exact ⟨s', h, rfl, id⟩
theorem lendB_length (m : List SB) (b : Nat) : (lendB m b).length = m.length := by
 unfold lendB; split <;> simp
theorem evMark_sound {B : Nat → Prop} {W w : World} {m : List SB} (hm : MemRel ρ B W w m) {src dst : TypeId} {x : C} {a : Value} {h h' : List Bool} {v : Option V} {m' : List SB} {ps : List Prop}
  (hb : bothSl P src dst = true) (hev : evMark P m src dst x h = some (v, m', h', ps)) (hx : x.rel ρ a) : RWs P B W w (do pure (Next.value (← convert src dst a))) ρ v m' := by
 obtain ⟨e1, e2, ht1, ht2⟩ := bothSl_spec hb
 unfold evMark at hev
 split at hev
 ·rename_i b i n cl e hd
  rw [ht2] at hd; injection hd with hd; injection hd with hd; subst hd
  split at hev
  ·rename_i hu hcond
   simp only [Bool.and_eq_true] at hcond
   have hsd := Nat.eq_of_beq_eq_true hcond.2
   injection hev with hev; injection hev with e1' e2'; injection e2' with e2' e3'
   subst e1'; subst e2'
   obtain ⟨s, hs, ho, hl, _⟩ := ownB_eq hcond.1
   have hx0 := hx
   obtain ⟨en, he, hu'⟩ := hx
   rcases hu' with ⟨h0, _⟩ | ⟨o, cap, ha, q1, q2, q3, q4⟩
   ·simp [N.v] at h0
   ·have hcap : 0 < cap := by
     have e : (N.c n.succ).v = n + 1 := rfl
     rw [e] at q1
     omega
    obtain ⟨cur, ty, fz, z1, z2, z3, z4⟩ := hm.blk b en s he hs hl
    have hpos : 0 < en.sz := by
     rcases q4 with q4 | ⟨_, q4⟩ <;> omega
    rcases z1 with hh | hh
    ·omega
    have hmark : (markStringish ⟨en.blk, o, none⟩).run P w = .ok () (w.freeze ⟨en.blk, cur.size, none⟩ 1) := by
     simp [markStringish, Go.shape, Go.freeze, Sem.run, World.shape?, hh]
    have hrun : (convert src dst a).run P w = .ok a (w.freeze ⟨en.blk, cur.size, none⟩ 1) := by
     rw [ha]
     subst hsd
     have he12 := ht1.symm.trans ht2
     injection he12 with he12; injection he12 with he12; subst he12
     simp [convert, run_underlying ht1, run_underlying hu, hmark, Result.andThen]
    have hlt := (Array.getElem?_eq_some_iff.1 hh).1
    have hself : (w.freeze ⟨en.blk, cur.size, none⟩ 1).heap[en.blk]? = some (.cells cur ty (if fz.1 == fz.2 then (cur.size, cur.size + 1) else (min fz.1 cur.size, max fz.2 (cur.size + 1)))) := by
     simp only [World.freeze, Nat.one_ne_zero, if_false, Array.getElem?_modify, hh, if_true, Option.map_some]
    have hother : ∀ k, k ≠ en.blk → (w.freeze ⟨en.blk, cur.size, none⟩ 1).heap[k]? = w.heap[k]? := fun k hk => by
     simp only [World.freeze, Nat.one_ne_zero, if_false, Array.getElem?_modify]
     rw [if_neg (Ne.symm hk)]
    have hsize : (w.freeze ⟨en.blk, cur.size, none⟩ 1).heap.size = w.heap.size := by simp [World.freeze]
    have hnb : ¬ B en.blk := hm.own b en s he hs ho (.inl ⟨hl, hpos⟩)
    refine ⟨.value a, w.freeze ⟨en.blk, cur.size, none⟩ 1, [], by simp only [Sem.run_bind, hrun, Result.andThen_ok, Sem.run_pure], ⟨a, rfl, by rw [List.append_nil]; exact ⟨hx0, by rw [ha]; rfl⟩⟩, ?_⟩
    rw [List.append_nil]
    refine ⟨hm.below.trans ⟨rfl, rfl, rfl, by rw [hsize]; exact Nat.le_refl _, fun k hk => hother k (fun hkk => hnb (hkk ▸ hk))⟩, fun k hk => by rw [hsize]; exact hm.base k hk, by rw [lendB_length]; exact hm.len, ?_, ?_, ?_, ?_, ?_⟩
    ·intro i1 e1 s1 he1 hs1 hl1
     obtain ⟨s0, g1, g2, g3⟩ := lendB_spec hs hs1
     rw [g2] at hl1
     obtain ⟨cu, ty1, fz1, y1, y2, y3, y4⟩ := hm.blk i1 e1 s0 he1 g1 hl1
     rw [← g2] at y4
     rcases Nat.eq_zero_or_pos e1.sz with h0 | h0
     ·exact ⟨cu, ty1, fz1, .inl h0, y2, fun h => y3 (g3 h), y4⟩
     ·rcases y1 with y1 | y1
      ·omega
      by_cases hblk : e1.blk = en.blk
      ·rw [hblk, hh] at y1
       injection y1 with y1; injection y1 with y1 y1' y1''
       subst y1; subst y1'; subst y1''
       refine ⟨cur, ty, _, .inr (by rw [hblk]; exact hself), y2, fun hso => ?_, y4⟩
       exfalso
       have hib : i1 ≠ b := fun h => by
        subst h
        rw [lendB_get hs, if_pos rfl] at hs1
        injection hs1 with hs1; subst hs1; cases hso
       exact hm.sep i1 b e1 en s0 s hib he1 he g1 hs (g3 hso) hl1 hl h0 hpos hblk
      ·exact ⟨cu, ty1, fz1, .inr (by rw [hother _ hblk]; exact y1), y2, fun h => y3 (g3 h), y4⟩
    ·intro i1 e1 s1 he1 hs1 ho1 hsol
     obtain ⟨s0, g1, g2, g3⟩ := lendB_spec hs hs1
     exact hm.own i1 e1 s0 he1 g1 (g3 ho1) (g2 ▸ hsol)
    ·intro i1 j1 e1 e1' s1 s1' hne he1 he1' hs1 hs1' ho1 hl1 hl1' p1 p2
     obtain ⟨s0, g1, g2, g3⟩ := lendB_spec hs hs1
     obtain ⟨s0', g1', g2', g3'⟩ := lendB_spec hs hs1'
     exact hm.sep i1 j1 e1 e1' s0 s0' hne he1 he1' g1 g1' (g3 ho1) (g2 ▸ hl1) (g2' ▸ hl1') p1 p2
    ·intro i1 e1 s1 kk l he1 hs1 hc1
     obtain ⟨s0, g1, g2, g3⟩ := lendB_spec hs hs1
     obtain ⟨es, cl1, y1, y2⟩ := hm.maps i1 e1 s0 kk l he1 g1 (g2 ▸ hc1)
     refine ⟨es, cl1, ?_, y2⟩
     rw [hother _ (fun hblk => by rw [hblk, hh] at y1; cases y1)]
     exact y1
    ·intro i1 j1 e1 e1' s1 s1' kk kk' l l' hne he1 he1' hs1 hs1' hc1 hc1'
     obtain ⟨s0, g1, g2, g3⟩ := lendB_spec hs hs1
     obtain ⟨s0', g1', g2', g3'⟩ := lendB_spec hs hs1'
     exact hm.msep i1 j1 e1 e1' s0 s0' kk kk' l l' hne he1 he1' g1 g1' (g2 ▸ hc1) (g2' ▸ hc1')
  ·cases hev
 ·cases hev
end
end Go.Sx
