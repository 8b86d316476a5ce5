/- The symbolic evaluator: append, copy, strings and bytes. -/
import Derived.Test.YtbamfolinbehiaaSxL
namespace Go.Sx
open Go Go.RowKit
section
variable {P : Program} {ρ : Env}
theorem segOf_sound {B : Nat → Prop} {W w : World} {m : List SB} (hm : MemRel ρ B W w m) {st : Nat} {h h' : List Bool} {y : C} {c : Cells} {n : N} {ps : List Prop} {u : Value}
  (hs : segOf m st h y = some (c, n, h', ps)) (hp : ∀ p ∈ ps, p) (hy : y.rel ρ u) :
  ∃ us, c.vals ρ us ∧ us.length = n.v * st ∧ (∀ w', (Builtin.lenOf u).run P w' = .ok n.v w') ∧
   ∀ k, k ≤ n.v → ∀ w', Ext w w' → (Builtin.firstCells st k u).run P w' = .ok (us.take (k * st)).toArray w' := by
 unfold segOf at hs
 split at hs
 ·injection hs with hs; injection hs with hs hs2; injection hs2 with hs2 _; subst hs; subst hs2
  simp only [C.rel] at hy; subst hy
  refine ⟨[], ⟨rfl, fun x hx => by simp at hx⟩, by simp [N.v], fun w' => rfl, fun k hk w' _ => ?_⟩
  rw [run_firstCells_none]; simp
 ·injection hs with hs; injection hs with hs hs2; injection hs2 with hs2 _; subst hs; subst hs2
  simp only [C.rel] at hy; subst hy
  refine ⟨[], ⟨rfl, fun x hx => by simp at hx⟩, by simp [N.v], fun w' => rfl, fun k hk w' _ => ?_⟩
  have hk0 : k = 0 := by simpa [N.v] using hk
  subst hk0
  refine run_firstCells_some w' st 0 _ _ _ _ (by simp) (fun j v hj => ?_)
  simp at hj
 ·rename_i b i st' len cl
  split at hs
  ·rename_i hst
   have hst := Nat.eq_of_beq_eq_true hst
   subst hst
   split at hs
   ·rename_i c' h1 qs hseg
    injection hs with hs; injection hs with hs hs2; injection hs2 with hs2 hs3; injection hs3 with _ hs3; subst hs; subst hs2; subst hs3
    obtain ⟨e, he, hu⟩ := hy
    obtain ⟨us, h1, h2, h3⟩ := seg_sound hm he hseg hp
    rcases hu with ⟨h0, _, rfl⟩ | ⟨o, cap, rfl, hlc, hcc, hcm, hoff⟩
    ·refine ⟨us, h1, h2, fun w' => by rw [h0]; rfl, fun k hk w' _ => ?_⟩
     have hk0 : k = 0 := by omega
     subst hk0
     rw [run_firstCells_none]; simp
    ·refine ⟨us, h1, h2, fun w' => rfl, fun k hk w' hw => ?_⟩
     have hlen : (us.take (k * st)).length = k * st := by
      rw [List.length_take, h2]
      have := Nat.mul_le_mul_right st hk
      omega
     refine run_firstCells_some w' st k _ _ _ _ hlen (fun j v hj => ?_)
     rw [List.getElem?_take] at hj
     split at hj
     ·have hne : ¬ cap = 0 := by
       intro h0
       have : k = 0 := by omega
       subst this
       rename_i hlt
       omega
      rcases hoff with h0 | ⟨hof, _⟩
      ·exact absurd h0 hne
      ·rw [Addr.add_lit, hof]
       exact hw.cell (h3 j v hj).1
     ·cases hj
   ·cases hs
  ·cases hs
 ·rename_i l
  split at hs
  ·rename_i hst
   have hst := Nat.eq_of_beq_eq_true hst
   subst hst
   injection hs with hs; injection hs with hs hs2; injection hs2 with hs2 _; subst hs; subst hs2
   simp only [C.rel] at hy; subst hy
   have hsz : (⟨l.toArray⟩ : ByteArray).size = l.length := by show l.toArray.size = _; simp
   refine ⟨l.map fun x => Value.int .u8 x.toNat, ⟨?_, fun x hx => ?_⟩, by simp [N.v], fun w' => by simp [Builtin.lenOf, hsz, N.v], fun k hk w' _ => ?_⟩
   ·clear hsz
    induction l with
    | nil => rfl
    | cons x l ih => exact ⟨_, _, rfl, rfl, ih⟩
   ·obtain ⟨y, _, rfl⟩ := List.mem_map.1 hx; rfl
   ·simp only [Builtin.firstCells, Sem.run_pure]
    congr 1
    rw [extract_mk]
    apply Array.ext'
    simp
  ·cases hs
 ·rename_i l
  split at hs
  ·rename_i hst
   have hst := Nat.eq_of_beq_eq_true hst
   subst hst
   injection hs with hs; injection hs with hs hs2; injection hs2 with hs2 _; subst hs; subst hs2
   simp only [C.rel] at hy; subst hy
   have hsz : (⟨l.toArray⟩ : ByteArray).size = l.length := by show l.toArray.size = _; simp
   refine ⟨l.map fun x => Value.int .u8 x.toNat, ?_, by simp [N.v], fun w' => by simp [Builtin.lenOf, hsz, N.v], fun k hk w' _ => ?_⟩
   ·simp only [Cells.vals, List.map_map]; rfl
   ·simp only [Builtin.firstCells, Sem.run_pure]
    congr 1
    rw [extract_mk]
    apply Array.ext'
    simp
  ·cases hs
 ·cases hs
theorem sliceOrStr_run {t : TypeId} (h : sliceOrStr P t = true) : (∃ e, P.underlying t = some (.slice e)) ∨ P.underlying t = some .string := by
 unfold sliceOrStr at h
 split at h
 ·rename_i e ht; exact .inl ⟨e, ht⟩
 ·rename_i ht; exact .inr ht
 ·cases h
theorem growRun {w : World} {t t' ty e : TypeId} {i : TypeInfo} {z : Value} (ht : P.underlying t = some (.slice e)) (ht' : sliceOrStr P t' = true) (hi : P.info? e = some i) (hz : i.zero = some z)
  {base : Option Addr} {sLen sCap : Nat} {olds news : List Value} {u : Value} {n : Nat} (hlen : ∀ w', (Builtin.lenOf u).run P w' = .ok n w')
  (ho : (Builtin.firstCells i.size sLen (.slice base sLen sCap)).run P w.drew = .ok olds.toArray w.drew) (hn : (Builtin.firstCells i.size n u).run P w.drew = .ok news.toArray w.drew)
  (hg : sCap < sLen + n) (h63 : sLen + n ≤ 9223372036854775807) (hfit : (sLen + n) * i.bytes ≤ 140737488355328) :
  (Builtin.append_ #[t, t'] ty #[.slice base sLen sCap, u]).run P w =
   .ok (.slice (some ⟨w.heap.size, 0, none⟩) (sLen + n) (grownCap w (sLen + n) sCap e))
    (w.drew.alloc (.cells (olds.toArray ++ news.toArray ++ Builtin.zeroCells z.cells (grownCap w (sLen + n) sCap e - (sLen + n))) e)) := by
 have hn' : ¬ (sLen + n ≤ sCap) := by omega
 have h63' : ¬ (9223372036854775807 < ((sLen : Int) + (n : Int))) := by omega
 have h48' : ¬ (281474976710656 < Builtin.nextslicecap (sLen + n) sCap * i.bytes) := by
  have := growslice_fits (bytes := i.bytes) hg hfit
  omega
 rcases sliceOrStr_run ht' with ⟨e', hd⟩ | hd
 ·simp [Builtin.append_, run_underlying ht, run_underlying hd, sizeOf, typeInfo, zeroValue, hi, hz, hlen, hn', h63', h48', Question.forced, ho, hn, newRow, grownCap]
  congr 2
  apply Array.ext'
  simp [List.append_assoc]
 ·simp [Builtin.append_, run_underlying ht, run_underlying hd, sizeOf, typeInfo, zeroValue, hi, hz, hlen, hn', h63', h48', Question.forced, ho, hn, newRow, grownCap]
  congr 2
  apply Array.ext'
  simp [List.append_assoc]
theorem roomRun {w w' : World} {t t' ty e : TypeId} {i : TypeInfo} (ht : P.underlying t = some (.slice e)) (ht' : sliceOrStr P t' = true) (hi : P.info? e = some i)
  {base : Option Addr} {sLen sCap : Nat} {news : List Value} {u : Value} {n : Nat} (hlen : ∀ w', (Builtin.lenOf u).run P w' = .ok n w')
  (hn : (Builtin.firstCells i.size n u).run P w = .ok news.toArray w) (hg : sLen + n ≤ sCap)
  (hst : (match base with | some a => (storeCells (a.add (sLen * i.size)) news).run P w = .ok () w' | none => w' = w)) :
  (Builtin.append_ #[t, t'] ty #[.slice base sLen sCap, u]).run P w = .ok (.slice base (sLen + n) sCap) w' := by
 cases base with
 | none =>
  simp only at hst
  subst hst
  rcases sliceOrStr_run ht' with ⟨e', hd⟩ | hd <;> simp [Builtin.append_, run_underlying ht, run_underlying hd, sizeOf, typeInfo, hi, hlen, hg, hn]
 | some a =>
  simp only at hst
  rcases sliceOrStr_run ht' with ⟨e', hd⟩ | hd <;> simp [Builtin.append_, run_underlying ht, run_underlying hd, sizeOf, typeInfo, hi, hlen, hg, hn, hst]
theorem room_sound {n : N} {bytes : Nat} {ps : List Prop} (h : room n bytes = some ps) (hp : ∀ p ∈ ps, p) : n.v * bytes ≤ 140737488355328 ∧ n.v ≤ 9223372036854775807 := by
 unfold room at h
 split at h
 ·split at h
  ·rename_i hb
   simp only [Bool.and_eq_true] at hb
   exact ⟨Nat.le_of_ble_eq_true hb.1, Nat.le_of_ble_eq_true hb.2⟩
  ·cases h
 ·injection h with h; subst h
  exact ⟨hp _ (List.Mem.head _), hp _ (List.Mem.tail _ (List.Mem.head _))⟩
theorem MemRel.grown {B : Nat → Prop} {W w : World} {m : List SB} (hm : MemRel ρ B W w m) {t e : TypeId} {i : TypeInfo} {z : Value} (hzs : z.cells.size = i.size) {st : Nat} (hst : st = i.size) {us : List Value} {n sCap : Nat} (hl : us.length = n * st) {c : Cells} (hc : c.vals ρ us)
  {A : Array Value} (hA : A = us.toArray ++ Builtin.zeroCells z.cells (grownCap w n sCap e - n)) {len : N} (hlen : len.v = n) (h63 : n ≤ 9223372036854775807) :
  MemRel (ρ ++ [⟨w.heap.size, 0, A.size⟩]) B W (w.drew.alloc (.cells A t)) (newB m t c) ∧
   (V.v (.one (.slice m.length (.c 0) st len len))).rel (ρ ++ [⟨w.heap.size, 0, A.size⟩]) (.slice (some ⟨w.heap.size, 0, none⟩) n (grownCap w n sCap e)) := by
 have hge := grownCap_ge w n sCap e
 have hcm := grownCap_le_maxLen w n sCap e (maxLen_le h63)
 have hAs : A.size = grownCap w n sCap e * st := by
  rw [hA]
  simp only [Array.size_append, List.size_toArray, size_zeroCells, hzs, hl, hst, ← Nat.add_mul]
  congr 1
  omega
 refine ⟨?_, ⟨⟨_, getLen hm _, .inr ⟨0, grownCap w n sCap e, by rw [hlen], Nat.le_refl _, by rw [hlen]; exact hge, hcm, .inr ⟨by simp [N.v], by rw [hAs]; simp⟩⟩⟩, rfl⟩⟩
 have := hm.drew.new t A (0, 0) c (vals_nm hc) (nofz _) (by
  have := vals_rel hc (Builtin.zeroCells z.cells (grownCap w n sCap e - n)).toList
  have heq : (fun (j : Nat) => A[j]?) = fun (j : Nat) => (us ++ (Builtin.zeroCells z.cells (grownCap w n sCap e - n)).toList)[j]? := by
   funext j
   rw [← Array.getElem?_toList, hA]
   simp
  rw [heq]; exact this)
 simpa using this
end
end Go.Sx
