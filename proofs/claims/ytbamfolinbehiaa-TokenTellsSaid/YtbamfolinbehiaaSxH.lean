/- The symbolic evaluator: memory that is made, and memory that is written. -/
import Derived.Test.YtbamfolinbehiaaSxG
namespace Go.Sx
open Go Go.RowKit
section
variable {P : Program} {ρ : Env}
theorem MemRel.step {B : Nat → Prop} {W w w' : World} {m : List SB} (hm : MemRel ρ B W w m) (hb : Kept B W w') (hbase : ∀ k, B k → k < w'.heap.size)
  (hk : ∀ (i : Nat) (e : E) (s : SB), ρ[i]? = some e → m[i]? = some s → s.c.live = true → 0 < e.sz → w'.heap[e.blk]? = w.heap[e.blk]?)
  (hmk : ∀ (i : Nat) (e : E) (s : SB) (kk : IntKind) (l : List (Int × V1)), ρ[i]? = some e → m[i]? = some s → s.c = .imap kk l → w'.heap[e.blk]? = w.heap[e.blk]?) : MemRel ρ B W w' m where
 below := hb
 base := hbase
 len := hm.len
 own := hm.own
 sep := hm.sep
 blk := fun i e s he hs hl => by
  obtain ⟨cur, ty, fz, h1, h2, h3, h4⟩ := hm.blk i e s he hs hl
  refine ⟨cur, ty, fz, ?_, h2, h3, h4⟩
  rcases Nat.eq_zero_or_pos e.sz with h0 | h0
  ·exact .inl h0
  ·rw [hk i e s he hs hl h0]; exact h1
 maps := fun i e s kk l he hs hc => by
  obtain ⟨es, cl, h1, h2⟩ := hm.maps i e s kk l he hs hc
  exact ⟨es, cl, by rw [hmk i e s kk l he hs hc]; exact h1, h2⟩
 msep := hm.msep
theorem MemRel.ext {B : Nat → Prop} {W w w' : World} {m : List SB} (hm : MemRel ρ B W w m) (hx : Ext w w') (hb : Kept B W w') : MemRel ρ B W w' m :=
 hm.step hb (fun k hk => Nat.lt_of_lt_of_le (hm.base k hk) hx.1) (fun i e s he hs hl h0 => by
  obtain ⟨cur, ty, fz, h1, _⟩ := hm.blk i e s he hs hl
  rcases h1 with h1 | h1
  ·omega
  ·exact hx.2 _ (Array.getElem?_eq_some_iff.1 h1).1) fun i e s kk l he hs hc => by
  obtain ⟨es, cl, h1, _⟩ := hm.maps i e s kk l he hs hc
  exact hx.2 _ (Array.getElem?_eq_some_iff.1 h1).1
theorem MemRel.drew {B : Nat → Prop} {W w : World} {m : List SB} (hm : MemRel ρ B W w m) : MemRel ρ B W w.drew m :=
 hm.ext (Ext.drew w) hm.below.drew
theorem Ext.alloc (w : World) (o : Obj) : Ext w (w.alloc o) := ⟨by simp, fun k hk => Below.heap_alloc w o k hk⟩
theorem MemRel.alloc {B : Nat → Prop} {W w : World} {m : List SB} (hm : MemRel ρ B W w m) (o : Obj) : MemRel ρ B W (w.alloc o) m :=
 hm.ext (Ext.alloc w o) (hm.below.alloc hm.base o)
theorem entRel.app {ρ : Env} (ρ' : Env) {kk : IntKind} : ∀ {l : List (Int × V1)} {es : List MapEntry}, entRel ρ kk l es → entRel (ρ ++ ρ') kk l es
 | [], _, h => h
 | (_, _) :: _, _, ⟨e, r', h1, h2, h3, h4⟩ => ⟨e, r', h1, h2, V1.rel_app ρ' h3, h4.app ρ'⟩
theorem MapAt.app {ρ : Env} (ρ' : Env) {w : World} {b : Nat} {kk : IntKind} {l : List (Int × V1)} (h : MapAt ρ w b kk l) : MapAt (ρ ++ ρ') w b kk l :=
 let ⟨es, cl, h1, h2⟩ := h; ⟨es, cl, h1, h2.app ρ'⟩
theorem MemRel.push {B : Nat → Prop} {W w : World} {m : List SB} (hm : MemRel ρ B W w m) (e0 : E) (s0 : SB) (hs : s0.rel (ρ ++ [e0]) w e0) (ho : s0.own = true → solid s0.c e0 → ¬ B e0.blk) (hnm : ∀ kk l, s0.c = .imap kk l → MapAt (ρ ++ [e0]) w e0.blk kk l ∧ ∀ (j : Nat) (e : E) (s : SB) (kk' : IntKind) (l' : List (Int × V1)), ρ[j]? = some e → m[j]? = some s → s.c = .imap kk' l' → e0.blk ≠ e.blk)
  (hsep : ∀ (j : Nat) (e : E) (s : SB), ρ[j]? = some e → m[j]? = some s → s.c.live = true → 0 < e.sz → 0 < e0.sz → s0.c.live = true → (s0.own = true ∨ s.own = true) → e0.blk ≠ e.blk) :
  MemRel (ρ ++ [e0]) B W w (m ++ [s0]) where
 below := hm.below
 base := hm.base
 len := by simp [hm.len]
 blk := fun i e s he hs' => by
  rcases Nat.lt_or_ge i ρ.length with hi | hi
  ·rw [List.getElem?_append_left hi] at he
   rw [List.getElem?_append_left (by rw [← hm.len]; exact hi)] at hs'
   intro hl
   obtain ⟨cur, ty, fz, h1, h2, h3, h4⟩ := hm.blk i e s he hs' hl
   exact ⟨cur, ty, fz, h1, h2, h3, Cells.rel_app _ h4⟩
  ·rw [List.getElem?_append_right hi] at he
   rw [List.getElem?_append_right (by rw [← hm.len]; exact hi)] at hs'
   rw [← hm.len] at hs'
   cases hk : i - ρ.length with
   | zero => rw [hk] at he hs'; simp at he hs'; subst he; subst hs'; exact hs
   | succ k => rw [hk] at he; simp at he
 own := fun i e s he hs' h hsol => by
  rcases Nat.lt_or_ge i ρ.length with hi | hi
  ·rw [List.getElem?_append_left hi] at he
   rw [List.getElem?_append_left (by rw [← hm.len]; exact hi)] at hs'
   exact hm.own i e s he hs' h hsol
  ·rw [List.getElem?_append_right hi] at he
   rw [List.getElem?_append_right (by rw [← hm.len]; exact hi)] at hs'
   rw [← hm.len] at hs'
   cases hk : i - ρ.length with
   | zero => rw [hk] at he hs'; simp at he hs'; subst he; subst hs'; exact ho h hsol
   | succ k => rw [hk] at he; simp at he
 sep := fun i j e e' s s' hne he he' hs1 hs2 h1 h2 h3 h4 h5 => by
  have new : ∀ (k : Nat) (e : E) (s : SB), ¬ k < ρ.length → (ρ ++ [e0])[k]? = some e → (m ++ [s0])[k]? = some s → k = ρ.length ∧ e = e0 ∧ s = s0 := by
   intro k e s hk he hs
   have hk : ρ.length ≤ k := by omega
   rw [List.getElem?_append_right hk] at he
   rw [List.getElem?_append_right (by rw [← hm.len]; exact hk), ← hm.len] at hs
   cases hz : k - ρ.length with
   | zero => rw [hz] at he hs; simp at he hs; exact ⟨by omega, he.symm, hs.symm⟩
   | succ q => rw [hz] at he; simp at he
  have old : ∀ (k : Nat) (e : E) (s : SB), k < ρ.length → (ρ ++ [e0])[k]? = some e → (m ++ [s0])[k]? = some s → ρ[k]? = some e ∧ m[k]? = some s := by
   intro k e s hk he hs
   rw [List.getElem?_append_left hk] at he
   rw [List.getElem?_append_left (by rw [← hm.len]; exact hk)] at hs
   exact ⟨he, hs⟩
  by_cases hi : i < ρ.length
  ·obtain ⟨a1, a2⟩ := old i e s hi he hs1
   by_cases hj : j < ρ.length
   ·obtain ⟨b1, b2⟩ := old j e' s' hj he' hs2
    exact hm.sep i j e e' s s' hne a1 b1 a2 b2 h1 h2 h3 h4 h5
   ·obtain ⟨_, rfl, rfl⟩ := new j e' s' hj he' hs2
    exact (hsep i e s a1 a2 h2 h4 h5 h3 (.inr h1)).symm
  ·obtain ⟨k1, rfl, rfl⟩ := new i e s hi he hs1
   by_cases hj : j < ρ.length
   ·obtain ⟨b1, b2⟩ := old j e' s' hj he' hs2
    exact hsep j e' s' b1 b2 h3 h5 h4 h2 (.inl h1)
   ·obtain ⟨k2, _, _⟩ := new j e' s' hj he' hs2
    omega
 maps := fun i e s kk l he hs' hc => by
  rcases Nat.lt_or_ge i ρ.length with hi | hi
  ·rw [List.getElem?_append_left hi] at he
   rw [List.getElem?_append_left (by rw [← hm.len]; exact hi)] at hs'
   exact MapAt.app _ (hm.maps i e s kk l he hs' hc)
  ·rw [List.getElem?_append_right hi] at he
   rw [List.getElem?_append_right (by rw [← hm.len]; exact hi)] at hs'
   rw [← hm.len] at hs'
   cases hk : i - ρ.length with
   | zero => rw [hk] at he hs'; simp at he hs'; subst he; subst hs'; exact (hnm kk l hc).1
   | succ k => rw [hk] at he; simp at he
 msep := fun i j e e' s s' kk kk' l l' hne he he' hs1 hs2 h1 h2 => by
  have new : ∀ (k : Nat) (e : E) (s : SB), ¬ k < ρ.length → (ρ ++ [e0])[k]? = some e → (m ++ [s0])[k]? = some s → k = ρ.length ∧ e = e0 ∧ s = s0 := by
   intro k e s hk he hs
   have hk : ρ.length ≤ k := by omega
   rw [List.getElem?_append_right hk] at he
   rw [List.getElem?_append_right (by rw [← hm.len]; exact hk), ← hm.len] at hs
   cases hz : k - ρ.length with
   | zero => rw [hz] at he hs; simp at he hs; exact ⟨by omega, he.symm, hs.symm⟩
   | succ q => rw [hz] at he; simp at he
  have old : ∀ (k : Nat) (e : E) (s : SB), k < ρ.length → (ρ ++ [e0])[k]? = some e → (m ++ [s0])[k]? = some s → ρ[k]? = some e ∧ m[k]? = some s := by
   intro k e s hk he hs
   rw [List.getElem?_append_left hk] at he
   rw [List.getElem?_append_left (by rw [← hm.len]; exact hk)] at hs
   exact ⟨he, hs⟩
  by_cases hi : i < ρ.length
  ·obtain ⟨a1, a2⟩ := old i e s hi he hs1
   by_cases hj : j < ρ.length
   ·obtain ⟨b1, b2⟩ := old j e' s' hj he' hs2
    exact hm.msep i j e e' s s' kk kk' l l' hne a1 b1 a2 b2 h1 h2
   ·obtain ⟨_, rfl, rfl⟩ := new j e' s' hj he' hs2
    exact ((hnm kk' l' h2).2 i e s kk l a1 a2 h1).symm
  ·obtain ⟨k1, rfl, rfl⟩ := new i e s hi he hs1
   by_cases hj : j < ρ.length
   ·obtain ⟨b1, b2⟩ := old j e' s' hj he' hs2
    exact (hnm kk l h1).2 j e' s' kk' l' b1 b2 h2
   ·obtain ⟨k2, _, _⟩ := new j e' s' hj he' hs2
    omega
theorem MemRel.lt {B : Nat → Prop} {W w : World} {m : List SB} (hm : MemRel ρ B W w m) {i : Nat} {e : E} {s : SB} (he : ρ[i]? = some e) (hs : m[i]? = some s) (hl : s.c.live = true) (h0 : 0 < e.sz) : e.blk < w.heap.size := by
 obtain ⟨cur, ty, fz, h1, _⟩ := hm.blk i e s he hs hl
 rcases h1 with h1 | h1
 ·omega
 ·exact (Array.getElem?_eq_some_iff.1 h1).1
theorem MemRel.new {B : Nat → Prop} {W w : World} {m : List SB} (hm : MemRel ρ B W w m) (t : TypeId) (cur : Array Value) (fz : Nat × Nat) (c : Cells) (hnm : ∀ kk l, c ≠ .imap kk l)
  (hfz : ∀ j, j < cur.size → (decide (fz.1 ≤ j) && decide (j < fz.2)) = false) (hc : c.rel ρ (fun j => cur[j]?)) :
  MemRel (ρ ++ [⟨w.heap.size, 0, cur.size⟩]) B W (w.alloc (.cells cur t fz)) (newB m t c) := by
 refine (hm.alloc _).push _ ⟨true, c⟩ (fun _ => ⟨cur, t, fz, .inr (heap_alloc_new w _), rfl, fun _ => hfz, ?_⟩) (fun _ _ hb => Nat.lt_irrefl _ (hm.base _ hb)) (fun kk l h => (hnm kk l h).elim) (fun j e s he hs hl h0 _ _ _ => ?_)
 ·simpa using Cells.rel_app _ hc
 ·have := hm.lt he hs hl h0
  simp only; omega
theorem getLen {ρ : Env} {m : List SB} {B : Nat → Prop} {W w : World} (hm : MemRel ρ B W w m) (e : E) : (ρ ++ [e])[m.length]? = some e := by
 rw [← hm.len]; simp
theorem relL_rel {l : List C} {us : List Value} (h : relL ρ l us) (ho : ∀ x ∈ us, x.oneCell' = true) (rest : List Value) : (Cells.exp l).rel ρ (fun j => (us ++ rest)[j]?) := by
 intro j c hj
 obtain ⟨u, h1, h2⟩ := h.get j c hj
 have hlt := (List.getElem?_eq_some_iff.1 h1).1
 exact ⟨u, by show (us ++ rest)[j]? = _; rw [List.getElem?_append_left hlt]; exact h1, h2, ho u (List.mem_of_getElem? h1)⟩
theorem nofz (cur : Array Value) : ∀ j, j < cur.size → (decide ((0, 0).1 ≤ j) && decide (j < (0, 0).2)) = false := by simp
def nextOf : Option V → Env → Next → Prop
 | some v, ρ, x => ∃ u, x = .value u ∧ v.rel ρ u
 | none, _, x => x = .skip
def RWs (P : Program) (B : Nat → Prop) (W w : World) (s : Sem Next) (ρ : Env) (v : Option V) (m : List SB) : Prop :=
 ∃ x w' ρ', s.run P w = .ok x w' ∧ nextOf v (ρ ++ ρ') x ∧ MemRel (ρ ++ ρ') B W w' m
def Fresh (P : Program) (B : Nat → Prop) (W w : World) (s : Sem Next) (ρ : Env) (v : Option V) (m : List SB) : Prop :=
 ∃ x w' ρ', s.run P w = .ok x w' ∧ nextOf v (ρ ++ ρ') x ∧ MemRel (ρ ++ ρ') B W w' m ∧ Ext w w'
theorem Fresh.rw {B : Nat → Prop} {W w : World} {s : Sem Next} {v : Option V} {m : List SB} (h : Fresh P B W w s ρ v m) : RWs P B W w s ρ v m :=
 let ⟨x, w', ρ', h1, h2, h3, _⟩ := h; ⟨x, w', ρ', h1, h2, h3⟩
theorem alloc_sound {B : Nat → Prop} {W w : World} {m : List SB} (hm : MemRel ρ B W w m) {t : TypeId} {z : List C} (h : zeroC P t = some z) (hp : Bool) (old : Value) (hh : hp = true) :
  Fresh P B W w (do pure (Next.value (← Instr.alloc t hp old))) ρ (some (.v (.one (.ptr m.length (.c 0) 1 0)))) (newB m t (.exp z)) := by
 obtain ⟨inf, zv, h1, h2, h3, h4, _⟩ := zeroC_sound (P := P) (ρ := ρ) h
 subst hh
 refine ⟨_, w.alloc (.cells zv.cells t), [⟨w.heap.size, 0, zv.cells.size⟩], ?_, ⟨.pointer (some ⟨w.heap.size, 0, none⟩), rfl, ⟨⟨_, getLen hm _, rfl⟩, rfl⟩⟩,
  hm.new t zv.cells (0, 0) (.exp z) (fun _ _ h => by cases h) (nofz _) ?_, Ext.alloc w _⟩
 ·simp only [Instr.alloc, Sem.run_bind, zeroRun h1 h2, Result.andThen_ok, newVar, newRow, run_newObj, Sem.run_pure]
  simp only [World.alloc_eq]
 ·have := relL_rel h3 h4 []
  simpa using this
theorem cellsV_rel {x : V1} {u : Value} (h : x.rel ρ u) : (cellsV x).rel ρ (fun j => u.cells[j]?) := by
 cases x with
 | one c =>
  have hc : u.cells = #[u] := by
   have := h.2
   cases u <;> first | rfl | simp [Value.oneCell'] at this
  rw [hc]
  intro j c' hj
  cases j with
  | zero => simp at hj; subst hj; exact ⟨u, rfl, h.1, h.2⟩
  | succ j => simp at hj
 | agg l =>
  obtain ⟨us, rfl, hr, ho⟩ := h
  have := relL_rel hr ho []
  simpa [cellsV, Value.cells] using this
 | aggi k l =>
  simp only [V1.rel] at h
  subst h
  intro j n hj
  simp [Value.cells, hj]
theorem box_sound {B : Nat → Prop} {W w : World} {m : List SB} (hm : MemRel ρ B W w m) {t : TypeId} {y : V1} {u : Value} (h : y.rel ρ u) :
  Fresh P B W w (do pure (Next.value (← Instr.box t u))) ρ (some (.v (.one (.ptr m.length (.c 0) 1 0)))) (newB m t (cellsV y)) := by
 refine ⟨_, w.alloc (.cells u.cells t), [⟨w.heap.size, 0, u.cells.size⟩], ?_, ⟨.pointer (some ⟨w.heap.size, 0, none⟩), rfl, ⟨⟨_, getLen hm _, rfl⟩, rfl⟩⟩,
  hm.new t u.cells (0, 0) _ (fun _ _ h => by cases y <;> cases h) (nofz _) (cellsV_rel h), Ext.alloc w _⟩
 simp only [Instr.box, newVar, newRow, Sem.run_bind, run_newObj, Result.andThen_ok, Sem.run_pure]
 simp only [World.alloc_eq]
theorem repC_rel {z : List C} {us : List Value} (h : relL ρ z us) : ∀ n, relL ρ (repC z n) ((List.replicate n us).flatten)
 | 0 => rfl
 | n + 1 => by
  rw [List.replicate_succ, List.flatten_cons]
  exact h.append (repC_rel h n)
theorem flatten_replicate (us : List Value) (n : Nat) : (List.replicate n us).flatten = (List.range (n * us.length)).map fun i => us[i % us.length]! := by
 induction n with
 | zero => simp
 | succ n ih =>
  rw [List.replicate_succ', List.flatten_append, ih]
  rw [show (n + 1) * us.length = n * us.length + us.length by rw [Nat.succ_mul], List.range_add, List.map_append]
  congr 1
  apply List.ext_getElem
  ·simp
  ·intro i h1 h2
   simp at h1
   simp only [List.flatten_singleton, List.getElem_map, List.getElem_range]
   rw [show (n * us.length + i) % us.length = i by rw [Nat.mul_comm, Nat.mul_add_mod, Nat.mod_eq_of_lt (by simpa using h1)]]
   rw [getElem!_pos us i (by simpa using h1)]
theorem replArr (zv : Array Value) (n : Nat) : ((Array.range (n * zv.size)).map fun i => zv[i % zv.size]!).toList = (List.replicate n zv.toList).flatten := by
 rw [flatten_replicate]
 obtain ⟨l⟩ := zv
 simp only [Array.toList_map, Array.toList_range, List.size_toArray]
 apply List.map_congr_left
 intro i _
 simp [getElem!_def]
theorem mem_repl {us : List Value} {n : Nat} (ho : ∀ x ∈ us, x.oneCell' = true) : ∀ x ∈ (List.replicate n us).flatten, x.oneCell' = true := by
 intro x hx
 obtain ⟨l, hl, hx⟩ := List.mem_flatten.1 hx
 rw [List.eq_of_mem_replicate hl] at hx
 exact ho x hx
end
end Go.Sx
