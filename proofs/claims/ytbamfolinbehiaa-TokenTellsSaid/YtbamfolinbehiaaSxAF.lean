/- The symbolic evaluator: tables of functions at closed numbers; The symbolic evaluator: a law's arguments, as they are read, told of by symbolic values; The symbolic evaluator: a law's arguments, by their kinds; The symbolic evaluator: contracts of functions of strings that give a number and leave the world as it was. -/
import Derived.Test.YtbamfolinbehiaaSxAB
import Derived.ChangeArms
section
namespace Go.Sx
open Go Go.RowKit
section
variable {P : Program}
end
end Go.Sx
end
section
namespace Go.Sx
open Go Go.RowKit Go.ChangeShapes Go.WideShapes
def flatFs (P : Program) (fl : TypeId → Option (List TypeId)) : List Field → Nat → Option (List TypeId)
 | [], _ => some []
 | f :: r, off => match Nat.beq f.offset off, fl f.type with
  | true, some l => match Nat.beq l.length (P.cellsOf f.type), flatFs P fl r (off + l.length) with
   | true, some l' => some (l ++ l')
   | _, _ => none
  | _, _ => none
def repT (l : List TypeId) : Nat → List TypeId
 | 0 => []
 | n + 1 => l ++ repT l n
def flat (P : Program) : Nat → TypeId → Option (List TypeId)
 | 0, _ => none
 | d + 1, t => match P.underlying t with
  | some (.struct fs) => match flatFs P (flat P d) fs.toList 0 with
   | some l => match Nat.beq l.length (P.cellsOf t) with
    | true => some l
    | false => none
   | none => none
  | some (.array n e) => match flat P d e with
   | some l => match Nat.beq l.length (P.cellsOf e), Nat.beq (n * l.length) (P.cellsOf t) with
    | true, true => some (repT l n)
    | _, _ => none
   | none => none
  | some (.int _) => some [t]
  | some .bool => some [t]
  | some .string => some [t]
  | some (.slice _) => some [t]
  | _ => none
inductive CK where
 | int (k : IntKind)
 | bool
 | str
 | sl (ks : List IntKind)
def intKs (P : Program) : List TypeId → Option (List IntKind)
 | [] => some []
 | t :: r => match P.underlying t with
  | some (.int k) => match intKs P r with
   | some l => some (k :: l)
   | none => none
  | _ => none
def ckOf (P : Program) (d : Nat) (t : TypeId) : Option CK :=
 match P.underlying t with
 | some (.int k) => some (.int k)
 | some .bool => some .bool
 | some .string => some .str
 | some (.slice e) => match flat P d e with
  | some ts => match Nat.beq ts.length (P.cellsOf e), intKs P ts with
   | true, some ks => match ks with
    | [] => none
    | _ => some (.sl ks)
   | _, _ => none
  | none => none
 | _ => none
def cksOf (P : Program) (d : Nat) : List TypeId → Option (List CK)
 | [] => some []
 | t :: r => match ckOf P d t with
  | some c => match cksOf P d r with
   | some l => some (c :: l)
   | none => none
  | none => none
inductive DV where
 | int (k : IntKind) (n : Int)
 | bool (b : Bool)
 | str (l : List UInt8)
 | recs (ks : List IntKind) (l : List (List Int)) (e : E)
def wfRow : List IntKind → List Int → Prop
 | [], [] => True
 | k :: ks, n :: r => (Lit.int k n).wf = true ∧ wfRow ks r
 | _, _ => False
def slAt (l : List (List Int)) (st : Nat) (e : E) (v : Value) : Prop :=
 (l = [] ∧ v = .slice none 0 0) ∨ ∃ cap, v = .slice (some ⟨e.blk, e.off, none⟩) l.length cap ∧ l.length ≤ cap ∧ cap ≤ maxLen ∧ (cap = 0 ∨ e.off + cap * st ≤ e.sz)
def DV.ok (W : World) : DV → Value → Prop
 | .int k n, v => v = .int k n ∧ (Lit.int k n).wf = true
 | .bool b, v => v = .bool b
 | .str l, v => v = .string ⟨l.toArray⟩ ∧ l.length ≤ maxLen
 | .recs ks l e, v => slAt l ks.length e v ∧ l.length ≤ maxLen ∧ (∀ ρ, SB.rel ρ W e ⟨false, .recs ks l⟩) ∧ ∀ r ∈ l, wfRow ks r
def DV.is : CK → DV → Prop
 | .int k, .int k' _ => k' = k
 | .bool, .bool _ => True
 | .str, .str _ => True
 | .sl ks, .recs ks' _ _ => ks' = ks
 | _, _ => False
def dvs (W : World) : List CK → List Value → List DV → Prop
 | [], [], [] => True
 | c :: cs, v :: vs, d :: ds => DV.is c d ∧ DV.ok W d v ∧ dvs W cs vs ds
 | _, _, _ => False
section
variable {H : Type} {enc : TypeId × Value → H} {P : Program} {w : World} {base b0 : Nat} {spare : Nat → Bool} {held : Bool}
abbrev rd (enc : TypeId × Value → H) (P : Program) (w : World) (base : Nat) (spare : Nat → Bool) (held : Bool) (u : TypeId) (c : Value) : Prop := ∃ fu y, DataW.trod enc P w base spare held fu u [c] = some y
def rds (enc : TypeId × Value → H) (P : Program) (w : World) (base : Nat) (spare : Nat → Bool) (held : Bool) : List TypeId → List Value → Prop
 | [], [] => True
 | t :: ts, v :: vs => rd enc P w base spare held t v ∧ rds enc P w base spare held ts vs
 | _, _ => False
theorem rds_append : ∀ {ts ts' : List TypeId} {vs vs' : List Value}, rds enc P w base spare held ts vs → rds enc P w base spare held ts' vs' → rds enc P w base spare held (ts ++ ts') (vs ++ vs')
 | [], _, [], _, _, h => h
 | _ :: _, _, _ :: _, _, h, h' => ⟨h.1, rds_append h.2 h'⟩
 | [], _, _ :: _, _, h, _ => h.elim
 | _ :: _, _, [], _, h, _ => h.elim
theorem rds_length : ∀ {ts : List TypeId} {vs : List Value}, rds enc P w base spare held ts vs → vs.length = ts.length
 | [], [], _ => rfl
 | _ :: _, _ :: _, h => by simp [rds_length h.2]
 | [], _ :: _, h => h.elim
 | _ :: _, [], h => h.elim
theorem trod_array {n : Nat} {e t : TypeId} {fuel : Nat} {cs : List Value} {x : DataW H × List MemPlace} (ht : P.underlying t = some (.array n e)) (h : DataW.trod enc P w base spare held fuel t cs = some x) :
  ∃ m, fuel = m + 1 ∧ cs.length = P.cellsOf t ∧ ∀ i, i < n → ∃ y, DataW.trod enc P w base spare held m e ((cs.drop (i * P.cellsOf e)).take (P.cellsOf e)) = some y := by
 cases fuel with
 | zero => simp [DataW.trod] at h
 | succ m =>
  unfold DataW.trod at h
  rw [ht] at h
  split at h <;> simp_all
  obtain ⟨hl, xs, hp, _⟩ := h
  intro i hi
  have := mapM_some_get hp i i (by simp [hi])
  have hlen := mapM_some_length hp
  simp only [List.length_range] at hlen
  exact ⟨xs[i].1, xs[i].2, by rw [this, List.getElem?_eq_getElem (by omega)]⟩
theorem rds_fields (fl : TypeId → Option (List TypeId)) (hfl : ∀ t ts fuel cs x, fl t = some ts → DataW.trod enc P w base spare held fuel t cs = some x → rds enc P w base spare held ts cs) {m : Nat} {cs : List Value} :
  ∀ {fs : List Field} {off : Nat} {ts : List TypeId}, flatFs P fl fs off = some ts → (∀ f ∈ fs, ∃ y, DataW.trod enc P w base spare held m f.type ((cs.drop f.offset).take (P.cellsOf f.type)) = some y) →
  rds enc P w base spare held ts ((cs.drop off).take ts.length)
 | [], off, ts, h, _ => by
  simp only [flatFs, Option.some.injEq] at h; subst h
  simp [rds]
 | f :: r, off, ts, h, hf => by
  simp only [flatFs] at h
  split at h
  ·rename_i l ho hl
   split at h
   ·rename_i l' hc hr
    injection h with h; subst h
    have ho := Nat.eq_of_beq_eq_true ho
    have hc := Nat.eq_of_beq_eq_true hc
    obtain ⟨y, hy⟩ := hf f (by simp)
    have h1 := hfl _ _ _ _ _ hl hy
    have h2 := rds_fields fl hfl hr (fun g hg => hf g (by simp [hg]))
    rw [ho, ← hc] at h1
    have : (cs.drop off).take (l ++ l').length = (cs.drop off).take l.length ++ (cs.drop (off + l.length)).take l'.length := by
     rw [List.length_append, List.take_add, List.drop_drop]
    rw [this]
    exact rds_append h1 h2
   ·cases h
  ·cases h
theorem rds_rep {e : TypeId} {l : List TypeId} (hl : l.length = P.cellsOf e) (hfl : ∀ fuel cs x, DataW.trod enc P w base spare held fuel e cs = some x → rds enc P w base spare held l cs) {m : Nat} {cs : List Value} :
  ∀ (n k : Nat), (∀ i, k ≤ i → i < k + n → ∃ y, DataW.trod enc P w base spare held m e ((cs.drop (i * P.cellsOf e)).take (P.cellsOf e)) = some y) →
  rds enc P w base spare held (repT l n) ((cs.drop (k * P.cellsOf e)).take (n * P.cellsOf e))
 | 0, k, _ => by simp [repT, rds]
 | n + 1, k, h => by
  obtain ⟨y, hy⟩ := h k (by omega) (by omega)
  have h1 := hfl _ _ _ hy
  have h2 := rds_rep hl hfl n (k + 1) (fun i hi hi' => h i (by omega) (by omega))
  have : (cs.drop (k * P.cellsOf e)).take ((n + 1) * P.cellsOf e) = (cs.drop (k * P.cellsOf e)).take (P.cellsOf e) ++ (cs.drop ((k + 1) * P.cellsOf e)).take (n * P.cellsOf e) := by
   rw [Nat.add_mul n 1, Nat.one_mul, Nat.add_comm (n * _), List.take_add, List.drop_drop, Nat.add_mul k 1, Nat.one_mul]
  rw [this]
  exact rds_append h1 h2
theorem rds_flat : ∀ (d : Nat) (t : TypeId) (ts : List TypeId) (fuel : Nat) (cs : List Value) (x : DataW H × List MemPlace), flat P d t = some ts → DataW.trod enc P w base spare held fuel t cs = some x → rds enc P w base spare held ts cs
 | 0, _, _, _, _, _, h, _ => by cases h
 | d + 1, t, ts, fuel, cs, x, h, hx => by
  simp only [flat] at h
  split at h
  ·rename_i fs ht
   split at h
   ·rename_i l hl
    split at h
    ·rename_i hn
     injection h with h; subst h
     have hn := Nat.eq_of_beq_eq_true hn
     obtain ⟨xs, n, rfl, _, h2, h3, h4⟩ := DataW.trod_struct ht hx
     have := rds_fields (cs := cs) (m := n) (flat P d) (fun t ts fuel cs x => rds_flat d t ts fuel cs x) hl (fun f hf => by
      obtain ⟨i, hi, rfl⟩ := List.getElem_of_mem hf
      have hi' : i < fs.size := by simpa using hi
      have := h4 i fs[i] (by simp [hi'])
      refine ⟨xs[i], ?_⟩
      simp only [Array.getElem_toList]
      rw [this, List.getElem?_eq_getElem (by omega)])
     rwa [List.drop_zero, List.take_of_length_le (by omega)] at this
    ·cases h
   ·cases h
  ·rename_i n e ht
   split at h
   ·rename_i l hl
    split at h
    ·rename_i h1 h2
     injection h with h; subst h
     have h1 := Nat.eq_of_beq_eq_true h1
     have h2 := Nat.eq_of_beq_eq_true h2
     obtain ⟨m, rfl, h3, h4⟩ := trod_array ht hx
     have := rds_rep (cs := cs) (m := m) h1 (fun fuel cs x => rds_flat d e l fuel cs x hl) n 0 (fun i _ hi => h4 i (by omega))
     rwa [Nat.zero_mul, List.drop_zero, List.take_of_length_le (by rw [h3, ← h2, h1]; exact Nat.le_refl _)] at this
    ·cases h
   ·cases h
  ·rename_i k ht
   injection h with h; subst h
   obtain ⟨n, rfl, _⟩ := DataW.trod_int ht hx
   exact ⟨⟨_, _, hx⟩, trivial⟩
  ·rename_i ht
   injection h with h; subst h
   obtain ⟨n, rfl, _⟩ := DataW.trod_bool ht hx
   exact ⟨⟨_, _, hx⟩, trivial⟩
  ·rename_i ht
   injection h with h; subst h
   obtain ⟨n, rfl, _⟩ := DataW.trod_string ht hx
   exact ⟨⟨_, _, hx⟩, trivial⟩
  ·rename_i e ht
   injection h with h; subst h
   rcases DataW.trod_slice ht hx with ⟨rfl, _⟩ | ⟨a, len, cap, _, _, _, _, rfl, _⟩
   ·exact ⟨⟨_, _, hx⟩, trivial⟩
   ·exact ⟨⟨_, _, hx⟩, trivial⟩
  ·cases h
theorem ints_row : ∀ {ts : List TypeId} {ks : List IntKind} {cs : List Value}, intKs P ts = some ks → rds enc P w base spare held ts cs → ∃ r : List Int, r.length = ks.length ∧ wfRow ks r ∧ ∀ (j : Nat) (n : Int) (k : IntKind), r[j]? = some n → ks[j]? = some k → cs[j]? = some (.int k n)
 | [], ks, cs, h, hr => by
  simp only [intKs, Option.some.injEq] at h; subst h
  exact ⟨[], rfl, trivial, fun j n k h => by simp at h⟩
 | t :: ts, ks, [], h, hr => hr.elim
 | t :: ts, ks, c :: cs, h, hr => by
  simp only [intKs] at h
  split at h
  ·rename_i k ht
   split at h
   ·rename_i l hl
    injection h with h; subst h
    obtain ⟨⟨fu, y, hy⟩, hr'⟩ := hr
    obtain ⟨n, hc, _, hw⟩ := DataW.trod_int ht hy
    injection hc with hc _; subst hc
    obtain ⟨r, h1, h2, h3⟩ := ints_row hl hr'
    refine ⟨n :: r, by simp [h1], ⟨hw, h2⟩, fun j m k' hj hk => ?_⟩
    cases j with
    | zero => simp only [List.getElem?_cons_zero, Option.some.injEq] at hj hk ⊢; rw [hj, hk]
    | succ j => simp only [List.getElem?_cons_succ] at hj hk ⊢; exact h3 j m k' hj hk
   ·cases h
  ·cases h
theorem choose_rows {n : Nat} {p : Nat → List Int → Prop} (h : ∀ i, i < n → ∃ r, p i r) : ∃ l : List (List Int), l.length = n ∧ ∀ i r, l[i]? = some r → p i r := by
 induction n with
 | zero => exact ⟨[], rfl, fun i r h => by simp at h⟩
 | succ n ih =>
  obtain ⟨l, h1, h2⟩ := ih fun i hi => h i (by omega)
  obtain ⟨r, hr⟩ := h n (by omega)
  refine ⟨l ++ [r], by simp [h1], fun i q hq => ?_⟩
  by_cases hi : i < l.length
  ·rw [List.getElem?_append_left hi] at hq; exact h2 i q hq
  ·rw [List.getElem?_append_right (by omega)] at hq
   have : i - l.length = 0 := by
    have := (List.getElem?_eq_some_iff.1 hq).1
    simp at this; omega
   rw [this] at hq
   simp only [List.getElem?_cons_zero, Option.some.injEq] at hq
   subst hq
   have : i = n := by omega
   subst this; exact hr
theorem open_cell {d : Nat} {u : TypeId} {c : Value} {ck : CK} (hck : ckOf P d u = some ck) (hr : rd enc P w base (fun _ => true) held u c) (hok : Cell.okWide P w .any b0 u c) : ∃ dv, DV.is ck dv ∧ DV.ok w dv c := by
 obtain ⟨fu, y, hy⟩ := hr
 unfold ckOf at hck
 split at hck
 ·rename_i k ht
  injection hck with hck; subst hck
  obtain ⟨n, hc, _, hw⟩ := DataW.trod_int ht hy
  injection hc with hc _; subst hc
  exact ⟨.int k n, rfl, rfl, hw⟩
 ·rename_i ht
  injection hck with hck; subst hck
  obtain ⟨n, hc, _⟩ := DataW.trod_bool ht hy
  injection hc with hc _; subst hc
  exact ⟨.bool n, trivial, rfl⟩
 ·rename_i ht
  injection hck with hck; subst hck
  obtain ⟨n, hc, _, hm⟩ := DataW.trod_string ht hy
  injection hc with hc _; subst hc
  refine ⟨.str n.data.toList, trivial, by simp [ByteArray.ext_iff], ?_⟩
  simpa using hm
 ·rename_i e ht
  split at hck
  ·rename_i ts hts
   split at hck
   ·rename_i ks hsz hks
    have hkl : ks.length = P.cellsOf e := by
     rw [← Nat.eq_of_beq_eq_true hsz]
     clear hck hts hsz
     induction ts generalizing ks with
     | nil => simp only [intKs, Option.some.injEq] at hks; subst hks; rfl
     | cons t r ih =>
      simp only [intKs] at hks
      split at hks
      ·split at hks
       ·rename_i l hl; injection hks with hks; subst hks; simp [ih l hl]
       ·cases hks
      ·cases hks
    split at hck
    ·cases hck
    ·rename_i hne
     injection hck with hck; subst hck
     have hpos : 0 < ks.length := by cases ks with | nil => exact (hne rfl).elim | cons x r => simp
     rcases DataW.trod_slice ht hy with ⟨hc, _⟩ | ⟨a, len, cap, elems, rest, n, rfl, hc, _, _, hlc, hm, hel, helems, hrest, _⟩
     ·injection hc with hc _; subst hc
      exact ⟨.recs ks [] ⟨0, 0, 0⟩, rfl, .inl ⟨rfl, rfl⟩, by simp, fun ρ _ => ⟨#[], 0, (0, 0), .inl rfl, rfl, (fun h => by cases h), (fun i r h => by simp at h)⟩, fun r h => by cases h⟩
     ·injection hc with hc _; subst hc
      obtain ⟨hrl, hrs⟩ := hrest rfl
      have hspot : a.spot = none := by
       simp only [Cell.okWide, Cell.ok, ht] at hok
       exact hok.2.2.2.1
      obtain ⟨b0, o0, sp⟩ := a
      simp only at hspot
      subst hspot
      have each : ∀ i, i < cap → ∃ r : List Int, r.length = ks.length ∧ wfRow ks r ∧ ∀ (j : Nat) (n : Int) (k : IntKind), r[j]? = some n → ks[j]? = some k → w.cell? ⟨b0, o0 + (i * ks.length + j), none⟩ = some (.int k n) := by
       intro i hi
       have : ∃ y, (w.cells? base ((⟨b0, o0, none⟩ : Addr).add (i * P.cellsOf e)) (P.cellsOf e)).bind (DataW.trod enc P w base (fun _ => true) held n e) = some y := by
        by_cases hil : i < len
        ·exact ⟨elems[i], by rw [helems i hil, List.getElem?_eq_getElem (by omega)]⟩
        ·have := hrs (i - len) (by omega)
         rw [show len + (i - len) = i by omega] at this
         exact ⟨rest[i - len], by rw [this, List.getElem?_eq_getElem (by omega)]⟩
       obtain ⟨y, hy⟩ := this
       rw [Option.bind_eq_some_iff] at hy
       obtain ⟨cs, h1, h2⟩ := hy
       obtain ⟨_, h3, h4⟩ := World.cells?_some h1
       obtain ⟨r, h5, h6, h7⟩ := ints_row hks (rds_flat d e ts n cs y hts h2)
       refine ⟨r, h5, h6, fun j m k hj hk => ?_⟩
       have hjl := (List.getElem?_eq_some_iff.1 hk).1
       have := h4 j (by omega)
       rw [h7 j m k hj hk] at this
       rw [← this, hkl]
       simp only [Addr.add_lit]
       congr 2
       omega
      obtain ⟨rows, g1, g2⟩ := choose_rows each
      have hcell : ∀ i, i < cap → ∀ j, j < ks.length → ∃ k m, w.cell? ⟨b0, o0 + (i * ks.length + j), none⟩ = some (.int k m) := by
       intro i hi j hj
       obtain ⟨r, h1, _, h3⟩ := each i hi
       exact ⟨ks[j], r[j], h3 j _ _ (List.getElem?_eq_getElem (by omega)) (List.getElem?_eq_getElem hj)⟩
      by_cases hc0 : cap = 0
      ·subst hc0
       have : len = 0 := by omega
       subst this
       refine ⟨.recs ks [] ⟨b0, o0, 0⟩, rfl, .inr ⟨0, rfl, Nat.le_refl _, hm, .inl rfl⟩, by simp, fun ρ _ => ⟨#[], 0, (0, 0), .inl rfl, rfl, (fun h => by cases h), (fun i r h => by simp at h)⟩, fun r h => by cases h⟩
      ·obtain ⟨k0, m0, h0⟩ := hcell (cap - 1) (by omega) (ks.length - 1) (by omega)
       unfold World.cell? at h0
       split at h0
       ·rename_i cur ty fz hh
        split at h0
        ·cases h0
        ·have hlt : o0 + ((cap - 1) * ks.length + (ks.length - 1)) < cur.size := (Array.getElem?_eq_some_iff.1 h0).1
         have hbig : o0 + cap * ks.length ≤ cur.size := by
          have : (cap - 1) * ks.length + (ks.length - 1) + 1 = cap * ks.length := by
           rw [Nat.sub_mul, Nat.one_mul]
           have : ks.length ≤ cap * ks.length := Nat.le_mul_of_pos_left _ (by omega)
           omega
          omega
         refine ⟨.recs ks (rows.take len) ⟨b0, o0, cur.size⟩, rfl, .inr ⟨cap, ?_, ?_, hm, .inr hbig⟩, ?_, fun ρ _ => ⟨cur, ty, fz, .inr hh, rfl, (fun h => by cases h), ?_⟩, ?_⟩
         ·rw [List.length_take, g1, Nat.min_eq_left hlc]
         ·rw [List.length_take, g1]; omega
         ·rw [List.length_take, g1]; omega
         ·intro i r hi
          rw [List.getElem?_take] at hi
          split at hi
          ·obtain ⟨q1, _, q3⟩ := g2 i r hi
           refine ⟨q1, fun j m k hj hk => ?_⟩
           have := q3 j m k hj hk
           unfold World.cell? at this
           simp only [hh] at this
           simpa using this
          ·cases hi
         ·intro r hr
          obtain ⟨i, hi⟩ := List.getElem?_of_mem (List.mem_of_mem_take hr)
          exact (g2 i r hi).2.1
       ·cases h0
   ·cases hck
  ·cases hck
 ·cases hck
theorem open_cells {d : Nat} : ∀ {ts : List TypeId} {cks : List CK} {cs : List Value}, cksOf P d ts = some cks → rds enc P w base (fun _ => true) held ts cs → (∀ (i : Nat) (u : TypeId) (c : Value), ts[i]? = some u → cs[i]? = some c → Cell.okWide P w .any b0 u c) →
  ∃ ds, dvs w cks cs ds
 | [], cks, [], h, _, _ => by
  simp only [cksOf, Option.some.injEq] at h; subst h
  exact ⟨[], trivial⟩
 | [], _, _ :: _, _, h, _ => h.elim
 | _ :: _, _, [], _, h, _ => h.elim
 | t :: ts, cks, c :: cs, h, hr, hok => by
  simp only [cksOf] at h
  split at h
  ·rename_i ck hck
   split at h
   ·rename_i l hl
    injection h with h; subst h
    obtain ⟨dv, h1, h2⟩ := open_cell hck hr.1 (hok 0 t c rfl rfl)
    obtain ⟨ds, h3⟩ := open_cells hl hr.2 (fun i u c hu hc => hok (i + 1) u c (by simpa using hu) (by simpa using hc))
    exact ⟨dv :: ds, h1, h2, h3⟩
   ·cases h
  ·cases h
theorem open_one {d : Nat} {t : TypeId} {v : Value} {dd : DataW H} {ps : List MemPlace} {ck : CK} (hck : ckOf P d t = some ck) (hval : Value.okWide P w .any b0 t v) (hd : DataW.Trod enc P w base (fun _ => true) held t v dd ps) :
  ∃ dv, DV.is ck dv ∧ DV.ok w dv v := by
 obtain ⟨fu, hf⟩ := hd
 have hagg : Cell.okWide P w .any b0 t v ∧ v.cells.toList = [v] := by
  unfold ckOf at hck
  unfold Value.okWide at hval
  split at hck
  ·rename_i k ht
   rw [ht] at hval
   simp only at hval
   refine ⟨hval, ?_⟩
   unfold Cell.okWide Cell.ok at hval
   rw [ht] at hval
   cases v <;> first | rfl | simp at hval
  ·rename_i ht
   rw [ht] at hval
   simp only at hval
   refine ⟨hval, ?_⟩
   unfold Cell.okWide Cell.ok at hval
   rw [ht] at hval
   cases v <;> first | rfl | simp at hval
  ·rename_i ht
   rw [ht] at hval
   simp only at hval
   refine ⟨hval, ?_⟩
   unfold Cell.okWide Cell.ok at hval
   rw [ht] at hval
   cases v <;> first | rfl | simp at hval
  ·rename_i e ht
   rw [ht] at hval
   simp only at hval
   refine ⟨hval, ?_⟩
   unfold Cell.okWide Cell.ok at hval
   rw [ht] at hval
   cases v <;> first | rfl | simp at hval
  ·cases hck
 rw [hagg.2] at hf
 exact open_cell hck ⟨fu, _, hf⟩ hagg.1
theorem open_agg {d d' : Nat} {t : TypeId} {v : Value} {dd : DataW H} {ps : List MemPlace} {ts : List TypeId} {cks : List CK} (hagg : isAggT P t = some true) (hfl : flat P d t = some ts) (hct : P.cellTypes P.depth t = some ts) (hck : cksOf P d' ts = some cks)
  (hval : Value.okWide P w .any b0 t v) (hd : DataW.Trod enc P w base (fun _ => true) held t v dd ps) :
  ∃ cs ds, v = .agg cs.toArray ∧ dvs w cks cs ds := by
 obtain ⟨fu, hf⟩ := hd
 have hval' : ∃ cs, v = .agg cs ∧ cs.size = P.cellsOf t ∧ Row.okWide P w .any b0 t cs := by
  unfold isAggT at hagg
  unfold Value.okWide at hval
  split at hagg
  ·rename_i ht; rw [ht] at hval; exact hval
  ·rename_i ht; rw [ht] at hval; exact hval
  ·cases hagg
  ·cases hagg
 obtain ⟨cs, rfl, hsz, ts', h1, _, h3⟩ := hval'
 rw [hct] at h1; injection h1 with h1; subst h1
 have hr := rds_flat d t ts fu _ _ hfl hf
 simp only [Value.cells] at hr
 have hlen := rds_length hr
 obtain ⟨ds, hds⟩ := open_cells hck hr (fun i u c hu hc => by
  have hi := (List.getElem?_eq_some_iff.1 hu).1
  obtain ⟨u', q1, q2⟩ := h3 i c (by simpa using hc)
  rw [Nat.mod_eq_of_lt hi] at q1
  rw [hu] at q1; injection q1 with q1; subst q1
  exact q2)
 exact ⟨cs.toList, ds, by simp, hds⟩
end
theorem recs_ints {ρ : Env} {W : World} {e : E} {k : IntKind} {l : List (List Int)} (h : SB.rel ρ W e ⟨false, .recs [k] l⟩) (hw : ∀ r ∈ l, wfRow [k] r) : SB.rel ρ W e ⟨false, .ints k (l.map fun r => r.getD 0 0)⟩ := by
 intro hl
 obtain ⟨cur, ty, fz, h1, h2, h3, h4⟩ := h rfl
 refine ⟨cur, ty, fz, h1, h2, h3, fun j n hj => ?_⟩
 simp only [List.getElem?_map, Option.map_eq_some_iff] at hj
 obtain ⟨r, hr, rfl⟩ := hj
 obtain ⟨q1, q2⟩ := h4 j r hr
 have hlen : 0 < r.length := by rw [q1]; simp
 have := q2 0 r[0] k (List.getElem?_eq_getElem hlen) rfl
 simp only [List.length_singleton, Nat.mul_one, Nat.add_zero] at this
 show cur[e.off + j]? = _
 rw [this]
 simp [List.getD, List.getElem?_eq_getElem hlen]
def readOnly (W : World) (x : E × SB) : Prop := x.2.own = false ∧ isMapC x.2.c = false ∧ ∀ ρ, SB.rel ρ W x.1 x.2
theorem mem_args {W : World} (l : List (E × SB)) (h : ∀ x ∈ l, readOnly W x) : MemRel (l.map (·.1)) (upto W) W W (l.map (·.2)) := by
 have get : ∀ (i : Nat) (e : E) (s : SB), (l.map (·.1))[i]? = some e → (l.map (·.2))[i]? = some s → readOnly W (e, s) := by
  intro i e s he hs
  simp only [List.getElem?_map, Option.map_eq_some_iff] at he hs
  obtain ⟨x, hx, rfl⟩ := he
  obtain ⟨y, hy, rfl⟩ := hs
  rw [hx] at hy; injection hy with hy; subst hy
  exact h x (List.mem_of_getElem? hx)
 refine ⟨.refl _ _, fun k hk => hk, by simp, fun i e s he hs => (get i e s he hs).2.2 _, fun i e s he hs ho => ?_, fun i j e e' s s' _ he _ hs _ ho => ?_, fun i e s kk l he hs hc => ?_, fun i j e e' s s' kk kk' l l' _ he _ hs _ hc => ?_⟩
 ·have := (get i e s he hs).1; rw [ho] at this; cases this
 ·have := (get i e s he hs).1; rw [ho] at this; cases this
 ·have := (get i e s he hs).2.1; rw [hc] at this; cases this
 ·have := (get i e s he hs).2.1; rw [hc] at this; cases this
theorem DV.ints {W : World} {k : IntKind} {l : List (List Int)} {e : E} {v : Value} (h : DV.ok W (.recs [k] l e) v) :
  readOnly W (e, ⟨false, .ints k (l.map fun r => r.getD 0 0)⟩) ∧ (∀ n ∈ l.map (fun r => r.getD 0 0), (Lit.int k n).wf = true) ∧ l.length ≤ maxLen ∧
  ∀ (ρ : Env) (b : Nat), ρ[b]? = some e → (V.v (.one (.slice b (.c 0) 1 (.s l.length) (.s l.length)))).rel ρ v := by
 obtain ⟨h1, h2, h3, h4⟩ := h
 refine ⟨⟨rfl, rfl, fun ρ => recs_ints (h3 ρ) h4⟩, fun n hn => ?_, h2, fun ρ b hb => ⟨⟨e, hb, ?_⟩, ?_⟩⟩
 ·simp only [List.mem_map] at hn
  obtain ⟨r, hr, rfl⟩ := hn
  have := h4 r hr
  match r, this with
  | [n], ⟨hw, _⟩ => exact hw
 ·rcases h1 with ⟨rfl, rfl⟩ | ⟨cap, rfl, q1, q2, q3⟩
  ·exact .inl ⟨rfl, rfl, rfl⟩
  ·exact .inr ⟨e.off, cap, rfl, Nat.le_refl _, q1, q2, by simpa [N.v] using q3⟩
 ·rcases h1 with ⟨_, rfl⟩ | ⟨cap, rfl, _⟩ <;> rfl
end Go.Sx
end
section
namespace Go.Sx
open Go Go.RowKit Go.ChangeShapes Go.WideShapes
section
variable {H : Type} {enc : TypeId × Value → H} {P : Program} {W : World} {base b0 : Nat} {held : Bool} {t : TypeId} {v : Value} {dd : DataW H} {ps : List MemPlace}
theorem one_ints {d : Nat} {k : IntKind} (hck : ckOf P d t = some (.sl [k])) (hval : Value.okWide P W .any b0 t v) (hd : DataW.Trod enc P W base (fun _ => true) held t v dd ps) :
  ∃ (l : List Int) (e : E), readOnly W (e, ⟨false, .ints k l⟩) ∧ (∀ n ∈ l, (Lit.int k n).wf = true) ∧ l.length ≤ maxLen ∧ ∀ (ρ : Env) (b : Nat), ρ[b]? = some e → (V.v (.one (.slice b (.c 0) 1 (.s l.length) (.s l.length)))).rel ρ v := by
 obtain ⟨dv, h1, h2⟩ := open_one hck hval hd
 match dv, h1 with
 | .recs _ l e, rfl =>
  obtain ⟨g1, g2, g3, g4⟩ := DV.ints h2
  exact ⟨l.map fun r => r.getD 0 0, e, g1, g2, by simpa using g3, by simpa using g4⟩
theorem dvs_ints : ∀ {ks : List IntKind} {cs : List Value} {ds : List DV}, dvs W (ks.map CK.int) cs ds → ∃ ns, wfRow ks ns ∧ cs = ivals ks ns
 | [], [], [], _ => ⟨[], trivial, rfl⟩
 | k :: ks, c :: cs, d :: ds, h => by
  obtain ⟨ns, h1, h2⟩ := dvs_ints h.2.2
  match d, h.1, h.2.1 with
  | .int _ n, rfl, ⟨e, hw⟩ => exact ⟨n :: ns, ⟨hw, h1⟩, by rw [e, h2]; rfl⟩
 | [], _ :: _, _, h => by cases h
 | [], [], _ :: _, h => by cases h
 | _ :: _, [], _, h => by cases h
 | _ :: _, _ :: _, [], h => by cases h
def eqNs : List Nat → List Nat → Bool
 | [], [] => true
 | x :: r, y :: s => match Nat.beq x y with
  | true => eqNs r s
  | false => false
 | _, _ => false
theorem eqNs_eq : ∀ {l m : List Nat}, eqNs l m = true → l = m
 | [], [], _ => rfl
 | [], _ :: _, h => by cases h
 | _ :: _, [], h => by cases h
 | x :: r, y :: s, h => by
  simp only [eqNs] at h
  split at h
  ·rename_i hx
   rw [Nat.eq_of_beq_eq_true hx, eqNs_eq h]
  ·cases h
def aggCk (P : Program) (d : Nat) (t : TypeId) : Option (List CK) :=
 match isAggT P t, flat P d t, P.cellTypes P.depth t with
 | some true, some ts, some ts' => match eqNs ts ts' with
  | true => cksOf P d ts
  | false => none
 | _, _, _ => none
theorem open_aggCk {d : Nat} {cks : List CK} (h : aggCk P d t = some cks) (hval : Value.okWide P W .any b0 t v) (hd : DataW.Trod enc P W base (fun _ => true) held t v dd ps) :
  ∃ cs ds, v = .agg cs.toArray ∧ dvs W cks cs ds := by
 unfold aggCk at h
 split at h
 ·rename_i ts ts' h1 h2 h3
  split at h
  ·rename_i he
   have := eqNs_eq he
   subst this
   exact open_agg h1 h2 h3 h hval hd
  ·cases h
 ·cases h
theorem wf_range {k : IntKind} {n : Int} (h : (Lit.int k n).wf = true) : k.min ≤ n ∧ n ≤ k.max := by
 simpa [Lit.wf] using h
theorem wf_u8 {n : Int} (h : (Lit.int .u8 n).wf = true) : 0 ≤ n ∧ n < 256 := by
 have := wf_range h
 simp [IntKind.min, IntKind.max, IntKind.signed, IntKind.bits] at this
 omega
end
end Go.Sx
end
section
namespace Go.Sx
open Go Go.RowKit
def svOf : V → Option (List UInt8)
 | .v (.one (.str l)) => some l
 | .v (.one (.sstr l)) => some l
 | _ => none
section
variable {P : Program}
theorem svOf_rel {ρ : Env} {v : V} {l : List UInt8} {u : Value} (h : svOf v = some l) (hr : V.rel ρ v u) : u = .string ⟨l.toArray⟩ := by
 unfold svOf at h
 split at h
 ·injection h with h; subst h; exact hr.1
 ·injection h with h; subst h; exact hr.1
 ·cases h
theorem ivOf_rel' {ρ : Env} {v : V} {k : IntKind} {n : Int} {u : Value} (h : ivs [k] [v] = some [n]) (hr : V.rel ρ v u) : u = .int k n := by
 have := (ivs_rel h (us := [u]) ⟨u, [], rfl, hr, rfl⟩).1
 injection this
end
end Go.Sx
end
