/- The symbolic evaluator: a law's argument that is a slice of structs of integers and bytes. -/
import Derived.Test.YtjnnfehepbicfaaSxAE
import Derived.Test.YtjnnfehepbicfaaSxX
namespace Go.Sx
open Go Go.RowKit Go.ChangeShapes Go.WideShapes
/-! ### blocks that tell of others, as arguments -/
def readN (W : World) (x : E × SB) : Prop := x.2.own = false ∧ isMapC x.2.c = false ∧ (∀ ρ, SB.rel ρ W x.1 x.2) ∧ NestC (fun k => k < W.heap.size) W x.1 x.2.c
theorem readOnly.nest {W : World} {x : E × SB} (h : readOnly W x) : readN W x := by
  obtain ⟨h1, h2, h3⟩ := h
  simp only [Bool.or_eq_false_iff] at h2
  exact ⟨h1, h2.1, h3, untold_nest h2.2⟩
theorem mem_argsN {W : World} (l : List (E × SB)) (h : ∀ x ∈ l, readN W x) : MemRel (l.map (·.1)) (uptoN W) W W (l.map (·.2)) := by
  have get : ∀ (i : Nat) (e : E) (s : SB), (l.map (·.1))[i]? = some e → (l.map (·.2))[i]? = some s → readN W (e, s) := by
    intro i e s he hs
    simp only [List.getElem?_map, Option.map_eq_some_iff] at he hs
    obtain ⟨x, hx, rfl⟩ := he
    obtain ⟨y, hy, rfl⟩ := hs
    rw [hx] at hy; injection hy with hy; subst hy
    exact h x (List.mem_of_getElem? hx)
  refine ⟨.refl _ _, fun k hk => hk, by simp, fun i e s he hs => (get i e s he hs).2.2.1 _, fun i e s he hs ho => ?_, fun i j e e' s s' _ he _ hs _ ho => ?_, fun i e s kk l he hs hc => ?_, fun i j e e' s s' kk kk' l l' _ he _ hs _ hc => ?_,
    fun i e s he hs => (get i e s he hs).2.2.2.mono (fun k hk _ => ⟨⟨.inl hk, fun j e1 s1 he1 hs1 ho => ?_⟩, rfl⟩) fun _ _ => rfl⟩
  · have := (get i e s he hs).1; rw [ho] at this; cases this
  · have := (get i e s he hs).1; rw [ho] at this; cases this
  · have := (get i e s he hs).2.1; rw [hc] at this; cases this
  · have := (get i e s he hs).2.1; rw [hc] at this; cases this
  · have := (get j e1 s1 he1 hs1).1; rw [ho] at this; cases this
section
variable {P : Program}
theorem law_obsN {T : FuncId → Option (List V → List SB → List Bool → Option CallR)} (hT : ∀ f g, T f = some g → TabOk P f g) {eff : FuncId → Bool} {fuel d : Nat} {f : FuncId} {args : List V} {m : List SB} {h : List Bool} {l : List Prop}
    (hr : obsOf (callN P T eff fuel d f args m h) = some l) (hl : allP l) {ρ : Env} {w : World} {us : List Value} (hm : MemRel ρ (uptoN w) w w m) (hu : relVs ρ args us) :
    Calls P f us.toArray w fun e w' => e = .returned (.bool true) ∧ Below w.heap.size w w' := by
  have low : ∀ {w' : World} {ρ' : Env} {m' : List SB}, MemRel ρ' (uptoN w) w w' m' → Below w.heap.size w w' := fun h => ⟨h.below.os, h.below.tape, h.below.output, h.below.size, h.below.block⟩
  unfold obsOf at hr
  split at hr
  · rename_i m' h' ob hc
    injection hr with hr; subst hr
    exact (callN_sound hT d f args m h _ _ _ _ hc (allP_mem hl) ρ _ w w us hm hu).mono fun e w' ⟨u, ρ', he, hv, hm'⟩ => ⟨by rw [he, hv.1], low hm'⟩
  · rename_i p m' h' ob hc
    injection hr with hr; subst hr
    exact (callN_sound hT d f args m h _ _ _ _ hc (fun q hq => allP_mem hl q (List.mem_cons_of_mem _ hq)) ρ _ w w us hm hu).mono fun e w' ⟨u, ρ', he, hv, hm'⟩ => ⟨by rw [he, hv.1, hl.1], low hm'⟩
  · cases hr
end
/-! ### such an argument -/
theorem choose_all {α : Type} {n : Nat} {p : Nat → α → Prop} (h : ∀ i, i < n → ∃ r, p i r) : ∃ l : List α, l.length = n ∧ ∀ i r, l[i]? = some r → p i r := by
  induction n with
  | zero => exact ⟨[], rfl, fun i r h => by simp at h⟩
  | succ n ih =>
    obtain ⟨l, h1, h2⟩ := ih fun i hi => h i (by omega)
    obtain ⟨r, hr⟩ := h n (by omega)
    refine ⟨l ++ [r], by simp [h1], fun i q hq => ?_⟩
    by_cases hi : i < l.length
    · rw [List.getElem?_append_left hi] at hq; exact h2 i q hq
    · rw [List.getElem?_append_right (by omega)] at hq
      have : i - l.length = 0 := by
        have := (List.getElem?_eq_some_iff.1 hq).1
        simp at this; omega
      rw [this] at hq
      simp only [List.getElem?_cons_zero, Option.some.injEq] at hq
      subst hq
      have : i = n := by omega
      subst this; exact hr
section
variable {H : Type} {enc : TypeId × Value → H} {P : Program} {w : World} {base b0 : Nat} {held : Bool}
/-- bytes -/
def isBytesT (P : Program) (t : TypeId) : Bool :=
  match P.underlying t with
  | some (.slice e) => match P.underlying e with
    | some (.int .u8) => Nat.beq (P.cellsOf e) 1
    | _ => false
  | _ => false
theorem nst_cell {t : TypeId} {u : Value} (ht : isBytesT P t = true) (hr : rd enc P w base (fun _ => true) held t u) :
    u.oneCell' = true ∧ ∃ d, Nst (fun k => k < w.heap.size) w u d ∧ (∀ n ∈ d, (Lit.int .u8 n).wf = true) ∧ d.length ≤ maxLen := by
  unfold isBytesT at ht
  split at ht
  · rename_i e hte
    split at ht
    · rename_i he
      have hc := Nat.eq_of_beq_eq_true ht
      obtain ⟨fu, y, hy⟩ := hr
      rcases DataW.trod_slice hte hy with ⟨hu, _⟩ | ⟨a, len, cap, elems, rest, n, rfl, hu, _, _, hlc, hm, hel, helems, hrest, _⟩
      · injection hu with hu _; subst hu
        exact ⟨rfl, [], .inl ⟨rfl, rfl⟩, (fun n h => by cases h), Nat.zero_le _⟩
      · injection hu with hu _; subst hu
        obtain ⟨hrl, hrs⟩ := hrest rfl
        refine ⟨rfl, ?_⟩
        have each : ∀ i, i < cap → ∃ x : Int, w.cell? (a.add i) = some (.int .u8 x) ∧ (Lit.int .u8 x).wf = true := by
          intro i hi
          have : ∃ y, (w.cells? base (a.add (i * P.cellsOf e)) (P.cellsOf e)).bind (DataW.trod enc P w base (fun _ => true) held n e) = some y := by
            by_cases hil : i < len
            · exact ⟨elems[i], by rw [helems i hil, List.getElem?_eq_getElem (by omega)]⟩
            · have := hrs (i - len) (by omega)
              rw [show len + (i - len) = i by omega] at this
              exact ⟨rest[i - len], by rw [this, List.getElem?_eq_getElem (by omega)]⟩
          obtain ⟨y, hy⟩ := this
          rw [Option.bind_eq_some_iff] at hy
          obtain ⟨cs, h1, h2⟩ := hy
          obtain ⟨_, h3, h4⟩ := World.cells?_some h1
          obtain ⟨x, rfl, _, hw⟩ := DataW.trod_int he h2
          have := h4 0 (by omega)
          rw [hc, Nat.mul_one] at this
          refine ⟨x, ?_, hw⟩
          have e0 : (a.add i).add 0 = a.add i := by simp [Addr.add]
          rw [e0] at this
          simpa using this
        by_cases hc0 : cap = 0
        · subst hc0
          have : len = 0 := by omega
          subst this
          obtain ⟨k, o, sp⟩ := a
          exact ⟨[], .inr ⟨k, o, sp, 0, rfl, Nat.le_refl _, hm, .inl rfl⟩, (fun n h => by cases h), Nat.zero_le _⟩
        · obtain ⟨k, o, sp⟩ := a
          obtain ⟨x0, hx0, _⟩ := each 0 (by omega)
          have hsp : sp = none := by
            have e0 : (⟨k, o, sp⟩ : Addr).add 0 = ⟨k, o, sp⟩ := by simp [Addr.add]
            rw [e0] at hx0
            unfold World.cell? at hx0
            split at hx0
            · split at hx0
              · cases hx0
              · rename_i hs; simpa using hs
            · cases hx0
          subst hsp
          obtain ⟨xs, g1, g2⟩ := choose_all each
          obtain ⟨xl, hxl, _⟩ := each (cap - 1) (by omega)
          rw [Addr.add_lit] at hxl
          unfold World.cell? at hxl
          split at hxl
          · rename_i cur ty fz hh
            simp only at hh
            have hlt : o + (cap - 1) < cur.size := by
              simp only [Option.isSome_none, Bool.false_eq_true, if_false] at hxl
              exact (Array.getElem?_eq_some_iff.1 hxl).1
            have hlen : (xs.take len).length = len := by rw [List.length_take, g1]; omega
            refine ⟨xs.take len, .inr ⟨k, o, none, cap, by rw [hlen], by rw [hlen]; exact hlc, hm, .inr ⟨rfl, (Array.getElem?_eq_some_iff.1 hh).1, cur, ty, fz, hh, by omega, fun j n hj => ?_⟩⟩, fun n hn => ?_, by rw [hlen]; omega⟩
            · rw [List.getElem?_take] at hj
              split at hj
              · have := (g2 j n hj).1
                rw [Addr.add_lit] at this
                unfold World.cell? at this
                simp only [hh] at this
                simpa using this
              · cases hj
            · obtain ⟨j, hj⟩ := List.getElem?_of_mem (List.mem_of_mem_take hn)
              exact (g2 j n hj).2
          · cases hxl
    · cases ht
  · cases ht
/-- the kinds of a struct of integers and, behind them, bytes -/
def rowBKs (P : Program) : List TypeId → Option (List IntKind)
  | [] => none
  | [t] => match isBytesT P t with
    | true => some []
    | false => none
  | t :: r => match P.underlying t with
    | some (.int k) => match rowBKs P r with
      | some l => some (k :: l)
      | none => none
    | _ => none
theorem rowB_row : ∀ {ts : List TypeId} {ks : List IntKind} {cs : List Value}, rowBKs P ts = some ks → rds enc P w base (fun _ => true) held ts cs →
    ts.length = ks.length + 1 ∧ ∃ (r : List Int) (u : Value) (d : List Int), r.length = ks.length ∧ wfRow ks r ∧ (∀ (j : Nat) (n : Int) (k : IntKind), r[j]? = some n → ks[j]? = some k → cs[j]? = some (.int k n)) ∧
      cs[ks.length]? = some u ∧ u.oneCell' = true ∧ Nst (fun k => k < w.heap.size) w u d ∧ (∀ n ∈ d, (Lit.int .u8 n).wf = true) ∧ d.length ≤ maxLen
  | [], ks, cs, h, _ => by cases h
  | [t], ks, cs, h, hr => by
    simp only [rowBKs] at h
    split at h
    · rename_i ht
      injection h with h; subst h
      match cs, hr with
      | [c], hr =>
        obtain ⟨h1, d, h2, h3, h4⟩ := nst_cell ht hr.1
        exact ⟨rfl, [], c, d, rfl, trivial, (fun j n k h => by simp at h), rfl, h1, h2, h3, h4⟩
      | [], hr => exact hr.elim
      | _ :: _ :: _, hr => exact hr.2.elim
    · cases h
  | t :: t' :: ts, ks, [], h, hr => hr.elim
  | t :: t' :: ts, ks, c :: cs, h, hr => by
    simp only [rowBKs] at h
    split at h
    · rename_i k ht
      split at h
      · rename_i l hl
        injection h with h; subst h
        obtain ⟨⟨fu, y, hy⟩, hr'⟩ := hr
        obtain ⟨n, hc, _, hw⟩ := DataW.trod_int ht hy
        injection hc with hc _; subst hc
        obtain ⟨g0, r, u, d, g1, g2, g3, g4, g5⟩ := rowB_row (ts := t' :: ts) hl hr'
        refine ⟨by simpa using g0, n :: r, u, d, by simp [g1], ⟨hw, g2⟩, fun j m k' hj hk => ?_, by simpa using g4, g5⟩
        cases j with
        | zero => simp only [List.getElem?_cons_zero, Option.some.injEq] at hj hk ⊢; rw [hj, hk]
        | succ j => simp only [List.getElem?_cons_succ] at hj hk ⊢; exact g3 j m k' hj hk
      · cases h
    · cases h
def rowBT (P : Program) (d : Nat) (t : TypeId) : Option (List IntKind) :=
  match P.underlying t with
  | some (.slice e) => match flat P d e with
    | some ts => match Nat.beq ts.length (P.cellsOf e) with
      | true => rowBKs P ts
      | false => none
    | none => none
  | _ => none
/-- a row's own right form -/
def wfB (ks : List IntKind) (r : List Int × List Int) : Prop := wfRow ks r.1 ∧ (∀ n ∈ r.2, (Lit.int .u8 n).wf = true) ∧ r.2.length ≤ maxLen ∧ r.1.length = ks.length
theorem one_rowB {d : Nat} {t : TypeId} {v : Value} {dd : DataW H} {ps : List MemPlace} {ks : List IntKind} (hck : rowBT P d t = some ks) (hval : Value.okWide P w .any b0 t v) (hd : DataW.Trod enc P w base (fun _ => true) held t v dd ps) :
    ∃ (l : List (List Int × List Int)) (e : E), readN w (e, ⟨false, .recB ks l⟩) ∧ (∀ r ∈ l, wfB ks r) ∧ l.length ≤ maxLen ∧ ∀ (ρ : Env) (b : Nat), ρ[b]? = some e → (V.v (.one (.slice b (.c 0) (ks.length + 1) (.s l.length) (.s l.length)))).rel ρ v := by
  unfold rowBT at hck
  split at hck
  · rename_i e ht
    split at hck
    · rename_i ts hts
      split at hck
      · rename_i hsz
        have hsz := Nat.eq_of_beq_eq_true hsz
        have hok : Cell.okWide P w .any b0 t v ∧ v.cells.toList = [v] := by
          unfold Value.okWide at hval
          rw [ht] at hval
          simp only at hval
          refine ⟨hval, ?_⟩
          unfold Cell.okWide Cell.ok at hval
          rw [ht] at hval
          cases v <;> first | rfl | simp at hval
        obtain ⟨fu, hf⟩ := hd
        rw [hok.2] at hf
        have empty : ∀ (e0 : E), e0.sz = 0 → readN w (e0, ⟨false, .recB ks []⟩) := fun e0 h0 => ⟨rfl, rfl, fun ρ _ => ⟨#[], 0, (0, 0), .inl h0, h0.symm, (fun h => by cases h), (fun i r h => by simp at h)⟩, fun i r h => by simp at h⟩
        rcases DataW.trod_slice ht hf with ⟨hc, _⟩ | ⟨a, len, cap, elems, rest, n, rfl, hc, _, _, hlc, hm, hel, helems, hrest, _⟩
        · injection hc with hc _; subst hc
          refine ⟨[], ⟨0, 0, 0⟩, empty _ rfl, (fun r h => by cases h), Nat.zero_le _, fun ρ b hb => ⟨⟨_, hb, .inl ⟨rfl, rfl, rfl⟩⟩, rfl⟩⟩
        · injection hc with hc _; subst hc
          obtain ⟨hrl, hrs⟩ := hrest rfl
          have each : ∀ i, i < cap → ts.length = ks.length + 1 ∧ ∃ (r : List Int × List Int), wfB ks r ∧ r.1.length = ks.length ∧ (∀ (j : Nat) (n : Int) (k : IntKind), r.1[j]? = some n → ks[j]? = some k → w.cell? ((a.add (i * P.cellsOf e)).add j) = some (.int k n)) ∧
              ∃ u, w.cell? ((a.add (i * P.cellsOf e)).add ks.length) = some u ∧ u.oneCell' = true ∧ Nst (fun k => k < w.heap.size) w u r.2 := by
            intro i hi
            have : ∃ y, (w.cells? base (a.add (i * P.cellsOf e)) (P.cellsOf e)).bind (DataW.trod enc P w base (fun _ => true) held n e) = some y := by
              by_cases hil : i < len
              · exact ⟨elems[i], by rw [helems i hil, List.getElem?_eq_getElem (by omega)]⟩
              · have := hrs (i - len) (by omega)
                rw [show len + (i - len) = i by omega] at this
                exact ⟨rest[i - len], by rw [this, List.getElem?_eq_getElem (by omega)]⟩
            obtain ⟨y, hy⟩ := this
            rw [Option.bind_eq_some_iff] at hy
            obtain ⟨cs, h1, h2⟩ := hy
            obtain ⟨_, h3, h4⟩ := World.cells?_some h1
            obtain ⟨g0, r, u, d, g1, g2, g3, g4, g5, g6, g7, g8⟩ := rowB_row hck (rds_flat _ e ts n cs y hts h2)
            refine ⟨g0, (r, d), ⟨g2, g7, g8, g1⟩, g1, fun j m k hj hk => ?_, u, ?_, g5, g6⟩
            · have := (List.getElem?_eq_some_iff.1 hk).1
              rw [h4 j (by omega)]; exact g3 j m k hj hk
            · rw [h4 _ (by omega)]; exact g4
          by_cases hc0 : cap = 0
          · subst hc0
            have : len = 0 := by omega
            subst this
            obtain ⟨k, o, sp⟩ := a
            refine ⟨[], ⟨k, o, 0⟩, empty _ rfl, (fun r h => by cases h), Nat.zero_le _, fun ρ b hb => ⟨⟨_, hb, .inr ⟨o, sp, 0, rfl, Nat.le_refl _, Nat.le_refl _, hm, .inl rfl⟩⟩, rfl⟩⟩
          · obtain ⟨k, o, sp⟩ := a
            have hsp : sp = none := by
              have := hok.1
              simp only [Cell.okWide, Cell.ok, ht] at this
              exact this.2.2.2.1
            subst hsp
            simp only [Addr.add_lit] at each
            have hkl : P.cellsOf e = ks.length + 1 := by rw [← hsz]; exact (each 0 (by omega)).1
            rw [hkl] at each
            obtain ⟨rows, g1, g2⟩ := choose_all fun i hi => (each i hi).2
            obtain ⟨_, r0, _, _, _, u0, hu0, _⟩ := each (cap - 1) (by omega)
            unfold World.cell? at hu0
            split at hu0
            · rename_i cur ty fz hh
              simp only at hh
              have hlt : o + (cap - 1) * (ks.length + 1) + ks.length < cur.size := by
                simp only [Option.isSome_none, Bool.false_eq_true, if_false] at hu0
                exact (Array.getElem?_eq_some_iff.1 hu0).1
              have hbig : o + cap * (ks.length + 1) ≤ cur.size := by
                have : (cap - 1) * (ks.length + 1) + (ks.length + 1) = cap * (ks.length + 1) := by rw [← Nat.succ_mul]; congr 1; omega
                omega
              have cell : ∀ x, w.cell? ⟨k, o + x, none⟩ = cur[o + x]? := fun x => by
                unfold World.cell?
                simp [hh]
              have hrow : ∀ i r, (rows.take len)[i]? = some r → rows[i]? = some r := fun i r h => by
                rw [List.getElem?_take] at h
                split at h
                · exact h
                · cases h
              have hlen : (rows.take len).length = len := by rw [List.length_take, g1]; omega
              refine ⟨rows.take len, ⟨k, o, cur.size⟩, ⟨rfl, rfl, fun ρ _ => ⟨cur, ty, fz, .inr hh, rfl, (fun h => by cases h), fun i r hi => ?_⟩, fun i r hi => ?_⟩, fun r hr => ?_, by rw [hlen]; omega, fun ρ b hb => ⟨⟨_, hb, .inr ⟨o, none, cap, by rw [hlen]; rfl, by simp [N.v], by simp only [N.v]; rw [hlen]; exact hlc, hm, .inr ⟨rfl, by simp [N.v], hbig⟩⟩⟩, rfl⟩⟩
              · obtain ⟨q1, q2, q3, u, q4, q5, _⟩ := g2 i r (hrow i r hi)
                refine ⟨q2, fun j n kk hj hk => ?_, u, ?_, q5⟩
                · have := q3 j n kk hj hk
                  rw [Nat.add_assoc, cell] at this
                  exact this
                · rw [Nat.add_assoc, cell] at q4
                  exact q4
              · obtain ⟨q1, q2, q3, u, q4, q5, q6⟩ := g2 i r (hrow i r hi)
                refine ⟨by simp only; omega, cur, ty, fz, u, hh, ?_, q6⟩
                rw [Nat.add_assoc, cell] at q4
                exact q4
              · obtain ⟨i, hi⟩ := List.getElem?_of_mem (List.mem_of_mem_take hr)
                exact (g2 i r hi).1
            · cases hu0
      · cases hck
    · cases hck
  · cases hck
end
end Go.Sx
