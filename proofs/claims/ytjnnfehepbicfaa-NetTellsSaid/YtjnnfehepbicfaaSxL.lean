/- The symbolic evaluator: append, copy, strings and bytes. -/
import Derived.Test.YtjnnfehepbicfaaSxK
namespace Go.Sx
open Go Go.RowKit
section
variable {P : Program} {ρ : Env}

/-- the values that a part of a block holds, all of them -/
def Cells.vals (ρ : Env) : Cells → List Value → Prop
  | .exp l, us => relL ρ l us ∧ ∀ x ∈ us, x.oneCell' = true
  | .ints k l, us => us = l.map (Value.int k)
  | .recs ks l, us => us.length = l.length * ks.length ∧ ∀ i r, l[i]? = some r → r.length = ks.length ∧ ∀ j n k, r[j]? = some n → ks[j]? = some k → us[i * ks.length + j]? = some (.int k n)
  | .recB ks l, us => us.length = l.length * (ks.length + 1) ∧ ∀ i r, l[i]? = some r → r.1.length = ks.length ∧ (∀ j n k, r.1[j]? = some n → ks[j]? = some k → us[i * (ks.length + 1) + j]? = some (.int k n)) ∧
      ∃ u, us[i * (ks.length + 1) + ks.length]? = some u ∧ u.oneCell' = true
  | .fz _, _ => False
  | .imap _ _, _ => False
  | .dead, _ => False
/-- the bytes that the rows among some values tell of -/
def NestV (ok : Nat → Prop) (w : World) (us : List Value) : Cells → Prop
  | .recB ks l => ∀ i r, l[i]? = some r → ∃ u, us[i * (ks.length + 1) + ks.length]? = some u ∧ Nst ok w u r.2
  | _ => True
theorem NestV.mono {ok ok' : Nat → Prop} {w w' : World} {us : List Value} {c : Cells} (h : NestV ok w us c) (hk : ∀ k, ok k → k < w.heap.size → ok' k ∧ w'.heap[k]? = w.heap[k]?) : NestV ok' w' us c := by
  cases c with
  | recB ks l =>
    intro i r hi
    obtain ⟨u, h1, h2⟩ := h i r hi
    exact ⟨u, h1, h2.mono hk⟩
  | _ => trivial
/-- rows that lie in a block -/
theorem NestV.block {ok : Nat → Prop} {w : World} {us : List Value} {c : Cells} (h : NestV ok w us c) (hv : c.vals ρ us) {e : E} {cur : Array Value} {ty : TypeId} {fz : Nat × Nat} (hh : us ≠ [] → 0 < e.sz ∧ w.heap[e.blk]? = some (.cells cur ty fz))
    (hc : ∀ j u, us[j]? = some u → cur[e.off + j]? = some u) : NestC ok w e c := by
  cases c with
  | recB ks l =>
    intro i r hi
    obtain ⟨u, h1, h2⟩ := h i r hi
    have hne : us ≠ [] := fun h0 => by rw [h0] at h1; simp at h1
    obtain ⟨g1, g2⟩ := hh hne
    exact ⟨g1, cur, ty, fz, u, g2, hc _ _ h1, h2⟩
  | fz l => exact hv.elim
  | _ => trivial
theorem vals_tell {c : Cells} {us : List Value} (h : c.vals ρ us) : c.isFz = false := by
  cases c <;> first | rfl | exact h.elim
theorem vals_live {c : Cells} {us : List Value} (h : c.vals ρ us) : c.live = true := by
  cases c <;> first | rfl | exact h.elim
theorem vals_nm {c : Cells} {us : List Value} (h : c.vals ρ us) : ∀ kk l, c ≠ .imap kk l := by
  intro kk l hc
  subst hc
  exact h.elim
theorem vals_rel {c : Cells} {us : List Value} (h : c.vals ρ us) (rest : List Value) : c.rel ρ (fun j => (us ++ rest)[j]?) := by
  cases c with
  | exp l => exact relL_rel h.1 h.2 rest
  | ints k l =>
    simp only [Cells.vals] at h; subst h
    intro j n hj
    show (l.map (Value.int k) ++ rest)[j]? = _
    have := (List.getElem?_eq_some_iff.1 hj).1
    rw [List.getElem?_append_left (by simpa using this)]
    simp [hj]
  | recs ks l =>
    intro i r hi
    obtain ⟨h1, h2⟩ := h.2 i r hi
    refine ⟨h1, fun j n k hj hk => ?_⟩
    have := h2 j n k hj hk
    show (us ++ rest)[_]? = _
    rw [List.getElem?_append_left (List.getElem?_eq_some_iff.1 this).1]
    exact this
  | dead => exact h.elim
  | imap _ _ => exact h.elim
  | recB ks l =>
    intro i r hi
    obtain ⟨h1, h2, u, h3, h4⟩ := h.2 i r hi
    refine ⟨h1, fun j n k hj hk => ?_, u, ?_, h4⟩
    · have := h2 j n k hj hk
      show (us ++ rest)[_]? = _
      rw [List.getElem?_append_left (List.getElem?_eq_some_iff.1 this).1]
      exact this
    · show (us ++ rest)[_]? = _
      rw [List.getElem?_append_left (List.getElem?_eq_some_iff.1 h3).1]
      exact h3
  | fz _ => exact h.elim
theorem vals_one {c : Cells} {us : List Value} (h : c.vals ρ us) : ∀ x ∈ us, x.oneCell' = true := by
  cases c with
  | exp l => exact h.2
  | ints k l =>
    simp only [Cells.vals] at h; subst h
    intro x hx
    obtain ⟨n, _, rfl⟩ := List.mem_map.1 hx
    rfl
  | recs ks l =>
    intro x hx
    obtain ⟨q, hq, rfl⟩ := List.getElem_of_mem hx
    obtain ⟨hl, hr⟩ := h
    have hpos : 0 < ks.length := by
      rcases Nat.eq_zero_or_pos ks.length with h0 | h0
      · rw [h0] at hl; omega
      · exact h0
    have hi : q / ks.length < l.length := Nat.div_lt_of_lt_mul (by rw [Nat.mul_comm]; omega)
    obtain ⟨h1, h2⟩ := hr _ _ (List.getElem?_eq_getElem hi)
    have hj : q % ks.length < ks.length := Nat.mod_lt _ hpos
    have := h2 (q % ks.length) _ _ (List.getElem?_eq_getElem (by omega)) (List.getElem?_eq_getElem hj)
    rw [Nat.mul_comm, Nat.div_add_mod, List.getElem?_eq_getElem hq] at this
    injection this with this
    rw [this]; rfl
  | dead => exact h.elim
  | imap _ _ => exact h.elim
  | recB ks l =>
    intro x hx
    obtain ⟨q, hq, rfl⟩ := List.getElem_of_mem hx
    obtain ⟨hl, hr⟩ := h
    have hi : q / (ks.length + 1) < l.length := Nat.div_lt_of_lt_mul (by rw [Nat.mul_comm]; omega)
    obtain ⟨h1, h2, u, h3, h4⟩ := hr _ _ (List.getElem?_eq_getElem hi)
    have hj : q % (ks.length + 1) < ks.length + 1 := Nat.mod_lt _ (Nat.succ_pos _)
    have hq' : q / (ks.length + 1) * (ks.length + 1) + q % (ks.length + 1) = q := by rw [Nat.mul_comm]; exact Nat.div_add_mod _ _
    by_cases hjl : q % (ks.length + 1) < ks.length
    · have := h2 (q % (ks.length + 1)) _ _ (List.getElem?_eq_getElem (by omega)) (List.getElem?_eq_getElem hjl)
      rw [hq', List.getElem?_eq_getElem hq] at this
      injection this with this
      rw [this]; rfl
    · rw [show q / (ks.length + 1) * (ks.length + 1) + ks.length = q by omega, List.getElem?_eq_getElem hq] at h3
      injection h3 with h3
      rw [h3]; exact h4
  | fz _ => exact h.elim
theorem rowsOf_vals {ks : List IntKind} : ∀ {n : Nat} {cs : List C} {rs : List (List Int)} {us : List Value}, rowsOf ks n cs = some rs → relL ρ cs us → (Cells.recs ks rs).vals ρ us
  | 0, [], rs, us, h, hr => by
    simp only [rowsOf, Option.some.injEq] at h; subst h
    simp only [relL] at hr; subst hr
    exact ⟨by simp, fun i r hi => by simp at hi⟩
  | 0, _ :: _, rs, us, h, hr => by simp [rowsOf] at h
  | n + 1, cs, rs, us, h, hr => by
    simp only [rowsOf] at h
    split at h
    · rename_i r hrow
      split at h
      · rename_i rs' hrs
        injection h with h; subst h
        obtain ⟨a1, a2, a3⟩ := rowOf_sound hrow (hr.take ks.length)
        obtain ⟨b1, b2⟩ := rowsOf_vals hrs (hr.drop ks.length)
        simp only [List.length_take, List.length_drop] at a2 b1
        refine ⟨?_, fun i r' hi => ?_⟩
        · simp only [List.length_cons, Nat.succ_mul]; omega
        · cases i with
          | zero =>
            simp at hi; subst hi
            refine ⟨a1, fun j x k hj hk => ?_⟩
            have := a3 j x k hj hk
            rw [List.getElem?_take] at this
            split at this
            · simpa using this
            · cases this
          | succ i =>
            simp at hi
            obtain ⟨c1, c2⟩ := b2 i r' hi
            refine ⟨c1, fun j x k hj hk => ?_⟩
            have := c2 j x k hj hk
            rw [List.getElem?_drop] at this
            rw [Nat.succ_mul, show i * ks.length + ks.length + j = ks.length + (i * ks.length + j) by omega]
            exact this
      · cases h
    · cases h
/-- rows of integers and bytes, out of cells -/
theorem rowsB_sound {B : KZ} {W w : World} {ks : List IntKind} {b0 : Nat} : ∀ {n : Nat} {cs : List C} {m m' : List SB} {rs : List (List Int × List Int)} {ps : List Prop} {us : List Value}, rowsB ks b0 n cs m = some (rs, m', ps) → (∀ p ∈ ps, p) →
    MemRel ρ B W w m → relL ρ cs us → (∀ x ∈ us, x.oneCell' = true) →
    MemRel ρ B W w m' ∧ (∀ k, okN ρ B W m k → okN ρ B W m' k) ∧ m'[b0]? = m[b0]? ∧ (Cells.recB ks rs).vals ρ us ∧ NestV (okN ρ B W m') w us (.recB ks rs)
  | 0, [], m, m', rs, ps, us, h, hp, hm, hr, ho => by
    simp only [rowsB] at h
    injection h with h; injection h with h1 h; injection h with h2 h3; subst h1; subst h2
    simp only [relL] at hr; subst hr
    exact ⟨hm, fun _ h => h, rfl, ⟨by simp, fun i r hi => by simp at hi⟩, fun i r hi => by simp at hi⟩
  | 0, _ :: _, m, m', rs, ps, us, h, hp, hm, hr, ho => by simp [rowsB] at h
  | n + 1, cs, m, m', rs, ps, us, h, hp, hm, hr, ho => by
    simp only [rowsB] at h
    split at h
    · rename_i r c l' hrow hdrop
      split at h
      · rename_i d m1 p1 hfrz
        split at h
        · rename_i rs' m2 p2 hrs
          injection h with h; injection h with h1 h; injection h with h2 h3; subst h1; subst h2; subst h3
          obtain ⟨a1, a2, a3⟩ := rowOf_sound hrow (hr.take ks.length)
          have hd := hr.drop ks.length
          rw [hdrop] at hd
          obtain ⟨u, s, hus, hc, hl⟩ := hd
          obtain ⟨g1, g2, g3, g4⟩ := frzS_sound hm hfrz (fun p h => hp p (by simp [h])) hc
          have hmem : ∀ x ∈ us.drop ks.length, x.oneCell' = true := fun x hx => ho x (List.mem_of_mem_drop hx)
          rw [hus] at hmem
          obtain ⟨k1, k2, k3, ⟨k4, k5⟩, k6⟩ := rowsB_sound hrs (fun p h => hp p (by simp [h])) g1 hl (fun x hx => hmem x (by simp [hx]))
          have hlen : us.length = ks.length + (s.length + 1) := by
            have e1 := congrArg List.length (List.take_append_drop ks.length us)
            rw [List.length_append, a2, hus, List.length_cons] at e1
            exact e1.symm
          have hat : ∀ j, (u :: s)[j]? = us[ks.length + j]? := fun j => by rw [← hus, List.getElem?_drop]
          have htk : ∀ j, j < ks.length → (us.take ks.length)[j]? = us[j]? := fun j hj => by rw [List.getElem?_take, if_pos hj]
          refine ⟨k1, fun k hk => k2 k (g2 k hk), k3.trans g3, ⟨?_, fun i r' hi => ?_⟩, fun i r' hi => ?_⟩
          · rw [hlen, k4, List.length_cons, Nat.succ_mul]; omega
          · cases i with
            | zero =>
              simp at hi; subst hi
              refine ⟨a1, fun j x k hj hk => ?_, u, ?_, hmem u (by simp)⟩
              · have := a3 j x k hj hk
                rw [htk j (List.getElem?_eq_some_iff.1 hk).1] at this
                simpa using this
              · have := hat 0
                simp at this
                simpa using this.symm
            | succ i =>
              simp at hi
              obtain ⟨c1, c2, v, c3, c4⟩ := k5 i r' hi
              have hat' : ∀ j, us[(i + 1) * (ks.length + 1) + j]? = s[i * (ks.length + 1) + j]? := fun j => by
                rw [Nat.succ_mul, show i * (ks.length + 1) + (ks.length + 1) + j = ks.length + (i * (ks.length + 1) + j + 1) by omega, ← hat, List.getElem?_cons_succ]
              exact ⟨c1, fun j x k hj hk => by rw [hat']; exact c2 j x k hj hk, v, by rw [hat']; exact c3, c4⟩
          · cases i with
            | zero =>
              simp at hi; subst hi
              refine ⟨u, ?_, g4.mono fun k hk _ => ⟨k2 k hk, rfl⟩⟩
              have := hat 0
              simp at this
              simpa using this.symm
            | succ i =>
              simp at hi
              obtain ⟨v, c1, c2⟩ := k6 i r' hi
              refine ⟨v, ?_, c2⟩
              rw [Nat.succ_mul, show i * (ks.length + 1) + (ks.length + 1) + ks.length = ks.length + (i * (ks.length + 1) + ks.length + 1) by omega, ← hat, List.getElem?_cons_succ]
              exact c1
        · cases h
      · cases h
    · cases h
theorem exp_vals {g : Nat → Option Value} : ∀ {l : List C} (k : Nat), (∀ j c, l[j]? = some c → ∃ u, g (k + j) = some u ∧ c.rel ρ u ∧ u.oneCell' = true) → ∃ us, relL ρ l us ∧ us.length = l.length ∧ (∀ x ∈ us, x.oneCell' = true) ∧ ∀ j u, us[j]? = some u → g (k + j) = some u
  | [], k, h => ⟨[], rfl, rfl, (fun _ h => by cases h), (fun j u h => by simp at h)⟩
  | c :: r, k, h => by
    obtain ⟨u, h1, h2, h3⟩ := h 0 c rfl
    obtain ⟨us, h4, h5, h6, h7⟩ := exp_vals (l := r) (k + 1) fun j c hj => by
      have := h (j + 1) c (by simpa using hj)
      rwa [show k + 1 + j = k + (j + 1) by omega]
    refine ⟨u :: us, ⟨u, us, rfl, h2, h4⟩, by simp [h5], fun x hx => ?_, fun j v hj => ?_⟩
    · rcases List.mem_cons.1 hx with rfl | hx
      · exact h3
      · exact h6 x hx
    · cases j with
      | zero => simp at hj; subst hj; exact h1
      | succ j => rw [show k + (j + 1) = k + 1 + j by omega]; exact h7 j v (by simpa using hj)
theorem asRows_sound {B : KZ} {W w : World} {m m' : List SB} (hm : MemRel ρ B W w m) {sz : Nat} {c : C} {hs hs' : List Bool} {ps : List Prop} (h : asRows m sz hs c = (m', hs', ps)) (hp : ∀ p ∈ ps, p) : MemRel ρ B W w m' := by
  unfold asRows at h
  split at h
  · rename_i b _ _ _ _
    split at h
    · rename_i o l hs
      split at h
      · rename_i ks hk
        split at h
        split at h
        · rename_i rs m1 qs hsz hrs
          injection h with h1 h2; injection h2 with _ h2; subst h1; subst h2
          have hb := (List.getElem?_eq_some_iff.1 hs).1
          have he : ρ[b]? = some (ρ[b]'(by rw [hm.len]; exact hb)) := List.getElem?_eq_getElem _
          generalize ρ[b]'(by rw [hm.len]; exact hb) = e at he
          obtain ⟨cur, ty, fz, b1, b2, b3, b4⟩ := hm.blk b e _ he hs rfl
          obtain ⟨us, u1, u2, u3, u4⟩ := exp_vals (ρ := ρ) (g := fun j => cur[e.off + j]?) 0 (fun j c hj => by rw [Nat.zero_add]; exact b4 j c hj)
          have u4' : ∀ (j : Nat) (u : Value), us[j]? = some u → cur[e.off + j]? = some u := fun j u hj => by have := u4 j u hj; rwa [Nat.zero_add] at this
          obtain ⟨k1, k2, k3, k4, k5⟩ := rowsB_sound hrs hp hm u1 u3
          have hs1 : m1[b]? = some ⟨o, .exp l⟩ := k3.trans hs
          refine k1.recast he hs1 rfl (fun _ => ⟨cur, ty, fz, b1, b2, b3, ?_⟩) (fun kk l h => by cases h) (k5.block (ty := ty) (fz := fz) k4 (fun hne => ?_) u4')
          · have h1 := vals_rel k4 []
            intro i r hi
            obtain ⟨h2, h3, v, h4, h5⟩ := h1 i r hi
            refine ⟨h2, fun j n k hj hk => u4' _ _ ?_, v, u4' _ _ ?_, h5⟩
            · have := h3 j n k hj hk
              simpa using this
            · simpa using h4
          · have h0 : 0 < us.length := List.length_pos_iff.2 hne
            have := u4' 0 _ (List.getElem?_eq_getElem h0)
            have h1 := (Array.getElem?_eq_some_iff.1 this).1
            refine ⟨by omega, ?_⟩
            rcases b1 with b1 | b1
            · omega
            · exact b1
        · injection h with h1 h2; subst h1; exact hm
        · injection h with h1 h2; subst h1; exact hm
        · injection h with h1 h2; subst h1; exact hm
      · injection h with h1 h2; subst h1; exact hm
    · injection h with h1 h2; subst h1; exact hm
  · injection h with h1 h2; subst h1; exact hm
theorem rows_apart {q i j k : Nat} (h : q ≠ i) (hj : j < k) : q * k + j < i * k ∨ i * k + k ≤ q * k + j := by
  rcases Nat.lt_or_gt_of_ne h with h | h
  · left
    have : (q + 1) * k ≤ i * k := Nat.mul_le_mul_right _ h
    rw [Nat.succ_mul] at this; omega
  · right
    have : (i + 1) * k ≤ q * k := Nat.mul_le_mul_right _ h
    rw [Nat.succ_mul] at this; omega
theorem evStRow_sound {B : KZ} {W w : World} {m : List SB} (hm : MemRel ρ B W w m) {t : TypeId} {inf : TypeInfo} (hi : P.info? t = some inf) {b : Nat} {i : N} {st sub : Nat} {y : V1} {h h' : List Bool} {v : Option V} {m' : List SB} {ps : List Prop} {ua u : Value}
    (hev : evStRow m b i st sub y inf.size h = some (v, m', h', ps)) (hp : ∀ p ∈ ps, p) (ha : (C.ptr b i st sub).rel ρ ua) (hy : y.rel ρ u) :
    RWs P B W w (do Instr.storeAt t ua u; pure Next.skip) ρ v m' := by
  unfold evStRow at hev
  split at hev
  · rename_i cs ks l hs
    split at hev
    · rename_i r m1 qs hc hrows
      simp only [Bool.and_eq_true] at hc
      have c1 := Nat.eq_of_beq_eq_true hc.1.1.1
      have c2 := Nat.eq_of_beq_eq_true hc.1.1.2
      have c3 := Nat.eq_of_beq_eq_true hc.1.2
      have c4 := Nat.eq_of_beq_eq_true hc.2
      injection hev with hev; injection hev with e1 e2; injection e2 with e2 e3; injection e3 with e3 e4
      subst e1; subst e2; subst e4
      obtain ⟨e, he, rfl⟩ := ha
      obtain ⟨us, rfl, hr, ho⟩ := hy
      have hlt : i.v < l.length := hp _ (by simp)
      obtain ⟨k1, k2, k3, ⟨k4, k5⟩, k6⟩ := rowsB_sound hrows (fun p h => hp p (by simp [h])) hm hr ho
      have hs1 := k3.trans hs
      have hul : us.length = ks.length + 1 := by rw [hr.length]; exact c3
      obtain ⟨cur, ty, fz, hh, hsz, hfz, hrel⟩ := k1.blk b e _ he hs1 rfl
      obtain ⟨r1, r2, ur, r3, r4⟩ := hrel i.v _ (List.getElem?_eq_getElem hlt)
      have hin := (Array.getElem?_eq_some_iff.1 r3).1
      have hpos : 0 < e.sz := by omega
      rcases hh with hh | hh
      · omega
      · obtain ⟨q1, q2, u0, q3, q4⟩ := k5 0 r rfl
        obtain ⟨u1, q5, q6⟩ := k6 0 r rfl
        rw [Nat.zero_mul, Nat.zero_add] at q3 q5
        rw [q3] at q5; injection q5 with q5; subst q5
        have hfit : e.off + i.v * (ks.length + 1) + us.length ≤ cur.size := by omega
        have hrun := storeRun (P := P) e.blk (e.off + i.v * (ks.length + 1)) ty fz us 0 cur w hh (hfz rfl) (by simpa using hfit) ho
        have hget : ∀ q j, j < ks.length + 1 → (layR cur (e.off + i.v * (ks.length + 1)) us)[e.off + (q * (ks.length + 1) + j)]? = if q = i.v then us[j]? else cur[e.off + (q * (ks.length + 1) + j)]? := by
          intro q j hj
          rw [layR_get hfit]
          by_cases hq : q = i.v
          · rw [if_pos hq, hq, upd_in ⟨by omega, by omega⟩]
            congr 1; omega
          · rw [if_neg hq]
            have := rows_apart hq hj
            rw [upd_out (by omega)]
        have hside : ∀ k, okN ρ B W m1 k → okN ρ B W m1 k ∧ (w.setRow e.blk (layR cur (e.off + i.v * (ks.length + 1)) us)).heap[k]? = w.heap[k]? := fun k hk => ⟨hk, setRow_other w _ _ _ (hk.2 b e _ he hs1 rfl (.inl ⟨rfl, hpos⟩)).symm⟩
        refine ⟨.skip, w.setRow e.blk (layR cur (e.off + i.v * (ks.length + 1)) us), [], ?_, rfl, ?_⟩
        · simp only [Instr.storeAt, Instr.sureAddr, Sem.run_bind, Sem.run_pure, Result.andThen_ok, storeVar, sizeRun hi]
          rw [if_neg (by simp only [Value.cells, List.size_toArray]; omega)]
          simp only [Result.andThen_ok, Value.cells, c1, c2, Nat.add_zero]
          rw [hrun]
          rfl
        · rw [List.append_nil]
          refine k1.write he hs1 rfl rfl hh hsz (hfz rfl) (layR_size hfit) (c := .recB ks (l.set i.v r)) (fun q r' hq => ?_) hpos (fun kk l h => by cases h) (fun q r' hq => ?_)
          · by_cases hqi : q = i.v
            · rw [hqi, List.getElem?_set_self hlt] at hq
              injection hq with hq; subst hq
              refine ⟨q1, fun j n k hj hk => ?_, u0, ?_, q4⟩
              · have := q2 j n k hj hk
                rw [Nat.zero_mul, Nat.zero_add] at this
                exact (hget q j (by have := (List.getElem?_eq_some_iff.1 hk).1; omega)).trans ((if_pos hqi).trans this)
              · exact (hget q _ (by omega)).trans ((if_pos hqi).trans q3)
            · rw [List.getElem?_set_ne (Ne.symm hqi)] at hq
              obtain ⟨z1, z2, z3, z4, z5⟩ := hrel q r' hq
              refine ⟨z1, fun j n k hj hk => ?_, z3, ?_, z5⟩
              · exact (hget q j (by have := (List.getElem?_eq_some_iff.1 hk).1; omega)).trans ((if_neg hqi).trans (z2 j n k hj hk))
              · exact (hget q _ (by omega)).trans ((if_neg hqi).trans z4)
          · by_cases hqi : q = i.v
            · rw [hqi, List.getElem?_set_self hlt] at hq
              injection hq with hq; subst hq
              exact ⟨hpos, _, ty, fz, u0, setRow_heap w e.blk cur _ ty fz hh, by rw [hget q _ (by omega), if_pos hqi]; exact q3, q6.mono fun k hk _ => hside k hk⟩
            · rw [List.getElem?_set_ne (Ne.symm hqi)] at hq
              obtain ⟨_, cur2, ty2, fz2, u2, n1, n2, n3⟩ := k1.nest b e _ he hs1 q r' hq
              rw [hh] at n1
              injection n1 with n1; injection n1 with n1 n1b n1c; subst n1
              exact ⟨hpos, _, ty, fz, u2, setRow_heap w e.blk cur _ ty fz hh, by rw [hget q _ (by omega), if_neg hqi]; exact n2, n3.mono fun k hk _ => hside k hk⟩
    · cases hev
  · cases hev
theorem catC_vals {c c' d : Cells} {us vs : List Value} (h : catC c c' = some d) (h1 : c.vals ρ us) (h2 : c'.vals ρ vs) : d.vals ρ (us ++ vs) := by
  have recs : ∀ (ks : List IntKind) (a b : List (List Int)), (Cells.recs ks a).vals ρ us → (Cells.recs ks b).vals ρ vs → (Cells.recs ks (a ++ b)).vals ρ (us ++ vs) := by
    intro ks a b ha hb
    obtain ⟨a1, a2⟩ := ha
    obtain ⟨b1, b2⟩ := hb
    refine ⟨by simp [a1, b1, Nat.add_mul], fun i r hi => ?_⟩
    by_cases hlt : i < a.length
    · rw [List.getElem?_append_left hlt] at hi
      obtain ⟨q1, q2⟩ := a2 i r hi
      refine ⟨q1, fun j n k hj hk => ?_⟩
      have := q2 j n k hj hk
      rw [List.getElem?_append_left (List.getElem?_eq_some_iff.1 this).1]
      exact this
    · rw [List.getElem?_append_right (by omega)] at hi
      obtain ⟨q1, q2⟩ := b2 _ r hi
      refine ⟨q1, fun j n k hj hk => ?_⟩
      have := q2 j n k hj hk
      have hle : a.length * ks.length ≤ i * ks.length := Nat.mul_le_mul_right _ (by omega)
      rw [List.getElem?_append_right (by omega), a1]
      rw [show i * ks.length + j - a.length * ks.length = (i - a.length) * ks.length + j by rw [Nat.sub_mul]; omega]
      exact this
  have recBs : ∀ (ks : List IntKind) (a b : List (List Int × List Int)), (Cells.recB ks a).vals ρ us → (Cells.recB ks b).vals ρ vs → (Cells.recB ks (a ++ b)).vals ρ (us ++ vs) := by
    intro ks a b ha hb
    obtain ⟨a1, a2⟩ := ha
    obtain ⟨b1, b2⟩ := hb
    refine ⟨by simp [a1, b1, Nat.add_mul], fun i r hi => ?_⟩
    by_cases hlt : i < a.length
    · rw [List.getElem?_append_left hlt] at hi
      obtain ⟨q1, q2, v, q3, q4⟩ := a2 i r hi
      refine ⟨q1, fun j n k hj hk => ?_, v, ?_, q4⟩
      · have := q2 j n k hj hk
        rw [List.getElem?_append_left (List.getElem?_eq_some_iff.1 this).1]
        exact this
      · rw [List.getElem?_append_left (List.getElem?_eq_some_iff.1 q3).1]
        exact q3
    · rw [List.getElem?_append_right (by omega)] at hi
      obtain ⟨q1, q2, v, q3, q4⟩ := b2 _ r hi
      have hle : a.length * (ks.length + 1) ≤ i * (ks.length + 1) := Nat.mul_le_mul_right _ (by omega)
      have hat : ∀ j, (us ++ vs)[i * (ks.length + 1) + j]? = vs[(i - a.length) * (ks.length + 1) + j]? := fun j => by
        rw [List.getElem?_append_right (by omega), a1]
        congr 1
        rw [Nat.sub_mul]; omega
      exact ⟨q1, fun j n k hj hk => by rw [hat]; exact q2 j n k hj hk, v, by rw [hat]; exact q3, q4⟩
  unfold catC at h
  split at h
  · injection h with h; subst h
    exact ⟨h1.1.append h2.1, fun x hx => (List.mem_append.1 hx).elim (h1.2 x) (h2.2 x)⟩
  · split at h
    · rename_i hk
      have hk := of_decide_eq_true hk; subst hk
      injection h with h; subst h
      simp only [Cells.vals] at h1 h2 ⊢
      rw [h1, h2, List.map_append]
    · cases h
  · split at h
    · rename_i b' hb
      injection h with h; subst h
      simp only [Cells.vals] at h1 h2 ⊢
      rw [h1, intsOf_sound hb h2.1, List.map_append]
    · cases h
  · split at h
    · rename_i b' hb
      injection h with h; subst h
      simp only [Cells.vals] at h1 h2 ⊢
      rw [h2, intsOf_sound hb h1.1, List.map_append]
    · cases h
  · split at h
    · rename_i hk
      have hk := of_decide_eq_true hk; subst hk
      injection h with h; subst h
      exact recs _ _ _ h1 h2
    · cases h
  · split at h
    · rename_i b' hb
      injection h with h; subst h
      exact recs _ _ _ h1 (rowsOf_vals hb h2.1)
    · cases h
  · split at h
    · rename_i b' hb
      injection h with h; subst h
      exact recs _ _ _ (rowsOf_vals hb h1.1) h2
    · cases h
  · split at h
    · rename_i hk
      have hk := of_decide_eq_true hk; subst hk
      injection h with h; subst h
      exact recBs _ _ _ h1 h2
    · cases h
  · split at h
    · injection h with h; subst h
      have : us = [] := h1.1
      subst this
      exact h2
    · cases h
  · split at h
    · injection h with h; subst h
      have : vs = [] := h2.1
      subst this
      rw [List.append_nil]
      exact h1
    · cases h
  · cases h
theorem catC_nest {c c' d : Cells} {us vs : List Value} {ok : Nat → Prop} {w : World} (h : catC c c' = some d) (h1 : c.vals ρ us) (h2 : c'.vals ρ vs) (n1 : NestV ok w us c) (n2 : NestV ok w vs c') : NestV ok w (us ++ vs) d := by
  unfold catC at h
  split at h
  · injection h with h; subst h; trivial
  · split at h
    · injection h with h; subst h; trivial
    · cases h
  · split at h
    · injection h with h; subst h; trivial
    · cases h
  · split at h
    · injection h with h; subst h; trivial
    · cases h
  · split at h
    · injection h with h; subst h; trivial
    · cases h
  · split at h
    · injection h with h; subst h; trivial
    · cases h
  · split at h
    · injection h with h; subst h; trivial
    · cases h
  · rename_i ks a ks' b
    split at h
    · rename_i hk
      have hk := of_decide_eq_true hk; subst hk
      injection h with h; subst h
      intro i r hi
      by_cases hlt : i < a.length
      · rw [List.getElem?_append_left hlt] at hi
        obtain ⟨v, q1, q2⟩ := n1 i r hi
        exact ⟨v, by rw [List.getElem?_append_left (List.getElem?_eq_some_iff.1 q1).1]; exact q1, q2⟩
      · rw [List.getElem?_append_right (by omega)] at hi
        obtain ⟨v, q1, q2⟩ := n2 _ r hi
        have hle : a.length * (ks.length + 1) ≤ i * (ks.length + 1) := Nat.mul_le_mul_right _ (by omega)
        refine ⟨v, ?_, q2⟩
        rw [List.getElem?_append_right (by rw [h1.1]; omega), h1.1, show i * (ks.length + 1) + ks.length - a.length * (ks.length + 1) = (i - a.length) * (ks.length + 1) + ks.length by rw [Nat.sub_mul]; omega]
        exact q1
    · cases h
  · split at h
    · injection h with h; subst h
      have : us = [] := h1.1
      subst this
      exact n2
    · cases h
  · split at h
    · injection h with h; subst h
      have : vs = [] := h2.1
      subst this
      rw [List.append_nil]
      exact n1
    · cases h
  · cases h

/-- the part of a block that a slice shows -/
theorem seg_sound {B : KZ} {W w : World} {m : List SB} (hm : MemRel ρ B W w m) {b : Nat} {e : E} (he : ρ[b]? = some e) {i len : N} {st : Nat} {h h' : List Bool} {c : Cells} {ps : List Prop}
    (hs : seg m b i st len h = some (c, h', ps)) (hp : ∀ p ∈ ps, p) :
    ∃ us, c.vals ρ us ∧ us.length = len.v * st ∧ (∀ (j : Nat) (u : Value), us[j]? = some u → w.cell? ⟨e.blk, e.off + i.v * st + j, none⟩ = some u ∧ e.off + i.v * st + j < e.sz) ∧ NestV (okN ρ B W m) w us c := by
  unfold seg at hs
  split at hs
  · rename_i l a n hc
    split at hs
    · rename_i hle
      have hle := Nat.le_of_ble_eq_true hle
      injection hs with hs; injection hs with hs _; subst hs
      have hld : ldA (blkC m b) (.c a) st 0 (n * st) = some (.v (.agg ((l.drop (a * st)).take (n * st))), []) := by
        rw [hc]
        have : Nat.ble (a * st + 0 + n * st) l.length = true := Nat.ble_eq_true_of_le (by rw [Nat.add_zero, ← Nat.add_mul]; exact hle)
        show (match Nat.ble (a * st + 0 + n * st) l.length with | true => _ | false => _) = _
        rw [this]
        rfl
      obtain ⟨us, h1, ⟨us', h2, h3, h4⟩, h5⟩ := ldA_sound hm he hld (by simp)
      have huu : us = us' := by
        injection h2 with h2
        have := congrArg Array.toList h2
        simpa using this
      subst huu
      refine ⟨us, ⟨h3, h4⟩, h1, fun j u hj => ?_, trivial⟩
      have := h5 j u hj
      have hjl := (List.getElem?_eq_some_iff.1 hj).1
      rw [Nat.add_zero] at this
      refine ⟨this, ?_⟩
      have hlt : a * st + j < l.length := by rw [Nat.add_mul] at hle; omega
      obtain ⟨g, hr, hg⟩ := hm.cells he hc rfl
      obtain ⟨x, hx, _⟩ := hr (a * st + j) _ (List.getElem?_eq_getElem hlt)
      have := (hg _ _ hx).2
      simp only [N.v]
      omega
    · cases hs
  · rename_i i len _ _ _ k l hc
    have get : ∀ (j n : Nat), i.v + j < l.length → st = 1 → ∀ x, l[i.v + j]? = some x → w.cell? ⟨e.blk, e.off + i.v * st + j, none⟩ = some (.int k x) ∧ e.off + i.v * st + j < e.sz := by
      intro j n _ hst x hx
      obtain ⟨g, hr, hg⟩ := hm.cells he hc rfl
      have := hg _ _ (hr _ _ hx)
      rw [hst, Nat.mul_one, Nat.add_assoc]
      exact this
    split at hs
    · rename_i h1 hst
      have hst := Nat.eq_of_beq_eq_true hst
      injection hs with hs; injection hs with hs hs2; injection hs2 with _ hs2; subst hs; subst hs2
      have e1 : i.v = 0 := hp _ (List.Mem.head _)
      have e2 : len.v = l.length := hp _ (List.Mem.tail _ (List.Mem.head _))
      refine ⟨_, rfl, by simp [e2, hst], fun j u hj => ?_, trivial⟩
      rw [List.getElem?_map] at hj
      cases hlj : l[j]? with
      | none => simp [hlj] at hj
      | some n =>
        simp [hlj] at hj; subst hj
        have hjl := (List.getElem?_eq_some_iff.1 hlj).1
        exact get j 0 (by omega) hst n (by rw [e1, Nat.zero_add]; exact hlj)
    · rename_i h1 hst
      have hst := Nat.eq_of_beq_eq_true hst
      injection hs with hs; injection hs with hs hs2; injection hs2 with _ hs2; subst hs; subst hs2
      have e1 : i.v + len.v ≤ l.length := hp _ (List.Mem.head _)
      refine ⟨_, rfl, by simp [hst]; omega, fun j u hj => ?_, trivial⟩
      rw [List.getElem?_map, List.getElem?_take] at hj
      split at hj
      · rw [List.getElem?_drop] at hj
        cases hlj : l[i.v + j]? with
        | none => simp [hlj] at hj
        | some n =>
          simp [hlj] at hj; subst hj
          exact get j 0 (by omega) hst n hlj
      · simp at hj
    · cases hs
  · rename_i i len _ _ _ ks l hc
    have get : st = ks.length → ∀ q r, l[q]? = some r → r.length = ks.length ∧ ∀ j n k, r[j]? = some n → ks[j]? = some k → w.cell? ⟨e.blk, e.off + (q * st + j), none⟩ = some (.int k n) ∧ e.off + (q * st + j) < e.sz := by
      intro hst q r hq
      obtain ⟨g, hr, hg⟩ := hm.cells he hc rfl
      obtain ⟨a, b'⟩ := hr q r hq
      refine ⟨a, fun j n k hj hk => ?_⟩
      rw [hst]
      exact hg _ _ (b' j n k hj hk)
    have fin : ∀ (l' : List (List Int)), st = ks.length → l'.length = len.v → (∀ q r, l'[q]? = some r → l[i.v + q]? = some r) →
        ∃ us, (Cells.recs ks l').vals ρ us ∧ us.length = len.v * st ∧ (∀ (j : Nat) (u : Value), us[j]? = some u → w.cell? ⟨e.blk, e.off + i.v * st + j, none⟩ = some u ∧ e.off + i.v * st + j < e.sz) ∧ NestV (okN ρ B W m) w us (Cells.recs ks l') := by
      intro l' hst hl' hq
      rcases Nat.eq_zero_or_pos ks.length with h0 | h0
      · exact ⟨[], ⟨by simp [h0], fun q r h => by
          obtain ⟨a, b'⟩ := get hst _ r (hq q r h)
          refine ⟨a, fun j n k hj hk => ?_⟩
          have := (List.getElem?_eq_some_iff.1 hk).1
          omega⟩, by rw [hst, h0]; simp, (fun j u hj => by simp at hj), trivial⟩
      · refine ⟨(List.range (l'.length * ks.length)).map fun x => Value.int (ks.getD (x % ks.length) .i64) ((l'.getD (x / ks.length) []).getD (x % ks.length) 0), ⟨by simp, fun q r h => ?_⟩, by simp [hl', hst], fun j u hj => ?_, trivial⟩
        · obtain ⟨a, b'⟩ := get hst _ r (hq q r h)
          refine ⟨a, fun j n k hj hk => ?_⟩
          have hjl := (List.getElem?_eq_some_iff.1 hk).1
          have hql := (List.getElem?_eq_some_iff.1 h).1
          have hlt : q * ks.length + j < l'.length * ks.length := by
            have : (q + 1) * ks.length ≤ l'.length * ks.length := Nat.mul_le_mul_right _ hql
            rw [Nat.succ_mul] at this; omega
          have e1 : (q * ks.length + j) / ks.length = q := by rw [Nat.mul_comm, Nat.mul_add_div h0, Nat.div_eq_of_lt hjl]; omega
          have e2 : (q * ks.length + j) % ks.length = j := by rw [Nat.mul_comm, Nat.mul_add_mod, Nat.mod_eq_of_lt hjl]
          simp [hlt, e1, e2, List.getD, h, hj, hk]
        · rw [List.getElem?_map] at hj
          have hjl : j < l'.length * ks.length := by
            rcases Nat.lt_or_ge j (l'.length * ks.length) with h | h
            · exact h
            · rw [List.getElem?_eq_none (by simpa using h)] at hj; simp at hj
          rw [List.getElem?_range hjl] at hj
          simp only [Option.map_some, Option.some.injEq] at hj
          have hd : j / ks.length < l'.length := Nat.div_lt_of_lt_mul (by rw [Nat.mul_comm]; exact hjl)
          have hmod : j % ks.length < ks.length := Nat.mod_lt _ h0
          obtain ⟨a, b'⟩ := get hst _ _ (hq _ _ (List.getElem?_eq_getElem hd))
          have := b' (j % ks.length) _ _ (List.getElem?_eq_getElem (by omega)) (List.getElem?_eq_getElem hmod)
          rw [hst] at this ⊢
          rw [Nat.add_mul, Nat.add_assoc (i.v * ks.length), Nat.mul_comm (j / ks.length), Nat.div_add_mod, ← Nat.add_assoc] at this
          rw [← hj]
          have hg1 : l'.getD (j / ks.length) [] = l'[j / ks.length] := by simp [List.getD, List.getElem?_eq_getElem hd]
          have hg2 : ks.getD (j % ks.length) .i64 = ks[j % ks.length] := by simp [List.getD, List.getElem?_eq_getElem hmod]
          rw [hg1, hg2]
          rw [show (l'[j / ks.length].getD (j % ks.length) 0) = l'[j / ks.length][j % ks.length]'(by omega) by simp [List.getD, List.getElem?_eq_getElem (show j % ks.length < l'[j / ks.length].length by omega)]]
          exact this
    split at hs
    · rename_i h1 hst
      have hst := Nat.eq_of_beq_eq_true hst
      injection hs with hs; injection hs with hs hs2; injection hs2 with _ hs2; subst hs; subst hs2
      have e1 : i.v = 0 := hp _ (List.Mem.head _)
      have e2 : len.v = l.length := hp _ (List.Mem.tail _ (List.Mem.head _))
      exact fin l hst e2.symm (fun q r h => by rw [e1, Nat.zero_add]; exact h)
    · rename_i h1 hst
      have hst := Nat.eq_of_beq_eq_true hst
      injection hs with hs; injection hs with hs hs2; injection hs2 with _ hs2; subst hs; subst hs2
      have e1 : i.v + len.v ≤ l.length := hp _ (List.Mem.head _)
      refine fin _ hst (by simp; omega) (fun q r h => ?_)
      rw [List.getElem?_take] at h
      split at h
      · rw [List.getElem?_drop] at h; exact h
      · cases h
    · cases hs
  · rename_i i len _ _ _ ks l hc
    obtain ⟨sb, hsb, hsc⟩ := blkC_recB hc
    obtain ⟨g, hr, hg⟩ := hm.cells he hc rfl
    have hn := hm.nest b e sb he hsb
    rw [hsc] at hn
    have get : ∀ q r, l[q]? = some r → r.1.length = ks.length ∧ (∀ j n k, r.1[j]? = some n → ks[j]? = some k → w.cell? ⟨e.blk, e.off + (q * (ks.length + 1) + j), none⟩ = some (.int k n) ∧ e.off + (q * (ks.length + 1) + j) < e.sz) ∧
        ∃ u, w.cell? ⟨e.blk, e.off + (q * (ks.length + 1) + ks.length), none⟩ = some u ∧ e.off + (q * (ks.length + 1) + ks.length) < e.sz ∧ u.oneCell' = true ∧ Nst (okN ρ B W m) w u r.2 := by
      intro q r hq
      obtain ⟨a, b', v, c1, c2⟩ := hr q r hq
      refine ⟨a, fun j n k hj hk => hg _ _ (b' j n k hj hk), v, (hg _ _ c1).1, (hg _ _ c1).2, c2, ?_⟩
      obtain ⟨_, cur, ty, fz, u, n1, n2, n3⟩ := hn q r hq
      have h1 := (hg _ _ c1).1
      rw [cell_of_row w e.blk _ cur ty fz n1, n2] at h1
      injection h1 with h1
      rw [← h1]; exact n3
    have fin : ∀ (l' : List (List Int × List Int)), st = ks.length + 1 → l'.length = len.v → (∀ q r, l'[q]? = some r → l[i.v + q]? = some r) →
        ∃ us, (Cells.recB ks l').vals ρ us ∧ us.length = len.v * st ∧ (∀ (j : Nat) (u : Value), us[j]? = some u → w.cell? ⟨e.blk, e.off + i.v * st + j, none⟩ = some u ∧ e.off + i.v * st + j < e.sz) ∧ NestV (okN ρ B W m) w us (Cells.recB ks l') := by
      intro l' hst hl' hq
      have hpos : 0 < ks.length + 1 := Nat.succ_pos _
      -- the cells as they lie there
      have there : ∀ x, x < l'.length * (ks.length + 1) → ∃ u, w.cell? ⟨e.blk, e.off + i.v * st + x, none⟩ = some u ∧ e.off + i.v * st + x < e.sz := by
        intro x hx
        have hd : x / (ks.length + 1) < l'.length := Nat.div_lt_of_lt_mul (by rw [Nat.mul_comm]; exact hx)
        have hmod : x % (ks.length + 1) < ks.length + 1 := Nat.mod_lt _ hpos
        obtain ⟨a, b', v, c1, c2, _⟩ := get _ _ (hq _ _ (List.getElem?_eq_getElem hd))
        have hx' : e.off + i.v * st + x = e.off + ((i.v + x / (ks.length + 1)) * (ks.length + 1) + x % (ks.length + 1)) := by
          have h0 : x = x / (ks.length + 1) * (ks.length + 1) + x % (ks.length + 1) := by rw [Nat.mul_comm]; exact (Nat.div_add_mod _ _).symm
          rw [hst, Nat.add_mul]; omega
        rw [hx']
        by_cases hm' : x % (ks.length + 1) < ks.length
        · exact ⟨_, b' (x % (ks.length + 1)) _ _ (List.getElem?_eq_getElem (by omega)) (List.getElem?_eq_getElem hm')⟩
        · have : x % (ks.length + 1) = ks.length := by omega
          rw [this]
          exact ⟨v, c1, c2⟩
      refine ⟨(List.range (l'.length * (ks.length + 1))).map fun x => (w.cell? ⟨e.blk, e.off + i.v * st + x, none⟩).getD undef, ?_⟩
      have hget : ∀ x, x < l'.length * (ks.length + 1) → ((List.range (l'.length * (ks.length + 1))).map fun x => (w.cell? ⟨e.blk, e.off + i.v * st + x, none⟩).getD undef)[x]? = w.cell? ⟨e.blk, e.off + i.v * st + x, none⟩ := by
        intro x hx
        obtain ⟨u, h1, _⟩ := there x hx
        rw [List.getElem?_map, List.getElem?_range hx, Option.map_some, h1, Option.getD_some]
      have hin : ∀ (q : Nat) (r : List Int × List Int) (j : Nat), l'[q]? = some r → j < ks.length + 1 → q * (ks.length + 1) + j < l'.length * (ks.length + 1) := by
        intro q r j hq hj
        have : (q + 1) * (ks.length + 1) ≤ l'.length * (ks.length + 1) := Nat.mul_le_mul_right _ (List.getElem?_eq_some_iff.1 hq).1
        rw [Nat.succ_mul] at this; omega
      have hpl : ∀ (q j : Nat), e.off + i.v * st + (q * (ks.length + 1) + j) = e.off + ((i.v + q) * (ks.length + 1) + j) := fun q j => by rw [hst, Nat.add_mul]; omega
      refine ⟨⟨by simp, fun q r h => ?_⟩, by simp [hl', hst], fun j u hj => ?_, fun q r h => ?_⟩
      · obtain ⟨a, b', v, c1, c2, c3, _⟩ := get _ r (hq q r h)
        refine ⟨a, fun j n k hj hk => ?_, v, ?_, c3⟩
        · rw [hget _ (hin q r j h (by have := (List.getElem?_eq_some_iff.1 hk).1; omega)), hpl]
          exact (b' j n k hj hk).1
        · rw [hget _ (hin q r _ h (by omega)), hpl]
          exact c1
      · have hjl := (List.getElem?_eq_some_iff.1 hj).1
        rw [List.length_map, List.length_range] at hjl
        rw [hget j hjl] at hj
        obtain ⟨u', h1, h2⟩ := there j hjl
        exact ⟨hj, h2⟩
      · obtain ⟨a, b', v, c1, c2, c3, c4⟩ := get _ r (hq q r h)
        exact ⟨v, by rw [hget _ (hin q r _ h (by omega)), hpl]; exact c1, c4⟩
    split at hs
    · rename_i h1 hst
      have hst := Nat.eq_of_beq_eq_true hst
      injection hs with hs; injection hs with hs hs2; injection hs2 with _ hs2; subst hs; subst hs2
      have e1 : i.v = 0 := hp _ (List.Mem.head _)
      have e2 : len.v = l.length := hp _ (List.Mem.tail _ (List.Mem.head _))
      exact fin l hst e2.symm (fun q r h => by rw [e1, Nat.zero_add]; exact h)
    · rename_i h1 hst
      have hst := Nat.eq_of_beq_eq_true hst
      injection hs with hs; injection hs with hs hs2; injection hs2 with _ hs2; subst hs; subst hs2
      have e1 : i.v + len.v ≤ l.length := hp _ (List.Mem.head _)
      refine fin _ hst (by simp; omega) (fun q r h => ?_)
      rw [List.getElem?_take] at h
      split at h
      · rw [List.getElem?_drop] at h; exact h
      · cases h
    · cases hs
  · cases hs
end
end Go.Sx
