/- The symbolic evaluator: contracts of functions that are told of by the blocks which they reach alone. -/
import Derived.Test.YtbamfolinbehiaaSxAA
namespace Go.Sx
open Go Go.RowKit
def rnN (f : Nat → Option Nat) : List Nat → Option (List Nat)
 | [] => some []
 | b :: r => match f b with
  | some b' => match rnN f r with
   | some r' => some (b' :: r')
   | none => none
  | none => none
def rnC (f : Nat → Option Nat) : C → Option C
 | .ptr b i st sub => match f b with
  | some b' => some (.ptr b' i st sub)
  | none => none
 | .slice b i st len cl => match f b with
  | some b' => some (.slice b' i st len cl)
  | none => none
 | .clos g caps => match rnN f caps with
  | some l => some (.clos g l)
  | none => none
 | .mapr b => match f b with
  | some b' => some (.mapr b')
  | none => none
 | c => some c
def rnL (f : Nat → Option Nat) : List C → Option (List C)
 | [] => some []
 | b :: r => match rnC f b with
  | some b' => match rnL f r with
   | some r' => some (b' :: r')
   | none => none
  | none => none
def rnV1 (f : Nat → Option Nat) : V1 → Option V1
 | .one c => match rnC f c with
  | some c' => some (.one c')
  | none => none
 | .agg l => match rnL f l with
  | some l' => some (.agg l')
  | none => none
 | .aggi k l => some (.aggi k l)
def rnL1 (f : Nat → Option Nat) : List V1 → Option (List V1)
 | [] => some []
 | b :: r => match rnV1 f b with
  | some b' => match rnL1 f r with
   | some r' => some (b' :: r')
   | none => none
  | none => none
def rnV (f : Nat → Option Nat) : V → Option V
 | .v x => match rnV1 f x with
  | some x' => some (.v x')
  | none => none
 | .tup l => match rnL1 f l with
  | some l' => some (.tup l')
  | none => none
def rnVs (f : Nat → Option Nat) : List V → Option (List V)
 | [] => some []
 | b :: r => match rnV f b with
  | some b' => match rnVs f r with
   | some r' => some (b' :: r')
   | none => none
  | none => none
def rnMp (f : Nat → Option Nat) : List (Int × V1) → Option (List (Int × V1))
 | [] => some []
 | (n, x) :: r => match rnV1 f x with
  | some x' => match rnMp f r with
   | some r' => some ((n, x') :: r')
   | none => none
  | none => none
def rnCells (f : Nat → Option Nat) : Cells → Option Cells
 | .exp l => match rnL f l with
  | some l' => some (.exp l')
  | none => none
 | .imap k l => match rnMp f l with
  | some l' => some (.imap k l')
  | none => none
 | c => some c
def rnB (f : Nat → Option Nat) (s : SB) : Option SB :=
 match rnCells f s.c with
 | some c => some ⟨s.own, c⟩
 | none => none
def rnBs (f : Nat → Option Nat) : List SB → Option (List SB)
 | [] => some []
 | s :: r => match rnB f s with
  | some s' => match rnBs f r with
   | some r' => some (s' :: r')
   | none => none
  | none => none
def Ren (f : Nat → Option Nat) (ρ ρ' : Env) : Prop := ∀ b j, f b = some j → ρ'[j]? = ρ[b]?
section
variable {ds : List Deferred}
variable {P : Program} {f : Nat → Option Nat} {ρ ρ' : Env}
theorem rnN_rel (hf : Ren f ρ ρ') : ∀ {l l' : List Nat} {es : List E}, rnN f l = some l' → l.map (fun b => ρ[b]?) = es.map some → l'.map (fun b => ρ'[b]?) = es.map some
 | [], l', es, h, he => by simp only [rnN, Option.some.injEq] at h; subst h; exact he
 | b :: r, l', es, h, he => by
  simp only [rnN] at h
  split at h
  ·rename_i b' hb
   split at h
   ·rename_i r' hr
    injection h with h; subst h
    cases es with
    | nil => simp at he
    | cons e es =>
     simp only [List.map_cons, List.cons.injEq] at he ⊢
     exact ⟨by rw [hf _ _ hb]; exact he.1, rnN_rel hf hr he.2⟩
   ·cases h
  ·cases h
theorem rnC_rel (hf : Ren f ρ ρ') {c c' : C} {u : Value} (h : rnC f c = some c') (hr : c.rel ρ u) : c'.rel ρ' u := by
 unfold rnC at h
 split at h
 ·split at h
  ·rename_i b' hb; injection h with h; subst h
   obtain ⟨e, he, hu⟩ := hr
   exact ⟨e, by rw [hf _ _ hb]; exact he, hu⟩
  ·cases h
 ·split at h
  ·rename_i b' hb; injection h with h; subst h
   obtain ⟨e, he, hu⟩ := hr
   exact ⟨e, by rw [hf _ _ hb]; exact he, hu⟩
  ·cases h
 ·split at h
  ·rename_i l hl; injection h with h; subst h
   obtain ⟨es, h1, h2⟩ := hr
   exact ⟨es, rnN_rel hf hl h1, h2⟩
  ·cases h
 ·split at h
  ·rename_i b' hb; injection h with h; subst h
   obtain ⟨e, he, hu⟩ := hr
   exact ⟨e, by rw [hf _ _ hb]; exact he, hu⟩
  ·cases h
 ·injection h with h; subst h
  cases c with
  | ptr b i st sub => rename_i h1 _ _ _; exact (h1 _ _ _ _ rfl).elim
  | slice b i st len cl => rename_i _ h1 _ _; exact (h1 _ _ _ _ _ rfl).elim
  | clos g caps => rename_i _ _ h1 _; exact (h1 _ _ rfl).elim
  | mapr b => rename_i _ _ _ h1; exact (h1 _ rfl).elim
  | _ => exact hr
theorem rnL_rel (hf : Ren f ρ ρ') : ∀ {l l' : List C} {us : List Value}, rnL f l = some l' → relL ρ l us → relL ρ' l' us
 | [], l', us, h, hr => by simp only [rnL, Option.some.injEq] at h; subst h; exact hr
 | b :: r, l', us, h, hr => by
  simp only [rnL] at h
  split at h
  ·rename_i b' hb
   split at h
   ·rename_i r' hr'
    injection h with h; subst h
    obtain ⟨u, s, rfl, h1, h2⟩ := hr
    exact ⟨u, s, rfl, rnC_rel hf hb h1, rnL_rel hf hr' h2⟩
   ·cases h
  ·cases h
theorem rnV1_rel (hf : Ren f ρ ρ') {x x' : V1} {u : Value} (h : rnV1 f x = some x') (hr : x.rel ρ u) : x'.rel ρ' u := by
 unfold rnV1 at h
 split at h
 ·split at h
  ·rename_i c' hc; injection h with h; subst h; exact ⟨rnC_rel hf hc hr.1, hr.2⟩
  ·cases h
 ·split at h
  ·rename_i c' hc; injection h with h; subst h
   obtain ⟨us, h1, h2, h3⟩ := hr
   exact ⟨us, h1, rnL_rel hf hc h2, h3⟩
  ·cases h
 ·injection h with h; subst h; exact hr
theorem rnL1_rel (hf : Ren f ρ ρ') : ∀ {l l' : List V1} {us : List Value}, rnL1 f l = some l' → relL1 ρ l us → relL1 ρ' l' us
 | [], l', us, h, hr => by simp only [rnL1, Option.some.injEq] at h; subst h; exact hr
 | b :: r, l', us, h, hr => by
  simp only [rnL1] at h
  split at h
  ·rename_i b' hb
   split at h
   ·rename_i r' hr'
    injection h with h; subst h
    obtain ⟨u, s, rfl, h1, h2⟩ := hr
    exact ⟨u, s, rfl, rnV1_rel hf hb h1, rnL1_rel hf hr' h2⟩
   ·cases h
  ·cases h
theorem rnV_rel (hf : Ren f ρ ρ') {x x' : V} {u : Value} (h : rnV f x = some x') (hr : x.rel ρ u) : x'.rel ρ' u := by
 unfold rnV at h
 split at h
 ·split at h
  ·rename_i c' hc; injection h with h; subst h; exact rnV1_rel hf hc hr
  ·cases h
 ·split at h
  ·rename_i c' hc; injection h with h; subst h
   obtain ⟨us, h1, h2⟩ := hr
   exact ⟨us, h1, rnL1_rel hf hc h2⟩
  ·cases h
theorem rnVs_rel (hf : Ren f ρ ρ') : ∀ {l l' : List V} {us : List Value}, rnVs f l = some l' → relVs ρ l us → relVs ρ' l' us
 | [], l', us, h, hr => by simp only [rnVs, Option.some.injEq] at h; subst h; exact hr
 | b :: r, l', us, h, hr => by
  simp only [rnVs] at h
  split at h
  ·rename_i b' hb
   split at h
   ·rename_i r' hr'
    injection h with h; subst h
    obtain ⟨u, s, rfl, h1, h2⟩ := hr
    exact ⟨u, s, rfl, rnV_rel hf hb h1, rnVs_rel hf hr' h2⟩
   ·cases h
  ·cases h
theorem rnMp_rel (hf : Ren f ρ ρ') {k : IntKind} : ∀ {l l' : List (Int × V1)} {es : List MapEntry}, rnMp f l = some l' → entRel ρ k l es → entRel ρ' k l' es
 | [], l', es, h, hr => by simp only [rnMp, Option.some.injEq] at h; subst h; exact hr
 | (n, x) :: r, l', es, h, hr => by
  simp only [rnMp] at h
  split at h
  ·rename_i b' hb
   split at h
   ·rename_i r' hr'
    injection h with h; subst h
    obtain ⟨e, r0, h1, h2, h3, h4⟩ := hr
    exact ⟨e, r0, h1, h2, rnV1_rel hf hb h3, rnMp_rel hf hr' h4⟩
   ·cases h
  ·cases h
theorem rnL_get : ∀ {l l' : List C} {j : Nat} {c' : C}, rnL f l = some l' → l'[j]? = some c' → ∃ c, l[j]? = some c ∧ rnC f c = some c'
 | [], l', j, c', h, hj => by simp only [rnL, Option.some.injEq] at h; subst h; simp at hj
 | b :: r, l', j, c', h, hj => by
  simp only [rnL] at h
  split at h
  ·rename_i b' hb
   split at h
   ·rename_i r' hr'
    injection h with h; subst h
    cases j with
    | zero => simp only [List.getElem?_cons_zero, Option.some.injEq] at hj; subst hj; exact ⟨b, rfl, hb⟩
    | succ j => simp only [List.getElem?_cons_succ] at hj ⊢; exact rnL_get hr' hj
   ·cases h
  ·cases h
theorem rnCells_rel (hf : Ren f ρ ρ') {c c' : Cells} {g : Nat → Option Value} (h : rnCells f c = some c') (hr : c.rel ρ g) : c'.rel ρ' g := by
 unfold rnCells at h
 split at h
 ·split at h
  ·rename_i l' hl; injection h with h; subst h
   intro j c0 hj
   obtain ⟨c, h1, h2⟩ := rnL_get hl hj
   obtain ⟨u, h3, h4, h5⟩ := hr j c h1
   exact ⟨u, h3, rnC_rel hf h2 h4, h5⟩
  ·cases h
 ·split at h
  ·injection h with h; subst h; trivial
  ·cases h
 ·injection h with h; subst h
  cases c with
  | exp l => rename_i h1 _; exact (h1 _ rfl).elim
  | _ => exact hr
theorem rnCells_live {c c' : Cells} (h : rnCells f c = some c') : c'.live = c.live := by
 unfold rnCells at h
 split at h
 ·split at h
  ·injection h with h; subst h; rfl
  ·cases h
 ·split at h
  ·injection h with h; subst h; rfl
  ·cases h
 ·injection h with h; subst h; rfl
theorem rnCells_map {c c' : Cells} {k : IntKind} {l : List (Int × V1)} (h : rnCells f c = some c') (hc : c' = .imap k l) : ∃ l0, c = .imap k l0 ∧ rnMp f l0 = some l := by
 subst hc
 unfold rnCells at h
 split at h
 ·split at h
  ·injection h with h; cases h
  ·cases h
 ·split at h
  ·rename_i l' hl; injection h with h; injection h with h1 h2; subst h1; subst h2; exact ⟨_, rfl, hl⟩
  ·cases h
 ·rename_i h1
  injection h with h; subst h
  exact (h1 _ _ rfl).elim
def canC : C → C
 | .int k n => .sint k n
 | .bool b => .sbool b
 | .str l => .sstr l
 | .slice b i st len cl => .slice b i st (.s len.v) (.s cl.v)
 | c => c
def canV1 : V1 → V1
 | .one c => .one (canC c)
 | .agg l => .agg (l.map canC)
 | x => x
def canV : V → V
 | .v x => .v (canV1 x)
 | .tup l => .tup (l.map canV1)
theorem canC_rel {c : C} {u : Value} (h : c.rel ρ u) : (canC c).rel ρ u := by cases c <;> exact h
theorem canL_rel : ∀ {l : List C} {us : List Value}, relL ρ l us → relL ρ (l.map canC) us
 | [], _, h => h
 | _ :: _, _, ⟨u, s, h1, h2, h3⟩ => ⟨u, s, h1, canC_rel h2, canL_rel h3⟩
theorem canV1_rel {x : V1} {u : Value} (h : x.rel ρ u) : (canV1 x).rel ρ u := by
 cases x with
 | one c => exact ⟨canC_rel h.1, h.2⟩
 | agg l => obtain ⟨us, h1, h2, h3⟩ := h; exact ⟨us, h1, canL_rel h2, h3⟩
 | aggi k l => exact h
theorem canL1_rel : ∀ {l : List V1} {us : List Value}, relL1 ρ l us → relL1 ρ (l.map canV1) us
 | [], _, h => h
 | _ :: _, _, ⟨u, s, h1, h2, h3⟩ => ⟨u, s, h1, canV1_rel h2, canL1_rel h3⟩
theorem canV_rel {x : V} {u : Value} (h : x.rel ρ u) : (canV x).rel ρ u := by
 cases x with
 | v x => exact canV1_rel h
 | tup l => obtain ⟨us, h1, h2⟩ := h; exact ⟨us, h1, canL1_rel h2⟩
theorem canVs_rel : ∀ {l : List V} {us : List Value}, relVs ρ l us → relVs ρ (l.map canV) us
 | [], _, h => h
 | _ :: _, _, ⟨u, s, h1, h2, h3⟩ => ⟨u, s, h1, canV_rel h2, canVs_rel h3⟩
inductive Sh where
 | any
 | ints (k : IntKind)
 | recs (ks : List IntKind)
def toSh : Sh → Cells → Option Cells
 | .any, c => some c
 | .ints k, .exp l => match intsOf k l with
  | some l' => some (.ints k l')
  | none => none
 | .ints k, .ints k' l => match decide (k = k') with
  | true => some (.ints k l)
  | false => none
 | .recs ks, .exp l => match rowsOf ks (l.length / ks.length) l with
  | some l' => some (.recs ks l')
  | none => none
 | .recs ks, .recs ks' l => match decide (ks = ks') with
  | true => some (.recs ks l)
  | false => none
 | _, _ => none
theorem exp_values {g : Nat → Option Value} : ∀ {l : List C} (k : Nat), (∀ j c, l[j]? = some c → ∃ u, g (k + j) = some u ∧ c.rel ρ u ∧ u.oneCell' = true) → ∃ us, relL ρ l us ∧ us.length = l.length ∧ (∀ x ∈ us, x.oneCell' = true) ∧ ∀ j u, us[j]? = some u → g (k + j) = some u
 | [], k, h => ⟨[], rfl, rfl, (fun _ h => by cases h), (fun j u h => by simp at h)⟩
 | c :: r, k, h => by
  obtain ⟨u, h1, h2, h3⟩ := h 0 c rfl
  obtain ⟨us, h4, h5, h6, h7⟩ := exp_values (l := r) (k + 1) fun j c hj => by
   have := h (j + 1) c (by simpa using hj)
   rwa [show k + 1 + j = k + (j + 1) by omega]
  refine ⟨u :: us, ⟨u, us, rfl, h2, h4⟩, by simp [h5], fun x hx => ?_, fun j v hj => ?_⟩
  ·rcases List.mem_cons.1 hx with rfl | hx
   ·exact h3
   ·exact h6 x hx
  ·cases j with
   | zero => simp at hj; subst hj; exact h1
   | succ j => rw [show k + (j + 1) = k + 1 + j by omega]; exact h7 j v (by simpa using hj)
theorem rel_up {c : Cells} {g g' : Nat → Option Value} (hg : ∀ j u, g j = some u → g' j = some u) (h : c.rel ρ g) : c.rel ρ g' := by
 cases c with
 | exp l => intro j c hj; obtain ⟨u, h1, h2⟩ := h j c hj; exact ⟨u, hg _ _ h1, h2⟩
 | ints k l => intro j n hj; exact hg _ _ (h j n hj)
 | recs ks l => intro i r hi; obtain ⟨h1, h2⟩ := h i r hi; exact ⟨h1, fun j n k hj hk => hg _ _ (h2 j n k hj hk)⟩
 | imap k l => trivial
 | dead => trivial
theorem toSh_rel {t : Sh} {c c' : Cells} {g : Nat → Option Value} (h : toSh t c = some c') (hr : c.rel ρ g) : c'.rel ρ g := by
 unfold toSh at h
 split at h
 ·injection h with h; subst h; exact hr
 ·split at h
  ·rename_i l' hl; injection h with h; subst h
   obtain ⟨us, h1, h2, h3, h4⟩ := exp_values (ρ := ρ) (g := g) 0 (fun j c hj => by rw [Nat.zero_add]; exact hr j c hj)
   have := intsOf_sound hl h1
   intro j n hj
   rw [← Nat.zero_add j]
   refine h4 j _ ?_
   rw [this]; simp [hj]
  ·cases h
 ·split at h
  ·rename_i hk; injection h with h; subst h
   have hk := of_decide_eq_true hk
   subst hk; exact hr
  ·cases h
 ·split at h
  ·rename_i l' hl; injection h with h; subst h
   obtain ⟨us, h1, h2, h3, h4⟩ := exp_values (ρ := ρ) (g := g) 0 (fun j c hj => by rw [Nat.zero_add]; exact hr j c hj)
   have h5 := vals_rel (ρ := ρ) (rowsOf_vals hl h1) []
   refine rel_up (fun j u hj => ?_) h5
   rw [List.append_nil] at hj
   have := h4 j u hj
   rwa [Nat.zero_add] at this
  ·cases h
 ·split at h
  ·rename_i hk; injection h with h; subst h
   have hk := of_decide_eq_true hk
   subst hk; exact hr
  ·cases h
 ·cases h
theorem toSh_live {t : Sh} {c c' : Cells} (h : toSh t c = some c') : c'.live = c.live := by
 unfold toSh at h
 split at h
 ·injection h with h; subst h; rfl
 all_goals (first | (split at h <;> first | (injection h with h; subst h; rfl) | cases h) | cases h)
theorem toSh_map {t : Sh} {c c' : Cells} {k : IntKind} {l : List (Int × V1)} (h : toSh t c = some c') (hc : c' = .imap k l) : c = .imap k l := by
 subst hc
 unfold toSh at h
 split at h
 ·injection h
 all_goals (first | (split at h <;> first | (injection h with h; cases h) | cases h) | cases h)
def refsC : C → List Nat
 | .ptr b _ _ _ => [b]
 | .slice b _ _ _ _ => [b]
 | .clos _ caps => caps
 | .mapr b => [b]
 | _ => []
def refsL : List C → List Nat
 | [] => []
 | c :: r => refsC c ++ refsL r
def refsV1 : V1 → List Nat
 | .one c => refsC c
 | .agg l => refsL l
 | _ => []
def refsL1 : List V1 → List Nat
 | [] => []
 | x :: r => refsV1 x ++ refsL1 r
def refsVs : List V → List Nat
 | [] => []
 | .v x :: r => refsV1 x ++ refsVs r
 | .tup l :: r => refsL1 l ++ refsVs r
def refsMp : List (Int × V1) → List Nat
 | [] => []
 | (_, x) :: r => refsV1 x ++ refsMp r
def refsCells : Cells → List Nat
 | .exp l => refsL l
 | .imap _ l => refsMp l
 | _ => []
def memN : List Nat → Nat → Bool
 | [], _ => false
 | x :: r, b => match Nat.beq x b with
  | true => true
  | false => memN r b
def clo (m : List SB) : Nat → List Nat → List Nat → List Nat
 | 0, _, acc => acc
 | _ + 1, [], acc => acc
 | n + 1, b :: r, acc => match memN acc b with
  | true => clo m n r acc
  | false => clo m n (r ++ refsCells (blkC m b)) (acc ++ [b])
def idxN : List Nat → Nat → Nat → Option Nat
 | [], _, _ => none
 | x :: r, b, i => match Nat.beq x b with
  | true => some i
  | false => idxN r b (i + 1)
theorem idxN_spec : ∀ {l : List Nat} {b i j : Nat}, idxN l b i = some j → i ≤ j ∧ l[j - i]? = some b
 | [], b, i, j, h => by cases h
 | x :: r, b, i, j, h => by
  simp only [idxN] at h
  split at h
  ·rename_i hx
   injection h with h; subst h
   have := Nat.eq_of_beq_eq_true hx
   subst this
   exact ⟨Nat.le_refl _, by simp⟩
  ·obtain ⟨h1, h2⟩ := idxN_spec h
   refine ⟨by omega, ?_⟩
   rw [show j - i = (j - (i + 1)) + 1 by omega, List.getElem?_cons_succ]
   exact h2
def nodupN : List Nat → Bool
 | [] => true
 | x :: r => match memN r x with
  | true => false
  | false => nodupN r
theorem memN_spec : ∀ {l : List Nat} {b : Nat}, memN l b = false → b ∉ l
 | [], b, _ => by simp
 | x :: r, b, h => by
  simp only [memN] at h
  split at h
  ·cases h
  ·rename_i hx
   have hne : x ≠ b := fun e => by subst e; rw [Nat.beq_refl x] at hx; cases hx
   simp only [List.mem_cons, not_or]
   exact ⟨Ne.symm hne, memN_spec h⟩
theorem nodupN_spec : ∀ {l : List Nat}, nodupN l = true → l.Nodup
 | [], _ => List.nodup_nil
 | x :: r, h => by
  simp only [nodupN] at h
  split at h
  ·cases h
  ·rename_i hx
   exact List.nodup_cons.2 ⟨memN_spec hx, nodupN_spec h⟩
theorem nodup_inj {l : List Nat} (h : l.Nodup) {i j b : Nat} (hi : l[i]? = some b) (hj : l[j]? = some b) : i = j := by
 obtain ⟨hi, hi'⟩ := List.getElem?_eq_some_iff.1 hi
 obtain ⟨hj, hj'⟩ := List.getElem?_eq_some_iff.1 hj
 have hp := List.pairwise_iff_getElem.1 h
 rcases Nat.lt_trichotomy i j with hlt | heq | hlt
 ·exact absurd (hi'.trans hj'.symm) (hp i j hi hj hlt)
 ·exact heq
 ·exact absurd (hj'.trans hi'.symm) (hp j i hj hi hlt)
abbrev Want := Bool × Sh
def selM (m : List SB) (f : Nat → Option Nat) : List Nat → List Want → Option (List SB)
 | [], _ => some []
 | b :: r, ws => match m[b]? with
  | some s => match ws with
   | (true, t) :: ws' => match s.own, rnCells f s.c with
    | true, some c => match toSh t c with
     | some c' => match selM m f r ws' with
      | some l => some (⟨true, c'⟩ :: l)
      | none => none
     | none => none
    | _, _ => none
   | (false, t) :: ws' => match rnCells f s.c with
    | some c => match toSh t c with
     | some c' => match selM m f r ws' with
      | some l => some (⟨false, c'⟩ :: l)
      | none => none
     | none => none
    | none => none
   | [] => match rnCells f s.c with
    | some c => match selM m f r [] with
     | some l => some (⟨false, c⟩ :: l)
     | none => none
    | none => none
  | none => none
def isMapC : Cells → Bool
 | .imap _ _ => true
 | _ => false
def okB : List SB → List SB → Bool
 | [], news => news.all (fun s => s.own)
 | s :: r, s' :: r' => (match s.own with
  | false => true
  | true => s'.own && (s.c.live || !s'.c.live) && (isMapC s.c || !isMapC s'.c)) && okB r r'
 | _ :: _, [] => false
def setB (m : List SB) (b : Nat) (s : SB) : List SB := m.set b s
def putB (g : Nat → Option Nat) : List SB → List Nat → List SB → List SB → Option (List SB)
 | m, [], _, news => match rnBs g news with
  | some l => some (m ++ l)
  | none => none
 | m, b :: r, s :: bs, s' :: bs' => match s.own with
  | false => putB g m r bs bs'
  | true => match rnB g s' with
   | some s1 => putB g (setB m b s1) r bs bs'
   | none => none
 | _, _, _, _ => none
def backN (acc : List Nat) (L : Nat) (j : Nat) : Option Nat :=
 match acc[j]? with
 | some b => some b
 | none => some (L + (j - acc.length))
abbrev Loc := List V → List SB → Option (V × List SB × List Prop)
def loc (sh : List V → List Want) (g : Loc) : List V → List SB → List Bool → Option CallR := fun args m h =>
 let acc := clo m 1000 (refsVs args) []
 match nodupN acc, rnVs (fun b => idxN acc b 0) (args.map canV) with
 | true, some as => match selM m (fun b => idxN acc b 0) acc (sh as) with
  | some bs => match g as bs with
   | some (v, bs', ob) => match okB bs bs', rnV (backN acc m.length) v, putB (backN acc m.length) m acc bs bs' with
    | true, some v', some m' => some (v', m', h, ob)
    | _, _, _ => none
   | none => none
  | none => none
 | _, _ => none
def Works (P : Program) (f : FuncId) (args : List V) (bs : List SB) (v : V) (bs' : List SB) : Prop := ∀ (ρ : Env) (K : Nat → Prop) (w : World) (us : List Value),
 MemRel ρ K w w bs → relVs ρ args us → Calls P f us.toArray w (fun e w' => ∃ u ρ', e = .returned u ∧ V.rel (ρ ++ ρ') v u ∧ MemRel (ρ ++ ρ') K w w' bs')
theorem selM_spec {m : List SB} {f : Nat → Option Nat} : ∀ {acc : List Nat} {ws : List Want} {bs : List SB}, selM m f acc ws = some bs → bs.length = acc.length ∧
  (∀ b ∈ acc, b < m.length) ∧ ∀ (p : Nat) (s' : SB), bs[p]? = some s' → ∃ b s c t, acc[p]? = some b ∧ m[b]? = some s ∧ (s'.own = true → s.own = true) ∧ rnCells f s.c = some c ∧ toSh t c = some s'.c
 | [], ws, bs, h => by
  simp only [selM, Option.some.injEq] at h; subst h
  exact ⟨rfl, (fun _ h => by cases h), (fun p s' h => by simp at h)⟩
 | b :: r, ws, bs, h => by
  have step : ∀ (s : SB) (c c' : Cells) (t : Sh) (l : List SB) (o : Bool) (ws' : List Want), m[b]? = some s → rnCells f s.c = some c → toSh t c = some c' → (o = true → s.own = true) → selM m f r ws' = some l →
    ((⟨o, c'⟩ : SB) :: l).length = (b :: r).length ∧ (∀ x ∈ b :: r, x < m.length) ∧ ∀ (p : Nat) (s' : SB), ((⟨o, c'⟩ : SB) :: l)[p]? = some s' →
     ∃ b' s c t, (b :: r)[p]? = some b' ∧ m[b']? = some s ∧ (s'.own = true → s.own = true) ∧ rnCells f s.c = some c ∧ toSh t c = some s'.c := by
   intro s c c' t l o ws' hs hc ht ho hl
   obtain ⟨h1, h2, h3⟩ := selM_spec hl
   refine ⟨by simp [h1], fun x hx => ?_, fun p s' hp => ?_⟩
   ·rcases List.mem_cons.1 hx with rfl | hx
    ·exact (List.getElem?_eq_some_iff.1 hs).1
    ·exact h2 x hx
   ·cases p with
    | zero => simp only [List.getElem?_cons_zero, Option.some.injEq] at hp; subst hp; exact ⟨b, s, c, t, rfl, hs, ho, hc, ht⟩
    | succ p => simp only [List.getElem?_cons_succ] at hp ⊢; exact h3 p s' hp
  simp only [selM] at h
  split at h
  ·rename_i s hs
   split at h
   ·split at h
    ·rename_i c ho hc
     split at h
     ·rename_i c' ht
      split at h
      ·rename_i l hl
       injection h with h; subst h
       exact step s c c' _ l true _ hs hc ht (fun _ => ho) hl
      ·cases h
     ·cases h
    ·cases h
   ·split at h
    ·rename_i c hc
     split at h
     ·rename_i c' ht
      split at h
      ·rename_i l hl
       injection h with h; subst h
       exact step s c c' _ l false _ hs hc ht (fun h => by cases h) hl
      ·cases h
     ·cases h
    ·cases h
   ·split at h
    ·rename_i c hc
     split at h
     ·rename_i l hl
      injection h with h; subst h
      exact step s c c .any l false _ hs hc rfl (fun h => by cases h) hl
     ·cases h
    ·cases h
  ·cases h
theorem rnBs_get {g : Nat → Option Nat} : ∀ {l l' : List SB}, rnBs g l = some l' → l'.length = l.length ∧ ∀ (j : Nat) (s' : SB), l'[j]? = some s' → ∃ s, l[j]? = some s ∧ rnB g s = some s'
 | [], l', h => by simp only [rnBs, Option.some.injEq] at h; subst h; exact ⟨rfl, fun j s h => by simp at h⟩
 | b :: r, l', h => by
  simp only [rnBs] at h
  split at h
  ·rename_i b' hb
   split at h
   ·rename_i r' hr'
    injection h with h; subst h
    obtain ⟨h1, h2⟩ := rnBs_get hr'
    refine ⟨by simp [h1], fun j s' hj => ?_⟩
    cases j with
    | zero => simp only [List.getElem?_cons_zero, Option.some.injEq] at hj; subst hj; exact ⟨b, rfl, hb⟩
    | succ j => simp only [List.getElem?_cons_succ] at hj ⊢; exact h2 j s' hj
   ·cases h
  ·cases h
theorem okB_spec : ∀ {bs bs' : List SB}, okB bs bs' = true → bs.length ≤ bs'.length ∧ (∀ (p : Nat) (s s' : SB), bs[p]? = some s → bs'[p]? = some s' → s.own = true → s'.own = true ∧ (s'.c.live = true → s.c.live = true) ∧ (isMapC s'.c = true → isMapC s.c = true)) ∧
  ∀ (p : Nat) (s' : SB), bs.length ≤ p → bs'[p]? = some s' → s'.own = true
 | [], news, h => by
  refine ⟨by simp, fun p s s' h => by simp at h, fun p s' _ hs => ?_⟩
  exact List.all_eq_true.1 h s' (List.mem_of_getElem? hs)
 | s :: r, [], h => by cases h
 | s :: r, s0 :: r', h => by
  simp only [okB, Bool.and_eq_true] at h
  obtain ⟨h1, h2, h3⟩ := okB_spec h.2
  refine ⟨by simp; omega, fun p a a' hp hp' ho => ?_, fun p a' hle hp => ?_⟩
  ·cases p with
   | zero =>
    simp only [List.getElem?_cons_zero, Option.some.injEq] at hp hp'
    subst hp; subst hp'
    have h := h.1
    rw [ho] at h
    simp only [Bool.and_eq_true, Bool.or_eq_true, Bool.not_eq_true'] at h
    obtain ⟨⟨g1, g2⟩, g3⟩ := h
    exact ⟨g1, fun hl => by rcases g2 with g | g <;> simp_all, fun hl => by rcases g3 with g | g <;> simp_all⟩
   | succ p => simp only [List.getElem?_cons_succ] at hp hp'; exact h2 p a a' hp hp' ho
  ·cases p with
   | zero => simp at hle
   | succ p => simp only [List.getElem?_cons_succ] at hp; exact h3 p a' (by simpa using hle) hp
theorem putB_spec {g : Nat → Option Nat} {m' : List SB} : ∀ {acc : List Nat} {m : List SB} {bs bs' : List SB}, putB g m acc bs bs' = some m' → acc.Nodup → bs.length = acc.length → (∀ b ∈ acc, b < m.length) →
  acc.length ≤ bs'.length ∧ m'.length = m.length + (bs'.length - acc.length) ∧ ∀ (i : Nat) (s' : SB), m'[i]? = some s' →
   (m.length ≤ i ∧ ∃ s0 : SB, bs'[acc.length + (i - m.length)]? = some s0 ∧ rnB g s0 = some s') ∨
   (i < m.length ∧ ∃ (p : Nat) (s1 s0 : SB), acc[p]? = some i ∧ bs[p]? = some s1 ∧ s1.own = true ∧ bs'[p]? = some s0 ∧ rnB g s0 = some s') ∨
   (m[i]? = some s' ∧ ∀ (p : Nat) (s1 : SB), acc[p]? = some i → bs[p]? = some s1 → s1.own = false)
 | [], m, bs, bs', h, hnd, hl, hlt => by
  simp only [putB] at h
  split at h
  ·rename_i l hr
   injection h with h; subst h
   obtain ⟨h1, h2⟩ := rnBs_get hr
   refine ⟨by simp, by simp [h1], fun i s' hi => ?_⟩
   by_cases hlt : i < m.length
   ·rw [List.getElem?_append_left hlt] at hi
    exact .inr (.inr ⟨hi, fun p s1 hp => by simp at hp⟩)
   ·rw [List.getElem?_append_right (by omega)] at hi
    obtain ⟨s0, h3, h4⟩ := h2 _ _ hi
    exact .inl ⟨by omega, s0, by simpa using h3, h4⟩
  ·cases h
 | b :: r, m, [], bs', h, hnd, hl, hlt => by simp at hl
 | b :: r, m, s :: bs, [], h, hnd, hl, hlt => by simp [putB] at h
 | b :: r, m, s :: bs, s0 :: bs', h, hnd, hl, hlt => by
  obtain ⟨hnb, hnd'⟩ := List.nodup_cons.1 hnd
  have hl' : bs.length = r.length := by simpa using hl
  simp only [putB] at h
  split at h
  ·rename_i ho
   obtain ⟨h1, h2, h3⟩ := putB_spec h hnd' hl' (fun x hx => hlt x (by simp [hx]))
   refine ⟨by simp; omega, by simp [h2], fun i s' hi => ?_⟩
   rcases h3 i s' hi with ⟨k1, x, k2, k3⟩ | ⟨k0, p, s1, x, k1, k2, k3, k4, k5⟩ | ⟨k1, k2⟩
   ·refine .inl ⟨k1, x, ?_, k3⟩
    rw [show (b :: r).length + (i - m.length) = (r.length + (i - m.length)) + 1 by simp; omega, List.getElem?_cons_succ]
    exact k2
   ·exact .inr (.inl ⟨k0, p + 1, s1, x, by simpa using k1, by simpa using k2, k3, by simpa using k4, k5⟩)
   ·refine .inr (.inr ⟨k1, fun p s1 hp hs => ?_⟩)
    cases p with
    | zero => simp only [List.getElem?_cons_zero, Option.some.injEq] at hs; subst hs; exact ho
    | succ p => exact k2 p s1 (by simpa using hp) (by simpa using hs)
  ·rename_i ho
   split at h
   ·rename_i s1 hs1
    obtain ⟨h1, h2, h3⟩ := putB_spec h hnd' hl' (fun x hx => by simp only [setB, List.length_set]; exact hlt x (by simp [hx]))
    simp only [setB, List.length_set] at h2 h3
    refine ⟨by simp; omega, by simp [h2], fun i s' hi => ?_⟩
    have hbm : b < m.length := hlt b (by simp)
    rcases h3 i s' hi with ⟨k1, x, k2, k3⟩ | ⟨k0, p, s2, x, k1, k2, k3, k4, k5⟩ | ⟨k1, k2⟩
    ·refine .inl ⟨k1, x, ?_, k3⟩
     rw [show (b :: r).length + (i - m.length) = (r.length + (i - m.length)) + 1 by simp; omega, List.getElem?_cons_succ]
     exact k2
    ·exact .inr (.inl ⟨k0, p + 1, s2, x, by simpa using k1, by simpa using k2, k3, by simpa using k4, k5⟩)
    ·by_cases hib : i = b
     ·subst hib
      rw [List.getElem?_set_self hbm] at k1
      injection k1 with k1; subst k1
      exact .inr (.inl ⟨hbm, 0, s, s0, rfl, rfl, ho, rfl, hs1⟩)
     ·rw [List.getElem?_set_ne (Ne.symm hib)] at k1
      refine .inr (.inr ⟨k1, fun p s2 hp hs => ?_⟩)
      cases p with
      | zero => simp only [List.getElem?_cons_zero, Option.some.injEq] at hp; exact absurd hp.symm hib
      | succ p => exact k2 p s2 (by simpa using hp) (by simpa using hs)
   ·cases h
theorem rnB_spec {g : Nat → Option Nat} {s s' : SB} (h : rnB g s = some s') : s'.own = s.own ∧ rnCells g s.c = some s'.c := by
 unfold rnB at h
 split at h
 ·rename_i c hc; injection h with h; subst h; exact ⟨rfl, hc⟩
 ·cases h
theorem loc_ok {f : FuncId} {sh : List V → List Want} {g : Loc} (hg : ∀ as bs v bs' ob, g as bs = some (v, bs', ob) → (∀ p ∈ ob, p) → okB bs bs' = true → Works P f as bs v bs') : TabOk P f (loc sh g) := by
 intro args m h v m' h' ob hloc hob ρ B W w us hm hu
 unfold loc at hloc
 simp only at hloc
 generalize hacc : clo m 1000 (refsVs args) [] = acc at hloc
 split at hloc
 ·rename_i as hnd has
  split at hloc
  ·rename_i bs hsel
   split at hloc
   ·rename_i v0 bs' ob0 hgg
    split at hloc
    ·rename_i v1 m1 hok hv hput
     injection hloc with hloc; injection hloc with e1 e2; injection e2 with e2 e3; injection e3 with e3 e4
     subst e1; subst e2; subst e3; subst e4
     have hnd := nodupN_spec hnd
     obtain ⟨hbl, hlt, hsp⟩ := selM_spec hsel
     obtain ⟨ρ0, hs⟩ := sel_exists ρ acc (fun b hb => by rw [hm.len]; exact hlt b hb)
     have hren : Ren (fun b => idxN acc b 0) ρ ρ0 := fun b j hj => by
      obtain ⟨_, h2⟩ := idxN_spec hj
      exact hs.get _ _ h2
     have hl0 : ρ0.length = acc.length := hs.len
     have hu0 := rnVs_rel hren has (canVs_rel hu)
     -- what the call leaves
     let K : Nat → Prop := fun k => k < w.heap.size ∧ ∀ (p b : Nat) (s1 s : SB) (e : E), acc[p]? = some b → bs[p]? = some s1 → s1.own = true → m[b]? = some s → ρ[b]? = some e → solid s.c e → e.blk ≠ k
     have hBK : ∀ k, B k → K k := fun k hk => ⟨hm.base k hk, fun p b s1 s e h1 h2 h3 h4 h5 h6 hek => by
      obtain ⟨b', s', _, _, q1, q2, q3, _⟩ := hsp p s1 h2
      rw [h1] at q1; injection q1 with q1; subst q1
      rw [h4] at q2; injection q2 with q2; subst q2
      exact hm.own b e s h5 h4 (q3 h3) h6 (hek ▸ hk)⟩
     have orig : ∀ (p : Nat) (e : E) (s1 : SB), ρ0[p]? = some e → bs[p]? = some s1 → ∃ b s c t, acc[p]? = some b ∧ m[b]? = some s ∧ ρ[b]? = some e ∧ (s1.own = true → s.own = true) ∧ rnCells (fun b => idxN acc b 0) s.c = some c ∧ toSh t c = some s1.c := by
      intro p e s1 he h1
      obtain ⟨b, s, c, t, q1, q2, q3, q4, q5⟩ := hsp p s1 h1
      exact ⟨b, s, c, t, q1, q2, by rw [← hs.get _ _ q1]; exact he, q3, q4, q5⟩
     have hmem : MemRel ρ0 K w w bs := by
      refine ⟨.refl _ _, fun k hk => hk.1, by rw [hl0, hbl], ?_, ?_, ?_, ?_, ?_⟩
      ·intro p e s1 he h1 hl
       obtain ⟨b, s, c, t, q1, q2, q3, q4, q5, q6⟩ := orig p e s1 he h1
       obtain ⟨cur, ty, fz, z1, z2, z3, z4⟩ := hm.blk b e s q3 q2 (by rw [← rnCells_live q5, ← toSh_live q6]; exact hl)
       exact ⟨cur, ty, fz, z1, z2, fun ho => z3 (q4 ho), toSh_rel q6 (rnCells_rel hren q5 z4)⟩
      ·intro p e s1 he h1 ho hsol hk
       obtain ⟨b, s, c, t, q1, q2, q3, q4, q5, q6⟩ := orig p e s1 he h1
       refine hk.2 p b s1 s e q1 h1 ho q2 q3 ?_ rfl
       rcases hsol with ⟨z1, z2⟩ | ⟨kk, l, z⟩
       ·exact .inl ⟨by rw [← rnCells_live q5, ← toSh_live q6]; exact z1, z2⟩
       ·obtain ⟨l0, z1, _⟩ := rnCells_map q5 (toSh_map q6 z)
        exact .inr ⟨kk, l0, z1⟩
      ·intro p p2 e e' s1 s2 hne he he' h1 h2 ho hl hl' h0 h0'
       obtain ⟨b, s, c, t, q1, q2, q3, q4, q5, q6⟩ := orig p e s1 he h1
       obtain ⟨b', s', c', t', r1, r2, r3, r4, r5, r6⟩ := orig p2 e' s2 he' h2
       exact hm.sep b b' e e' s s' (fun hbb => hne (nodup_inj hnd q1 (hbb ▸ r1))) q3 r3 q2 r2 (q4 ho) (by rw [← rnCells_live q5, ← toSh_live q6]; exact hl) (by rw [← rnCells_live r5, ← toSh_live r6]; exact hl') h0 h0'
      ·intro p e s1 kk l he h1 hc
       obtain ⟨b, s, c, t, q1, q2, q3, q4, q5, q6⟩ := orig p e s1 he h1
       obtain ⟨l0, z1, z2⟩ := rnCells_map q5 (toSh_map q6 hc)
       obtain ⟨es, cl, z3, z4⟩ := hm.maps b e s kk l0 q3 q2 z1
       exact ⟨es, cl, z3, rnMp_rel hren z2 z4⟩
      ·intro p p2 e e' s1 s2 kk kk' l l' hne he he' h1 h2 hc hc'
       obtain ⟨b, s, c, t, q1, q2, q3, q4, q5, q6⟩ := orig p e s1 he h1
       obtain ⟨b', s', c', t', r1, r2, r3, r4, r5, r6⟩ := orig p2 e' s2 he' h2
       obtain ⟨l0, z1, _⟩ := rnCells_map q5 (toSh_map q6 hc)
       obtain ⟨l1, z2, _⟩ := rnCells_map r5 (toSh_map r6 hc')
       exact hm.msep b b' e e' s s' kk kk' l0 l1 (fun hbb => hne (nodup_inj hnd q1 (hbb ▸ r1))) q3 r3 q2 r2 z1 z2
     refine (hg as bs v0 bs' _ hgg hob hok ρ0 K w us hmem hu0).mono fun e w' ⟨u, ρ', he, hvu, hm'⟩ => ?_
     obtain ⟨o1, o2, o3⟩ := okB_spec hok
     obtain ⟨t1, t2, t3⟩ := putB_spec hput hnd hbl hlt
     have hlen' := hm'.len
     rw [List.length_append, hl0] at hlen'
     have hback : Ren (backN acc m.length) (ρ0 ++ ρ') (ρ ++ ρ') := fun j i hj => by
      unfold backN at hj
      split at hj
      ·rename_i b hb
       injection hj with hj; subst hj
       have hjl := (List.getElem?_eq_some_iff.1 hb).1
       have a1 : (ρ ++ ρ')[b]? = ρ[b]? := List.getElem?_append_left (by rw [hm.len]; exact hlt b (List.mem_of_getElem? hb))
       have a2 : (ρ0 ++ ρ')[j]? = ρ0[j]? := List.getElem?_append_left (by rw [hl0]; exact hjl)
       rw [a1, a2, hs.get _ _ hb]
      ·rename_i hb
       injection hj with hj; subst hj
       have hjl : acc.length ≤ j := by simpa using hb
       rw [List.getElem?_append_right (by rw [hm.len]; omega), List.getElem?_append_right (by rw [hl0]; exact hjl), hm.len, hl0]
       congr 1; omega
     -- each block: of the call's own, or an old one
     have cases' : ∀ (i : Nat) (e : E) (s' : SB), (ρ ++ ρ')[i]? = some e → m1[i]? = some s' →
       (∃ (p : Nat) (s0 : SB), backN acc m.length p = some i ∧ bs'[p]? = some s0 ∧ s0.own = true ∧ rnB (backN acc m.length) s0 = some s' ∧ (ρ0 ++ ρ')[p]? = some e) ∨
       (ρ[i]? = some e ∧ m[i]? = some s' ∧ (solid s'.c e → K e.blk)) := by
      intro i e s' he hi
      rcases t3 i s' hi with ⟨k1, s0, k2, k3⟩ | ⟨k0, p, s1, s0, k1, k2, k3, k4, k5⟩ | ⟨k1, k2⟩
      ·refine .inl ⟨acc.length + (i - m.length), s0, ?_, k2, o3 _ _ (by rw [hbl]; omega) k2, k3, ?_⟩
       ·unfold backN
        rw [List.getElem?_eq_none (by omega)]
        simp only [Option.some.injEq]; omega
       ·rw [List.getElem?_append_right (by rw [hm.len]; exact k1), hm.len] at he
        rw [List.getElem?_append_right (by rw [hl0]; omega), hl0, ← he]
        congr 1; omega
      ·refine .inl ⟨p, s0, by unfold backN; rw [k1], k4, (o2 p s1 s0 k2 k4 k3).1, k5, ?_⟩
       have hpl := (List.getElem?_eq_some_iff.1 k1).1
       rw [List.getElem?_append_left (by rw [hm.len]; exact k0)] at he
       rw [List.getElem?_append_left (by rw [hl0]; exact hpl), hs.get _ _ k1]
       exact he
      ·have hil := (List.getElem?_eq_some_iff.1 k1).1
       rw [List.getElem?_append_left (by rw [hm.len]; exact hil)] at he
       refine .inr ⟨he, k1, fun hsol => ⟨?_, fun p b s1 s e' h1 h2 h3 h4 h5 h6 heq => ?_⟩⟩
       ·rcases hsol with ⟨z1, z2⟩ | ⟨kk, l, z⟩
        ·exact hm.lt he k1 z1 z2
        ·obtain ⟨es, cl, z1, _⟩ := hm.maps i e s' kk l he k1 z
         exact (Array.getElem?_eq_some_iff.1 z1).1
       ·have hbi : b ≠ i := fun hbi => by
         subst hbi
         rw [k2 p s1 h1 h2] at h3; cases h3
        have hso : s.own = true := by
         obtain ⟨b', s0, _, _, q1, q2, q3, _⟩ := hsp p s1 h2
         rw [h1] at q1; injection q1 with q1; subst q1
         rw [h4] at q2; injection q2 with q2; subst q2
         exact q3 h3
        rcases h6 with ⟨z1, z2⟩ | ⟨kk, l, z⟩
        ·rcases hsol with ⟨y1, y2⟩ | ⟨kk', l', y⟩
         ·exact hm.sep b i e' e s s' hbi h5 he h4 k1 hso z1 y1 z2 y2 heq
         ·obtain ⟨es, cl, x1, _⟩ := hm.maps i e s' kk' l' he k1 y
          obtain ⟨cur, ty, fz, x2, _⟩ := hm.blk b e' s h5 h4 z1
          rcases x2 with x2 | x2
          ·omega
          ·rw [heq, x1] at x2; cases x2
        ·rcases hsol with ⟨y1, y2⟩ | ⟨kk', l', y⟩
         ·obtain ⟨es, cl, x1, _⟩ := hm.maps b e' s kk l h5 h4 z
          obtain ⟨cur, ty, fz, x2, _⟩ := hm.blk i e s' he k1 y1
          rcases x2 with x2 | x2
          ·omega
          ·rw [← heq, x1] at x2; cases x2
         ·exact hm.msep b i e' e s s' kk kk' l l' hbi h5 he h4 k1 z y heq
     have solidBack : ∀ {s0 s' : SB} {e : E}, rnB (backN acc m.length) s0 = some s' → solid s'.c e → solid s0.c e := by
      intro s0 s' e h1 h2
      obtain ⟨_, h3⟩ := rnB_spec h1
      rcases h2 with ⟨z1, z2⟩ | ⟨kk, l, z⟩
      ·exact .inl ⟨by rw [← rnCells_live h3]; exact z1, z2⟩
      ·obtain ⟨l0, z1, _⟩ := rnCells_map h3 z
       exact .inr ⟨kk, l0, z1⟩
     have binj : ∀ {p q i : Nat}, backN acc m.length p = some i → backN acc m.length q = some i → p = q := by
      intro p q i hp hq
      unfold backN at hp hq
      split at hp
      ·rename_i b hb
       injection hp with hp; subst hp
       split at hq
       ·rename_i b' hb'
        injection hq with hq; subst hq
        exact nodup_inj hnd hb hb'
       ·injection hq with hq
        have := hlt b (List.mem_of_getElem? hb)
        omega
      ·rename_i hb
       injection hp with hp
       split at hq
       ·rename_i b' hb'
        injection hq with hq; subst hq
        have := hlt b' (List.mem_of_getElem? hb')
        omega
       ·rename_i hb'
        injection hq with hq
        have h1 : acc.length ≤ p := by simpa using hb
        have h2 : acc.length ≤ q := by simpa using hb'
        omega
     refine ⟨u, ρ', he, rnV_rel hback hv hvu, hm.below.trans (hm'.below.mono hBK), fun k hk => Nat.lt_of_lt_of_le (hm.base k hk) hm'.below.size, ?_, ?_, ?_, ?_, ?_, ?_⟩
     ·rw [List.length_append, t2, hm.len]; omega
     ·intro i e s' he hi
      rcases cases' i e s' he hi with ⟨p, s0, k1, k2, k3, k4, k5⟩ | ⟨k1, k2, k3⟩
      ·intro hl
       obtain ⟨g1, g2⟩ := rnB_spec k4
       obtain ⟨cur, ty, fz, z1, z2, z3, z4⟩ := hm'.blk p e s0 k5 k2 (by rw [← rnCells_live g2]; exact hl)
       exact ⟨cur, ty, fz, z1, z2, fun _ => z3 k3, rnCells_rel hback g2 z4⟩
      ·intro hl
       obtain ⟨cur, ty, fz, z1, z2, z3, z4⟩ := hm.blk i e s' k1 k2 hl
       refine ⟨cur, ty, fz, ?_, z2, z3, Cells.rel_app _ z4⟩
       rcases Nat.eq_zero_or_pos e.sz with h0 | h0
       ·exact .inl h0
       ·rw [hm'.below.block _ (k3 (.inl ⟨hl, h0⟩))]; exact z1
     ·intro i e s' he hi ho hsol hb
      rcases cases' i e s' he hi with ⟨p, s0, k1, k2, k3, k4, k5⟩ | ⟨k1, k2, k3⟩
      ·exact hm'.own p e s0 k5 k2 k3 (solidBack k4 hsol) (hBK _ hb)
      ·exact hm.own i e s' k1 k2 ho hsol hb
     ·intro i j e e' s s' hne he he' hi hj ho hl hl' h0 h0'
      rcases cases' i e s he hi with ⟨p, s0, k1, k2, k3, k4, k5⟩ | ⟨k1, k2, k3⟩
      ·rcases cases' j e' s' he' hj with ⟨q, s1, r1, r2, r3, r4, r5⟩ | ⟨r1, r2, r3⟩
       ·obtain ⟨_, g2⟩ := rnB_spec k4
        obtain ⟨_, g4⟩ := rnB_spec r4
        exact hm'.sep p q e e' s0 s1 (fun hpq => hne (by subst hpq; rw [k1] at r1; injection r1)) k5 r5 k2 r2 k3 (by rw [← rnCells_live g2]; exact hl) (by rw [← rnCells_live g4]; exact hl') h0 h0'
       ·exact fun heq => hm'.own p e s0 k5 k2 k3 (solidBack k4 (.inl ⟨hl, h0⟩)) (heq ▸ r3 (.inl ⟨hl', h0'⟩))
      ·rcases cases' j e' s' he' hj with ⟨q, s1, r1, r2, r3, r4, r5⟩ | ⟨r1, r2, r3⟩
       ·exact fun heq => hm'.own q e' s1 r5 r2 r3 (solidBack r4 (.inl ⟨hl', h0'⟩)) (heq ▸ k3 (.inl ⟨hl, h0⟩))
       ·exact hm.sep i j e e' s s' hne k1 r1 k2 r2 ho hl hl' h0 h0'
     ·intro i e s kk l he hi hc
      rcases cases' i e s he hi with ⟨p, s0, k1, k2, k3, k4, k5⟩ | ⟨k1, k2, k3⟩
      ·obtain ⟨_, g2⟩ := rnB_spec k4
       obtain ⟨l0, z1, z2⟩ := rnCells_map g2 hc
       obtain ⟨es, cl, z3, z4⟩ := hm'.maps p e s0 kk l0 k5 k2 z1
       exact ⟨es, cl, z3, rnMp_rel hback z2 z4⟩
      ·obtain ⟨es, cl, z3, z4⟩ := hm.maps i e s kk l k1 k2 hc
       exact ⟨es, cl, by rw [hm'.below.block _ (k3 (.inr ⟨kk, l, hc⟩))]; exact z3, z4.app _⟩
     ·intro i j e e' s s' kk kk' l l' hne he he' hi hj hc hc'
      rcases cases' i e s he hi with ⟨p, s0, k1, k2, k3, k4, k5⟩ | ⟨k1, k2, k3⟩
      ·rcases cases' j e' s' he' hj with ⟨q, s1, r1, r2, r3, r4, r5⟩ | ⟨r1, r2, r3⟩
       ·obtain ⟨_, g2⟩ := rnB_spec k4
        obtain ⟨_, g4⟩ := rnB_spec r4
        obtain ⟨l0, z1, _⟩ := rnCells_map g2 hc
        obtain ⟨l1, z2, _⟩ := rnCells_map g4 hc'
        exact hm'.msep p q e e' s0 s1 kk kk' l0 l1 (fun hpq => hne (by subst hpq; rw [k1] at r1; injection r1)) k5 r5 k2 r2 z1 z2
       ·exact fun heq => hm'.own p e s0 k5 k2 k3 (solidBack k4 (.inr ⟨_, _, hc⟩)) (heq ▸ r3 (.inr ⟨_, _, hc'⟩))
      ·rcases cases' j e' s' he' hj with ⟨q, s1, r1, r2, r3, r4, r5⟩ | ⟨r1, r2, r3⟩
       ·exact fun heq => hm'.own q e' s1 r5 r2 r3 (solidBack r4 (.inr ⟨_, _, hc'⟩)) (heq ▸ k3 (.inr ⟨_, _, hc⟩))
       ·exact hm.msep i j e e' s s' kk kk' l l' hne k1 r1 k2 r2 hc hc'
    ·cases hloc
   ·cases hloc
  ·cases hloc
 ·cases hloc
theorem works_of {T : FuncId → Option (List V → List SB → List Bool → Option CallR)} (hT : ∀ f g, T f = some g → TabOk P f g) {eff : FuncId → Bool} {fuel d : Nat} {f : FuncId} {args : List V} {bs : List SB} {h : List Bool} {r : List Nat}
  {v0 v : V} {b0 bs' : List SB} {ob : List Prop} (hr : retV (List.range bs.length ++ r) (callN P T eff fuel d f args bs h) = some (v0, b0, ob)) (hob : allP ob) (hnd : (List.range bs.length ++ r).Nodup)
  (hv : leV (List.range bs.length ++ r) v0 v) (hb : leBs (List.range bs.length ++ r) b0 bs') : Works P f args bs v bs' := by
 intro ρ K w us hm hu
 unfold retV at hr
 split at hr
 ·rename_i v1 m1 h1 ob1 hc
  split at hr
  ·rename_i b1 hb1
   injection hr with hr; injection hr with e1 e2; injection e2 with e2 e3
   subst e1; subst e2; subst e3
   refine (callN_sound hT d f args bs h _ _ _ _ hc (allP_mem hob) ρ K w w us hm hu).mono fun e w' ⟨u, ρ', he, huv, hm'⟩ => ?_
   have hrel : RelD [] (ρ ++ ρ') K w 0 ⟨[], m1, [], []⟩ { tmps := #[], defers := [] } w' := ⟨⟨rfl, rfl, fun t v h => by cases h⟩, hm'⟩
   obtain ⟨ρ2, hs, hr2⟩ := hrel.le (sel := List.range bs.length ++ r) (T := ⟨[], bs', [], []⟩) ⟨hnd, trivial, viewM_le hb1 hb⟩
   rw [← hm.len] at hs
   obtain ⟨ρ3, rfl⟩ := hs.front
   exact ⟨u, ρ3, he, leV_rel (by rw [← hm.len]; exact hs) hv huv, hr2.m⟩
  ·cases hr
 ·cases hr
end
end Go.Sx
