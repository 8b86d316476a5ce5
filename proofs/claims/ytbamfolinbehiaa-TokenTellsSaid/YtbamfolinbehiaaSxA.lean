/- The symbolic evaluator: what its relations keep, and operands. -/
import Derived.Test.YtbamfolinbehiaaSxDefs
namespace Go.Sx
open Go Go.RowKit
variable {ds : List Deferred}
theorem C.rel_app {ρ : Env} {c : C} {u : Value} (ρ' : Env) (h : c.rel ρ u) : c.rel (ρ ++ ρ') u := by
 have key : ∀ (b : Nat) (e : E), ρ[b]? = some e → (ρ ++ ρ')[b]? = some e := fun b e hb => by
  rw [List.getElem?_append_left (List.getElem?_eq_some_iff.1 hb).1]; exact hb
 cases c <;> simp only [C.rel] at h ⊢ <;> try exact h
 case ptr b i st sub => obtain ⟨e, he, hu⟩ := h; exact ⟨e, key b e he, hu⟩
 case slice b i st len cl => obtain ⟨e, he, hu⟩ := h; exact ⟨e, key b e he, hu⟩
 case clos f caps =>
  obtain ⟨es, he, hu⟩ := h
  refine ⟨es, ?_, hu⟩
  clear hu
  induction caps generalizing es with
  | nil => simpa using he
  | cons b r ih =>
   cases es with
   | nil => simp at he
   | cons e es =>
    simp only [List.map_cons, List.cons.injEq] at he ⊢
    exact ⟨key b e he.1, ih es he.2⟩
 case mapr b => obtain ⟨e, he, hu⟩ := h; exact ⟨e, key b e he, hu⟩
theorem relL_app {ρ : Env} (ρ' : Env) : ∀ {cs : List C} {us : List Value}, relL ρ cs us → relL (ρ ++ ρ') cs us
 | [], _, h => h
 | _ :: _, _, ⟨u, r, h1, h2, h3⟩ => ⟨u, r, h1, C.rel_app ρ' h2, relL_app ρ' h3⟩
theorem V1.rel_app {ρ : Env} {x : V1} {u : Value} (ρ' : Env) (h : x.rel ρ u) : x.rel (ρ ++ ρ') u := by
 cases x <;> simp only [V1.rel] at h ⊢
 case one c => exact ⟨C.rel_app ρ' h.1, h.2⟩
 case agg l => obtain ⟨us, h1, h2, h3⟩ := h; exact ⟨us, h1, relL_app ρ' h2, h3⟩
 case aggi => exact h
theorem relL1_app {ρ : Env} (ρ' : Env) : ∀ {cs : List V1} {us : List Value}, relL1 ρ cs us → relL1 (ρ ++ ρ') cs us
 | [], _, h => h
 | _ :: _, _, ⟨u, r, h1, h2, h3⟩ => ⟨u, r, h1, V1.rel_app ρ' h2, relL1_app ρ' h3⟩
theorem V.rel_app {ρ : Env} {x : V} {u : Value} (ρ' : Env) (h : x.rel ρ u) : x.rel (ρ ++ ρ') u := by
 cases x <;> simp only [V.rel] at h ⊢
 case v c => exact V1.rel_app ρ' h
 case tup l => obtain ⟨us, h1, h2⟩ := h; exact ⟨us, h1, relL1_app ρ' h2⟩
theorem Cells.rel_app {ρ : Env} {g : Nat → Option Value} {c : Cells} (ρ' : Env) (h : c.rel ρ g) : c.rel (ρ ++ ρ') g := by
 cases c <;> simp only [Cells.rel] at h ⊢ <;> try exact h
 case exp l => exact fun j c hj => let ⟨u, h1, h2, h3⟩ := h j c hj; ⟨u, h1, C.rel_app ρ' h2, h3⟩
theorem relL.length {ρ : Env} : ∀ {cs : List C} {us : List Value}, relL ρ cs us → us.length = cs.length
 | [], _, h => by subst h; rfl
 | _ :: _, _, ⟨u, r, h1, _, h3⟩ => by subst h1; simp [h3.length]
theorem relL.get {ρ : Env} : ∀ {cs : List C} {us : List Value}, relL ρ cs us → ∀ (j : Nat) (c : C), cs[j]? = some c → ∃ u, us[j]? = some u ∧ c.rel ρ u
 | [], _, _, j, c, hj => by simp at hj
 | x :: xs, _, ⟨u, r, h1, h2, h3⟩, 0, c, hj => by subst h1; simp at hj; subst hj; exact ⟨u, by simp, h2⟩
 | x :: xs, _, ⟨u, r, h1, h2, h3⟩, j + 1, c, hj => by subst h1; simpa using h3.get j c (by simpa using hj)
theorem relL.of_get {ρ : Env} : ∀ {cs : List C} {us : List Value}, us.length = cs.length → (∀ (j : Nat) (c : C), cs[j]? = some c → ∃ u, us[j]? = some u ∧ c.rel ρ u) → relL ρ cs us
 | [], us, hl, _ => List.eq_nil_of_length_eq_zero (by simpa using hl)
 | x :: xs, [], hl, _ => by simp at hl
 | x :: xs, u :: r, hl, h => by
  refine ⟨u, r, rfl, ?_, relL.of_get (by simpa using hl) (fun j c hj => by simpa using h (j + 1) c (by simpa using hj))⟩
  obtain ⟨u', h1, h2⟩ := h 0 x (by simp)
  simp at h1; subst h1; exact h2
theorem relL.take {ρ : Env} : ∀ {cs : List C} {us : List Value} (n : Nat), relL ρ cs us → relL ρ (cs.take n) (us.take n)
 | [], _, n, h => by subst h; simp [relL]
 | _ :: _, _, 0, _ => by simp [relL]
 | _ :: _, _, n + 1, ⟨u, r, h1, h2, h3⟩ => by subst h1; exact ⟨u, r.take n, by simp, h2, h3.take n⟩
theorem relL.drop {ρ : Env} : ∀ {cs : List C} {us : List Value} (n : Nat), relL ρ cs us → relL ρ (cs.drop n) (us.drop n)
 | [], _, n, h => by subst h; simp [relL]
 | _ :: _, _, 0, h => by simpa using h
 | _ :: _, _, n + 1, ⟨u, r, h1, h2, h3⟩ => by subst h1; simpa using h3.drop n
theorem relL.append {ρ : Env} : ∀ {cs : List C} {us : List Value} {ds : List C} {vs : List Value}, relL ρ cs us → relL ρ ds vs → relL ρ (cs ++ ds) (us ++ vs)
 | [], _, _, _, h, h' => by subst h; simpa using h'
 | _ :: _, _, _, _, ⟨u, r, h1, h2, h3⟩, h' => by subst h1; exact ⟨u, r ++ _, rfl, h2, h3.append h'⟩
theorem relL1.get {ρ : Env} : ∀ {cs : List V1} {us : List Value}, relL1 ρ cs us → ∀ (j : Nat) (c : V1), cs[j]? = some c → ∃ u, us[j]? = some u ∧ c.rel ρ u
 | [], _, _, j, c, hj => by simp at hj
 | x :: xs, _, ⟨u, r, h1, h2, h3⟩, 0, c, hj => by subst h1; simp at hj; subst hj; exact ⟨u, by simp, h2⟩
 | x :: xs, _, ⟨u, r, h1, h2, h3⟩, j + 1, c, hj => by subst h1; simpa using h3.get j c (by simpa using hj)
theorem ofC_rel (ρ : Env) (v : Value) : (ofC v).rel ρ v := by
 unfold ofC
 split <;> simp [C.rel]
theorem relL_ofC (ρ : Env) : ∀ l : List Value, relL ρ (l.map ofC) l
 | [] => rfl
 | v :: l => ⟨v, l, rfl, ofC_rel ρ v, relL_ofC ρ l⟩
theorem ofV_rel {ρ : Env} {v : Value} {x : V} (h : ofV v = some x) : x.rel ρ v := by
 unfold ofV at h
 split at h
 ·rename_i cs
  split at h
  ·rename_i hall
   injection h with h; subst h
   refine ⟨cs.toList, by simp, relL_ofC ρ _, ?_⟩
   exact fun x hx => List.all_eq_true.1 hall x hx
  ·cases h
 ·cases h
 ·rename_i h1 h2
  injection h with h; subst h
  refine ⟨ofC_rel ρ _, ?_⟩
  cases v <;> first | rfl | exact absurd rfl (h1 _) | exact absurd rfl (h2 _)
theorem evO_rel {ρ : Env} {n : Nat} {sl : Slots} {a : Act} (hs : SlotsRel ds ρ n sl a) {o : Operand} {v : V} (h : evO sl o = some v) : v.rel ρ (a.eval o) := by
 cases o <;> simp only [evO] at h
 case tmp t => exact hs.slot t v h
 case const c => exact ofV_rel h
 case global g => cases h
 case func f => injection h with h; subst h; exact ⟨⟨[], by simp, by simp [Act.eval]⟩, rfl⟩
theorem cOf_rel {ρ : Env} {n : Nat} {sl : Slots} {a : Act} (hs : SlotsRel ds ρ n sl a) {o : Operand} {c : C} (h : cOf (evO sl o) = some c) : c.rel ρ (a.eval o) ∧ (a.eval o).oneCell' = true := by
 cases he : evO sl o with
 | none => simp [he, cOf] at h
 | some v =>
  have := evO_rel hs he
  rw [he] at h
  unfold cOf at h
  split at h
  ·rename_i c' heq
   injection heq with heq; subst heq
   injection h with h; subst h
   exact this
  ·cases h
end Go.Sx
