/- The symbolic evaluator: what a run of a law gives. -/
import Derived.Test.YtjnnfehepbicfaaSxU
import Derived.KernelRfl
namespace Go.Sx
open Go Go.RowKit
section
variable {P : Program}

theorem MemRel.nil (w : World) : MemRel [] (upto w) w w [] where
  below := .refl _ _
  base := fun _ h => h
  len := rfl
  blk := fun i e s h => by simp at h
  own := fun i e s h => by simp at h
  sep := fun i j e e' s s' _ h => by simp at h
  maps := fun i e s _ _ h => by simp at h
  msep := fun i j e e' s s' _ _ _ _ _ h => by simp at h
  nest := fun i e s h => by simp at h

/-- true, and nothing is asked -/
def isT (r : Option CallR) : Bool :=
  match r with
  | some (.v (.one (.bool true)), _, _, []) => true
  | _ => false
theorem isT_spec {r : Option CallR} (h : isT r = true) : ∃ m h', r = some (.v (.one (.bool true)), m, h', []) := by
  unfold isT at h
  split at h
  · exact ⟨_, _, rfl⟩
  · cases h

theorem law_true {T : FuncId → Option (List V → List SB → List Bool → Option CallR)} (hT : ∀ f g, T f = some g → TabOk P f g) {eff : FuncId → Bool} {fuel d : Nat} {f : FuncId} {args : List V} {m m' : List SB} {h h' : List Bool} {ob : List Prop}
    (hr : callN P T eff fuel d f args m h = some (.v (.one (.bool true)), m', h', ob)) (hob : ∀ p ∈ ob, p) {ρ : Env} {w : World} {us : List Value} (hm : MemRel ρ (upto w) w w m) (hu : relVs ρ args us) :
    Calls P f us.toArray w fun e w' => e = .returned (.bool true) ∧ Below w.heap.size w w' :=
  (callN_sound hT d f args m h _ _ _ _ hr hob ρ _ w w us hm hu).mono fun e w' ⟨u, ρ', he, hv, hm'⟩ => ⟨by rw [he, hv.1], hm'.below.toBelow⟩
theorem law_isT {eff : FuncId → Bool} {fuel d : Nat} {f : FuncId} {args : List V} {h : List Bool}
    (hr : isT (callN P (fun _ => none) eff fuel d f args [] h) = true) {w : World} {us : List Value} (hu : relVs [] args us) :
    Calls P f us.toArray w fun e w' => e = .returned (.bool true) ∧ Below w.heap.size w w' := by
  obtain ⟨m', h', hr⟩ := isT_spec hr
  exact law_true (fun _ _ h => by cases h) hr (fun _ h => by cases h) (MemRel.nil w) hu
/-- a function without arguments that gives true, and leaves what there is -/
def yes : List V → List SB → List Bool → Option CallR
  | [], m, h => some (.v (.one (.bool true)), m, h, [])
  | _, _, _ => none
theorem yes_ok {T : FuncId → Option (List V → List SB → List Bool → Option CallR)} (hT : ∀ f g, T f = some g → TabOk P f g) {eff : FuncId → Bool} {fuel d : Nat} {f : FuncId} {h0 : List Bool}
    (hr : isT (callN P T eff fuel d f [] [] h0) = true) : TabOk P f yes := by
  intro args m h v m' h' ob hg hob ρ B W w us hm hu
  unfold yes at hg
  split at hg
  · injection hg with hg; injection hg with e1 e2; injection e2 with e2 e3; injection e3 with e3 e4
    subst e1; subst e2; subst e3; subst e4
    obtain ⟨m', h', hr⟩ := isT_spec hr
    simp only [relVs] at hu
    subst hu
    refine (law_true hT hr (fun _ h => by cases h) (MemRel.nil w) rfl).mono fun e w' ⟨he, hb⟩ => ?_
    exact ⟨.bool true, [], he, ⟨rfl, rfl⟩, by rw [List.append_nil]; exact hm.ext ⟨hb.size, hb.block⟩ (hm.below.trans ⟨hb.os, hb.tape, hb.output, hb.size, fun k hk => hb.block k (hm.base k hk)⟩)⟩
  · cases hg
theorem no_tab {f : FuncId} {g : List V → List SB → List Bool → Option CallR} (h : (fun _ => none : FuncId → Option (List V → List SB → List Bool → Option CallR)) f = some g) : TabOk P f g := by cases h
/-- a table of one such function -/
def awk (f : FuncId) : FuncId → Option (List V → List SB → List Bool → Option CallR) := fun g => match Nat.beq g f with
  | true => some yes
  | false => none
theorem awk_ok {eff : FuncId → Bool} {fuel d : Nat} {f : FuncId} {h0 : List Bool} (hr : isT (callN P (fun _ => none) eff fuel d f [] [] h0) = true) : ∀ g t, awk f g = some t → TabOk P g t := by
  intro g t ht
  unfold awk at ht
  split at ht
  · rename_i he
    injection ht with ht; subst ht
    have := Nat.eq_of_beq_eq_true he
    subst this
    exact yes_ok (fun _ _ => no_tab) hr
  · cases ht
theorem law_isT' {T : FuncId → Option (List V → List SB → List Bool → Option CallR)} (hT : ∀ f g, T f = some g → TabOk P f g) {eff : FuncId → Bool} {fuel d : Nat} {f : FuncId} {args : List V} {h : List Bool}
    (hr : isT (callN P T eff fuel d f args [] h) = true) {w : World} {us : List Value} (hu : relVs [] args us) :
    Calls P f us.toArray w fun e w' => e = .returned (.bool true) ∧ Below w.heap.size w w' := by
  obtain ⟨m', h', hr⟩ := isT_spec hr
  exact law_true hT hr (fun _ h => by cases h) (MemRel.nil w) hu
/-- so many from one on -/
def allF (p : Nat → Bool) (lo : Nat) : Nat → Bool
  | 0 => true
  | n + 1 => match p (lo + n) with
    | true => allF p lo n
    | false => false
theorem allF_spec {p : Nat → Bool} {lo : Nat} : ∀ {n : Nat}, allF p lo n = true → ∀ i, lo ≤ i → i < lo + n → p i = true
  | 0, _, i, h, h' => by omega
  | n + 1, h, i, hi, hi' => by
    simp only [allF] at h
    split at h
    · rename_i hp
      rcases Nat.lt_or_ge i (lo + n) with h' | h'
      · exact allF_spec h i hi h'
      · have : i = lo + n := by omega
        subst this; exact hp
    · cases h
/-- all 256, in four parts -/
theorem allF_four {p : Nat → Bool} (h0 : allF p 0 64 = true) (h1 : allF p 64 64 = true) (h2 : allF p 128 64 = true) (h3 : allF p 192 64 = true) : ∀ i, i < 256 → p i = true := fun i hi => by
  rcases Nat.lt_or_ge i 64 with h | h
  · exact allF_spec h0 i (by omega) (by omega)
  rcases Nat.lt_or_ge i 128 with h | h
  · exact allF_spec h1 i (by omega) (by omega)
  rcases Nat.lt_or_ge i 192 with h | h
  · exact allF_spec h2 i (by omega) (by omega)
  · exact allF_spec h3 i (by omega) (by omega)
/-- all numbers from 0 up, each by itself -/
def allB (p : Nat → Bool) : Nat → Bool
  | 0 => true
  | n + 1 => match p n with
    | true => allB p n
    | false => false
theorem allB_spec {p : Nat → Bool} : ∀ {n : Nat}, allB p n = true → ∀ i, i < n → p i = true
  | 0, _, i, h => by omega
  | n + 1, h, i, hi => by
    simp only [allB] at h
    split at h
    · rename_i hp
      rcases Nat.lt_or_ge i n with h' | h'
      · exact allB_spec h i h'
      · have : i = n := by omega
        subst this; exact hp
    · cases h
end
end Go.Sx
