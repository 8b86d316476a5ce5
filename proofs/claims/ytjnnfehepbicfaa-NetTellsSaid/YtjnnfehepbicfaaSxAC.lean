/- The symbolic evaluator: tables of functions at closed numbers. -/
import Derived.Test.YtjnnfehepbicfaaSxAB
namespace Go.Sx
open Go Go.RowKit
section
variable {P : Program}
/-- closed numbers of these kinds -/
def cvs : List IntKind → List V → Option (List Int)
  | [], [] => some []
  | k :: ks, .v (.one (.int k' n)) :: vs => match decide (k = k') with
    | true => match cvs ks vs with
      | some r => some (n :: r)
      | none => none
    | false => none
  | _, _ => none
theorem cvs_rel {ρ : Env} : ∀ {ks : List IntKind} {vs : List V} {ns : List Int} {us : List Value}, cvs ks vs = some ns → relVs ρ vs us → us = ivals ks ns
  | [], [], ns, us, h, hr => by
    simp only [cvs, Option.some.injEq] at h; subst h
    exact hr
  | [], _ :: _, _, _, h, _ => by cases h
  | k :: ks, vs, ns, us, h, hr => by
    unfold cvs at h
    split at h
    · rename_i he; cases he
    · rename_i k0 ks0 k' n vs' he
      injection he with he1 he2; subst he1; subst he2
      split at h
      · rename_i hk
        have hk := of_decide_eq_true hk; subst hk
        split at h
        · rename_i r hrr
          injection h with h; subst h
          obtain ⟨u, s, rfl, h1, h2⟩ := hr
          have := h1.1
          simp only [C.rel] at this
          rw [this, cvs_rel hrr h2]; rfl
        · cases h
      · cases h
    · cases h
def eqIs : List Int → List Int → Bool
  | [], [] => true
  | x :: r, y :: s => match decide (x = y) with
    | true => eqIs r s
    | false => false
  | _, _ => false
theorem eqIs_eq : ∀ {l m : List Int}, eqIs l m = true → l = m
  | [], [], _ => rfl
  | [], _ :: _, h => by cases h
  | _ :: _, [], h => by cases h
  | x :: r, y :: s, h => by
    simp only [eqIs] at h
    split at h
    · rename_i hx
      rw [of_decide_eq_true hx, eqIs_eq h]
    · cases h
def findK : List (List Int × V × List SB) → List Int → Option (V × List SB)
  | [], _ => none
  | (k, v) :: r, n => match eqIs k n with
    | true => some v
    | false => findK r n
theorem findK_mem : ∀ {l : List (List Int × V × List SB)} {n : List Int} {v : V × List SB}, findK l n = some v → (n, v) ∈ l
  | [], _, _, h => by cases h
  | (k, v) :: r, n, x, h => by
    simp only [findK] at h
    split at h
    · rename_i hk
      injection h with h; subst h
      rw [eqIs_eq hk]; exact List.mem_cons_self
    · exact List.mem_cons_of_mem _ (findK_mem h)
/-- a function at closed numbers: what it gives, and makes -/
def closedTab (ks : List IntKind) (l : List (List Int × V × List SB)) : List V → List SB → List Bool → Option CallR :=
  fresh fun args h => match cvs ks args with
    | some ns => match findK l ns with
      | some (v, bs) => some (v, bs, h, [])
      | none => none
    | none => none
theorem closedTab_ok {f : FuncId} {ks : List IntKind} {l : List (List Int × V × List SB)}
    (hg : ∀ ns v bs, (ns, v, bs) ∈ l → bs.all (fun s => s.own) = true ∧ Makes P f (ivals ks ns) v bs) : TabOk P f (closedTab ks l) :=
  fresh_ok fun args h v bs h' ob hgg hob => by
    split at hgg
    · rename_i ns hns
      split at hgg
      · rename_i v0 bs0 hf
        injection hgg with hgg; injection hgg with e1 e2; injection e2 with e2 e3; injection e3 with e3 e4
        subst e1; subst e2; subst e3; subst e4
        obtain ⟨h1, h2⟩ := hg _ _ _ (findK_mem hf)
        refine ⟨h1, fun ρ us hu => ?_⟩
        rw [cvs_rel hns hu]
        exact h2
      · cases hgg
    · cases hgg
/-- what the one table does not know, the other one may -/
def orTab (g g' : List V → List SB → List Bool → Option CallR) : List V → List SB → List Bool → Option CallR := fun args m h =>
  match g args m h with
  | some r => some r
  | none => g' args m h
theorem orTab_ok {f : FuncId} {g g' : List V → List SB → List Bool → Option CallR} (h1 : TabOk P f g) (h2 : TabOk P f g') : TabOk P f (orTab g g') := by
  intro args m h v m' h' ob hh
  unfold orTab at hh
  split at hh
  · rename_i r hr
    injection hh with hh; subst hh
    exact h1 args m h v m' h' ob hr
  · exact h2 args m h v m' h' ob hh
end
end Go.Sx
