/- The symbolic evaluator: contracts of functions of strings that give a number and leave the world as it was. -/
import Derived.Test.YtjnnfehepbicfaaSxAE
namespace Go.Sx
open Go Go.RowKit
def svOf : V → Option (List UInt8)
  | .v (.one (.str l)) => some l
  | .v (.one (.sstr l)) => some l
  | _ => none
section
variable {P : Program}
theorem svOf_rel {ρ : Env} {v : V} {l : List UInt8} {u : Value} (h : svOf v = some l) (hr : V.rel ρ v u) : u = .string ⟨l.toArray⟩ := by
  unfold svOf at h
  split at h
  · injection h with h; subst h; exact hr.1
  · injection h with h; subst h; exact hr.1
  · cases h
theorem ivOf_rel' {ρ : Env} {v : V} {k : IntKind} {n : Int} {u : Value} (h : ivs [k] [v] = some [n]) (hr : V.rel ρ v u) : u = .int k n := by
  have := (ivs_rel h (us := [u]) ⟨u, [], rfl, hr, rfl⟩).1
  injection this
/-- f of two strings gives the number g -/
def strTab (g : List UInt8 → List UInt8 → Int) : List V → List SB → List Bool → Option CallR :=
  fresh fun args h => match args with
    | [a, b] => match svOf a, svOf b with
      | some x, some y => some (.v (.one (.sint .i64 (g x y))), [], h, [])
      | _, _ => none
    | _ => none
theorem strTab_ok {f : FuncId} {g : List UInt8 → List UInt8 → Int}
    (hc : ∀ (a b : ByteArray) (w : World), Calls P f #[.string a, .string b] w fun e w' => e = .returned (.int .i64 (g a.data.toList b.data.toList)) ∧ w' = w) : TabOk P f (strTab g) :=
  fresh_ok fun args h v bs h' ob hg hob => by
    split at hg
    · split at hg
      · rename_i a b _ _ x y hx hy
        injection hg with hg; injection hg with e1 e2; injection e2 with e2 e3; injection e3 with e3 e4
        subst e1; subst e2; subst e3; subst e4
        refine ⟨rfl, fun ρ us hu w => ?_⟩
        obtain ⟨u1, s1, rfl, r1, u2, s2, rfl, r2, rfl⟩ := hu
        rw [svOf_rel hx r1, svOf_rel hy r2]
        refine (hc _ _ w).mono fun e w' ⟨he, hw⟩ => ?_
        subst hw
        exact ⟨_, [], he, ⟨rfl, rfl⟩, MemRel.nil _⟩
      · cases hg
    · cases hg
/-- f of a string and a byte gives the number g -/
def idxTab (g : List UInt8 → Int → Int) : List V → List SB → List Bool → Option CallR :=
  fresh fun args h => match args with
    | [a, b] => match svOf a, ivs [.u8] [b] with
      | some x, some [n] => some (.v (.one (.sint .i64 (g x n))), [], h, [])
      | _, _ => none
    | _ => none
theorem idxTab_ok {f : FuncId} {g : List UInt8 → Int → Int}
    (hc : ∀ (a : ByteArray) (c : Int) (w : World), Calls P f #[.string a, .int .u8 c] w fun e w' => e = .returned (.int .i64 (g a.data.toList c)) ∧ w' = w) : TabOk P f (idxTab g) :=
  fresh_ok fun args h v bs h' ob hg hob => by
    split at hg
    · split at hg
      · rename_i a b _ _ x n hx hn
        injection hg with hg; injection hg with e1 e2; injection e2 with e2 e3; injection e3 with e3 e4
        subst e1; subst e2; subst e3; subst e4
        refine ⟨rfl, fun ρ us hu w => ?_⟩
        obtain ⟨u1, s1, rfl, r1, u2, s2, rfl, r2, rfl⟩ := hu
        rw [svOf_rel hx r1, ivOf_rel' hn r2]
        refine (hc _ _ w).mono fun e w' ⟨he, hw⟩ => ?_
        subst hw
        exact ⟨_, [], he, ⟨rfl, rfl⟩, MemRel.nil _⟩
      · cases hg
    · cases hg
end
end Go.Sx
