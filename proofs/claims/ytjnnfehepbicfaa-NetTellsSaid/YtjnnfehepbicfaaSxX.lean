/- The symbolic evaluator: what is left to be shown of a run; tables of functions of a byte. -/
import Derived.Test.YtjnnfehepbicfaaSxW
namespace Go.Sx
open Go Go.RowKit
section
variable {P : Program}

def allP : List Prop → Prop
  | [] => True
  | p :: r => p ∧ allP r
theorem allP_mem : ∀ {l : List Prop}, allP l → ∀ p ∈ l, p
  | [], _, p, h => by cases h
  | q :: r, ⟨h1, h2⟩, p, h => by
    rcases List.mem_cons.1 h with rfl | h
    · exact h1
    · exact allP_mem h2 p h
/-- what is to be shown, where true is given -/
def obsOf : Option CallR → Option (List Prop)
  | some (.v (.one (.bool true)), _, _, ob) => some ob
  | some (.v (.one (.sbool p)), _, _, ob) => some ((p = true) :: ob)
  | _ => none
theorem law_obs {T : FuncId → Option (List V → List SB → List Bool → Option CallR)} (hT : ∀ f g, T f = some g → TabOk P f g) {eff : FuncId → Bool} {fuel d : Nat} {f : FuncId} {args : List V} {m : List SB} {h : List Bool} {l : List Prop}
    (hr : obsOf (callN P T eff fuel d f args m h) = some l) (hl : allP l) {ρ : Env} {w : World} {us : List Value} (hm : MemRel ρ (upto w) w w m) (hu : relVs ρ args us) :
    Calls P f us.toArray w fun e w' => e = .returned (.bool true) ∧ Below w.heap.size w w' := by
  unfold obsOf at hr
  split at hr
  · rename_i hc
    injection hr with hr; subst hr
    exact law_true hT hc (allP_mem hl) hm hu
  · rename_i p m' h' ob hc
    injection hr with hr; subst hr
    exact (callN_sound hT d f args m h _ _ _ _ hc (fun q hq => allP_mem hl q (List.mem_cons_of_mem _ hq)) ρ _ w w us hm hu).mono fun e w' ⟨u, ρ', he, hv, hm'⟩ => ⟨by rw [he, hv.1, hl.1], hm'.below.toBelow⟩
  · cases hr

/-! ### functions of a byte, by their 256 values -/
/-- is this the value, as it is written there? -/
def okV : V → Option CallR → Bool
  | .v (.one (.sint k a)), some (.v (.one (.int k' b)), _, _, []) => decide (k = k') && decide (a = b)
  | .v (.one (.sbool a)), some (.v (.one (.bool b)), _, _, []) => a == b
  | .v (.one (.sstr a)), some (.v (.one (.str b)), _, _, []) => a == b
  | _, _ => false
theorem okV_spec {v : V} {r : Option CallR} (h : okV v r = true) : ∃ v' m' h', r = some (v', m', h', []) ∧ ∀ ρ ρ' u, V.rel ρ v' u → V.rel ρ' v u := by
  unfold okV at h
  split at h
  · simp only [Bool.and_eq_true, decide_eq_true_eq] at h
    obtain ⟨rfl, rfl⟩ := h
    exact ⟨_, _, _, rfl, fun _ _ _ h => h⟩
  · rename_i a b _ _
    have : a = b := by simpa using h
    subst this
    exact ⟨_, _, _, rfl, fun _ _ _ h => h⟩
  · rename_i a b _ _
    have : a = b := by simpa using h
    subst this
    exact ⟨_, _, _, rfl, fun _ _ _ h => h⟩
  · cases h
def byteTab (g : Int → V) : List V → List SB → List Bool → Option CallR
  | [.v (.one (.sint .u8 x))], m, h => some (g x, m, h, [0 ≤ x ∧ x < 256])
  | [.v (.one (.int .u8 x))], m, h => some (g x, m, h, [0 ≤ x ∧ x < 256])
  | _, _, _ => none
theorem byteTab_ok {T : FuncId → Option (List V → List SB → List Bool → Option CallR)} (hT : ∀ f g, T f = some g → TabOk P f g) {eff : FuncId → Bool} {fuel d : Nat} {f : FuncId} {g : Int → V}
    (hr : ∀ n : Nat, n < 256 → okV (g n) (callN P T eff fuel d f [.v (.one (.int .u8 n))] [] []) = true) : TabOk P f (byteTab g) := by
  have key : ∀ (x : Int) (ρ : Env) (B : KZ) (W w : World) (m : List SB), 0 ≤ x ∧ x < 256 → MemRel ρ B W w m →
      Calls P f #[.int .u8 x] w (fun e w' => ∃ u ρ', e = .returned u ∧ V.rel (ρ ++ ρ') (g x) u ∧ MemRel (ρ ++ ρ') B W w' m) := by
    intro x ρ B W w m hx hm
    have h1 := hr x.toNat (by omega)
    have hn : ((x.toNat : Nat) : Int) = x := by omega
    rw [hn] at h1
    obtain ⟨v', m', h', hc, hv⟩ := okV_spec h1
    refine (callN_sound hT d f _ [] [] _ _ _ _ hc (fun _ h => by cases h) [] _ w w [.int .u8 x] (MemRel.nil w) ⟨_, _, rfl, ⟨rfl, rfl⟩, rfl⟩).mono fun e w' ⟨u, ρ', he, hu, hm'⟩ => ?_
    have hb := hm'.below
    exact ⟨u, [], he, hv _ _ _ hu, by rw [List.append_nil]; exact hm.ext ⟨hb.size, hb.block⟩ (hm.below.trans (hb.mono fun k hk => hm.base k hk))⟩
  intro args m h v m' h' ob hg hob ρ B W w us hm hu
  unfold byteTab at hg
  split at hg
  · injection hg with hg; injection hg with e1 e2; injection e2 with e2 e3; injection e3 with e3 e4
    subst e1; subst e2; subst e3; subst e4
    obtain ⟨u, s, rfl, ⟨hu1, _⟩, hs⟩ := hu
    simp only [relVs] at hs; subst hs
    simp only [C.rel] at hu1; subst hu1
    exact key _ ρ B W w m (hob _ (by simp)) hm
  · injection hg with hg; injection hg with e1 e2; injection e2 with e2 e3; injection e3 with e3 e4
    subst e1; subst e2; subst e3; subst e4
    obtain ⟨u, s, rfl, ⟨hu1, _⟩, hs⟩ := hu
    simp only [relVs] at hs; subst hs
    simp only [C.rel] at hu1; subst hu1
    exact key _ ρ B W w m (hob _ (by simp)) hm
  · cases hg
/-- tables, one behind the other -/
def tabs : List (FuncId × (List V → List SB → List Bool → Option CallR)) → FuncId → Option (List V → List SB → List Bool → Option CallR)
  | [], _ => none
  | (f, g) :: r, f' => match Nat.beq f f' with
    | true => some g
    | false => tabs r f'
theorem tabs_ok : ∀ {l : List (FuncId × (List V → List SB → List Bool → Option CallR))}, (∀ x ∈ l, TabOk P x.1 x.2) → ∀ f g, tabs l f = some g → TabOk P f g
  | [], _, f, g, h => by cases h
  | (f0, g0) :: r, hl, f, g, h => by
    simp only [tabs] at h
    split at h
    · rename_i he
      injection h with h; subst h
      have := Nat.eq_of_beq_eq_true he
      subst this
      exact hl (f0, g0) (by simp)
    · exact tabs_ok (fun x hx => hl x (by simp [hx])) f g h
theorem no_tabs : ∀ f g, (fun _ => none : FuncId → Option (List V → List SB → List Bool → Option CallR)) f = some g → TabOk P f g := fun _ _ h => by cases h
end
end Go.Sx
