/- The symbolic evaluator: a law's arguments, by their kinds. -/
import Derived.Test.YtjnnfehepbicfaaSxAD
namespace Go.Sx
open Go Go.RowKit Go.ChangeShapes Go.WideShapes
section
variable {H : Type} {enc : TypeId × Value → H} {P : Program} {W : World} {base b0 : Nat} {held : Bool} {t : TypeId} {v : Value} {dd : DataW H} {ps : List MemPlace}
theorem one_ints {d : Nat} {k : IntKind} (hck : ckOf P d t = some (.sl [k])) (hval : Value.okWide P W .any b0 t v) (hd : DataW.Trod enc P W base (fun _ => true) held t v dd ps) :
    ∃ (l : List Int) (e : E), readOnly W (e, ⟨false, .ints k l⟩) ∧ (∀ n ∈ l, (Lit.int k n).wf = true) ∧ l.length ≤ maxLen ∧ ∀ (ρ : Env) (b : Nat), ρ[b]? = some e → (V.v (.one (.slice b (.c 0) 1 (.s l.length) (.s l.length)))).rel ρ v := by
  obtain ⟨dv, h1, h2⟩ := open_one hck hval hd
  match dv, h1 with
  | .recs _ l e, rfl =>
    obtain ⟨g1, g2, g3, g4⟩ := DV.ints h2
    exact ⟨l.map fun r => r.getD 0 0, e, g1, g2, by simpa using g3, by simpa using g4⟩
theorem one_rows {d : Nat} {ks : List IntKind} (hck : ckOf P d t = some (.sl ks)) (hval : Value.okWide P W .any b0 t v) (hd : DataW.Trod enc P W base (fun _ => true) held t v dd ps) :
    ∃ (l : List (List Int)) (e : E), readOnly W (e, ⟨false, .recs ks l⟩) ∧ (∀ r ∈ l, wfRow ks r) ∧ l.length ≤ maxLen ∧ ∀ (ρ : Env) (b : Nat), ρ[b]? = some e → (V.v (.one (.slice b (.c 0) ks.length (.s l.length) (.s l.length)))).rel ρ v := by
  obtain ⟨dv, h1, h2⟩ := open_one hck hval hd
  match dv, h1 with
  | .recs _ l e, rfl => exact ⟨l, e, DV.rows h2⟩
theorem dvs_ints : ∀ {ks : List IntKind} {cs : List Value} {ds : List DV}, dvs W (ks.map CK.int) cs ds → ∃ ns, wfRow ks ns ∧ cs = ivals ks ns
  | [], [], [], _ => ⟨[], trivial, rfl⟩
  | k :: ks, c :: cs, d :: ds, h => by
    obtain ⟨ns, h1, h2⟩ := dvs_ints h.2.2
    match d, h.1, h.2.1 with
    | .int _ n, rfl, ⟨e, hw⟩ => exact ⟨n :: ns, ⟨hw, h1⟩, by rw [e, h2]; rfl⟩
  | [], _ :: _, _, h => by cases h
  | [], [], _ :: _, h => by cases h
  | _ :: _, [], _, h => by cases h
  | _ :: _, _ :: _, [], h => by cases h
def eqNs : List Nat → List Nat → Bool
  | [], [] => true
  | x :: r, y :: s => match Nat.beq x y with
    | true => eqNs r s
    | false => false
  | _, _ => false
theorem eqNs_eq : ∀ {l m : List Nat}, eqNs l m = true → l = m
  | [], [], _ => rfl
  | [], _ :: _, h => by cases h
  | _ :: _, [], h => by cases h
  | x :: r, y :: s, h => by
    simp only [eqNs] at h
    split at h
    · rename_i hx
      rw [Nat.eq_of_beq_eq_true hx, eqNs_eq h]
    · cases h
/-- the kinds of a struct's cells, or an array's -/
def aggCk (P : Program) (d : Nat) (t : TypeId) : Option (List CK) :=
  match isAggT P t, flat P d t, P.cellTypes P.depth t with
  | some true, some ts, some ts' => match eqNs ts ts' with
    | true => cksOf P d ts
    | false => none
  | _, _, _ => none
theorem open_aggCk {d : Nat} {cks : List CK} (h : aggCk P d t = some cks) (hval : Value.okWide P W .any b0 t v) (hd : DataW.Trod enc P W base (fun _ => true) held t v dd ps) :
    ∃ cs ds, v = .agg cs.toArray ∧ dvs W cks cs ds := by
  unfold aggCk at h
  split at h
  · rename_i ts ts' h1 h2 h3
    split at h
    · rename_i he
      have := eqNs_eq he
      subst this
      exact open_agg h1 h2 h3 h hval hd
    · cases h
  · cases h
/-- a struct, or an array, of integers alone -/
theorem agg_ints {d : Nat} {ks : List IntKind} (h : aggCk P d t = some (ks.map CK.int))
    (hval : Value.okWide P W .any b0 t v) (hd : DataW.Trod enc P W base (fun _ => true) held t v dd ps) : ∃ ns, wfRow ks ns ∧ v = .agg (ivals ks ns).toArray := by
  obtain ⟨cs, ds, h1, h2⟩ := open_aggCk h hval hd
  obtain ⟨ns, h3, h4⟩ := dvs_ints h2
  exact ⟨ns, h3, by rw [h1, h4]⟩
theorem wf2 {k0 k1 : IntKind} {ns : List Int} (h : wfRow [k0, k1] ns) : ∃ a b, ns = [a, b] ∧ (Lit.int k0 a).wf = true ∧ (Lit.int k1 b).wf = true := by
  match ns, h with
  | [a, b], ⟨h0, h1, _⟩ => exact ⟨a, b, rfl, h0, h1⟩
theorem wf3 {k0 k1 k2 : IntKind} {ns : List Int} (h : wfRow [k0, k1, k2] ns) : ∃ a b c, ns = [a, b, c] ∧ (Lit.int k0 a).wf = true ∧ (Lit.int k1 b).wf = true ∧ (Lit.int k2 c).wf = true := by
  match ns, h with
  | [a, b, c], ⟨h0, h1, h2, _⟩ => exact ⟨a, b, c, rfl, h0, h1, h2⟩
theorem wf4 {k0 k1 k2 k3 : IntKind} {ns : List Int} (h : wfRow [k0, k1, k2, k3] ns) : ∃ a b c d, ns = [a, b, c, d] ∧ (Lit.int k0 a).wf = true ∧ (Lit.int k1 b).wf = true ∧ (Lit.int k2 c).wf = true ∧ (Lit.int k3 d).wf = true := by
  match ns, h with
  | [a, b, c, d], ⟨h0, h1, h2, h3, _⟩ => exact ⟨a, b, c, d, rfl, h0, h1, h2, h3⟩
theorem wf5 {k0 k1 k2 k3 k4 : IntKind} {ns : List Int} (h : wfRow [k0, k1, k2, k3, k4] ns) : ∃ a b c d e, ns = [a, b, c, d, e] ∧ (Lit.int k0 a).wf = true ∧ (Lit.int k1 b).wf = true ∧ (Lit.int k2 c).wf = true ∧ (Lit.int k3 d).wf = true ∧ (Lit.int k4 e).wf = true := by
  match ns, h with
  | [a, b, c, d, e], ⟨h0, h1, h2, h3, h4, _⟩ => exact ⟨a, b, c, d, e, rfl, h0, h1, h2, h3, h4⟩
/-- what a whole number of a kind is -/
theorem wf_range {k : IntKind} {n : Int} (h : (Lit.int k n).wf = true) : k.min ≤ n ∧ n ≤ k.max := by
  simpa [Lit.wf] using h
theorem wf_u8 {n : Int} (h : (Lit.int .u8 n).wf = true) : 0 ≤ n ∧ n < 256 := by
  have := wf_range h
  simp [IntKind.min, IntKind.max, IntKind.signed, IntKind.bits] at this
  omega
theorem wf_u16 {n : Int} (h : (Lit.int .u16 n).wf = true) : 0 ≤ n ∧ n < 65536 := by
  have := wf_range h
  simp [IntKind.min, IntKind.max, IntKind.signed, IntKind.bits] at this
  omega
theorem wf_u64 {n : Int} (h : (Lit.int .u64 n).wf = true) : 0 ≤ n ∧ n ≤ 18446744073709551615 := by
  have := wf_range h
  simp [IntKind.min, IntKind.max, IntKind.signed, IntKind.bits] at this
  omega
theorem wf_i64 {n : Int} (h : (Lit.int .i64 n).wf = true) : -9223372036854775808 ≤ n ∧ n ≤ 9223372036854775807 := by
  have := wf_range h
  simp [IntKind.min, IntKind.max, IntKind.signed, IntKind.bits] at this
  omega
end
end Go.Sx
