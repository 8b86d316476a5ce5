/- The reference's Right: its runs, and the contract; The reference's Right: the contract; The reference's Put: its runs; The reference's Put: the contract. -/
import Derived.Test.YtbamfolinbehiaaJa
import Derived.Test.YtbamfolinbehiaaRd
section
namespace Go.Proofs.Ytbamfolinbehiaa
open Go.ChangeShapes Go.WideShapes Go.ChangeAt Go.RowKit Go.Sx
def six (e p s n b r : Int) : List C := [.sint .i64 e, .sint .i64 p, .sint .i64 s, .sint .i64 n, .sint .i64 b, .sint .i64 r]
def tops : List C := [.int .i64 1099511627776, .int .i64 1073741824, .int .i64 1099511627776, .int .i64 1099511627776, .int .i64 1099511627776, .int .i64 255]
def v6 (e p s n b r : Int) (i : Nat) : Int := [e, p, s, n, b, r].getD i 0
def top6 (i : Nat) : Int := [1099511627776, 1073741824, 1099511627776, 1099511627776, 1099511627776, 255].getD i 0
def chF (i : Nat) : Int := chr7.getD i 0
def sl6 (b : Nat) : V := .v (.one (.slice b (.c 0) 1 (.c 6) (.c 6)))
def tabJr := tabs [(38, gHasR), (33, numTab [.i64, .i64, .i64] gWi)]
noncomputable def callJr (d : Nat) := callN Try.prog tabJr (fun _ => false) 100000 d
noncomputable def RL := loopN Try.prog 37 0
noncomputable def ERL : List Item := .code (.loop RL.1) :: RL.2
noncomputable def KRL : List Item := .inLoop RL.1 :: RL.2
def SO (o : Bool) (l : List Int) : SB := ⟨o, .ints .u8 l⟩
noncomputable def rtE (o : Bool) (k e p s n b r : Int) (l : List Int) (m d : Nat) (h : List Bool) := run Try.prog (callJr 4) (fun _ => false) (fnF 37) 0 100000 [false] [.code (bodyF 37)] ⟨argSlots 0 [txtA k e p s n b r m d], [SO o l], h, []⟩
def TR (o : Bool) (k e p s n b r : Int) (l : List Int) (i : Nat) (h : List Bool) : St := ⟨[(3, sl7 1), (4, sl6 2), (5, sl6 3), (6, .v (.one (.int .i64 i)))], [SO o l, ⟨true, .exp (hasL k)⟩, ⟨true, .exp (six e p s n b r)⟩, ⟨true, .exp tops⟩], h, []⟩
noncomputable def rtR (lim : Nat) (S : St) := run Try.prog (callJr 4) (fun _ => false) (fnF 37) lim 100000 [] (.code RL.1 :: .inLoop RL.1 :: RL.2) S
def slR : Slots := [(3, sl7 2), (4, sl6 3), (5, sl6 4), (6, .v (.one (.int .i64 0)))]
theorem rtE0 : (fun (o : Bool) (k e p s n b r : Int) (l : List Int) (m d : Nat) => stopV [3, 4, 5, 6] [0, 2, 3, 4] (rtE o k e p s n b r l m d [true, false, false])) = fun o k e p s n b r l (m : Nat) _ => some (ERL, slR, (TR o k e p s n b r l 0 []).m, [decide (0 < (m : Int)) = false, decide (1048576 < (m : Int)) = false, letN k ≠ []]) := by kernel_rfl
theorem rtE1 : (fun (o : Bool) (k e p s n b r : Int) (l : List Int) (m d : Nat) => stopV [3, 4, 5, 6] [0, 2, 3, 4] (rtE o k e p s n b r l m d [true, false, true, false])) = fun o k e p s n b r l (m : Nat) _ => some (ERL, slR, (TR o k e p s n b r l 0 []).m, [(!hasC (letN k) 120) = false, decide (0 < (m : Int)) = true, decide (1048576 < (m : Int)) = false, letN k ≠ []]) := by kernel_rfl
def noV : V := .v (.one (.bool false))
theorem rtN : (fun (o : Bool) (k e p s n b r : Int) (l : List Int) (m d : Nat) => endV [0] (rtE o k e p s n b r l m d [false])) = fun o k _ _ _ _ _ _ l _ _ => some (noV, [SO o l], [letN k = []]) := by kernel_rfl
theorem rtL : (fun (o : Bool) (k e p s n b r : Int) (l : List Int) (m d : Nat) => endV [0] (rtE o k e p s n b r l m d [true, true])) = fun o k _ _ _ _ _ _ l (m : Nat) _ => some (noV, [SO o l], [decide (1048576 < (m : Int)) = true, letN k ≠ []]) := by kernel_rfl
theorem rtM : (fun (o : Bool) (k e p s n b r : Int) (l : List Int) (m d : Nat) => endV [0] (rtE o k e p s n b r l m d [true, false, true, true])) = fun o k _ _ _ _ _ _ l (m : Nat) _ => some (noV, [SO o l], [(!hasC (letN k) 120) = true, decide (0 < (m : Int)) = true, decide (1048576 < (m : Int)) = false, letN k ≠ []]) := by kernel_rfl
def RtG (i : Nat) (h : List Bool) (ob : Int → Int → Int → Int → Int → Int → Int → List Prop) : Prop := (fun (o : Bool) (k e p s n b r : Int) (l : List Int) => stopV [3, 4, 5, 6] [0, 1, 2, 3] (rtR (RL.2.length + 1) (TR o k e p s n b r l i h))) = fun o k e p s n b r l => some (KRL, (TR o k e p s n b r l (i + 1) []).sl, (TR o k e p s n b r l i []).m, ob k e p s n b r)
def RtF (i : Nat) (h : List Bool) (ob : Int → Int → Int → Int → Int → Int → Int → List Prop) : Prop := (fun (o : Bool) (k e p s n b r : Int) (l : List Int) => endV [0] (rtR 0 (TR o k e p s n b r l i h))) = fun o k e p s n b r l => some (noV, [SO o l], ob k e p s n b r)
def inB (e p s n b r : Int) (i : Nat) : Bool := !decide (0 ≤ v6 e p s n b r i ∧ v6 e p s n b r i ≤ top6 i)
def nzB (e p s n b r : Int) (i : Nat) : Bool := !decide (v6 e p s n b r i = 0)
def nhB (k : Int) (i : Nat) : Bool := !hasC (letN k) (chF i)
theorem rtA : ∀ i, i < 6 → RtG i [true, false, false] fun k e p s n b r => [inB e p s n b r i = false, nhB k i = false, nzB e p s n b r i = true]
 | 0, _ => by unfold RtG; kernel_rfl
 | 1, _ => by unfold RtG; kernel_rfl
 | 2, _ => by unfold RtG; kernel_rfl
 | 3, _ => by unfold RtG; kernel_rfl
 | 4, _ => by unfold RtG; kernel_rfl
 | 5, _ => by unfold RtG; kernel_rfl
 | _ + 6, h => by omega
theorem rtD : ∀ i, i < 6 → RtG i [false, false] fun _ e p s n b r => [inB e p s n b r i = false, nzB e p s n b r i = false]
 | 0, _ => by unfold RtG; kernel_rfl
 | 1, _ => by unfold RtG; kernel_rfl
 | 2, _ => by unfold RtG; kernel_rfl
 | 3, _ => by unfold RtG; kernel_rfl
 | 4, _ => by unfold RtG; kernel_rfl
 | 5, _ => by unfold RtG; kernel_rfl
 | _ + 6, h => by omega
theorem rtB : ∀ i, i < 6 → RtF i [true, false, true] fun k e p s n b r => [inB e p s n b r i = true, nhB k i = false, nzB e p s n b r i = true]
 | 0, _ => by unfold RtF; kernel_rfl
 | 1, _ => by unfold RtF; kernel_rfl
 | 2, _ => by unfold RtF; kernel_rfl
 | 3, _ => by unfold RtF; kernel_rfl
 | 4, _ => by unfold RtF; kernel_rfl
 | 5, _ => by unfold RtF; kernel_rfl
 | _ + 6, h => by omega
theorem rtC : ∀ i, i < 6 → RtF i [true, true] fun k e p s n b r => [nhB k i = true, nzB e p s n b r i = true]
 | 0, _ => by unfold RtF; kernel_rfl
 | 1, _ => by unfold RtF; kernel_rfl
 | 2, _ => by unfold RtF; kernel_rfl
 | 3, _ => by unfold RtF; kernel_rfl
 | 4, _ => by unfold RtF; kernel_rfl
 | 5, _ => by unfold RtF; kernel_rfl
 | _ + 6, h => by omega
theorem rtF : ∀ i, i < 6 → RtF i [false, true] fun _ e p s n b r => [inB e p s n b r i = true, nzB e p s n b r i = false]
 | 0, _ => by unfold RtF; kernel_rfl
 | 1, _ => by unfold RtF; kernel_rfl
 | 2, _ => by unfold RtF; kernel_rfl
 | 3, _ => by unfold RtF; kernel_rfl
 | 4, _ => by unfold RtF; kernel_rfl
 | 5, _ => by unfold RtF; kernel_rfl
 | _ + 6, h => by omega
theorem rtX : (fun (o : Bool) (k e p s n b r : Int) (l : List Int) => endV [0] (rtR 0 (TR o k e p s n b r l 6 []))) = fun o _ _ _ _ _ _ _ l => some (.v (.one (.bool true)), [SO o l], []) := by kernel_rfl
end Go.Proofs.Ytbamfolinbehiaa
end
section
namespace Go.Proofs.Ytbamfolinbehiaa
open Go.ChangeShapes Go.WideShapes Go.ChangeAt Go.RowKit Go.Sx
def ok6 (k e p s n b r : Int) (i : Nat) : Prop := (0 ≤ v6 e p s n b r i ∧ v6 e p s n b r i ≤ top6 i) ∧ (v6 e p s n b r i ≠ 0 → hasC (letN k) (chF i) = true)
instance (k : Int) (i : Nat) (v : Int) : Decidable (fOk k i v) := by unfold fOk; exact inferInstance
instance (k r : Int) (m : Nat) : Decidable (preR k r m) := by unfold preR; exact inferInstance
instance (k : Int) (v : List Int) (r : Int) (m : Nat) : Decidable (textR k v r m) := by unfold textR; exact inferInstance
theorem works_end {call : CallFn} {eff : FuncId → Bool} {f : FuncId} {fn : Func} (hc : CallOk Try.prog call) (hf : Try.prog.funcs[f]? = some fn) {c : Code} (hb : fn.body = some c) {args : List V} (hn : args.length ≤ fn.ntmps) {bs bs' : List SB} {v v0 : V} {b0 : List SB} {h ls : List Bool} {lim fuel : Nat} {r : List Nat} {ob : List Prop}
  (hq : endV (List.range bs.length ++ r) (run Try.prog call eff fn lim fuel ls [.code c] ⟨argSlots 0 args, bs, h, []⟩) = some (v0, b0, ob)) (hob : allP ob) (hnd : (List.range bs.length ++ r).Nodup) (hv : leV (List.range bs.length ++ r) v0 v) (hbs : leBs (List.range bs.length ++ r) b0 bs') : Works Try.prog f args bs v bs' :=
 works_goes hf hb hn fun ρ K W a w hρ hr => goes_retW hc hf (by rw [hρ]; exact hq) hob (by rw [hρ]; exact hnd) (by rw [hρ]; exact hv) (by rw [hρ]; exact hbs) (hr.hints (S' := ⟨argSlots 0 args, bs, h, []⟩) rfl rfl)
theorem fOk_ok {k : Int} {i : Nat} {v : Int} (t : Int) (ht : t = fMax i) (c : Int) (hc : c = fChr i) : fOk k i v ↔ (0 ≤ v ∧ v ≤ t) ∧ (v ≠ 0 → hasC (letN k) c = true) := by
 subst ht; subst hc
 unfold fOk
 constructor
 ·rintro ⟨h1, h2⟩; exact ⟨h1, fun h => h2 (by omega)⟩
 ·rintro ⟨h1, h2⟩; exact ⟨h1, fun h => h2 (by omega)⟩
theorem text_six {k e p s n b r : Int} {m : Nat} : textR k [e, p, s, n, b] r m ↔ (letN k ≠ [] ∧ m ≤ 1048576 ∧ (0 < m → hasC (letN k) 120 = true)) ∧ ∀ i, i < 6 → ok6 k e p s n b r i := by
 unfold textR preR
 constructor
 ·rintro ⟨⟨h1, h2, h3, h4, h5⟩, hf⟩
  refine ⟨⟨h1, h2, h3⟩, fun i hi => ?_⟩
  match i, hi with
  | 0, _ => exact (fOk_ok _ rfl _ rfl).1 (hf 0 (by decide))
  | 1, _ => exact (fOk_ok _ rfl _ rfl).1 (hf 1 (by decide))
  | 2, _ => exact (fOk_ok _ rfl _ rfl).1 (hf 2 (by decide))
  | 3, _ => exact (fOk_ok _ rfl _ rfl).1 (hf 3 (by decide))
  | 4, _ => exact (fOk_ok _ rfl _ rfl).1 (hf 4 (by decide))
  | 5, _ => exact ⟨h4, h5⟩
 ·rintro ⟨⟨h1, h2, h3⟩, hf⟩
  refine ⟨⟨h1, h2, h3, (hf 5 (by decide)).1, (hf 5 (by decide)).2⟩, fun i hi => ?_⟩
  match i, hi with
  | 0, _ => exact (fOk_ok _ rfl _ rfl).2 (hf 0 (by decide))
  | 1, _ => exact (fOk_ok _ rfl _ rfl).2 (hf 1 (by decide))
  | 2, _ => exact (fOk_ok _ rfl _ rfl).2 (hf 2 (by decide))
  | 3, _ => exact (fOk_ok _ rfl _ rfl).2 (hf 3 (by decide))
  | 4, _ => exact (fOk_ok _ rfl _ rfl).2 (hf 4 (by decide))
theorem tabJr_ok : ∀ f g, tabJr f = some g → TabOk Try.prog f g := tabs_ok fun x hx => by
 simp only [List.mem_cons, List.not_mem_nil, or_false] at hx
 rcases hx with rfl | rfl
 ·exact hasR_tab
 ·exact rin_tab
theorem callJr_ok (d : Nat) : CallOk Try.prog (callJr d) := callN_sound tabJr_ok d
theorem funJr : Try.prog.funcs[37]? = some (fnF 37) := by kernel_rfl
theorem bodJr : (fnF 37).body = some (bodyF 37) := by kernel_rfl
theorem tmpJr : 1 ≤ (fnF 37).ntmps := Nat.le_of_ble_eq_true (by kernel_rfl)
theorem sbs_le {sel : List Nat} (f : Int → Bool) : ∀ l : List Int, leL sel (l.map fun c => C.sbool (f c)) (l.map fun c => C.sbool (f c))
 | [] => trivial
 | _ :: t => ⟨rfl, sbs_le f t⟩
theorem six_le {sel : List Nat} (e p s n b r : Int) : leL sel (six e p s n b r) (six e p s n b r) := ⟨⟨rfl, rfl⟩, ⟨rfl, rfl⟩, ⟨rfl, rfl⟩, ⟨rfl, rfl⟩, ⟨rfl, rfl⟩, ⟨rfl, rfl⟩, trivial⟩
theorem tops_le {sel : List Nat} : leL sel tops tops := ⟨⟨rfl, rfl⟩, ⟨rfl, rfl⟩, ⟨rfl, rfl⟩, ⟨rfl, rfl⟩, ⟨rfl, rfl⟩, ⟨rfl, rfl⟩, trivial⟩
theorem app11R {A : Type} {f g : Bool → Int → Int → Int → Int → Int → Int → Int → List Int → Nat → Nat → A} (h : f = g) (o : Bool) (k e p s n b r : Int) (l : List Int) (m d : Nat) : f o k e p s n b r l m d = g o k e p s n b r l m d := by rw [h]
theorem app9R {A : Type} {f g : Bool → Int → Int → Int → Int → Int → Int → Int → List Int → A} (h : f = g) (o : Bool) (k e p s n b r : Int) (l : List Int) : f o k e p s n b r l = g o k e p s n b r l := by rw [h]
section
variable {o : Bool} {k e p s n b r : Int} {l : List Int} {m d : Nat}
theorem TRm_le {i j : Nat} {h : List Bool} : leBs [0, 1, 2, 3] (TR o k e p s n b r l i h).m (TR o k e p s n b r l j []).m :=
 ⟨⟨id, rfl, rfl⟩, ⟨id, sbs_le _ _⟩, ⟨id, six_le ..⟩, ⟨id, tops_le⟩, trivial⟩
theorem right_step (hpre : letN k ≠ [] ∧ m ≤ 1048576 ∧ (0 < m → hasC (letN k) 120 = true)) (i : Nat) (hi : i ≤ 6 ∧ ∀ j, j < i → ok6 k e p s n b r j) :
  Step Try.prog (callJr 4) (fun _ => false) (fnF 37) RL.1 RL.2 1 (TR o k e p s n b r l) (fun i => i ≤ 6 ∧ ∀ j, j < i → ok6 k e p s n b r j) (fun i => 6 - i) (.v (.one (.sbool (decide (textR k [e, p, s, n, b] r m))))) [SO o l] i := by
 obtain ⟨h6, hf⟩ := hi
 by_cases hlt : i < 6
 ·have next : ok6 k e p s n b r i → (fun i => i ≤ 6 ∧ ∀ j, j < i → ok6 k e p s n b r j) (i + 1) := fun h => ⟨hlt, fun j hj => by
   by_cases e : j = i
   ·rw [e]; exact h
   ·exact hf j (by omega)⟩
  have bad : ¬ ok6 k e p s n b r i → leV ([0] : List Nat) noV (.v (.one (.sbool (decide (textR k [e, p, s, n, b] r m))))) := fun h => (decide_eq_false fun ht => h ((text_six.1 ht).2 i hlt)).symm
  have sl : leSlots ([0, 1, 2, 3] : List Nat) (TR o k e p s n b r l (i + 1) []).sl (TR o k e p s n b r l (i + 1) []).sl := ⟨⟨rfl, rfl, rfl, rfl, rfl, Nat.le_refl _, Nat.le_refl _⟩, ⟨rfl, rfl, rfl, rfl, rfl, Nat.le_refl _, Nat.le_refl _⟩, ⟨rfl, rfl, rfl, rfl, rfl, Nat.le_refl _, Nat.le_refl _⟩, ⟨rfl, rfl, rfl⟩, trivial⟩
  have nd4 : ([0, 1, 2, 3] : List Nat).Nodup := by decide
  have nd1 : ([0] : List Nat).Nodup := by decide
  have lb : leBs ([0] : List Nat) [SO o l] [SO o l] := ⟨⟨id, rfl, rfl⟩, trivial⟩
  cases hn : nzB e p s n b r i with
  | true =>
   have hv : v6 e p s n b r i ≠ 0 := fun h => by unfold nzB at hn; rw [decide_eq_true h] at hn; cases hn
   cases hh : nhB k i with
   | true =>
    refine .stop _ _ _ _ [] _ _ _ (app9R (rtC i hlt) o k e p s n b r l) ⟨hh, hn, trivial⟩ nd1 (bad fun h => ?_) lb
    have := h.2 hv
    unfold nhB at hh; rw [this] at hh; cases hh
   | false =>
    cases hi : inB e p s n b r i with
    | true =>
     refine .stop _ _ _ _ [] _ _ _ (app9R (rtB i hlt) o k e p s n b r l) ⟨hi, hh, hn, trivial⟩ nd1 (bad fun h => ?_) lb
     unfold inB at hi; rw [decide_eq_true h.1] at hi; cases hi
    | false =>
     refine .round _ _ _ _ _ [1, 2, 3] _ _ _ (i + 1) (app9R (rtA i hlt) o k e p s n b r l) ⟨hi, hh, hn, trivial⟩ ⟨nd4, sl, TRm_le⟩ (next ⟨?_, fun _ => ?_⟩) (by omega)
     ·unfold inB at hi
      exact Classical.byContradiction fun h => by rw [decide_eq_false h] at hi; cases hi
     ·unfold nhB at hh
      cases hc : hasC (letN k) (chF i) with
      | true => rfl
      | false => rw [hc] at hh; cases hh
  | false =>
   have hv : v6 e p s n b r i = 0 := Classical.byContradiction fun h => by unfold nzB at hn; rw [decide_eq_false h] at hn; cases hn
   cases hi : inB e p s n b r i with
   | true =>
    refine .stop _ _ _ _ [] _ _ _ (app9R (rtF i hlt) o k e p s n b r l) ⟨hi, hn, trivial⟩ nd1 (bad fun h => ?_) lb
    unfold inB at hi; rw [decide_eq_true h.1] at hi; cases hi
   | false =>
    refine .round _ _ _ _ _ [1, 2, 3] _ _ _ (i + 1) (app9R (rtD i hlt) o k e p s n b r l) ⟨hi, hn, trivial⟩ ⟨nd4, sl, TRm_le⟩ (next ⟨?_, fun h => absurd hv h⟩) (by omega)
    unfold inB at hi
    exact Classical.byContradiction fun h => by rw [decide_eq_false h] at hi; cases hi
 ·have e6 : i = 6 := by omega
  subst e6
  exact .stop [] [] _ _ [] _ _ _ (app9R rtX o k e p s n b r l) trivial (by decide : ([0] : List Nat).Nodup) (decide_eq_true (text_six.2 ⟨hpre, hf⟩)).symm ⟨⟨id, rfl, rfl⟩, trivial⟩
theorem right_works : Works Try.prog 37 [txtA k e p s n b r m d] [SO o l] (.v (.one (.sbool (decide (textR k [e, p, s, n, b] r m))))) [SO o l] := by
 have nd1 : ([0] : List Nat).Nodup := by decide
 have lb : leBs ([0] : List Nat) [SO o l] [SO o l] := ⟨⟨id, rfl, rfl⟩, trivial⟩
 have bad : ¬ (letN k ≠ [] ∧ m ≤ 1048576 ∧ (0 < m → hasC (letN k) 120 = true)) → leV ([0] : List Nat) noV (.v (.one (.sbool (decide (textR k [e, p, s, n, b] r m))))) := fun h => (decide_eq_false fun ht => h (text_six.1 ht).1).symm
 have done : ∀ {h : List Bool} {ob : List Prop}, endV [0] (rtE o k e p s n b r l m d h) = some (noV, [SO o l], ob) → allP ob → leV ([0] : List Nat) noV (.v (.one (.sbool (decide (textR k [e, p, s, n, b] r m))))) → Works Try.prog 37 [txtA k e p s n b r m d] [SO o l] (.v (.one (.sbool (decide (textR k [e, p, s, n, b] r m))))) [SO o l] := fun hq hob hb =>
  works_end (callJr_ok 4) funJr bodJr (by exact tmpJr) (r := []) hq hob nd1 hb lb
 by_cases h1 : letN k = []
 ·exact done (app11R rtN o k e p s n b r l m d) ⟨h1, trivial⟩ (bad fun h => h.1 h1)
 by_cases h2 : m ≤ 1048576
 ·have d2 : decide ((1048576 : Int) < (m : Int)) = false := decide_eq_false (by omega)
  have entry : ∀ {h : List Bool} {ob : List Prop}, stopV [3, 4, 5, 6] [0, 2, 3, 4] (rtE o k e p s n b r l m d h) = some (ERL, slR, (TR o k e p s n b r l 0 []).m, ob) → allP ob → (0 < m → hasC (letN k) 120 = true) → Works Try.prog 37 [txtA k e p s n b r m d] [SO o l] (.v (.one (.sbool (decide (textR k [e, p, s, n, b] r m))))) [SO o l] := fun hq hob h3 =>
   works_loop (I := Nat) (Inv := TR o k e p s n b r l) (good := fun i => i ≤ 6 ∧ ∀ j, j < i → ok6 k e p s n b r j) (μ := fun i => 6 - i) (i := 0) (r := [2, 3, 4]) (callJr_ok 4) funJr bodJr (by exact tmpJr) (fun _ _ => ⟨rfl, rfl⟩) hq hob
    ⟨(by decide : ([0, 2, 3, 4] : List Nat).Nodup), ⟨⟨rfl, rfl, rfl, rfl, rfl, Nat.le_refl _, Nat.le_refl _⟩, ⟨rfl, rfl, rfl, rfl, rfl, Nat.le_refl _, Nat.le_refl _⟩, ⟨rfl, rfl, rfl, rfl, rfl, Nat.le_refl _, Nat.le_refl _⟩, ⟨rfl, rfl, rfl⟩, trivial⟩, ⟨⟨id, rfl, rfl⟩, ⟨id, sbs_le _ _⟩, ⟨id, six_le ..⟩, ⟨id, tops_le⟩, trivial⟩⟩
    ⟨by omega, fun j hj => by omega⟩ (right_step ⟨h1, h2, h3⟩)
  by_cases h0 : 0 < m
  ·have d0 : decide ((0 : Int) < (m : Int)) = true := decide_eq_true (by omega)
   cases hc : hasC (letN k) 120 with
   | false => exact done (app11R rtM o k e p s n b r l m d) ⟨by rw [hc]; rfl, d0, d2, h1, trivial⟩ (bad fun h => by rw [h.2.2 h0] at hc; cases hc)
   | true => exact entry (app11R rtE1 o k e p s n b r l m d) ⟨by rw [hc]; rfl, d0, d2, h1, trivial⟩ (fun _ => hc)
  ·exact entry (app11R rtE0 o k e p s n b r l m d) ⟨decide_eq_false (by omega), d2, h1, trivial⟩ (fun h => absurd h h0)
 ·exact done (app11R rtL o k e p s n b r l m d) ⟨decide_eq_true (by omega), h1, trivial⟩ (bad fun h => h2 h.2.1)
end
end Go.Proofs.Ytbamfolinbehiaa
end
section
namespace Go.Proofs.Ytbamfolinbehiaa
open Go.ChangeShapes Go.WideShapes Go.ChangeAt Go.RowKit Go.Sx
theorem memRel_noneK {ρ : Env} {K : Nat → Prop} {W w : World} {m : List SB} (h : MemRel ρ K W w m) : MemRel [] K W w [] where
 below := h.below
 base := h.base
 len := rfl
 blk := fun i e s h => by simp at h
 own := fun i e s h => by simp at h
 sep := fun i j e e' s s' _ h => by simp at h
 maps := fun i e s kk l h => by simp at h
 msep := fun i j e e' s s' kk kk' l l' _ h => by simp at h
def txtZ (k e p s n b r : Int) : V := .v (.agg (txtL k e p s n b r .nils))
theorem right_nil {k e p s n b r : Int} : Works Try.prog 37 [txtZ k e p s n b r] [] (.v (.one (.sbool (decide (textR k [e, p, s, n, b] r 0))))) [] := by
 intro ρ K w us hm hu
 match ρ, hm, hu with
 | [], hm, hu =>
  have hg := hm.beside (ghost_rel w (.ints .u8 []) (fun ρ g i r h => by simp at h) rfl) rfl
  refine (right_works (o := true) (l := []) (m := 0) (d := 0) ([] ++ [⟨0, 0, 0⟩]) K w us hg ?_).mono fun x w' ⟨u, ρ', hx, hv, hm'⟩ => ⟨u, [], hx, hv, memRel_noneK hm'⟩
  obtain ⟨u, s, rfl, ⟨ws, rfl, h1, h2⟩, rfl⟩ := hu
  refine ⟨_, _, rfl, ⟨ws, rfl, ?_, h2⟩, rfl⟩
  obtain ⟨a0, t0, rfl, c0, a1, t1, rfl, c1, a2, t2, rfl, c2, a3, t3, rfl, c3, a4, t4, rfl, c4, a5, t5, rfl, c5, a6, t6, rfl, c6, a7, t7, rfl, c7, rfl⟩ := h1
  exact ⟨_, _, rfl, c0, _, _, rfl, c1, _, _, rfl, c2, _, _, rfl, c3, _, _, rfl, c4, _, _, rfl, c5, _, _, rfl, c6, _, _, rfl, ⟨⟨0, 0, 0⟩, rfl, .inl ⟨rfl, rfl, c7⟩⟩, rfl⟩
 | _ :: _, hm, _ => have := hm.len; simp at this
def gRight : Sx.Loc := fun args bs => match args, bs with
 | [.v (.agg [.sint .u8 k, .sint .i64 e, .sint .i64 p, .sint .i64 s, .sint .i64 n, .sint .i64 b, .sint .i64 r, .slice 0 (.c 0) 1 m _])], [⟨false, .ints .u8 l⟩] => some (.v (.one (.sbool (decide (textR k [e, p, s, n, b] r m.v)))), [roH l], [])
 | [.v (.agg [.sint .u8 k, .sint .i64 e, .sint .i64 p, .sint .i64 s, .sint .i64 n, .sint .i64 b, .sint .i64 r, .nils])], [] => some (.v (.one (.sbool (decide (textR k [e, p, s, n, b] r 0)))), [], [])
 | _, _ => none
theorem right_tab : TabOk Try.prog 37 (loc wantH gRight) := loc_ok fun xs bs v bs' ob hg hob hokb => by
 unfold gRight at hg
 split at hg
 ·rename_i k e p s n b r m d l
  cases hg
  exact right_works (o := false) (m := m.v) (d := d.v)
 ·cases hg
  exact right_nil
 ·cases hg
def tabJp := tabs [(38, gHasR), (37, loc wantH gRight), (34, loc By.wantRo (By.putR .u64 By.vint By.u64)), (39, loc By.wantB2 By.gRBlob)]
noncomputable def callJp (d : Nat) := callN Try.prog tabJp (fun _ => false) 100000 d
noncomputable def QL := loopN Try.prog 18 0
noncomputable def EQL : List Item := .code (.loop QL.1) :: QL.2
noncomputable def KQL : List Item := .inLoop QL.1 :: QL.2
noncomputable def rpE (k e p s n b r : Int) (l : List Int) (m d : Nat) (h : List Bool) := run Try.prog (callJp 4) (fun _ => false) (fnF 18) 0 100000 [false] [.code (bodyF 18)] ⟨argSlots 0 [txtA k e p s n b r m d], [roH l], h, []⟩
def slP (i o L x : Nat) : Slots := [(1, .v (.one (.ptr 1 (.c 0) 1 0))), (4, sl7 2), (5, bl0 o L L), (6, sl6 x), (7, .v (.one (.int .i64 i)))]
def TP (k e p s n b r : Int) (l : List Int) (m d : Nat) (out : List Int) (i : Nat) (h : List Bool) : St := ⟨slP i 4 out.length 3, [roH l, ⟨true, .exp (txtL k e p s n b r (blbC m d))⟩, ⟨true, .exp (hasL k)⟩, ⟨true, .exp (six e p s n b r)⟩, oB out], h, []⟩
noncomputable def rpR (lim : Nat) (S : St) := run Try.prog (callJp 4) (fun _ => false) (fnF 18) lim 100000 [] (.code QL.1 :: .inLoop QL.1 :: QL.2) S
theorem rpE0 : (fun (k e p s n b r : Int) (l : List Int) (m d : Nat) => stopV [1, 4, 5, 6, 7] [0, 1, 2, 4, 3] (rpE k e p s n b r l m d [false, true])) = fun k e p s n b r l (m : Nat) (d : Nat) => some (EQL, [(1, .v (.one (.ptr 1 (.c 0) 1 0))), (4, sl7 2), (5, .v (.one (.slice 3 (.c 0) 1 (.c 1) (.c 1)))), (6, sl6 4), (7, .v (.one (.int .i64 0)))],
 [roH l, ⟨true, .exp (txtL k e p s n b r (blbC m d))⟩, ⟨true, .exp (hasL k)⟩, ⟨true, .exp (six e p s n b r)⟩, ⟨true, .exp [.sint .u8 k]⟩], [letN k ≠ [], (!decide (textR k [e, p, s, n, b] r m)) = false]) := by kernel_rfl
theorem rpB : (fun (k e p s n b r : Int) (l : List Int) (m d : Nat) => endV [0] (rpE k e p s n b r l m d [true])) = fun k e p s n b r l (m : Nat) _ => some (badV, [roH l], [(!decide (textR k [e, p, s, n, b] r m)) = true]) := by kernel_rfl
def RpG (i : Nat) (c : Bool) (q : Nat) (x : Int → List Int → List Int) (ob : Int → List Int → List Prop) : Prop := (fun (k e p s n b r : Int) (l out : List Int) (m d : Nat) => stopV [1, 4, 5, 6, 7] [0, 1, 2, 3, q] (rpR (QL.2.length + 1) (TP k e p s n b r l m d out i [c]))) = fun k e p s n b r l out (m : Nat) (d : Nat) => some (KQL, slP (i + 1) q (x (v6 e p s n b r i) out).length 3, (TP k e p s n b r l m d (x (v6 e p s n b r i) out) i []).m, ob (v6 e p s n b r i) out ++ [hasC (letN k) (chF i) = c])
theorem rpA : ∀ i, i < 6 → RpG i true 5 (fun v out => out ++ By.vint (wrU v)) (fun v out => [By.u64 (wrU v), out.length = out.length, out.length + 10 ≤ 140737488355328])
 | 0, _ => by unfold RpG; kernel_rfl
 | 1, _ => by unfold RpG; kernel_rfl
 | 2, _ => by unfold RpG; kernel_rfl
 | 3, _ => by unfold RpG; kernel_rfl
 | 4, _ => by unfold RpG; kernel_rfl
 | 5, _ => by unfold RpG; kernel_rfl
 | _ + 6, h => by omega
theorem rpD : ∀ i, i < 6 → RpG i false 4 (fun _ out => out) (fun _ _ => [])
 | 0, _ => by unfold RpG; kernel_rfl
 | 1, _ => by unfold RpG; kernel_rfl
 | 2, _ => by unfold RpG; kernel_rfl
 | 3, _ => by unfold RpG; kernel_rfl
 | 4, _ => by unfold RpG; kernel_rfl
 | 5, _ => by unfold RpG; kernel_rfl
 | _ + 6, h => by omega
def okQ (b L : Nat) : V := .tup [.one (.slice b (.c 0) 1 (.s L) (.s L)), .one (.int .i64 0)]
theorem rpX1 : (fun (k e p s n b r : Int) (l out : List Int) (m d : Nat) => endV [0, 5] (rpR 0 (TP k e p s n b r l m d out 6 [true]))) = fun k _ _ _ _ _ _ l out (m : Nat) _ => some (okQ 5 (out ++ By.vint (m : Int) ++ l.take m).length, [roH l, oB (out ++ By.vint (m : Int) ++ l.take m)], [out.length = out.length, m ≤ l.length, out.length ≤ 1000000000, m ≤ 1000000000, hasC (letN k) 120 = true]) := by kernel_rfl
theorem rpX0 : (fun (k e p s n b r : Int) (l out : List Int) (m d : Nat) => endV [0, 4] (rpR 0 (TP k e p s n b r l m d out 6 [false]))) = fun k _ _ _ _ _ _ l out _ _ => some (okQ 4 out.length, [roH l, oB out], [hasC (letN k) 120 = false]) := by kernel_rfl
end Go.Proofs.Ytbamfolinbehiaa
end
section
namespace Go.Proofs.Ytbamfolinbehiaa
open Go.ChangeShapes Go.WideShapes Go.ChangeAt Go.RowKit Go.Sx
theorem tabJp_ok : ∀ f g, tabJp f = some g → TabOk Try.prog f g := tabs_ok fun x hx => by
 simp only [List.mem_cons, List.not_mem_nil, or_false] at hx
 rcases hx with rfl | rfl | rfl | rfl
 ·exact hasR_tab
 ·exact right_tab
 ·exact By.ru_tab
 ·exact By.rblob_tab
theorem callJp_ok (d : Nat) : CallOk Try.prog (callJp d) := callN_sound tabJp_ok d
theorem funJp : Try.prog.funcs[18]? = some (fnF 18) := by kernel_rfl
theorem bodJp : (fnF 18).body = some (bodyF 18) := by kernel_rfl
theorem tmpJp : 1 ≤ (fnF 18).ntmps := Nat.le_of_ble_eq_true (by kernel_rfl)
def out6 (k : Int) (v : Nat → Int) : Nat → List Int
 | 0 => [k]
 | i + 1 => if hasC (letN k) (chF i) = true then out6 k v i ++ By.vint (v i) else out6 k v i
theorem put_six (k e p s n b r : Int) (blob : List Int) : putS k [e, p, s, n, b] r blob = out6 k (v6 e p s n b r) 6 ++ (if hasC (letN k) 120 = true then By.vint ((blob.length : Nat) : Int) ++ blob else []) := by
 have h5 : out6 k (v6 e p s n b r) 5 = outP k [e, p, s, n, b] 5 := rfl
 have h6 : out6 k (v6 e p s n b r) 6 = if hasC (letN k) 114 = true then out6 k (v6 e p s n b r) 5 ++ By.vint r else out6 k (v6 e p s n b r) 5 := rfl
 rw [h6, h5]
 unfold putS endP
 split
 ·rfl
 ·rw [List.append_nil]
theorem top6_le {i : Nat} (hi : i < 6) : top6 i ≤ 1099511627776 := by
 match i, hi with
 | 0, _ => decide
 | 1, _ => decide
 | 2, _ => decide
 | 3, _ => decide
 | 4, _ => decide
 | 5, _ => decide
theorem out6_len {k e p s n b r : Int} (hf : ∀ i, i < 6 → ok6 k e p s n b r i) : ∀ i, i ≤ 6 → (out6 k (v6 e p s n b r) i).length ≤ 1 + 10 * i
 | 0, _ => Nat.le_refl _
 | i + 1, hi => by
  have h1 := out6_len hf i (by omega)
  have h2 := (hf i (by omega)).1
  have h3 := top6_le (i := i) (by omega)
  have h4 := By.vint_le (tok_u64 h2.1 (by omega : v6 e p s n b r i ≤ 1099511627776))
  unfold out6
  split
  ·rw [List.length_append]; omega
  ·omega
section
variable {k e p s n b r : Int} {l : List Int} {m d : Nat}
theorem TPm_le {sel : List Nat} {out : List Int} (hs : sel[0]? = some 0) (hmd : m ≤ d) {i j : Nat} {h : List Bool} : leBs sel (TP k e p s n b r l m d out i h).m (TP k e p s n b r l m d out j []).m :=
 ⟨⟨id, rfl, rfl⟩, ⟨id, txt_le hs _ _ _ _ _ _ _ hmd⟩, ⟨id, sbs_le _ _⟩, ⟨id, six_le ..⟩, ⟨id, rfl, rfl⟩, trivial⟩
theorem slP_le {sel : List Nat} {i q L : Nat} (h1 : sel[1]? = some 1) (h2 : sel[2]? = some 2) (h3 : sel[3]? = some 3) (h4 : sel[4]? = some q) : leSlots sel (slP i q L 3) (slP i 4 L 3) :=
 ⟨⟨rfl, h1, rfl, rfl, rfl⟩, ⟨rfl, h2, rfl, rfl, rfl, Nat.le_refl _, Nat.le_refl _⟩, ⟨rfl, h4, rfl, rfl, rfl, Nat.le_refl _, Nat.le_refl _⟩, ⟨rfl, h3, rfl, rfl, rfl, Nat.le_refl _, Nat.le_refl _⟩, ⟨rfl, rfl, rfl⟩, trivial⟩
theorem app11P {A : Type} {f g : Int → Int → Int → Int → Int → Int → Int → List Int → List Int → Nat → Nat → A} (h : f = g) (k e p s n b r : Int) (l out : List Int) (m d : Nat) : f k e p s n b r l out m d = g k e p s n b r l out m d := by rw [h]
theorem rput_step (hmd : m ≤ d) (hm : m ≤ l.length) (hm2 : m ≤ 1048576) (hf : ∀ i, i < 6 → ok6 k e p s n b r i) (i : Nat) (hi : i ≤ 6) :
  Step Try.prog (callJp 4) (fun _ => false) (fnF 18) QL.1 QL.2 1 (fun i => TP k e p s n b r l m d (out6 k (v6 e p s n b r) i) i) (fun i => i ≤ 6) (fun i => 6 - i) (okV1 (putS k [e, p, s, n, b] r (l.take m)).length) [roH l, oB (putS k [e, p, s, n, b] r (l.take m))] i := by
 have hL := out6_len hf i hi
 by_cases hlt : i < 6
 ·have h2 := (hf i hlt).1
  have h3 := top6_le hlt
  have hw := wrU_id (n := v6 e p s n b r i) h2.1 (by omega)
  have hu := tok_u64 h2.1 (by omega : v6 e p s n b r i ≤ 1099511627776)
  cases hc : hasC (letN k) (chF i) with
  | true =>
   have eo : out6 k (v6 e p s n b r) (i + 1) = out6 k (v6 e p s n b r) i ++ By.vint (v6 e p s n b r i) := by rw [out6, if_pos hc]
   have q := app11P (rpA i hlt) k e p s n b r l (out6 k (v6 e p s n b r) i) m d
   simp only [hw, ← eo] at q
   exact .round _ _ _ _ _ [1, 2, 3, 5] _ _ _ (i + 1) q ⟨hu, trivial, by omega, hc, trivial⟩ ⟨(by decide : ([0, 1, 2, 3, 5] : List Nat).Nodup), slP_le rfl rfl rfl rfl, TPm_le rfl hmd⟩ hlt (by omega)
  | false =>
   have eo : out6 k (v6 e p s n b r) (i + 1) = out6 k (v6 e p s n b r) i := by rw [out6, if_neg (by rw [hc]; decide)]
   have q := app11P (rpD i hlt) k e p s n b r l (out6 k (v6 e p s n b r) i) m d
   simp only [← eo] at q
   rw [eo] at q
   refine .round _ _ _ _ _ [1, 2, 3, 4] _ _ _ (i + 1) q ⟨hc, trivial⟩ ⟨(by decide : ([0, 1, 2, 3, 4] : List Nat).Nodup), ?_, ?_⟩ hlt (by omega)
   ·rw [eo]; exact slP_le rfl rfl rfl rfl
   ·rw [eo]; exact TPm_le rfl hmd
 ·have e6 : i = 6 := by omega
  subst e6
  have hp := put_six k e p s n b r (l.take m)
  have hlt : (l.take m).length = m := by rw [List.length_take]; omega
  rw [hlt] at hp
  cases hc : hasC (letN k) 120 with
  | true =>
   rw [if_pos hc, ← List.append_assoc] at hp
   rw [hp]
   exact .stop _ _ _ _ [5] _ _ _ (app11P rpX1 k e p s n b r l (out6 k (v6 e p s n b r) 6) m d) ⟨rfl, hm, by omega, by omega, hc, trivial⟩ (by decide : ([0, 5] : List Nat).Nodup) ⟨⟨rfl, rfl, rfl, rfl, Nat.le_refl _, Nat.le_refl _⟩, ⟨rfl, rfl⟩, trivial⟩ ⟨⟨id, rfl, rfl⟩, ⟨id, rfl, rfl⟩, trivial⟩
  | false =>
   rw [if_neg (by rw [hc]; decide), List.append_nil] at hp
   rw [hp]
   exact .stop _ _ _ _ [4] _ _ _ (app11P rpX0 k e p s n b r l (out6 k (v6 e p s n b r) 6) m d) ⟨hc, trivial⟩ (by decide : ([0, 4] : List Nat).Nodup) ⟨⟨rfl, rfl, rfl, rfl, Nat.le_refl _, Nat.le_refl _⟩, ⟨rfl, rfl⟩, trivial⟩ ⟨⟨id, rfl, rfl⟩, ⟨id, rfl, rfl⟩, trivial⟩
theorem rput_ok (hmd : m ≤ d) (hm : m ≤ l.length) (h : textR k [e, p, s, n, b] r m) : Works Try.prog 18 [txtA k e p s n b r m d] [roH l] (okV1 (putS k [e, p, s, n, b] r (l.take m)).length) [roH l, oB (putS k [e, p, s, n, b] r (l.take m))] := by
 obtain ⟨⟨h1, h2, h3⟩, hf⟩ := text_six.1 h
 refine works_loop (I := Nat) (Inv := fun i => TP k e p s n b r l m d (out6 k (v6 e p s n b r) i) i) (good := fun i => i ≤ 6) (μ := fun i => 6 - i) (i := 0) (r := [1, 2, 4, 3]) (callJp_ok 4) funJp bodJp (by exact tmpJp) (fun _ _ => ⟨rfl, rfl⟩) (app10 rpE0 k e p s n b r l m d) ⟨h1, by rw [decide_eq_true h]; rfl, trivial⟩ ⟨(by decide : ([0, 1, 2, 4, 3] : List Nat).Nodup), ?_, ?_⟩ (Nat.zero_le _) (rput_step hmd hm h2 hf)
 ·exact ⟨⟨rfl, rfl, rfl, rfl, rfl⟩, ⟨rfl, rfl, rfl, rfl, rfl, Nat.le_refl _, Nat.le_refl _⟩, ⟨rfl, rfl, rfl, rfl, rfl, Nat.le_refl _, Nat.le_refl _⟩, ⟨rfl, rfl, rfl, rfl, rfl, Nat.le_refl _, Nat.le_refl _⟩, ⟨rfl, rfl, rfl⟩, trivial⟩
 ·exact ⟨⟨id, rfl, rfl⟩, ⟨id, txt_le rfl _ _ _ _ _ _ _ hmd⟩, ⟨id, sbs_le _ _⟩, ⟨id, six_le ..⟩, ⟨id, ⟨rfl, rfl⟩, trivial⟩, trivial⟩
theorem rput_bad (h : ¬ textR k [e, p, s, n, b] r m) : Works Try.prog 18 [txtA k e p s n b r m d] [roH l] badV [roH l] :=
 works_end (callJp_ok 4) funJp bodJp (by exact tmpJp) (r := []) (app10 rpB k e p s n b r l m d) ⟨by rw [decide_eq_false h]; rfl, trivial⟩ (by decide : ([0] : List Nat).Nodup) ⟨trivial, ⟨rfl, rfl⟩, trivial⟩ ⟨⟨id, rfl, rfl⟩, trivial⟩
end
theorem rput_tab : TabOk Try.prog 18 (locH wantH (gPt putS)) := locH_ok
 (loc_ok fun xs bs v bs' ob hg hob hokb => by
  change gPtT putS _ _ = _ at hg
  unfold gPtT at hg
  split at hg
  ·rename_i k e p s n b r m d l
   cases hg
   intro ρ K w us hm hu
   exact rput_ok (d := d.v) (put_cap hu) (hob (m.v ≤ l.length) (by simp)) (hob (textR k [e, p, s, n, b] r m.v) (by simp)) ρ K w us hm hu
  ·cases hg)
 (loc_ok fun xs bs v bs' ob hg hob hokb => by
  change gPtF _ _ = _ at hg
  unfold gPtF at hg
  split at hg
  ·rename_i k e p s n b r m d l
   cases hg
   intro ρ K w us hm hu
   exact rput_bad (d := d.v) (hob (¬ textR k [e, p, s, n, b] r m.v) (by simp)) ρ K w us hm hu
  ·cases hg)
end Go.Proofs.Ytbamfolinbehiaa
end
