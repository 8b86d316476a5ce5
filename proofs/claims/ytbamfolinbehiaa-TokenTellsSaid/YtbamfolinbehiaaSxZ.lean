/- The symbolic evaluator: loops. -/
import Derived.Test.YtbamfolinbehiaaSxX
namespace Go.Sx
open Go Go.RowKit
def loopsOf : Code → List Item → List (Code × List Item)
 | .seq x y, k => loopsOf x (.code y :: k) ++ loopsOf y k
 | .block id c, k => loopsOf c (.inBlock id :: k)
 | .cond _ x y, k => loopsOf x k ++ loopsOf y k
 | .loop c, k => (c, k) :: loopsOf c (.inLoop c :: k)
 | _, _ => []
def nthL : List (Code × List Item) → Nat → Code × List Item
 | [], _ => (.skip, [])
 | x :: _, 0 => x
 | _ :: r, i + 1 => nthL r i
def loopN (P : Program) (f : FuncId) (i : Nat) : Code × List Item :=
 match P.funcs[f]? with
 | some fn => match fn.body with
  | some c => nthL (loopsOf c []) i
  | none => (.skip, [])
 | none => (.skip, [])
def viewSl (sl : Slots) : List Nat → Option Slots
 | [] => some []
 | t :: r => match look sl t with
  | some v => match viewSl sl r with
   | some l => some ((t, v) :: l)
   | none => none
  | none => none
def viewM (m : List SB) : List Nat → Option (List SB)
 | [] => some []
 | b :: r => match m[b]? with
  | some s => match viewM m r with
   | some l => some (s :: l)
   | none => none
  | none => none
def stopV (ks sel : List Nat) : Out → Option (List Item × Slots × List SB × List Prop)
 | .stop k S => match viewSl S.sl ks, viewM S.m sel with
  | some a, some b => some (k, a, b, S.ob)
  | _, _ => none
 | _ => none
def leSlots (sel : List Nat) : Slots → Slots → Prop
 | [], [] => True
 | (t, v) :: r, (t', v') :: r' => (t = t' ∧ leV sel v v') ∧ leSlots sel r r'
 | _, _ => False
def leBs (sel : List Nat) : List SB → List SB → Prop
 | [], [] => True
 | s :: r, s' :: r' => leB sel s s' ∧ leBs sel r r'
 | _, _ => False
def leView (sel : List Nat) (a : Slots) (b : List SB) (T : St) : Prop := sel.Nodup ∧ leSlots sel a T.sl ∧ leBs sel b T.m
theorem viewSl_le {sel : List Nat} {sl : Slots} : ∀ {ks : List Nat} {a T : Slots}, viewSl sl ks = some a → leSlots sel a T → leSl sel sl T
 | [], a, T, h, hl => by
  simp only [viewSl, Option.some.injEq] at h; subst h
  cases T with
  | nil => trivial
  | cons x r => exact hl.elim
 | t :: ks, a, T, h, hl => by
  simp only [viewSl] at h
  split at h
  ·rename_i v hv
   split at h
   ·rename_i l hl'
    injection h with h; subst h
    cases T with
    | nil => exact hl.elim
    | cons x r =>
     obtain ⟨t', v'⟩ := x
     obtain ⟨⟨rfl, h1⟩, h2⟩ := hl
     exact ⟨⟨v, hv, h1⟩, viewSl_le hl' h2⟩
   ·cases h
  ·cases h
theorem viewM_le {sel : List Nat} {m : List SB} : ∀ {bs : List Nat} {b T : List SB}, viewM m bs = some b → leBs sel b T → leM sel m bs T
 | [], b, T, h, hl => by
  simp only [viewM, Option.some.injEq] at h; subst h
  cases T with
  | nil => trivial
  | cons x r => exact hl.elim
 | t :: ks, a, T, h, hl => by
  simp only [viewM] at h
  split at h
  ·rename_i v hv
   split at h
   ·rename_i l hl'
    injection h with h; subst h
    cases T with
    | nil => exact hl.elim
    | cons x r => exact ⟨⟨v, hv, hl.1⟩, viewM_le hl' hl.2⟩
   ·cases h
  ·cases h
theorem stopV_spec {ks sel : List Nat} {o : Out} {k : List Item} {a : Slots} {b : List SB} {ob : List Prop} (h : stopV ks sel o = some (k, a, b, ob)) :
  ∃ S, o = .stop k S ∧ S.ob = ob ∧ ∀ T, leView sel a b T → leSt sel S T := by
 unfold stopV at h
 split at h
 ·rename_i k' S
  split at h
  ·rename_i a' b' h1 h2
   injection h with h; injection h with e1 e2; injection e2 with e2 e3; injection e3 with e3 e4
   subst e1; subst e2; subst e3
   exact ⟨S, rfl, e4, fun T ⟨k1, k2, k3⟩ => ⟨k1, viewSl_le h1 k2, viewM_le h2 k3⟩⟩
  ·cases h
 ·cases h
section
variable {ds : List Deferred}
variable {P : Program} {f : FuncId} {fn : Func} {R : Ending → World → Prop} {call : CallFn} {eff : FuncId → Bool} {B : Nat → Prop} {W : World} {ρ0 : Env}
theorem goes_stop (hc : CallOk P call) (hf : P.funcs[f]? = some fn) {lim n : Nat} {ls : List Bool} {k k' : List Item} {S T : St} {ks r : List Nat} {a : Slots} {b : List SB} {ob : List Prop}
  (hv : stopV ks (List.range ρ0.length ++ r) (run P call eff fn lim n ls k S) = some (k', a, b, ob)) (hob : allP ob) (hle : leView (List.range ρ0.length ++ r) a b T)
  (hk : ∀ ρ' a w, RelD ds (ρ0 ++ ρ') B W fn.ntmps T a w → Goes P f R k' a w) {ρ' : Env} {ac : Act} {w : World} (hr : RelD ds (ρ0 ++ ρ') B W fn.ntmps S ac w) : Goes P f R k ac w := by
 obtain ⟨S', hrun, hob', hle'⟩ := stopV_spec hv
 refine run_sound hc hf (lim := lim) n ls k S (ρ0 ++ ρ') ac w (by rw [hrun]; exact allP_mem (by rw [hob']; exact hob)) ?_ hr
 rw [hrun]
 intro a' w' ρ'' hr'
 obtain ⟨ρ2, h1, h2⟩ := RelD.le hr' (hle' T hle)
 rw [List.append_assoc] at h1
 obtain ⟨ρ3, rfl⟩ := h1.front
 exact hk ρ3 a' w' h2
theorem goes_done (hc : CallOk P call) (hf : P.funcs[f]? = some fn) {lim n : Nat} {ls : List Bool} {k : List Item} {S : St} {v : V} {m : List SB} {h : List Bool} {ob : List Prop}
  (hrun : run P call eff fn lim n ls k S = .done v m h ob) (hob : allP ob) (hR : ∀ u w' ρ', V.rel (ρ0 ++ ρ') v u → MemRel (ρ0 ++ ρ') B W w' m → R (.returned u) w')
  {ρ' : Env} {ac : Act} {w : World} (hr : RelD ds (ρ0 ++ ρ') B W fn.ntmps S ac w) : Goes P f R k ac w := by
 refine run_sound hc hf (lim := lim) n ls k S (ρ0 ++ ρ') ac w (by rw [hrun]; exact allP_mem hob) ?_ hr
 rw [hrun]
 intro u w' ρ'' h1 h2
 exact hR u w' (ρ' ++ ρ'') (by rw [← List.append_assoc]; exact h1) (by rw [← List.append_assoc]; exact h2)
theorem goes_loop {x : Code} {k : List Item} {I : Type} (Inv : I → St) (good : I → Prop) (μ : I → Nat)
  (h : ∀ i, good i → ∀ ρ' a w, RelD ds (ρ0 ++ ρ') B W fn.ntmps (Inv i) a w →
   (∀ j, good j → μ j < μ i → ∀ ρ' a w, RelD ds (ρ0 ++ ρ') B W fn.ntmps (Inv j) a w → Goes P f R (.inLoop x :: k) a w) → Goes P f R (.code x :: .inLoop x :: k) a w)
  {i : I} (hg : good i) {ρ' : Env} {a : Act} {w : World} (hr : RelD ds (ρ0 ++ ρ') B W fn.ntmps (Inv i) a w) : Goes P f R (.code (.loop x) :: k) a w := by
 have key : ∀ (N : Nat) (i : I), μ i < N → good i → ∀ ρ' a w, RelD ds (ρ0 ++ ρ') B W fn.ntmps (Inv i) a w → Goes P f R (.code x :: .inLoop x :: k) a w := by
  intro N
  induction N with
  | zero => intro i h; omega
  | succ N ih =>
   intro i hi hg ρ' a w hr
   exact h i hg ρ' a w hr fun j hj hlt ρ' a w hr' => .step (fun cs => step_inLoop) (ih j (by omega) hj ρ' a w hr')
 exact .step (fun cs => step_loop) (key (μ i + 1) i (by omega) hg ρ' a w hr)
theorem calls_goes (hf : P.funcs[f]? = some fn) {c : Code} (hb : fn.body = some c) {args : List V} (hn : args.length ≤ fn.ntmps) {m : List SB} {h : List Bool} {ob : List Prop} {w : World} {us : List Value} (hm : MemRel ρ0 B W w m) (hu : relVs ρ0 args us)
  (hg : ∀ a w, RelD [] (ρ0 ++ []) B W fn.ntmps ⟨argSlots 0 args, m, h, ob⟩ a w → Goes P f R [.code c] a w) : Calls P f us.toArray w R := by
 intro cs
 have henter : Frame.enter P f us.toArray .normal =
   (At f).at { tmps := us.toArray ++ Array.replicate (fn.ntmps - us.toArray.size) undef, defers := [] } [.code c] := by
  simp [Frame.enter, Frame.at, hf, hb, At]
 rw [henter]
 obtain ⟨e, w', fr, k1, k2, k3, k4⟩ := hg _ _ (by rw [List.append_nil]; exact ⟨args_slots hu hn, hm⟩) cs
 exact ⟨e, w', fr, k1, k2, k3, leavingD_nil k4⟩
end
end Go.Sx
