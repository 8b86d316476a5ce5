/- The symbolic evaluator: contracts of functions that hold a loop; copies of slices. -/
import Derived.Test.YtbamfolinbehiaaSxAF
namespace Go.Sx
open Go Go.RowKit
section
variable {ds : List Deferred}
variable {P : Program} {f : FuncId} {fn : Func} {call : CallFn} {eff : FuncId → Bool}
def RetW (ρ : Env) (K : Nat → Prop) (W : World) (v : V) (bs' : List SB) : Ending → World → Prop := fun e w' => ∃ u ρ', e = .returned u ∧ V.rel (ρ ++ ρ') v u ∧ MemRel (ρ ++ ρ') K W w' bs'
def endV (sel : List Nat) : Out → Option (V × List SB × List Prop)
 | .done v m _ ob => match viewM m sel with
  | some b => some (v, b, ob)
  | none => none
 | _ => none
theorem goes_retW (hc : CallOk P call) (hf : P.funcs[f]? = some fn) {ρ : Env} {K : Nat → Prop} {W : World} {lim n : Nat} {ls : List Bool} {k : List Item} {S : St} {r : List Nat} {v0 v : V} {b0 bs' : List SB} {ob : List Prop}
  (hrun : endV (List.range ρ.length ++ r) (run P call eff fn lim n ls k S) = some (v0, b0, ob)) (hob : allP ob) (hnd : (List.range ρ.length ++ r).Nodup)
  (hv : leV (List.range ρ.length ++ r) v0 v) (hb : leBs (List.range ρ.length ++ r) b0 bs') {ρ' : Env} {ac : Act} {w : World} (hr : RelD ds (ρ ++ ρ') K W fn.ntmps S ac w) : Goes P f (RetW ρ K W v bs') k ac w := by
 unfold endV at hrun
 split at hrun
 ·rename_i v1 m1 h1 ob1 hd
  split at hrun
  ·rename_i b1 hb1
   injection hrun with hrun; injection hrun with e1 e2; injection e2 with e2 e3
   subst e1; subst e2; subst e3
   refine goes_done hc hf hd hob (fun u w' ρ'' h1 h2 => ?_) hr
   have hrel : RelD [] (ρ ++ ρ'') K W 0 ⟨[], m1, [], []⟩ { tmps := #[], defers := [] } w' := ⟨⟨rfl, rfl, fun t v h => by cases h⟩, h2⟩
   obtain ⟨ρ2, hs, hr2⟩ := hrel.le (sel := List.range ρ.length ++ r) (T := ⟨[], bs', [], []⟩) ⟨hnd, trivial, viewM_le hb1 hb⟩
   have hs' := hs
   obtain ⟨ρ3, rfl⟩ := hs.front
   exact ⟨u, ρ3, rfl, leV_rel hs' hv h1, hr2.m⟩
  ·cases hrun
 ·cases hrun
theorem works_goes (hf : P.funcs[f]? = some fn) {c : Code} (hb : fn.body = some c) {args : List V} (hn : args.length ≤ fn.ntmps) {bs bs' : List SB} {v : V}
  (hg : ∀ (ρ : Env) K W a w, ρ.length = bs.length → RelD [] (ρ ++ []) K W fn.ntmps ⟨argSlots 0 args, bs, [], []⟩ a w → Goes P f (RetW ρ K W v bs') [.code c] a w) : Works P f args bs v bs' := by
 intro ρ K w us hm hu
 exact calls_goes (h := []) (ob := []) hf hb hn hm hu fun a w' hr => hg ρ K w a w' hm.len hr
inductive Step (P : Program) (call : CallFn) (eff : FuncId → Bool) (fn : Func) (x : Code) (k : List Item) {I : Type} (n : Nat) (Inv : I → List Bool → St) (good : I → Prop) (μ : I → Nat) (v : V) (bs' : List SB) (i : I) : Prop
 | round (h ls : List Bool) (lim fuel : Nat) (ks r : List Nat) (a : Slots) (b : List SB) (ob : List Prop) (j : I)
   (hv : stopV ks (List.range n ++ r) (run P call eff fn lim fuel ls (.code x :: .inLoop x :: k) (Inv i h)) = some (.inLoop x :: k, a, b, ob)) (hob : allP ob)
   (hle : leView (List.range n ++ r) a b (Inv j [])) (hj : good j) (hm : μ j < μ i)
 | stop (h ls : List Bool) (lim fuel : Nat) (r : List Nat) (v0 : V) (b0 : List SB) (ob : List Prop)
   (hv : endV (List.range n ++ r) (run P call eff fn lim fuel ls (.code x :: .inLoop x :: k) (Inv i h)) = some (v0, b0, ob)) (hob : allP ob) (hnd : (List.range n ++ r).Nodup)
   (hv : leV (List.range n ++ r) v0 v) (hb : leBs (List.range n ++ r) b0 bs')
theorem RelD.hints {ρ : Env} {K : Nat → Prop} {W w : World} {n : Nat} {S S' : St} {a : Act} (h : RelD ds ρ K W n S a w) (h1 : S'.sl = S.sl) (h2 : S'.m = S.m) : RelD ds ρ K W n S' a w := ⟨by rw [h1]; exact h.sl, by rw [h2]; exact h.m⟩
theorem loop_goes (hc : CallOk P call) (hf : P.funcs[f]? = some fn) {x : Code} {k : List Item} {I : Type} {n : Nat} {Inv : I → List Bool → St} {good : I → Prop} {μ : I → Nat} {v : V} {bs' : List SB}
  (hi : ∀ i h, (Inv i h).sl = (Inv i []).sl ∧ (Inv i h).m = (Inv i []).m)
  (hs : ∀ i, good i → Step P call eff fn x k n Inv good μ v bs' i)
  {ρ : Env} {K : Nat → Prop} {W : World} (hρ : ρ.length = n) {i : I} (hg : good i) {ρ' : Env} {a : Act} {w : World} (hr : RelD ds (ρ ++ ρ') K W fn.ntmps (Inv i []) a w) :
  Goes P f (RetW ρ K W v bs') (.code (.loop x) :: k) a w := by
 refine goes_loop (ρ0 := ρ) (fun i => Inv i []) good μ ?_ hg hr
 intro i hgi ρ1 a1 w1 hr1 ih
 subst hρ
 cases hs i hgi with
 | round h ls lim fuel ks r a b ob j hv hob hle hj hm =>
  exact goes_stop (ρ0 := ρ) hc hf hv hob hle (fun ρ2 a2 w2 h2 => ih j hj hm ρ2 a2 w2 h2) (hr1.hints (hi i h).1 (hi i h).2)
 | stop h ls lim fuel r v0 b0 ob hv hob hnd hle hb =>
  exact goes_retW hc hf hv hob hnd hle hb (hr1.hints (hi i h).1 (hi i h).2)
theorem works_loop (hc : CallOk P call) (hf : P.funcs[f]? = some fn) {c : Code} (hb : fn.body = some c) {args : List V} (hn : args.length ≤ fn.ntmps) {bs bs' : List SB} {v : V}
  {x : Code} {k : List Item} {I : Type} {Inv : I → List Bool → St} {good : I → Prop} {μ : I → Nat}
  (hi : ∀ i h, (Inv i h).sl = (Inv i []).sl ∧ (Inv i h).m = (Inv i []).m)
  {h ls : List Bool} {lim fuel : Nat} {ks r : List Nat} {a : Slots} {b : List SB} {ob : List Prop} {i : I}
  (he : stopV ks (List.range bs.length ++ r) (run P call eff fn lim fuel ls [.code c] ⟨argSlots 0 args, bs, h, []⟩) = some (.code (.loop x) :: k, a, b, ob)) (hob : allP ob)
  (hle : leView (List.range bs.length ++ r) a b (Inv i [])) (hg : good i)
  (hs : ∀ i, good i → Step P call eff fn x k bs.length Inv good μ v bs' i) : Works P f args bs v bs' := by
 refine works_goes hf hb hn fun ρ K W a1 w1 hρ hr => ?_
 rw [← hρ] at he hle
 refine goes_stop (ρ0 := ρ) hc hf he hob hle (fun ρ2 a2 w2 h2 => loop_goes hc hf hi hs hρ hg h2) (hr.hints (S' := ⟨argSlots 0 args, bs, h, []⟩) rfl rfl)
theorem ghost_rel (w : World) (c : Cells) (hc : ∀ (ρ : Env) (g : Nat → Option Value), c.rel ρ g) (hm : isMapC c = false) : MemRel [⟨0, 0, 0⟩] (upto w) w w [⟨true, c⟩] where
 below := Kept.refl _ _
 base := fun k hk => hk
 len := rfl
 blk := fun i e s he hs => by
  cases i with
  | zero =>
   simp at he hs; subst he; subst hs
   exact fun _ => ⟨#[], 0, (0, 0), .inl rfl, rfl, (fun _ j hj => by simp at hj), hc _ _⟩
  | succ i => simp at he
 own := fun i e s he hs ho hsol => by
  cases i with
  | zero =>
   simp at he hs; subst he; subst hs
   rcases hsol with ⟨_, h⟩ | ⟨kk, l, h⟩
   ·exact absurd h (by simp)
   ·simp only at h; subst h; cases hm
  | succ i => simp at he
 sep := fun i j e e' s s' hne he he' => by
  cases i with
  | zero => cases j with
   | zero => exact absurd rfl hne
   | succ j => simp at he'
  | succ i => simp at he
 maps := fun i e s kk l he hs hc' => by
  cases i with
  | zero => simp at hs; subst hs; simp only at hc'; subst hc'; cases hm
  | succ i => simp at he
 msep := fun i j e e' s s' kk kk' l l' hne he he' => by
  cases i with
  | zero => cases j with
   | zero => exact absurd rfl hne
   | succ j => simp at he'
  | succ i => simp at he
end
end Go.Sx
