/- The symbolic evaluator: a loop within a loop. -/
import Derived.Test.YtbamfolinbehiaaSxAH
namespace Go.Sx
open Go Go.RowKit
section
variable {ds : List Deferred}
variable {P : Program} {f : FuncId} {fn : Func} {call : CallFn} {eff : FuncId → Bool}
inductive Step2 (P : Program) (call : CallFn) (eff : FuncId → Bool) (fn : Func) (x : Code) (k : List Item) {I : Type} (n : Nat) (Inv : I → List Bool → St) (good : I → Prop) (μ : I → Nat) (v : V) (bs' : List SB) (i : I) : Prop
 | round (h ls : List Bool) (lim fuel : Nat) (ks r : List Nat) (a : Slots) (b : List SB) (ob : List Prop) (j : I)
   (hv : stopV ks (List.range n ++ r) (run P call eff fn lim fuel ls (.code x :: .inLoop x :: k) (Inv i h)) = some (.inLoop x :: k, a, b, ob)) (hob : allP ob)
   (hle : leView (List.range n ++ r) a b (Inv j [])) (hj : good j) (hm : μ j < μ i)
 | next (h ls : List Bool) (lim fuel : Nat) (ks r : List Nat) (a : Slots) (b : List SB) (ob : List Prop) (j : I)
   (hv : stopV ks (List.range n ++ r) (run P call eff fn lim fuel ls (.code x :: .inLoop x :: k) (Inv i h)) = some (.code (.loop x) :: k, a, b, ob)) (hob : allP ob)
   (hle : leView (List.range n ++ r) a b (Inv j [])) (hj : good j) (hm : μ j < μ i)
 | stop (h ls : List Bool) (lim fuel : Nat) (r : List Nat) (v0 : V) (b0 : List SB) (ob : List Prop)
   (hv : endV (List.range n ++ r) (run P call eff fn lim fuel ls (.code x :: .inLoop x :: k) (Inv i h)) = some (v0, b0, ob)) (hob : allP ob) (hnd : (List.range n ++ r).Nodup)
   (hv : leV (List.range n ++ r) v0 v) (hb : leBs (List.range n ++ r) b0 bs')
inductive Step3 (P : Program) (f : FuncId) (call : CallFn) (eff : FuncId → Bool) (fn : Func) (x : Code) (k : List Item) {I : Type} (ds : List Deferred) (ρ : Env) (K : Nat → Prop) (W : World) (R : Ending → World → Prop) (Inv : I → List Bool → St) (good : I → Prop) (μ : I → Nat) (i : I) : Prop
 | round (h ls : List Bool) (lim fuel : Nat) (ks r : List Nat) (a : Slots) (b : List SB) (ob : List Prop) (j : I)
   (hv : stopV ks (List.range ρ.length ++ r) (run P call eff fn lim fuel ls (.code x :: .inLoop x :: k) (Inv i h)) = some (.inLoop x :: k, a, b, ob)) (hob : allP ob)
   (hle : leView (List.range ρ.length ++ r) a b (Inv j [])) (hj : good j) (hm : μ j < μ i)
 | next (h ls : List Bool) (lim fuel : Nat) (ks r : List Nat) (a : Slots) (b : List SB) (ob : List Prop) (j : I)
   (hv : stopV ks (List.range ρ.length ++ r) (run P call eff fn lim fuel ls (.code x :: .inLoop x :: k) (Inv i h)) = some (.code (.loop x) :: k, a, b, ob)) (hob : allP ob)
   (hle : leView (List.range ρ.length ++ r) a b (Inv j [])) (hj : good j) (hm : μ j < μ i)
 | any (hk : ∀ ρ' a w, RelD ds (ρ ++ ρ') K W fn.ntmps (Inv i []) a w → Goes P f R (.code x :: .inLoop x :: k) a w)
theorem loop3_goes (hc : CallOk P call) (hf : P.funcs[f]? = some fn) {x : Code} {k : List Item} {I : Type} {ρ : Env} {K : Nat → Prop} {W : World} {R : Ending → World → Prop} {Inv : I → List Bool → St} {good : I → Prop} {μ : I → Nat}
  (hi : ∀ i h, (Inv i h).sl = (Inv i []).sl ∧ (Inv i h).m = (Inv i []).m)
  (hs : ∀ i, good i → Step3 P f call eff fn x k ds ρ K W R Inv good μ i)
  {i : I} (hg : good i) {ρ' : Env} {a : Act} {w : World} (hr : RelD ds (ρ ++ ρ') K W fn.ntmps (Inv i []) a w) :
  Goes P f R (.code (.loop x) :: k) a w := by
 have key : ∀ (N : Nat) (i : I), μ i < N → good i → ∀ ρ' a w, RelD ds (ρ ++ ρ') K W fn.ntmps (Inv i []) a w → Goes P f R (.code x :: .inLoop x :: k) a w := by
  intro N
  induction N with
  | zero => intro i h; omega
  | succ N ih =>
   intro i hμ hg ρ' a w hr
   cases hs i hg with
   | round h ls lim fuel ks r a' b ob j hv hob hle hj hm =>
    exact goes_stop (ρ0 := ρ) hc hf hv hob hle (fun ρ2 a2 w2 h2 => .step (fun _ => step_inLoop) (ih j (by omega) hj ρ2 a2 w2 h2)) (hr.hints (hi i h).1 (hi i h).2)
   | next h ls lim fuel ks r a' b ob j hv hob hle hj hm =>
    exact goes_stop (ρ0 := ρ) hc hf hv hob hle (fun ρ2 a2 w2 h2 => .step (fun _ => step_loop) (ih j (by omega) hj ρ2 a2 w2 h2)) (hr.hints (hi i h).1 (hi i h).2)
   | any hk => exact hk ρ' a w hr
 exact .step (fun _ => step_loop) (key (μ i + 1) i (by omega) hg ρ' a w hr)
end
end Go.Sx
