/- The symbolic evaluator: a loop within a loop. -/
import Derived.Test.YtjjjpflnhagfcaaSxAH
namespace Go.Sx
open Go Go.RowKit
section
variable {ds : List Deferred}
variable {P : Program} {f : FuncId} {fn : Func} {call : CallFn} {eff : FuncId → Bool}
/-- one step of the inner loop: a round to a nearer state, or out of it and round again to its beginning in a nearer state, or the function's end -/
inductive Step2 (P : Program) (call : CallFn) (eff : FuncId → Bool) (fn : Func) (x : Code) (k : List Item) {I : Type} (n : Nat) (Inv : I → List Bool → St) (good : I → Prop) (μ : I → Nat) (v : V) (bs' : List SB) (i : I) : Prop
  | round (h ls : List Bool) (lim fuel : Nat) (ks r : List Nat) (a : Slots) (b : List SB) (ob : List Prop) (j : I)
      (hv : stopV ks (List.range n ++ r) (run P call eff fn lim fuel ls (.code x :: .inLoop x :: k) (Inv i h)) = some (.inLoop x :: k, a, b, ob)) (hob : allP ob)
      (hle : leView (List.range n ++ r) a b (Inv j [])) (hj : good j) (hm : μ j < μ i)
  | next (h ls : List Bool) (lim fuel : Nat) (ks r : List Nat) (a : Slots) (b : List SB) (ob : List Prop) (j : I)
      (hv : stopV ks (List.range n ++ r) (run P call eff fn lim fuel ls (.code x :: .inLoop x :: k) (Inv i h)) = some (.code (.loop x) :: k, a, b, ob)) (hob : allP ob)
      (hle : leView (List.range n ++ r) a b (Inv j [])) (hj : good j) (hm : μ j < μ i)
  | stop (h ls : List Bool) (lim fuel : Nat) (r : List Nat) (v0 : V) (b0 : List SB) (ob : List Prop)
      (hv : endV (List.range n ++ r) (run P call eff fn lim fuel ls (.code x :: .inLoop x :: k) (Inv i h)) = some (v0, b0, ob)) (hob : allP ob) (hnd : (List.range n ++ r).Nodup)
      (hv : leV (List.range n ++ r) v0 v) (hb : leBs (List.range n ++ r) b0 bs')
theorem loop2_goes (hc : CallOk P call) (hf : P.funcs[f]? = some fn) {x : Code} {k : List Item} {I : Type} {n : Nat} {Inv : I → List Bool → St} {good : I → Prop} {μ : I → Nat} {v : V} {bs' : List SB}
    (hi : ∀ i h, (Inv i h).sl = (Inv i []).sl ∧ (Inv i h).m = (Inv i []).m)
    (hs : ∀ i, good i → Step2 P call eff fn x k n Inv good μ v bs' i)
    {ρ : Env} {K : KZ} {W : World} (hρ : ρ.length = n) {i : I} (hg : good i) {ρ' : Env} {a : Act} {w : World} (hr : RelD ds (ρ ++ ρ') K W fn.ntmps (Inv i []) a w) :
    Goes P f (RetW ρ K W v bs') (.code (.loop x) :: k) a w := by
  subst hρ
  have key : ∀ (N : Nat) (i : I), μ i < N → good i → ∀ ρ' a w, RelD ds (ρ ++ ρ') K W fn.ntmps (Inv i []) a w → Goes P f (RetW ρ K W v bs') (.code x :: .inLoop x :: k) a w := by
    intro N
    induction N with
    | zero => intro i h; omega
    | succ N ih =>
      intro i hμ hg ρ' a w hr
      cases hs i hg with
      | round h ls lim fuel ks r a' b ob j hv hob hle hj hm =>
        exact goes_stop (ρ0 := ρ) hc hf hv hob hle (fun ρ2 a2 w2 h2 => .step (fun _ => step_inLoop) (ih j (by omega) hj ρ2 a2 w2 h2)) (hr.hints (hi i h).1 (hi i h).2)
      | next h ls lim fuel ks r a' b ob j hv hob hle hj hm =>
        exact goes_stop (ρ0 := ρ) hc hf hv hob hle (fun ρ2 a2 w2 h2 => .step (fun _ => step_loop) (ih j (by omega) hj ρ2 a2 w2 h2)) (hr.hints (hi i h).1 (hi i h).2)
      | stop h ls lim fuel r v0 b0 ob hv hob hnd hle hb =>
        exact goes_retW hc hf hv hob hnd hle hb (hr.hints (hi i h).1 (hi i h).2)
  exact .step (fun _ => step_loop) (key (μ i + 1) i (by omega) hg ρ' a w hr)
/-- a contract of a function with a loop within a loop: the way to the inner one, and its steps -/
theorem works_loop2 (hc : CallOk P call) (hf : P.funcs[f]? = some fn) {c : Code} (hb : fn.body = some c) {args : List V} (hn : args.length ≤ fn.ntmps) {bs bs' : List SB} {v : V}
    {x : Code} {k : List Item} {I : Type} {Inv : I → List Bool → St} {good : I → Prop} {μ : I → Nat}
    (hi : ∀ i h, (Inv i h).sl = (Inv i []).sl ∧ (Inv i h).m = (Inv i []).m)
    {h ls : List Bool} {lim fuel : Nat} {ks r : List Nat} {a : Slots} {b : List SB} {ob : List Prop} {i : I}
    (he : stopV ks (List.range bs.length ++ r) (run P call eff fn lim fuel ls [.code c] ⟨argSlots 0 args, bs, h, []⟩) = some (.code (.loop x) :: k, a, b, ob)) (hob : allP ob)
    (hle : leView (List.range bs.length ++ r) a b (Inv i [])) (hg : good i)
    (hs : ∀ i, good i → Step2 P call eff fn x k bs.length Inv good μ v bs' i) : Works P f args bs v bs' := by
  refine works_goes hf hb hn fun ρ K W a1 w1 hρ hr => ?_
  rw [← hρ] at he hle
  refine goes_stop (ρ0 := ρ) hc hf he hob hle (fun ρ2 a2 w2 h2 => loop2_goes hc hf hi hs hρ hg h2) (hr.hints (S' := ⟨argSlots 0 args, bs, h, []⟩) rfl rfl)
/-- one step of a loop among others: a round to a nearer state, round again to its beginning, or whatever else gets on from there -/
inductive Step3 (P : Program) (f : FuncId) (call : CallFn) (eff : FuncId → Bool) (fn : Func) (x : Code) (k : List Item) {I : Type} (ds : List Deferred) (ρ : Env) (K : KZ) (W : World) (R : Ending → World → Prop) (Inv : I → List Bool → St) (good : I → Prop) (μ : I → Nat) (i : I) : Prop
  | round (h ls : List Bool) (lim fuel : Nat) (ks r : List Nat) (a : Slots) (b : List SB) (ob : List Prop) (j : I)
      (hv : stopV ks (List.range ρ.length ++ r) (run P call eff fn lim fuel ls (.code x :: .inLoop x :: k) (Inv i h)) = some (.inLoop x :: k, a, b, ob)) (hob : allP ob)
      (hle : leView (List.range ρ.length ++ r) a b (Inv j [])) (hj : good j) (hm : μ j < μ i)
  | next (h ls : List Bool) (lim fuel : Nat) (ks r : List Nat) (a : Slots) (b : List SB) (ob : List Prop) (j : I)
      (hv : stopV ks (List.range ρ.length ++ r) (run P call eff fn lim fuel ls (.code x :: .inLoop x :: k) (Inv i h)) = some (.code (.loop x) :: k, a, b, ob)) (hob : allP ob)
      (hle : leView (List.range ρ.length ++ r) a b (Inv j [])) (hj : good j) (hm : μ j < μ i)
  | any (hk : ∀ ρ' a w, RelD ds (ρ ++ ρ') K W fn.ntmps (Inv i []) a w → Goes P f R (.code x :: .inLoop x :: k) a w)
theorem loop3_goes (hc : CallOk P call) (hf : P.funcs[f]? = some fn) {x : Code} {k : List Item} {I : Type} {ρ : Env} {K : KZ} {W : World} {R : Ending → World → Prop} {Inv : I → List Bool → St} {good : I → Prop} {μ : I → Nat}
    (hi : ∀ i h, (Inv i h).sl = (Inv i []).sl ∧ (Inv i h).m = (Inv i []).m)
    (hs : ∀ i, good i → Step3 P f call eff fn x k ds ρ K W R Inv good μ i)
    {i : I} (hg : good i) {ρ' : Env} {a : Act} {w : World} (hr : RelD ds (ρ ++ ρ') K W fn.ntmps (Inv i []) a w) :
    Goes P f R (.code (.loop x) :: k) a w := by
  have key : ∀ (N : Nat) (i : I), μ i < N → good i → ∀ ρ' a w, RelD ds (ρ ++ ρ') K W fn.ntmps (Inv i []) a w → Goes P f R (.code x :: .inLoop x :: k) a w := by
    intro N
    induction N with
    | zero => intro i h; omega
    | succ N ih =>
      intro i hμ hg ρ' a w hr
      cases hs i hg with
      | round h ls lim fuel ks r a' b ob j hv hob hle hj hm =>
        exact goes_stop (ρ0 := ρ) hc hf hv hob hle (fun ρ2 a2 w2 h2 => .step (fun _ => step_inLoop) (ih j (by omega) hj ρ2 a2 w2 h2)) (hr.hints (hi i h).1 (hi i h).2)
      | next h ls lim fuel ks r a' b ob j hv hob hle hj hm =>
        exact goes_stop (ρ0 := ρ) hc hf hv hob hle (fun ρ2 a2 w2 h2 => .step (fun _ => step_loop) (ih j (by omega) hj ρ2 a2 w2 h2)) (hr.hints (hi i h).1 (hi i h).2)
      | any hk => exact hk ρ' a w hr
  exact .step (fun _ => step_loop) (key (μ i + 1) i (by omega) hg ρ' a w hr)
end
end Go.Sx
