/- The symbolic evaluator: a block that is none, put behind what a run has come to. -/
import Derived.Test.YtjnnfehepbicfaaSxAG
namespace Go.Sx
open Go Go.RowKit
section
variable {ds : List Deferred}
variable {P : Program} {f : FuncId} {fn : Func} {call : CallFn} {eff : FuncId → Bool} {R : Ending → World → Prop}
def ghS (ks : List IntKind) : SB := ⟨true, .recB ks []⟩
/-- such a block behind -/
def gst (ks : List IntKind) : Out → Out
  | .stop k S => .stop k { S with m := S.m ++ [ghS ks] }
  | .done v m h ob => .done v (m ++ [ghS ks]) h ob
  | .bad => .bad
theorem MemRel.ghost {ρ : Env} {K : KZ} {W w : World} {m : List SB} (hm : MemRel ρ K W w m) (ks : List IntKind) : MemRel (ρ ++ [⟨0, 0, 0⟩]) K W w (m ++ [ghS ks]) :=
  hm.beside (ghost_rel w (.recB ks []) (fun ρ g i r h => by simp at h) rfl) rfl
theorem RelD.ghost {ρ : Env} {K : KZ} {W w : World} {n : Nat} {S : St} {a : Act} (h : RelD ds ρ K W n S a w) (ks : List IntKind) : RelD ds (ρ ++ [⟨0, 0, 0⟩]) K W n { S with m := S.m ++ [ghS ks] } a w :=
  ⟨⟨h.sl.size, h.sl.defers, fun t v hv => V.rel_app _ (h.sl.slot t v hv)⟩, h.m.ghost ks⟩
theorem goes_stopG (hc : CallOk P call) (hf : P.funcs[f]? = some fn) {ρ0 : Env} {B : KZ} {W : World} {lim n : Nat} {ls : List Bool} {k k' : List Item} {S T : St} {ks r : List Nat} {a : Slots} {b : List SB} {ob : List Prop} (gk : List IntKind)
    (hv : stopV ks (List.range ρ0.length ++ r) (gst gk (run P call eff fn lim n ls k S)) = some (k', a, b, ob)) (hob : allP ob) (hle : leView (List.range ρ0.length ++ r) a b T)
    (hk : ∀ ρ' a w, RelD ds (ρ0 ++ ρ') B W fn.ntmps T a w → Goes P f R k' a w) {ρ' : Env} {ac : Act} {w : World} (hr : RelD ds (ρ0 ++ ρ') B W fn.ntmps S ac w) : Goes P f R k ac w := by
  obtain ⟨S', hrun, hob', hle'⟩ := stopV_spec hv
  cases hrr : run P call eff fn lim n ls k S with
  | done v m h ob => rw [hrr] at hrun; cases hrun
  | bad => rw [hrr] at hrun; cases hrun
  | stop k2 S2 =>
    rw [hrr] at hrun
    injection hrun with h1 h2
    subst h1; subst h2
    refine run_sound hc hf (lim := lim) n ls k S (ρ0 ++ ρ') ac w (by rw [hrr]; exact allP_mem (by rw [hob']; exact hob)) ?_ hr
    rw [hrr]
    intro a' w' ρ'' hr'
    obtain ⟨ρ2, h1, h2⟩ := RelD.le (hr'.ghost gk) (hle' T hle)
    rw [List.append_assoc, List.append_assoc] at h1
    obtain ⟨ρ3, rfl⟩ := h1.front
    exact hk ρ3 a' w' h2
/-- a contract of a function with one loop, ahead of which such a block is put -/
theorem works_loopG (hc : CallOk P call) (hf : P.funcs[f]? = some fn) {c : Code} (hb : fn.body = some c) {args : List V} (hn : args.length ≤ fn.ntmps) {bs bs' : List SB} {v : V} (gk : List IntKind)
    {x : Code} {k : List Item} {I : Type} {Inv : I → List Bool → St} {good : I → Prop} {μ : I → Nat}
    (hi : ∀ i h, (Inv i h).sl = (Inv i []).sl ∧ (Inv i h).m = (Inv i []).m)
    {h ls : List Bool} {lim fuel : Nat} {ks r : List Nat} {a : Slots} {b : List SB} {ob : List Prop} {i : I}
    (he : stopV ks (List.range bs.length ++ r) (gst gk (run P call eff fn lim fuel ls [.code c] ⟨argSlots 0 args, bs, h, []⟩)) = some (.code (.loop x) :: k, a, b, ob)) (hob : allP ob)
    (hle : leView (List.range bs.length ++ r) a b (Inv i [])) (hg : good i)
    (hs : ∀ i, good i → Step P call eff fn x k bs.length Inv good μ v bs' i) : Works P f args bs v bs' := by
  refine works_goes hf hb hn fun ρ K W a1 w1 hρ hr => ?_
  rw [← hρ] at he hle
  refine goes_stopG (ρ0 := ρ) hc hf gk he hob hle (fun ρ2 a2 w2 h2 => loop_goes hc hf hi hs hρ hg h2) (hr.hints (S' := ⟨argSlots 0 args, bs, h, []⟩) rfl rfl)
/-- what a call gives, such a block behind -/
def gret (ks : List IntKind) : Option CallR → Option CallR
  | some (v, m, h, ob) => some (v, m ++ [ghS ks], h, ob)
  | none => none
theorem makes_ofG {T : FuncId → Option (List V → List SB → List Bool → Option CallR)} (hT : ∀ f g, T f = some g → TabOk P f g) {fuel d : Nat} {args : List V} {h : List Bool} {sel : List Nat} (gk : List IntKind)
    {v0 v : V} {b0 bs : List SB} {ob : List Prop} (hr : retV sel (gret gk (callN P T eff fuel d f args [] h)) = some (v0, b0, ob)) (hob : allP ob) (hnd : sel.Nodup) (hv : leV sel v0 v) (hb : leBs sel b0 bs)
    {us : List Value} (hu : relVs [] args us) : Makes P f us v bs := by
  intro w
  cases hc : callN P T eff fuel d f args [] h with
  | none => rw [hc] at hr; cases hr
  | some x =>
    obtain ⟨v1, m1, h1, ob1⟩ := x
    rw [hc] at hr
    simp only [gret, retV] at hr
    split at hr
    · rename_i b1 hb1
      injection hr with hr; injection hr with e1 e2; injection e2 with e2 e3
      subst e1; subst e2; subst e3
      refine (callN_sound hT d f args [] h _ _ _ _ hc (allP_mem hob) [] _ w w us (MemRel.nil w) hu).mono fun e w' ⟨u, ρ', he, huv, hm'⟩ => ?_
      rw [List.nil_append] at huv hm'
      have hrel : RelD [] (ρ' ++ [⟨0, 0, 0⟩]) (upto w) w 0 ⟨[], m1 ++ [ghS gk], [], []⟩ { tmps := #[], defers := [] } w' := ⟨⟨rfl, rfl, fun t v h => by cases h⟩, hm'.ghost gk⟩
      obtain ⟨ρ2, hs, hr2⟩ := hrel.le (sel := sel) (T := ⟨[], bs, [], []⟩) ⟨hnd, trivial, viewM_le hb1 hb⟩
      exact ⟨u, ρ2, he, leV_rel hs hv (V.rel_app _ huv), hr2.m⟩
    · cases hr
/-- a contract, by a run, such a block behind -/
theorem works_ofG {T : FuncId → Option (List V → List SB → List Bool → Option CallR)} (hT : ∀ f g, T f = some g → TabOk P f g) {fuel d : Nat} {args : List V} {bs : List SB} {h : List Bool} {r : List Nat} (gk : List IntKind)
    {v0 v : V} {b0 bs' : List SB} {ob : List Prop} (hr : retV (List.range bs.length ++ r) (gret gk (callN P T eff fuel d f args bs h)) = some (v0, b0, ob)) (hob : allP ob) (hnd : (List.range bs.length ++ r).Nodup)
    (hv : leV (List.range bs.length ++ r) v0 v) (hb : leBs (List.range bs.length ++ r) b0 bs') : Works P f args bs v bs' := by
  intro ρ K w us hm hu
  cases hc : callN P T eff fuel d f args bs h with
  | none => rw [hc] at hr; cases hr
  | some x =>
    obtain ⟨v1, m1, h1, ob1⟩ := x
    rw [hc] at hr
    simp only [gret, retV] at hr
    split at hr
    · rename_i b1 hb1
      injection hr with hr; injection hr with e1 e2; injection e2 with e2 e3
      subst e1; subst e2; subst e3
      refine (callN_sound hT d f args bs h _ _ _ _ hc (allP_mem hob) ρ K w w us hm hu).mono fun e w' ⟨u, ρ', he, huv, hm'⟩ => ?_
      have hrel : RelD [] ((ρ ++ ρ') ++ [⟨0, 0, 0⟩]) K w 0 ⟨[], m1 ++ [ghS gk], [], []⟩ { tmps := #[], defers := [] } w' := ⟨⟨rfl, rfl, fun t v h => by cases h⟩, hm'.ghost gk⟩
      obtain ⟨ρ2, hs, hr2⟩ := hrel.le (sel := List.range bs.length ++ r) (T := ⟨[], bs', [], []⟩) ⟨hnd, trivial, viewM_le hb1 hb⟩
      have hs' := hs
      rw [← hm.len, List.append_assoc] at hs
      obtain ⟨ρ3, rfl⟩ := hs.front
      exact ⟨u, ρ3, he, leV_rel hs' hv (V.rel_app _ huv), hr2.m⟩
    · cases hr
end
end Go.Sx
