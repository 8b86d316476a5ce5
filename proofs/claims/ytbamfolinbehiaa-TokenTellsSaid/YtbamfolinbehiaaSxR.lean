/- The symbolic evaluator: one operation with its guard; lists of operations. -/
import Derived.Test.YtbamfolinbehiaaSxQ
namespace Go.Sx
open Go Go.RowKit
section
variable {ds : List Deferred}
variable {P : Program} {ρ : Env}
def Kd.ext : Kd → Bool
 | .no => false
 | _ => true
theorem evRW_ext {B : Nat → Prop} {W w : World} {m : List SB} (hm : MemRel ρ B W w m) {n : Nat} {sl : Slots} {a : Act} (hs : SlotsRel ds ρ n sl a) {o : Oper} {v : Option V} {m' : List SB} {h h' : List Bool} {ps : List Prop}
  {eff : FuncId → Bool} (hk : (kindOf P eff o.op).ext = true)
  (hev : evRW P m sl h o.op = some (v, m', h', ps)) (hp : ∀ p ∈ ps, p) : Fresh P B W w (execOp a.eval o) ρ v m' := by
 unfold execOp
 generalize o.op = op at hev hk
 unfold evRW at hev
 split at hev
 -- makeMap
 ·split at hev
  ·rename_i kk hkk hr
   injection hev with hev; injection hev with e1 e2; injection e2 with e2 e3
   subst e1; subst e2
   exact makeMap_sound hm hs hkk hr
  ·cases hev
 ·cases hk
 ·cases hk
 -- alloc
 ·split at hev
  ·rename_i z hz
   injection hev with hev; injection hev with e1 e2; injection e2 with e2 e3
   subst e1; subst e2
   exact alloc_sound hm hz true (.tuple #[]) rfl
  ·cases hev
 -- box
 ·split at hev
  ·rename_i y hy
   injection hev with hev; injection hev with e1 e2; injection e2 with e2 e3
   subst e1; subst e2
   exact box_sound hm (evO_rel hs hy)
  ·cases hev
 -- buildSlice
 ·split at hev
  ·rename_i e ht
   split at hev
   ·rename_i inf z qs hi hz hps
    split at hev
    ·rename_i hg
     simp only [Bool.and_eq_true] at hg
     split at hev
     ·rename_i l hf
      injection hev with hev; injection hev with e1 e2; injection e2 with e2 e3
      subst e1; subst e2
      exact buildSlice_sound hm hs ht hi hz hps (Nat.le_of_ble_eq_true hg.1.1) (Nat.eq_of_beq_eq_true hg.1.2) (Nat.le_of_ble_eq_true hg.2) hf
     ·cases hev
    ·cases hev
   ·cases hev
  ·cases hev
 -- store
 ·cases hk
 -- makeSlice
 ·split at hev
  ·rename_i x y hx hy
   exact evMake_sound hm hev hp (cOf_rel hs hx).1 (cOf_rel hs hy).1
  ·cases hev
 -- convert
 ·rename_i src dst x
  split at hev
  ·rename_i c hx
   have hc := (cOf_rel hs hx).1
   split at hev
   ·rename_i hb
    obtain ⟨e, e', h1, h2⟩ := bothSl_spec hb
    simp only [kindOf, h1, h2] at hk
    cases hk
   have hkind : (∃ e, P.underlying src = some (.slice e)) ∨ P.underlying src = some .string := by
    unfold evConvW at hev
    split at hev
    ·rename_i e h1 _; exact .inl ⟨e, h1⟩
    ·rename_i e h1 _; exact .inr h1
    ·cases hev
   rcases hkind with hk | hk
   ·obtain ⟨rfl, r, rfl, u, hu, hr⟩ := toStr_sound hm hk hev hp hc
    exact ⟨_, w, [], hr w (Ext.refl w), ⟨u, rfl, by rw [List.append_nil]; exact hu⟩, by rw [List.append_nil]; exact hm, Ext.refl w⟩
   ·exact toBytes_sound hm hk hev hp hc
  ·cases hev
 -- builtins
 ·split at hev
  ·cases hk
  ·cases hk
  ·cases hev
 ·cases hev
theorem RelD.put {B : Nat → Prop} {W w : World} {n : Nat} {S S' : St} {a : Act} {d : Option Tmp} {v : V} {u : Value} (h : putS n S d v = some S') (hr : RelD ds ρ B W n S a w) (hv : v.rel ρ u) :
  RelD ds ρ B W n S' (a.put d u) w := by
 obtain ⟨h1, _, h3⟩ := putS_sound (ρ := ρ) h
 exact ⟨h3 hr.sl hv, by rw [h1]; exact hr.m⟩
theorem putS_ob {n : Nat} {S S' : St} {d : Option Tmp} {v : V} (h : putS n S d v = some S') : S'.ob = S.ob := (putS_sound (ds := []) (ρ := []) h).2.1
theorem undefV_rel : undefV.rel ρ undef := ⟨[], rfl, rfl⟩
theorem doOp_ob {call : CallFn} {eff : FuncId → Bool} {n : Nat} {o : Oper} {S S' : St} (h : doOp P call eff n o S = some S') : ∀ p ∈ S.ob, p ∈ S'.ob := by
 unfold doOp at h
 split at h
 ·cases h
 ·rename_i S1 h1
  have hp := (preDecide_sound (ds := []) (ρ := []) (n := n) h1).2.1
  split at h
  ·intro p hp'; rw [putS_ob h]; simp [hp p hp']
  ·split at h
   ·intro p hp'; rw [putS_ob h]; simp [hp p hp']
   ·intro p hp'; rw [putS_ob h]; simp [hp p hp']
   ·split at h
    ·split at h
     ·intro p hp'; rw [putS_ob h]; simp [hp p hp']
     ·cases h
    ·cases h
theorem doOp_sound {call : CallFn} (hc : CallOk P call) {eff : FuncId → Bool} {n : Nat} {o : Oper} {S S' : St} (h : doOp P call eff n o S = some S') (hob : ∀ p ∈ S'.ob, p)
  {B : Nat → Prop} {W w : World} {a : Act} (hr : RelD ds ρ B W n S a w) {K : Act → World → Prop} {Q : Exit → Act → World → Prop}
  (hK : ∀ a' w' ρ', ((kindOf P eff o.op).ext = true → Ext w w') → RelD ds (ρ ++ ρ') B W n S' a' w' → K a' w') : o.wp P a w K Q := by
 unfold doOp at h
 split at h
 ·cases h
 ·rename_i S1 h1
  obtain ⟨hm1, hob1, hs1⟩ := preDecide_sound (ρ := ρ) (n := n) h1
  split at h
  ·rename_i v ps hev
   have hobe := putS_ob h
   rw [hobe] at hob
   have hs := hs1 (fun p hp => hob p (by simp [hp])) hr.sl
   have hm : MemRel ρ B W w S1.m := by rw [hm1]; exact hr.m
   obtain ⟨u, hu, hrun⟩ := evROw_sound hm hs hev (fun p hp => hob p (by simp [hp]))
   unfold Oper.wp
   rw [hrun w (fun _ => Ext.refl w)]
   refine hK _ w [] (fun _ => Ext.refl w) ?_
   rw [List.append_nil]
   exact RelD.put h ⟨hs, hm⟩ hu
  ·rename_i hno
   split at h
   ·rename_i v m' hh ps hev
    have hobe := putS_ob h
    rw [hobe] at hob
    have hs := hs1 (fun p hp => hob p (by simp [hp])) hr.sl
    have hm : MemRel ρ B W w S1.m := by rw [hm1]; exact hr.m
    obtain ⟨x, w', ρ', hrun, hx, hm', hext⟩ : ∃ x w' ρ', (execOp a.eval o).run P w = .ok x w' ∧ nextOf (some v) (ρ ++ ρ') x ∧ MemRel (ρ ++ ρ') B W w' m' ∧ ((kindOf P eff o.op).ext = true → Ext w w') := by
     cases hkk : (kindOf P eff o.op).ext with
     | true =>
      obtain ⟨x, w', ρ', k1, k2, k3, k4⟩ := evRW_ext hm hs hkk hev (fun p hp => hob p (by simp [hp]))
      exact ⟨x, w', ρ', k1, k2, k3, fun _ => k4⟩
     | false =>
      obtain ⟨x, w', ρ', k1, k2, k3⟩ := evRW_sound hm hs hev (fun p hp => hob p (by simp [hp]))
      exact ⟨x, w', ρ', k1, k2, k3, fun h => by cases h⟩
    obtain ⟨u, rfl, hu⟩ := hx
    unfold Oper.wp
    rw [hrun]
    exact hK _ w' ρ' hext (RelD.put h ⟨hs.app ρ', hm'⟩ hu)
   ·rename_i m' hh ps hev
    have hobe := putS_ob h
    rw [hobe] at hob
    have hs := hs1 (fun p hp => hob p (by simp [hp])) hr.sl
    have hm : MemRel ρ B W w S1.m := by rw [hm1]; exact hr.m
    obtain ⟨x, w', ρ', hrun, hx, hm', hext⟩ : ∃ x w' ρ', (execOp a.eval o).run P w = .ok x w' ∧ nextOf none (ρ ++ ρ') x ∧ MemRel (ρ ++ ρ') B W w' m' ∧ ((kindOf P eff o.op).ext = true → Ext w w') := by
     cases hkk : (kindOf P eff o.op).ext with
     | true =>
      obtain ⟨x, w', ρ', k1, k2, k3, k4⟩ := evRW_ext hm hs hkk hev (fun p hp => hob p (by simp [hp]))
      exact ⟨x, w', ρ', k1, k2, k3, fun _ => k4⟩
     | false =>
      obtain ⟨x, w', ρ', k1, k2, k3⟩ := evRW_sound hm hs hev (fun p hp => hob p (by simp [hp]))
      exact ⟨x, w', ρ', k1, k2, k3, fun h => by cases h⟩
    simp only [nextOf] at hx
    subst hx
    unfold Oper.wp
    rw [hrun]
    exact hK _ w' ρ' hext (RelD.put h ⟨hs.app ρ', hm'⟩ undefV_rel)
   ·split at h
    ·rename_i f args hcal
     split at h
     ·rename_i v m' hh ps htm hd
      have hobe := putS_ob h
      rw [hobe] at hob
      have hs := hs1 (fun p hp => hob p (by simp [hp])) hr.sl
      have hm : MemRel ρ B W w S1.m := by rw [hm1]; exact hr.m
      obtain ⟨us, hus, hrun⟩ := callee_sound hs hcal w
      have hcalls := doCall_sound hc hd (fun p hp => hob p (by simp [hp])) hm hus
      have heff : (kindOf P eff o.op).ext = true → eff f = false := by
       intro hk
       revert hcal hk htm
       generalize o.op = op
       intro hk htm hcal
       unfold callee at hk
       split at hk
       ·rename_i fo xs tys
        split at hk
        ·rename_i g caps l hf hl
         split at hk
         ·injection hk with hk; injection hk with e1 e2; subst e1
          cases fo with
          | func g' =>
           simp only [evO, Option.some.injEq, V.v.injEq, V1.one.injEq, C.clos.injEq] at hf
           rw [← hf.1]
           simp only [kindOf] at hcal
           cases he : eff g' with
           | false => rfl
           | true => rw [he] at hcal; cases hcal
          | tmp t =>
           simp only [kindOf] at hcal
           simp only [tmpOk] at htm
           cases hz : eff 4294967293 with
           | false => rw [hz] at hcal; cases hcal
           | true =>
            rw [hz] at htm
            simpa using htm
          | const v => cases hcal
          | global v => cases hcal
         ·cases hk
        ·cases hk
       ·cases hk
      unfold Oper.wp
      rw [hrun]
      refine hcalls.mono fun e w' hR => ?_
      obtain ⟨u, ρ', rfl, hu, hm', hx⟩ := hR
      exact hK _ w' ρ' (fun hk => hx (heff hk)) (RelD.put h ⟨hs.app ρ', hm'⟩ hu)
     ·cases h
    ·cases h
theorem doOper_ob {call : CallFn} {eff : FuncId → Bool} {n : Nat} {all : Array Oper} {o : Oper} {S S' : St} (h : doOper P call eff n all o S = some S') : ∀ p ∈ S.ob, p ∈ S'.ob := by
 unfold doOper at h
 split at h
 ·rename_i S1 hg
  have h1 := (guardOf_sound (ds := []) (ρ := []) (n := n) hg).2.1
  intro p hp
  exact doOp_ob h p (h1 p hp)
 ·rename_i S1 hg
  have h1 := (guardOf_sound (ds := []) (ρ := []) (n := n) hg).2.1
  intro p hp
  rw [putS_ob h]
  exact h1 p hp
 ·cases h
theorem doOper_sound {call : CallFn} (hc : CallOk P call) {eff : FuncId → Bool} {n : Nat} {all : Array Oper} {o : Oper} {S S' : St} (h : doOper P call eff n all o S = some S') (hob : ∀ p ∈ S'.ob, p)
  {B : Nat → Prop} {W w : World} {a : Act} (hr : RelD ds ρ B W n S a w) {K : Act → World → Prop} {Q : Exit → Act → World → Prop}
  (hK : ∀ a' w' ρ', ((kindOf P eff o.op).ext = true → Ext w w') → RelD ds (ρ ++ ρ') B W n S' a' w' → K a' w') :
  if Region.wanted o (yielded all a.tmps) then o.wp P a w K Q else K (a.put o.dst undef) w := by
 unfold doOper at h
 split at h
 ·rename_i S1 hg
  obtain ⟨h1, h2, h3⟩ := guardOf_sound (ρ := ρ) (n := n) hg
  obtain ⟨hs, hw⟩ := h3 (fun p hp => hob p (doOp_ob h p hp)) hr.sl
  rw [if_pos hw]
  exact doOp_sound hc h hob ⟨hs, by rw [h1]; exact hr.m⟩ hK
 ·rename_i S1 hg
  obtain ⟨h1, h2, h3⟩ := guardOf_sound (ρ := ρ) (n := n) hg
  obtain ⟨hs, hw⟩ := h3 (fun p hp => hob p (by rw [putS_ob h]; exact hp)) hr.sl
  rw [hw, if_neg (by simp)]
  refine hK _ w [] (fun _ => Ext.refl w) ?_
  rw [List.append_nil]
  exact RelD.put h ⟨hs, by rw [h1]; exact hr.m⟩ undefV_rel
 ·cases h
theorem doList_ob {call : CallFn} {eff : FuncId → Bool} {n : Nat} {all : Array Oper} : ∀ {l : List Oper} {S S' : St}, doList P call eff n all l S = some S' → ∀ p ∈ S.ob, p ∈ S'.ob
 | [], S, S', h => by simp only [doList, Option.some.injEq] at h; subst h; exact fun _ h => h
 | o :: r, S, S', h => by
  simp only [doList] at h
  split at h
  ·rename_i S1 h1
   exact fun p hp => doList_ob h p (doOper_ob h1 p hp)
  ·cases h
theorem doList_sound {call : CallFn} (hc : CallOk P call) {eff : FuncId → Bool} {n : Nat} {all : Array Oper} {B : Nat → Prop} {W : World} {Q : Exit → Act → World → Prop} :
  ∀ {l : List Oper} {S S' : St} {ρ : Env} {a : Act} {w : World}, doList P call eff n all l S = some S' → (∀ p ∈ S'.ob, p) → RelD ds ρ B W n S a w →
   (∀ a' w' ρ', RelD ds (ρ ++ ρ') B W n S' a' w' → Q .normal a' w') → wpList P all Q l a w
 | [], S, S', ρ, a, w, h, hob, hr, hQ => by
  simp only [doList, Option.some.injEq] at h; subst h
  exact hQ a w [] (by rw [List.append_nil]; exact hr)
 | o :: r, S, S', ρ, a, w, h, hob, hr, hQ => by
  simp only [doList] at h
  split at h
  ·rename_i S1 h1
   refine wpList_step fun K hK => doOper_sound hc h1 (fun p hp => hob p (doList_ob h p hp)) hr fun a' w' ρ' _ hr' => hK _ _ ?_
   exact doList_sound hc h hob hr' fun a'' w'' ρ'' h' => hQ a'' w'' (ρ' ++ ρ'') (by rw [← List.append_assoc]; exact h')
  ·cases h
end
end Go.Sx
