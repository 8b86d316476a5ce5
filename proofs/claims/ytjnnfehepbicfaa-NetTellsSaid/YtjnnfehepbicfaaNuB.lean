/- NetTells: the rounds. -/
import Derived.Test.YtjnnfehepbicfaaNuA
import Derived.Test.YtjnnfehepbicfaaSxAK
namespace Go.Proofs.Ytjnnfehepbicfaa
open Go.ChangeShapes Go.WideShapes Go.ChangeAt Go.RowKit Go.Sx
theorem tabU_ok : ∀ f g, tabU f = some g → TabOk Try.prog f g := tabs_ok fun x hx => by
  simp only [List.mem_cons, List.not_mem_nil, or_false] at hx
  rcases hx with rfl | rfl | rfl | rfl | rfl | rfl | rfl | rfl | rfl | rfl | rfl | rfl | rfl | rfl | rfl
  · exact awake_tab
  · exact new_tab
  · exact look_tab
  · exact send_tab
  · exact copy_tab
  · exact drop_tab
  · exact forget_tab
  · exact take_tab
  · exact eq_tab
  · exact rnew_tab
  · exact fly_tab
  · exact find_tab
  · exact forget_tab3
  · exact rsend_tab
  · exact rcopy_tab
theorem callU_ok (d : Nat) : CallOk Try.prog (callU d) := callN_sound tabU_ok d
theorem funU : Try.prog.funcs[4]? = some FU := by kernel_rfl
theorem bodU : FU.body = some (body 4) := by kernel_rfl
theorem tmpU : 2 ≤ FU.ntmps := Nat.le_of_ble_eq_true (by kernel_rfl)
def EndS (W : World) : Ending → World → Prop := fun e w' => e = .returned (.bool true) ∧ Below W.heap.size W w'
theorem keptN {W w' : World} (h : Kept (uptoN W) W w') : Below W.heap.size W w' := ⟨h.os, h.tape, h.output, h.size, h.block⟩
theorem nd {p : Prop} [Decidable p] (h : p) : (!decide p) = false := by rw [decide_eq_true h]; rfl
theorem ap6U {α β γ δ ε ζ : Type} {κ : Type} {f g : α → β → γ → δ → ε → ζ → κ} (h : f = g) (a : α) (b : β) (c : γ) (d : δ) (e : ε) (x : ζ) : f a b c d e x = g a b c d e x := by rw [h]
theorem ap7U {α β γ δ ε ζ η : Type} {κ : Type} {f g : α → β → γ → δ → ε → ζ → η → κ} (h : f = g) (a : α) (b : β) (c : γ) (d : δ) (e : ε) (x : ζ) (y : η) : f a b c d e x y = g a b c d e x y := by rw [h]
/-- what holds at each round's start -/
structure InvU (N : Int) (h : Rws) (E : Int) (i : Nat) : Prop where
  n0 : 1 ≤ N
  w : wf3 E h
  by_ : ∀ r ∈ h, byB r.2
  le : h.length ≤ i
  eE : E ≤ i
  i70 : i ≤ 70
theorem InvU.ok {N : Int} {h : Rws} {E : Int} {i : Nat} (v : InvU N h E i) : okN N (proj h) := by
  have hl := v.le
  have h70 := v.i70
  refine ⟨by have := v.n0; omega, fun r hr => ?_, by rw [proj_len]; omega⟩
  obtain ⟨s, hs, rfl⟩ := List.mem_map.1 (List.mem_reverse.1 hr)
  exact ⟨rfl, (v.w.1 s hs).2⟩
theorem InvU.skip {N : Int} {h : Rws} {E : Int} {i : Nat} (v : InvU N h E i) (hi : i < 70) : InvU N h E (i + 1) := ⟨v.n0, v.w, v.by_, by have := v.le; omega, by have := v.eE; omega, hi⟩
theorem InvU.sub {N : Int} {h g : Rws} {E : Int} {i : Nat} (v : InvU N h E i) (hi : i < 70) (hs : g.Sublist h) : InvU N g E (i + 1) :=
  ⟨v.n0, wf3_sub v.w hs, fun r hr => v.by_ r (hs.subset hr), by have := v.le; have := hs.length_le; omega, by have := v.eE; omega, hi⟩
theorem InvU.join {N : Int} {h : Rws} {E : Int} {i : Nat} (v : InvU N h E i) (hi : i < 70) {f t : Int} {d : List Int} (hd : byB d) (hdl : d.length ≤ 1048576) : InvU N (([E + 1, f, t], d) :: h) (E + 1) (i + 1) := by
  have hl := v.le
  have hE := v.eE
  refine ⟨v.n0, wf3_join v.w hdl (by omega) (by omega), fun r hr => ?_, by rw [List.length_cons]; omega, by omega, hi⟩
  rcases List.mem_cons.1 hr with rfl | hr
  · exact hd
  · exact v.by_ r hr
theorem tk3_eq {h : Rws} {p : Int} (h0 : 0 ≤ p) (h1 : p < h.length) : tk3 h p = out3 h p := by
  have hf := findS_in h0 h1
  have e : (findS h p + 1).toNat = (findS h p).toNat + 1 := by omega
  have e2 : Nat.sub h.length ((findS h p).toNat + 1) = (h.drop ((findS h p).toNat + 1)).length := by rw [List.length_drop]; rfl
  unfold tk3 out3
  rw [e, List.drop_zero, e2, List.take_length]
theorem out3_len {h : Rws} {p : Int} (h0 : 0 ≤ p) (h1 : p < h.length) : (out3 h p).length = (findS h p).toNat + (h.length - (findS h p + 1).toNat) := by
  have hf := findS_in h0 h1
  unfold out3
  rw [List.length_append, List.length_take, List.length_drop]
  omega
theorem proj_eq {h : Rws} {p : Int} (h0 : 0 ≤ p) (h1 : p < h.length) : (row (proj h) p).1.getD 0 0 = (at3 h p).1.getD 1 0 ∧ (row (proj h) p).1.getD 1 0 = (at3 h p).1.getD 2 0 ∧ (row (proj h) p).2 = (at3 h p).2 := by
  rw [proj_at h0 h1]; exact ⟨rfl, rfl, rfl⟩
theorem dropS_no {l : Rws} {q : Int} (h : ¬ (0 ≤ q ∧ q < l.length)) : dropS l q = l := by unfold dropS; rw [if_neg h]
section
variable {ρ0 : Env} {Wd : World} {l h : Rws} {N E : Int} {i : Nat}
theorem fin_le {R1 R2 h1 h2 : Rws} {E1 : Int} {bR bH n1 n2 : Nat} {hs : List Bool} (hnd : ([0, 1, bR, 3, bH] : List Nat).Nodup) (eR : R1 = R2) (eh : h1 = h2) (e1 : n1 = R2.length) (e2 : n2 = h2.length) :
    leView [0, 1, bR, 3, bH] [(1, .v (.one (.slice 0 (.c 0) 5 (.s l.length) (.s l.length)))), (5, .v (.one (.ptr 1 (.c 0) 1 0))), (7, .v (.one (.ptr 3 (.c 0) 1 0))), (9, .v (.one (.sint .i64 (i : Int)))), (19, .v (.one (.int .i64 (-1))))]
      [SB.mk false (.recB k4 l), SB.mk true (.exp [.sint .i64 N, .slice bR (.c 0) 3 (.s n1) (.s n1)]), SB.mk true (.recB k2 R1), SB.mk true (.exp [.sint .i64 N, .sint .i64 E1, .slice bH (.c 0) 4 (.s n2) (.s n2)]), SB.mk true (.recB k3 h1)] (TV l R2 h2 N E1 i (-1) hs) := by
  subst eR; subst eh; subst e1; subst e2
  refine ⟨hnd, ⟨⟨rfl, rfl, rfl, rfl, rfl, Nat.le_refl _, Nat.le_refl _⟩, ⟨rfl, rfl, rfl, rfl, rfl⟩, ⟨rfl, rfl, rfl, rfl, rfl⟩, ⟨rfl, rfl, rfl⟩, ⟨rfl, rfl, rfl⟩, trivial⟩, ?_⟩
  exact ⟨⟨id, rfl, rfl⟩, ⟨id, ⟨rfl, rfl⟩, ⟨rfl, rfl, rfl, rfl, Nat.le_refl _, Nat.le_refl _⟩, trivial⟩, ⟨id, rfl, rfl⟩, ⟨id, ⟨rfl, rfl⟩, ⟨rfl, rfl⟩, ⟨rfl, rfl, rfl, rfl, Nat.le_refl _, Nat.le_refl _⟩, trivial⟩, ⟨id, rfl, rfl⟩, trivial⟩
theorem mU_le : leBs [0, 1, 2, 3, 4] (mU l (proj h) h N E) (mU l (proj h) h N E) :=
  ⟨⟨id, rfl, rfl⟩, ⟨id, ⟨rfl, rfl⟩, ⟨rfl, rfl, rfl, rfl, Nat.le_refl _, Nat.le_refl _⟩, trivial⟩, ⟨id, rfl, rfl⟩, ⟨id, ⟨rfl, rfl⟩, ⟨rfl, rfl⟩, ⟨rfl, rfl, rfl, rfl, Nat.le_refl _, Nat.le_refl _⟩, trivial⟩, ⟨id, rfl, rfl⟩, trivial⟩
theorem nu_check (hρ : ρ0.length = 1) (v : InvU N h E (i + 1)) (hi : i < 70)
    (hk : ∀ ρ' a' w, RelD [] (ρ0 ++ ρ') (uptoN Wd) Wd FU.ntmps (TU l (proj h) h N E (i + 1) []) a' w → Goes Try.prog 4 (EndS Wd) KU a' w)
    {ρ' : Env} {ac : Act} {w : World} (hr : RelD [] (ρ0 ++ ρ') (uptoN Wd) Wd FU.ntmps (TV l (proj h) h N E i (-1) []) ac w) : Goes Try.prog 4 (EndS Wd) EV ac w := by
  have hok := v.ok
  have hw := v.w
  have hl := proj_len h
  have hle := v.le
  refine goes_loop (ρ0 := ρ0) (fun k : Nat => TV l (proj h) h N E i ((k : Int) - 1) []) (fun k => k ≤ h.length + 2) (fun k => h.length + 2 - k) ?_ (i := 0) (Nat.zero_le _) hr
  intro k hg ρ' ac w hri ih
  have hsl : ∀ hs, RelD [] (ρ0 ++ ρ') (uptoN Wd) Wd FU.ntmps (TV l (proj h) h N E i ((k : Int) - 1) hs) ac w := fun hs => ⟨hri.sl, hri.m⟩
  have nxt : leSlots [0, 1, 2, 3, 4] [(1, .v (.one (.slice 0 (.c 0) 5 (.s l.length) (.s l.length)))), (5, .v (.one (.ptr 1 (.c 0) 1 0))), (7, .v (.one (.ptr 3 (.c 0) 1 0))), (9, .v (.one (.sint .i64 (i : Int)))), (19, .v (.one (.sint .i64 ((k : Int) - 1 + 1))))] (TV l (proj h) h N E i (((k + 1 : Nat) : Int) - 1) []).sl :=
    ⟨⟨rfl, rfl, rfl, rfl, rfl, Nat.le_refl _, Nat.le_refl _⟩, ⟨rfl, rfl, rfl, rfl, rfl⟩, ⟨rfl, rfl, rfl, rfl, rfl⟩, ⟨rfl, rfl, rfl⟩, ⟨rfl, rfl, by omega⟩, trivial⟩
  by_cases hx : k = h.length + 2
  · refine goes_stop (ρ0 := ρ0) (r := [1, 2, 3, 4]) (T := TU l (proj h) h N E (i + 1) []) (S := TV l (proj h) h N E i ((k : Int) - 1) [false]) (callU_ok 9) funU (by rw [hρ]; exact ap7U nvX l (proj h) h N E i ((k : Int) - 1)) ?_
      (by rw [hρ]; exact ⟨by decide, ⟨⟨rfl, rfl, rfl, rfl, rfl, Nat.le_refl _, Nat.le_refl _⟩, ⟨rfl, rfl, rfl, rfl, rfl⟩, ⟨rfl, rfl, rfl, rfl, rfl⟩, ⟨rfl, rfl, rfl⟩, trivial⟩, mU_le⟩) hk (hsl _)
    exact ⟨⟨by omega, by omega⟩, decide_eq_false (by omega), rfl, Nat.le_refl _, hw, trivial⟩
  · by_cases hp : 0 ≤ (k : Int) - 1 ∧ (k : Int) - 1 < h.length
    · have hf := findS_in hp.1 hp.2
      have e3 := proj_eq hp.1 hp.2
      refine goes_stop (ρ0 := ρ0) (r := [1, 2, 3, 4]) (T := TV l (proj h) h N E i (((k + 1 : Nat) : Int) - 1) []) (S := TV l (proj h) h N E i ((k : Int) - 1) [true, true, false]) (callU_ok 9) funU (by rw [hρ]; exact ap7U nvY l (proj h) h N E i ((k : Int) - 1)) ?_
        (by rw [hρ]; exact ⟨by decide, nxt, mU_le⟩) (fun ρ' a w hh => ih (k + 1) (by omega) (by omega) ρ' a w hh) (hsl _)
      exact ⟨⟨by omega, by omega⟩, e3, rfl, rfl, by omega, by omega, by omega, decide_eq_false (by omega), rfl, Nat.le_refl _, hw, rfl, Nat.le_refl _, hok, ⟨by omega, by omega⟩, decide_eq_true (by omega), rfl, Nat.le_refl _, hw, trivial⟩
    · have hf := findS_out hp
      refine goes_stop (ρ0 := ρ0) (r := [1, 2, 3, 4]) (T := TV l (proj h) h N E i (((k + 1 : Nat) : Int) - 1) []) (S := TV l (proj h) h N E i ((k : Int) - 1) [true, false, true]) (callU_ok 9) funU (by rw [hρ]; exact ap7U nvN l (proj h) h N E i ((k : Int) - 1)) ?_
        (by rw [hρ]; exact ⟨by decide, nxt, mU_le⟩) (fun ρ' a w hh => ih (k + 1) (by omega) (by omega) ρ' a w hh) (hsl _)
      exact ⟨⟨by omega, by omega⟩, ⟨rfl, rfl⟩, decide_eq_true (by omega), rfl, Nat.le_refl _, hw, rfl, Nat.le_refl _, hok, (fun hc => hp ⟨hc.1, by omega⟩), decide_eq_true (by omega), rfl, Nat.le_refl _, hw, trivial⟩
/-- one round's way -/
def wayU (ρ0 : Env) (Wd : World) (l h : Rws) (N E : Int) (i : Nat) : Prop :=
  ∀ ρ' ac w, RelD [] (ρ0 ++ ρ') (uptoN Wd) Wd FU.ntmps (TU l (proj h) h N E i []) ac w → Goes Try.prog 4 (EndS Wd) (.code LU.1 :: KU) ac w
set_option maxRecDepth 100000 in
theorem nu_s0 (hρ : ρ0.length = 1) (v : InvU N h E i) (hi : i < l.length) (h7 : i < 70) (hd : (xD l i).length ≤ 150) (hb : byB (xD l i)) (hin : inR N (xF l i 1) (xF l i 2)) (hx : xF l i 0 = 0)
    (ih : ∀ h E, InvU N h E (i + 1) → ∀ ρ' a' w, RelD [] (ρ0 ++ ρ') (uptoN Wd) Wd FU.ntmps (TU l (proj h) h N E (i + 1) []) a' w → Goes Try.prog 4 (EndS Wd) KU a' w) : wayU ρ0 Wd l h N E i := by
  intro ρ' ac w hr
  have hok := v.ok
  have hw := v.w
  have hn0 := v.n0
  have hl := proj_len h
  have hle := v.le
  have heE := v.eE
  obtain ⟨⟨f0, f1⟩, t0, t1⟩ := id hin
  have hse : sendE N (xF l i 1) (xF l i 2) (xD l i).length (proj h).length = 0 := by
    unfold sendE
    rw [if_neg (by omega), if_neg (by omega), if_neg (by omega)]
  have v2 : InvU N (([E + 1, xF l i 1, xF l i 2], xD l i) :: h) (E + 1) (i + 1) := v.join h7 hb (by omega)
  refine goes_stop (ρ0 := ρ0) (r := [1, 9, 3, 10]) (T := TV l (proj (([E + 1, xF l i 1, xF l i 2], xD l i) :: h)) (([E + 1, xF l i 1, xF l i 2], xD l i) :: h) N (E + 1) i (-1) []) (S := TU l (proj h) h N E i [true, true, false, true, true, true, false, false, false]) (callU_ok 9) funU (by rw [hρ]; exact ap6U nuS0 l (proj h) h N E i) ?_
    (by rw [hρ]; exact fin_le (by decide) (by rw [proj_cons]; rfl) (rfl) (by rw [proj_len, proj_len]; rfl) (rfl)) (fun ρ' a' w hh => nu_check hρ v2 h7 (ih _ _ v2) hh) ⟨hr.sl, hr.m⟩
  exact ⟨nd (by rw [hl]; rfl), rfl, Nat.le_refl _, v2.w, nd (by omega), ⟨rfl, rfl⟩, rfl, rfl, Nat.le_refl _, rfl, hw, hb, ⟨by omega, by omega, by omega⟩, hin, rfl, Nat.le_refl _, rfl, hok, hse, decide_eq_true hx, decide_eq_false (by omega), hi, by omega, by omega, decide_eq_true (by omega), decide_eq_true (by omega), trivial⟩
set_option maxRecDepth 100000 in
theorem nu_z0 (hρ : ρ0.length = 1) (v : InvU N h E i) (hi : i < l.length) (h7 : i < 70) (hd : (xD l i).length ≤ 150) (hin : ¬ inR N (xF l i 1) (xF l i 2)) (hx : xF l i 0 = 0)
    (ih : ∀ h E, InvU N h E (i + 1) → ∀ ρ' a' w, RelD [] (ρ0 ++ ρ') (uptoN Wd) Wd FU.ntmps (TU l (proj h) h N E (i + 1) []) a' w → Goes Try.prog 4 (EndS Wd) KU a' w) : wayU ρ0 Wd l h N E i := by
  intro ρ' ac w hr
  have hok := v.ok
  have hw := v.w
  have hn0 := v.n0
  have hl := proj_len h
  have hle := v.le
  have heE := v.eE
  have hse : sendE N (xF l i 1) (xF l i 2) (xD l i).length (proj h).length = 2 := by
    unfold sendE inR at *
    rw [if_pos (by omega)]
  have v2 : InvU N (h) (E) (i + 1) := v.skip h7
  refine goes_stop (ρ0 := ρ0) (r := [1, 2, 3, 4]) (T := TV l (proj (h)) (h) N (E) i (-1) []) (S := TU l (proj h) h N E i [true, true, false, true, false, false, false, false, false]) (callU_ok 9) funU (by rw [hρ]; exact ap6U nuZ0 l (proj h) h N E i) ?_
    (by rw [hρ]; exact fin_le (by decide) (rfl) (rfl) (rfl) (rfl)) (fun ρ' a' w hh => nu_check hρ v2 h7 (ih _ _ v2) hh) ⟨hr.sl, hr.m⟩
  exact ⟨nd (by rw [hl]), rfl, Nat.le_refl _, hw, nd (by omega), ⟨rfl, rfl⟩, nd hse, rfl, Nat.le_refl _, rfl, hin, rfl, Nat.le_refl _, rfl, hok, by rw [hse]; decide, decide_eq_true hx, decide_eq_false (by omega), hi, by omega, by omega, decide_eq_true (by omega), decide_eq_true (by omega), trivial⟩
set_option maxRecDepth 100000 in
theorem nu_s1 (hρ : ρ0.length = 1) (v : InvU N h E i) (hi : i < l.length) (h7 : i < 70) (hd : (xD l i).length ≤ 150) (hb : byB (xD l i)) (hin : inR N (xF l i 1) (xF l i 2)) (hx : xF l i 0 = 1)
    (ih : ∀ h E, InvU N h E (i + 1) → ∀ ρ' a' w, RelD [] (ρ0 ++ ρ') (uptoN Wd) Wd FU.ntmps (TU l (proj h) h N E (i + 1) []) a' w → Goes Try.prog 4 (EndS Wd) KU a' w) : wayU ρ0 Wd l h N E i := by
  intro ρ' ac w hr
  have hok := v.ok
  have hw := v.w
  have hn0 := v.n0
  have hl := proj_len h
  have hle := v.le
  have heE := v.eE
  obtain ⟨⟨f0, f1⟩, t0, t1⟩ := id hin
  have hse : sendE N (xF l i 1) (xF l i 2) (xD l i).length (proj h).length = 0 := by
    unfold sendE
    rw [if_neg (by omega), if_neg (by omega), if_neg (by omega)]
  have v2 : InvU N (([E + 1, xF l i 1, xF l i 2], xD l i) :: h) (E + 1) (i + 1) := v.join h7 hb (by omega)
  refine goes_stop (ρ0 := ρ0) (r := [1, 9, 3, 10]) (T := TV l (proj (([E + 1, xF l i 1, xF l i 2], xD l i) :: h)) (([E + 1, xF l i 1, xF l i 2], xD l i) :: h) N (E + 1) i (-1) []) (S := TU l (proj h) h N E i [true, true, false, false, true, true, true, false, false, false]) (callU_ok 9) funU (by rw [hρ]; exact ap6U nuS1 l (proj h) h N E i) ?_
    (by rw [hρ]; exact fin_le (by decide) (by rw [proj_cons]; rfl) (rfl) (by rw [proj_len, proj_len]; rfl) (rfl)) (fun ρ' a' w hh => nu_check hρ v2 h7 (ih _ _ v2) hh) ⟨hr.sl, hr.m⟩
  exact ⟨nd (by rw [hl]; rfl), rfl, Nat.le_refl _, v2.w, nd (by omega), ⟨rfl, rfl⟩, rfl, rfl, Nat.le_refl _, rfl, hw, hb, ⟨by omega, by omega, by omega⟩, hin, rfl, Nat.le_refl _, rfl, hok, hse, decide_eq_true hx, decide_eq_false (by omega), decide_eq_false (by omega), hi, by omega, by omega, decide_eq_true (by omega), decide_eq_true (by omega), trivial⟩
set_option maxRecDepth 100000 in
theorem nu_z1 (hρ : ρ0.length = 1) (v : InvU N h E i) (hi : i < l.length) (h7 : i < 70) (hd : (xD l i).length ≤ 150) (hin : ¬ inR N (xF l i 1) (xF l i 2)) (hx : xF l i 0 = 1)
    (ih : ∀ h E, InvU N h E (i + 1) → ∀ ρ' a' w, RelD [] (ρ0 ++ ρ') (uptoN Wd) Wd FU.ntmps (TU l (proj h) h N E (i + 1) []) a' w → Goes Try.prog 4 (EndS Wd) KU a' w) : wayU ρ0 Wd l h N E i := by
  intro ρ' ac w hr
  have hok := v.ok
  have hw := v.w
  have hn0 := v.n0
  have hl := proj_len h
  have hle := v.le
  have heE := v.eE
  have hse : sendE N (xF l i 1) (xF l i 2) (xD l i).length (proj h).length = 2 := by
    unfold sendE inR at *
    rw [if_pos (by omega)]
  have v2 : InvU N (h) (E) (i + 1) := v.skip h7
  refine goes_stop (ρ0 := ρ0) (r := [1, 2, 3, 4]) (T := TV l (proj (h)) (h) N (E) i (-1) []) (S := TU l (proj h) h N E i [true, true, false, false, true, false, false, false, false, false]) (callU_ok 9) funU (by rw [hρ]; exact ap6U nuZ1 l (proj h) h N E i) ?_
    (by rw [hρ]; exact fin_le (by decide) (rfl) (rfl) (rfl) (rfl)) (fun ρ' a' w hh => nu_check hρ v2 h7 (ih _ _ v2) hh) ⟨hr.sl, hr.m⟩
  exact ⟨nd (by rw [hl]), rfl, Nat.le_refl _, hw, nd (by omega), ⟨rfl, rfl⟩, nd hse, rfl, Nat.le_refl _, rfl, hin, rfl, Nat.le_refl _, rfl, hok, by rw [hse]; decide, decide_eq_true hx, decide_eq_false (by omega), decide_eq_false (by omega), hi, by omega, by omega, decide_eq_true (by omega), decide_eq_true (by omega), trivial⟩
set_option maxRecDepth 100000 in
theorem nu_s2 (hρ : ρ0.length = 1) (v : InvU N h E i) (hi : i < l.length) (h7 : i < 70) (hd : (xD l i).length ≤ 150) (hb : byB (xD l i)) (hin : inR N (xF l i 1) (xF l i 2)) (hx : xF l i 0 = 2)
    (ih : ∀ h E, InvU N h E (i + 1) → ∀ ρ' a' w, RelD [] (ρ0 ++ ρ') (uptoN Wd) Wd FU.ntmps (TU l (proj h) h N E (i + 1) []) a' w → Goes Try.prog 4 (EndS Wd) KU a' w) : wayU ρ0 Wd l h N E i := by
  intro ρ' ac w hr
  have hok := v.ok
  have hw := v.w
  have hn0 := v.n0
  have hl := proj_len h
  have hle := v.le
  have heE := v.eE
  obtain ⟨⟨f0, f1⟩, t0, t1⟩ := id hin
  have hse : sendE N (xF l i 1) (xF l i 2) (xD l i).length (proj h).length = 0 := by
    unfold sendE
    rw [if_neg (by omega), if_neg (by omega), if_neg (by omega)]
  have v2 : InvU N (([E + 1, xF l i 1, xF l i 2], xD l i) :: h) (E + 1) (i + 1) := v.join h7 hb (by omega)
  refine goes_stop (ρ0 := ρ0) (r := [1, 9, 3, 10]) (T := TV l (proj (([E + 1, xF l i 1, xF l i 2], xD l i) :: h)) (([E + 1, xF l i 1, xF l i 2], xD l i) :: h) N (E + 1) i (-1) []) (S := TU l (proj h) h N E i [true, true, false, false, false, true, true, true, false, false, false]) (callU_ok 9) funU (by rw [hρ]; exact ap6U nuS2 l (proj h) h N E i) ?_
    (by rw [hρ]; exact fin_le (by decide) (by rw [proj_cons]; rfl) (rfl) (by rw [proj_len, proj_len]; rfl) (rfl)) (fun ρ' a' w hh => nu_check hρ v2 h7 (ih _ _ v2) hh) ⟨hr.sl, hr.m⟩
  exact ⟨nd (by rw [hl]; rfl), rfl, Nat.le_refl _, v2.w, nd (by omega), ⟨rfl, rfl⟩, rfl, rfl, Nat.le_refl _, rfl, hw, hb, ⟨by omega, by omega, by omega⟩, hin, rfl, Nat.le_refl _, rfl, hok, hse, decide_eq_true hx, decide_eq_false (by omega), decide_eq_false (by omega), decide_eq_false (by omega), hi, by omega, by omega, decide_eq_true (by omega), decide_eq_true (by omega), trivial⟩
set_option maxRecDepth 100000 in
theorem nu_z2 (hρ : ρ0.length = 1) (v : InvU N h E i) (hi : i < l.length) (h7 : i < 70) (hd : (xD l i).length ≤ 150) (hin : ¬ inR N (xF l i 1) (xF l i 2)) (hx : xF l i 0 = 2)
    (ih : ∀ h E, InvU N h E (i + 1) → ∀ ρ' a' w, RelD [] (ρ0 ++ ρ') (uptoN Wd) Wd FU.ntmps (TU l (proj h) h N E (i + 1) []) a' w → Goes Try.prog 4 (EndS Wd) KU a' w) : wayU ρ0 Wd l h N E i := by
  intro ρ' ac w hr
  have hok := v.ok
  have hw := v.w
  have hn0 := v.n0
  have hl := proj_len h
  have hle := v.le
  have heE := v.eE
  have hse : sendE N (xF l i 1) (xF l i 2) (xD l i).length (proj h).length = 2 := by
    unfold sendE inR at *
    rw [if_pos (by omega)]
  have v2 : InvU N (h) (E) (i + 1) := v.skip h7
  refine goes_stop (ρ0 := ρ0) (r := [1, 2, 3, 4]) (T := TV l (proj (h)) (h) N (E) i (-1) []) (S := TU l (proj h) h N E i [true, true, false, false, false, true, false, false, false, false, false]) (callU_ok 9) funU (by rw [hρ]; exact ap6U nuZ2 l (proj h) h N E i) ?_
    (by rw [hρ]; exact fin_le (by decide) (rfl) (rfl) (rfl) (rfl)) (fun ρ' a' w hh => nu_check hρ v2 h7 (ih _ _ v2) hh) ⟨hr.sl, hr.m⟩
  exact ⟨nd (by rw [hl]), rfl, Nat.le_refl _, hw, nd (by omega), ⟨rfl, rfl⟩, nd hse, rfl, Nat.le_refl _, rfl, hin, rfl, Nat.le_refl _, rfl, hok, by rw [hse]; decide, decide_eq_true hx, decide_eq_false (by omega), decide_eq_false (by omega), decide_eq_false (by omega), hi, by omega, by omega, decide_eq_true (by omega), decide_eq_true (by omega), trivial⟩
set_option maxRecDepth 100000 in
theorem nu_s3 (hρ : ρ0.length = 1) (v : InvU N h E i) (hi : i < l.length) (h7 : i < 70) (hd : (xD l i).length ≤ 150) (hb : byB (xD l i)) (hin : inR N (xF l i 1) (xF l i 2)) (hx : xF l i 0 = 3)
    (ih : ∀ h E, InvU N h E (i + 1) → ∀ ρ' a' w, RelD [] (ρ0 ++ ρ') (uptoN Wd) Wd FU.ntmps (TU l (proj h) h N E (i + 1) []) a' w → Goes Try.prog 4 (EndS Wd) KU a' w) : wayU ρ0 Wd l h N E i := by
  intro ρ' ac w hr
  have hok := v.ok
  have hw := v.w
  have hn0 := v.n0
  have hl := proj_len h
  have hle := v.le
  have heE := v.eE
  obtain ⟨⟨f0, f1⟩, t0, t1⟩ := id hin
  have hse : sendE N (xF l i 1) (xF l i 2) (xD l i).length (proj h).length = 0 := by
    unfold sendE
    rw [if_neg (by omega), if_neg (by omega), if_neg (by omega)]
  have v2 : InvU N (([E + 1, xF l i 1, xF l i 2], xD l i) :: h) (E + 1) (i + 1) := v.join h7 hb (by omega)
  refine goes_stop (ρ0 := ρ0) (r := [1, 9, 3, 10]) (T := TV l (proj (([E + 1, xF l i 1, xF l i 2], xD l i) :: h)) (([E + 1, xF l i 1, xF l i 2], xD l i) :: h) N (E + 1) i (-1) []) (S := TU l (proj h) h N E i [true, true, false, false, false, false, true, true, true, false, false, false]) (callU_ok 9) funU (by rw [hρ]; exact ap6U nuS3 l (proj h) h N E i) ?_
    (by rw [hρ]; exact fin_le (by decide) (by rw [proj_cons]; rfl) (rfl) (by rw [proj_len, proj_len]; rfl) (rfl)) (fun ρ' a' w hh => nu_check hρ v2 h7 (ih _ _ v2) hh) ⟨hr.sl, hr.m⟩
  exact ⟨nd (by rw [hl]; rfl), rfl, Nat.le_refl _, v2.w, nd (by omega), ⟨rfl, rfl⟩, rfl, rfl, Nat.le_refl _, rfl, hw, hb, ⟨by omega, by omega, by omega⟩, hin, rfl, Nat.le_refl _, rfl, hok, hse, decide_eq_true hx, decide_eq_false (by omega), decide_eq_false (by omega), decide_eq_false (by omega), decide_eq_false (by omega), hi, by omega, by omega, decide_eq_true (by omega), decide_eq_true (by omega), trivial⟩
set_option maxRecDepth 100000 in
theorem nu_z3 (hρ : ρ0.length = 1) (v : InvU N h E i) (hi : i < l.length) (h7 : i < 70) (hd : (xD l i).length ≤ 150) (hin : ¬ inR N (xF l i 1) (xF l i 2)) (hx : xF l i 0 = 3)
    (ih : ∀ h E, InvU N h E (i + 1) → ∀ ρ' a' w, RelD [] (ρ0 ++ ρ') (uptoN Wd) Wd FU.ntmps (TU l (proj h) h N E (i + 1) []) a' w → Goes Try.prog 4 (EndS Wd) KU a' w) : wayU ρ0 Wd l h N E i := by
  intro ρ' ac w hr
  have hok := v.ok
  have hw := v.w
  have hn0 := v.n0
  have hl := proj_len h
  have hle := v.le
  have heE := v.eE
  have hse : sendE N (xF l i 1) (xF l i 2) (xD l i).length (proj h).length = 2 := by
    unfold sendE inR at *
    rw [if_pos (by omega)]
  have v2 : InvU N (h) (E) (i + 1) := v.skip h7
  refine goes_stop (ρ0 := ρ0) (r := [1, 2, 3, 4]) (T := TV l (proj (h)) (h) N (E) i (-1) []) (S := TU l (proj h) h N E i [true, true, false, false, false, false, true, false, false, false, false, false]) (callU_ok 9) funU (by rw [hρ]; exact ap6U nuZ3 l (proj h) h N E i) ?_
    (by rw [hρ]; exact fin_le (by decide) (rfl) (rfl) (rfl) (rfl)) (fun ρ' a' w hh => nu_check hρ v2 h7 (ih _ _ v2) hh) ⟨hr.sl, hr.m⟩
  exact ⟨nd (by rw [hl]), rfl, Nat.le_refl _, hw, nd (by omega), ⟨rfl, rfl⟩, nd hse, rfl, Nat.le_refl _, rfl, hin, rfl, Nat.le_refl _, rfl, hok, by rw [hse]; decide, decide_eq_true hx, decide_eq_false (by omega), decide_eq_false (by omega), decide_eq_false (by omega), decide_eq_false (by omega), hi, by omega, by omega, decide_eq_true (by omega), decide_eq_true (by omega), trivial⟩
set_option maxRecDepth 100000 in
theorem nu_4a (hρ : ρ0.length = 1) (v : InvU N h E i) (hi : i < l.length) (h7 : i < 70) (hd : (xD l i).length ≤ 150) (hp : 0 ≤ xF l i 3 ∧ xF l i 3 < h.length) (hx : xF l i 0 = 4)
    (ih : ∀ h E, InvU N h E (i + 1) → ∀ ρ' a' w, RelD [] (ρ0 ++ ρ') (uptoN Wd) Wd FU.ntmps (TU l (proj h) h N E (i + 1) []) a' w → Goes Try.prog 4 (EndS Wd) KU a' w) : wayU ρ0 Wd l h N E i := by
  intro ρ' ac w hr
  have hok := v.ok
  have hw := v.w
  have hn0 := v.n0
  have hl := proj_len h
  have hle := v.le
  have heE := v.eE
  have hf := findS_in hp.1 hp.2
  have e3 := proj_eq hp.1 hp.2
  have ek := tk3_eq hp.1 hp.2
  have eo := out3_len hp.1 hp.2
  have hdr := proj_drop hp.1 hp.2
  have hls : (tk3 h (xF l i 3)).length = (dropS (proj h) (xF l i 3)).length := by rw [ek, hdr, proj_len]
  have hlt : (findS h (xF l i 3)).toNat = ((h.drop 0).take (findS h (xF l i 3)).toNat).length := by rw [List.drop_zero, List.length_take]; omega
  have hsb : (findS h (xF l i 3) + 1).toNat + Nat.sub h.length (findS h (xF l i 3) + 1).toNat ≤ h.length := by show _ + (h.length - _) ≤ _; omega
  have v2 : InvU N (out3 h (xF l i 3)) (E) (i + 1) := v.sub h7 (out3_sub _ _)
  refine goes_stop (ρ0 := ρ0) (r := [1, 9, 3, 18]) (T := TV l (proj (out3 h (xF l i 3))) (out3 h (xF l i 3)) N (E) i (-1) []) (S := TU l (proj h) h N E i [true, true, false, false, false, false, false, true, true, false, false, true, false, false, false]) (callU_ok 9) funU (by rw [hρ]; exact ap6U nu4a l (proj h) h N E i) ?_
    (by rw [hρ]; exact fin_le (by decide) (hdr) (ek) (by rw [hdr]) (eo.symm)) (fun ρ' a' w hh => nu_check hρ v2 h7 (ih _ _ v2) hh) ⟨hr.sl, hr.m⟩
  exact ⟨nd (by rw [hls]), by rw [ek]; exact eo.symm, by rw [ek]; exact Nat.le_of_eq eo, by rw [ek]; exact v2.w, nd (by omega), e3, rfl, rfl, rfl, rfl, rfl, rfl, rfl, hlt, hsb, by omega, by omega, by omega, by omega, ⟨by omega, by omega⟩, by omega, by omega, by omega, by omega, by omega, by omega, by omega, by omega, decide_eq_false (by omega), rfl, Nat.le_refl _, hw, rfl, Nat.le_refl _, hok, ⟨hp.1, by omega⟩, decide_eq_true hx, decide_eq_false (by omega), decide_eq_false (by omega), decide_eq_false (by omega), decide_eq_false (by omega), decide_eq_false (by omega), hi, by omega, by omega, decide_eq_true (by omega), decide_eq_true (by omega), trivial⟩
set_option maxRecDepth 100000 in
theorem nu_4b (hρ : ρ0.length = 1) (v : InvU N h E i) (hi : i < l.length) (h7 : i < 70) (hd : (xD l i).length ≤ 150) (hp : ¬ (0 ≤ xF l i 3 ∧ xF l i 3 < h.length)) (hx : xF l i 0 = 4)
    (ih : ∀ h E, InvU N h E (i + 1) → ∀ ρ' a' w, RelD [] (ρ0 ++ ρ') (uptoN Wd) Wd FU.ntmps (TU l (proj h) h N E (i + 1) []) a' w → Goes Try.prog 4 (EndS Wd) KU a' w) : wayU ρ0 Wd l h N E i := by
  intro ρ' ac w hr
  have hok := v.ok
  have hw := v.w
  have hn0 := v.n0
  have hl := proj_len h
  have hle := v.le
  have heE := v.eE
  have hf := findS_out hp
  have v2 : InvU N (h) (E) (i + 1) := v.skip h7
  refine goes_stop (ρ0 := ρ0) (r := [1, 2, 3, 4]) (T := TV l (proj (h)) (h) N (E) i (-1) []) (S := TU l (proj h) h N E i [true, true, false, false, false, false, false, true, false, true, false, false]) (callU_ok 9) funU (by rw [hρ]; exact ap6U nu4b l (proj h) h N E i) ?_
    (by rw [hρ]; exact fin_le (by decide) (rfl) (rfl) (rfl) (rfl)) (fun ρ' a' w hh => nu_check hρ v2 h7 (ih _ _ v2) hh) ⟨hr.sl, hr.m⟩
  exact ⟨nd (by rw [hl]), rfl, Nat.le_refl _, hw, nd (by omega), ⟨rfl, rfl⟩, decide_eq_true (by omega), rfl, Nat.le_refl _, hw, rfl, Nat.le_refl _, hok, fun hc => hp ⟨hc.1, by omega⟩, decide_eq_true hx, decide_eq_false (by omega), decide_eq_false (by omega), decide_eq_false (by omega), decide_eq_false (by omega), decide_eq_false (by omega), hi, by omega, by omega, decide_eq_true (by omega), decide_eq_true (by omega), trivial⟩
set_option maxRecDepth 100000 in
theorem nu_5a (hρ : ρ0.length = 1) (v : InvU N h E i) (hi : i < l.length) (h7 : i < 70) (hd : (xD l i).length ≤ 150) (hp : 0 ≤ xF l i 3 ∧ xF l i 3 < h.length) (hx : xF l i 0 = 5)
    (ih : ∀ h E, InvU N h E (i + 1) → ∀ ρ' a' w, RelD [] (ρ0 ++ ρ') (uptoN Wd) Wd FU.ntmps (TU l (proj h) h N E (i + 1) []) a' w → Goes Try.prog 4 (EndS Wd) KU a' w) : wayU ρ0 Wd l h N E i := by
  intro ρ' ac w hr
  have hok := v.ok
  have hw := v.w
  have hn0 := v.n0
  have hl := proj_len h
  have hle := v.le
  have heE := v.eE
  have hf := findS_in hp.1 hp.2
  have e3 := proj_eq hp.1 hp.2
  have ek := tk3_eq hp.1 hp.2
  have eo := out3_len hp.1 hp.2
  have hdr := proj_drop hp.1 hp.2
  have hls : (tk3 h (xF l i 3)).length = (dropS (proj h) (xF l i 3)).length := by rw [ek, hdr, proj_len]
  have hlt : (findS h (xF l i 3)).toNat = ((h.drop 0).take (findS h (xF l i 3)).toNat).length := by rw [List.drop_zero, List.length_take]; omega
  have hsb : (findS h (xF l i 3) + 1).toNat + Nat.sub h.length (findS h (xF l i 3) + 1).toNat ≤ h.length := by show _ + (h.length - _) ≤ _; omega
  have hpp : 0 ≤ xF l i 3 ∧ xF l i 3 < ((proj h).length : Int) := ⟨hp.1, by omega⟩
  have v2 : InvU N (out3 h (xF l i 3)) (E) (i + 1) := v.sub h7 (out3_sub _ _)
  refine goes_stop (ρ0 := ρ0) (r := [1, 9, 3, 17]) (T := TV l (proj (out3 h (xF l i 3))) (out3 h (xF l i 3)) N (E) i (-1) []) (S := TU l (proj h) h N E i [true, true, false, false, false, false, false, false, true, false, false, true, false, false, false, false]) (callU_ok 9) funU (by rw [hρ]; exact ap6U nu5a l (proj h) h N E i) ?_
    (by rw [hρ]; exact fin_le (by decide) (hdr) (ek) (by rw [hdr]) (eo.symm)) (fun ρ' a' w hh => nu_check hρ v2 h7 (ih _ _ v2) hh) ⟨hr.sl, hr.m⟩
  exact ⟨nd (by rw [hls]), by rw [ek]; exact eo.symm, by rw [ek]; exact Nat.le_of_eq eo, by rw [ek]; exact v2.w, nd (by omega), ⟨rfl, rfl⟩, by rw [decide_eq_true hpp]; rfl, rfl, rfl, rfl, rfl, rfl, hlt, hsb, by omega, by omega, by omega, by omega, ⟨by omega, by omega⟩, by omega, by omega, by omega, by omega, by omega, by omega, by omega, by omega, decide_eq_false (by omega), rfl, Nat.le_refl _, hw, rfl, Nat.le_refl _, hok, decide_eq_true hx, decide_eq_false (by omega), decide_eq_false (by omega), decide_eq_false (by omega), decide_eq_false (by omega), decide_eq_false (by omega), decide_eq_false (by omega), hi, by omega, by omega, decide_eq_true (by omega), decide_eq_true (by omega), trivial⟩
set_option maxRecDepth 100000 in
theorem nu_5b (hρ : ρ0.length = 1) (v : InvU N h E i) (hi : i < l.length) (h7 : i < 70) (hd : (xD l i).length ≤ 150) (hp : ¬ (0 ≤ xF l i 3 ∧ xF l i 3 < h.length)) (hx : xF l i 0 = 5)
    (ih : ∀ h E, InvU N h E (i + 1) → ∀ ρ' a' w, RelD [] (ρ0 ++ ρ') (uptoN Wd) Wd FU.ntmps (TU l (proj h) h N E (i + 1) []) a' w → Goes Try.prog 4 (EndS Wd) KU a' w) : wayU ρ0 Wd l h N E i := by
  intro ρ' ac w hr
  have hok := v.ok
  have hw := v.w
  have hn0 := v.n0
  have hl := proj_len h
  have hle := v.le
  have heE := v.eE
  have hf := findS_out hp
  have hpp : ¬ (0 ≤ xF l i 3 ∧ xF l i 3 < ((proj h).length : Int)) := fun hc => hp ⟨hc.1, by omega⟩
  have hdr := dropS_no hpp
  have v2 : InvU N (h) (E) (i + 1) := v.skip h7
  refine goes_stop (ρ0 := ρ0) (r := [1, 9, 3, 4]) (T := TV l (proj (h)) (h) N (E) i (-1) []) (S := TU l (proj h) h N E i [true, true, false, false, false, false, false, false, true, true, false, false, false]) (callU_ok 9) funU (by rw [hρ]; exact ap6U nu5b l (proj h) h N E i) ?_
    (by rw [hρ]; exact fin_le (by decide) (hdr) (rfl) (by rw [hdr]) (rfl)) (fun ρ' a' w hh => nu_check hρ v2 h7 (ih _ _ v2) hh) ⟨hr.sl, hr.m⟩
  exact ⟨nd (by rw [hdr, hl]), rfl, Nat.le_refl _, hw, nd (by omega), ⟨rfl, rfl⟩, by rw [decide_eq_false hpp]; rfl, decide_eq_true (by omega), rfl, Nat.le_refl _, hw, rfl, Nat.le_refl _, hok, decide_eq_true hx, decide_eq_false (by omega), decide_eq_false (by omega), decide_eq_false (by omega), decide_eq_false (by omega), decide_eq_false (by omega), decide_eq_false (by omega), hi, by omega, by omega, decide_eq_true (by omega), decide_eq_true (by omega), trivial⟩
set_option maxRecDepth 100000 in
theorem nu_6a (hρ : ρ0.length = 1) (v : InvU N h E i) (hi : i < l.length) (h7 : i < 70) (hd : (xD l i).length ≤ 150) (hp : 0 ≤ xF l i 3 ∧ xF l i 3 < h.length) (hx : xF l i 0 = 6)
    (ih : ∀ h E, InvU N h E (i + 1) → ∀ ρ' a' w, RelD [] (ρ0 ++ ρ') (uptoN Wd) Wd FU.ntmps (TU l (proj h) h N E (i + 1) []) a' w → Goes Try.prog 4 (EndS Wd) KU a' w) : wayU ρ0 Wd l h N E i := by
  intro ρ' ac w hr
  have hok := v.ok
  have hw := v.w
  have hn0 := v.n0
  have hl := proj_len h
  have hle := v.le
  have heE := v.eE
  have hm := at3_mem hp.1 hp.2
  have hb := v.by_ _ hm
  have hce : copyE (proj h) (xF l i 3) = 0 := by unfold copyE; rw [if_neg (by omega), if_neg (by omega)]
  have e3 := proj_at hp.1 hp.2
  have v2 : InvU N (([E + 1, (at3 h (xF l i 3)).1.getD 1 0, (at3 h (xF l i 3)).1.getD 2 0], (at3 h (xF l i 3)).2) :: h) (E + 1) (i + 1) := v.join h7 hb (hw.1 _ hm).2
  refine goes_stop (ρ0 := ρ0) (r := [1, 9, 3, 10]) (T := TV l (proj (([E + 1, (at3 h (xF l i 3)).1.getD 1 0, (at3 h (xF l i 3)).1.getD 2 0], (at3 h (xF l i 3)).2) :: h)) (([E + 1, (at3 h (xF l i 3)).1.getD 1 0, (at3 h (xF l i 3)).1.getD 2 0], (at3 h (xF l i 3)).2) :: h) N (E + 1) i (-1) []) (S := TU l (proj h) h N E i [true, true, false, false, false, false, false, false, false, true, true, true, false, false, false]) (callU_ok 9) funU (by rw [hρ]; exact ap6U nu6a l (proj h) h N E i) ?_
    (by rw [hρ]; exact fin_le (by decide) (by rw [proj_cons, e3]; rfl) (rfl) (by rw [proj_len, proj_len]; rfl) (rfl)) (fun ρ' a' w hh => nu_check hρ v2 h7 (ih _ _ v2) hh) ⟨hr.sl, hr.m⟩
  exact ⟨nd (by rw [hl]; rfl), rfl, Nat.le_refl _, v2.w, nd (by omega), ⟨rfl, rfl⟩, rfl, rfl, Nat.le_refl _, hw, hb, ⟨by omega, by omega⟩, hp, rfl, Nat.le_refl _, hok, hce, decide_eq_true hx, decide_eq_false (by omega), decide_eq_false (by omega), decide_eq_false (by omega), decide_eq_false (by omega), decide_eq_false (by omega), decide_eq_false (by omega), decide_eq_false (by omega), hi, by omega, by omega, decide_eq_true (by omega), decide_eq_true (by omega), trivial⟩
set_option maxRecDepth 100000 in
theorem nu_6b (hρ : ρ0.length = 1) (v : InvU N h E i) (hi : i < l.length) (h7 : i < 70) (hd : (xD l i).length ≤ 150) (hp : ¬ (0 ≤ xF l i 3 ∧ xF l i 3 < h.length)) (hx : xF l i 0 = 6)
    (ih : ∀ h E, InvU N h E (i + 1) → ∀ ρ' a' w, RelD [] (ρ0 ++ ρ') (uptoN Wd) Wd FU.ntmps (TU l (proj h) h N E (i + 1) []) a' w → Goes Try.prog 4 (EndS Wd) KU a' w) : wayU ρ0 Wd l h N E i := by
  intro ρ' ac w hr
  have hok := v.ok
  have hw := v.w
  have hn0 := v.n0
  have hl := proj_len h
  have hle := v.le
  have heE := v.eE
  have hce : copyE (proj h) (xF l i 3) = 2 := by unfold copyE; rw [if_pos (fun hc => hp ⟨hc.1, by omega⟩)]
  have v2 : InvU N (h) (E) (i + 1) := v.skip h7
  refine goes_stop (ρ0 := ρ0) (r := [1, 2, 3, 4]) (T := TV l (proj (h)) (h) N (E) i (-1) []) (S := TU l (proj h) h N E i [true, true, false, false, false, false, false, false, false, true, false, false, false, false, false]) (callU_ok 9) funU (by rw [hρ]; exact ap6U nu6b l (proj h) h N E i) ?_
    (by rw [hρ]; exact fin_le (by decide) (rfl) (rfl) (rfl) (rfl)) (fun ρ' a' w hh => nu_check hρ v2 h7 (ih _ _ v2) hh) ⟨hr.sl, hr.m⟩
  exact ⟨nd (by rw [hl]), rfl, Nat.le_refl _, hw, nd (by omega), ⟨rfl, rfl⟩, nd hce, rfl, Nat.le_refl _, hw, hp, rfl, Nat.le_refl _, hok, by rw [hce]; decide, decide_eq_true hx, decide_eq_false (by omega), decide_eq_false (by omega), decide_eq_false (by omega), decide_eq_false (by omega), decide_eq_false (by omega), decide_eq_false (by omega), decide_eq_false (by omega), hi, by omega, by omega, decide_eq_true (by omega), decide_eq_true (by omega), trivial⟩
set_option maxRecDepth 100000 in
theorem nu_7 (hρ : ρ0.length = 1) (v : InvU N h E i) (hi : i < l.length) (h7 : i < 70) (hd : (xD l i).length ≤ 150) (hx : xF l i 0 = 7)
    (ih : ∀ h E, InvU N h E (i + 1) → ∀ ρ' a' w, RelD [] (ρ0 ++ ρ') (uptoN Wd) Wd FU.ntmps (TU l (proj h) h N E (i + 1) []) a' w → Goes Try.prog 4 (EndS Wd) KU a' w) : wayU ρ0 Wd l h N E i := by
  intro ρ' ac w hr
  have hok := v.ok
  have hw := v.w
  have hn0 := v.n0
  have hl := proj_len h
  have hle := v.le
  have heE := v.eE
  have hfo := proj_forget h (xF l i 2)
  have hfl : (forgetS (proj h) (xF l i 2)).length = (forget3 h (xF l i 2)).length := by rw [hfo, proj_len]
  have v2 : InvU N (forget3 h (xF l i 2)) (E) (i + 1) := v.sub h7 (forget3_sub _ _)
  refine goes_stop (ρ0 := ρ0) (r := [1, 9, 3, 10]) (T := TV l (proj (forget3 h (xF l i 2))) (forget3 h (xF l i 2)) N (E) i (-1) []) (S := TU l (proj h) h N E i [true, true, false, false, false, false, false, false, false, false, true, false, false, false]) (callU_ok 9) funU (by rw [hρ]; exact ap6U nu7 l (proj h) h N E i) ?_
    (by rw [hρ]; exact fin_le (by decide) (hfo) (rfl) (by rw [hfo]) (rfl)) (fun ρ' a' w hh => nu_check hρ v2 h7 (ih _ _ v2) hh) ⟨hr.sl, hr.m⟩
  exact ⟨nd (by rw [hfl]), rfl, Nat.le_refl _, v2.w, nd (by omega), nd (by rw [hfl, hl]), ⟨rfl, rfl⟩, rfl, Nat.le_refl _, hw, rfl, Nat.le_refl _, hok, decide_eq_true hx, decide_eq_false (by omega), decide_eq_false (by omega), decide_eq_false (by omega), decide_eq_false (by omega), decide_eq_false (by omega), decide_eq_false (by omega), decide_eq_false (by omega), decide_eq_false (by omega), hi, by omega, by omega, decide_eq_true (by omega), decide_eq_true (by omega), trivial⟩
set_option maxRecDepth 100000 in
theorem nu_La (hρ : ρ0.length = 1) (v : InvU N h E i) (hi : i < l.length) (h7 : i < 70) (hd : (xD l i).length ≤ 150) (hp : 0 ≤ xF l i 3 ∧ xF l i 3 < h.length) (hx : ¬ (0 ≤ xF l i 0 ∧ xF l i 0 ≤ 7))
    (ih : ∀ h E, InvU N h E (i + 1) → ∀ ρ' a' w, RelD [] (ρ0 ++ ρ') (uptoN Wd) Wd FU.ntmps (TU l (proj h) h N E (i + 1) []) a' w → Goes Try.prog 4 (EndS Wd) KU a' w) : wayU ρ0 Wd l h N E i := by
  intro ρ' ac w hr
  have hok := v.ok
  have hw := v.w
  have hn0 := v.n0
  have hl := proj_len h
  have hle := v.le
  have heE := v.eE
  have hf := findS_in hp.1 hp.2
  have e3 := proj_eq hp.1 hp.2
  have v2 : InvU N (h) (E) (i + 1) := v.skip h7
  refine goes_stop (ρ0 := ρ0) (r := [1, 2, 3, 4]) (T := TV l (proj (h)) (h) N (E) i (-1) []) (S := TU l (proj h) h N E i [true, true, false, false, false, false, false, false, false, false, false, true, false, false, false]) (callU_ok 9) funU (by rw [hρ]; exact ap6U nuLa l (proj h) h N E i) ?_
    (by rw [hρ]; exact fin_le (by decide) (rfl) (rfl) (rfl) (rfl)) (fun ρ' a' w hh => nu_check hρ v2 h7 (ih _ _ v2) hh) ⟨hr.sl, hr.m⟩
  exact ⟨nd (by rw [hl]), rfl, Nat.le_refl _, hw, nd (by omega), e3, rfl, rfl, by omega, by omega, by omega, decide_eq_false (by omega), rfl, Nat.le_refl _, hw, rfl, Nat.le_refl _, hok, ⟨hp.1, by omega⟩, decide_eq_false (by omega), decide_eq_false (by omega), decide_eq_false (by omega), decide_eq_false (by omega), decide_eq_false (by omega), decide_eq_false (by omega), decide_eq_false (by omega), decide_eq_false (by omega), decide_eq_false (by omega), hi, by omega, by omega, decide_eq_true (by omega), decide_eq_true (by omega), trivial⟩
set_option maxRecDepth 100000 in
theorem nu_Lb (hρ : ρ0.length = 1) (v : InvU N h E i) (hi : i < l.length) (h7 : i < 70) (hd : (xD l i).length ≤ 150) (hp : ¬ (0 ≤ xF l i 3 ∧ xF l i 3 < h.length)) (hx : ¬ (0 ≤ xF l i 0 ∧ xF l i 0 ≤ 7))
    (ih : ∀ h E, InvU N h E (i + 1) → ∀ ρ' a' w, RelD [] (ρ0 ++ ρ') (uptoN Wd) Wd FU.ntmps (TU l (proj h) h N E (i + 1) []) a' w → Goes Try.prog 4 (EndS Wd) KU a' w) : wayU ρ0 Wd l h N E i := by
  intro ρ' ac w hr
  have hok := v.ok
  have hw := v.w
  have hn0 := v.n0
  have hl := proj_len h
  have hle := v.le
  have heE := v.eE
  have hf := findS_out hp
  have v2 : InvU N (h) (E) (i + 1) := v.skip h7
  refine goes_stop (ρ0 := ρ0) (r := [1, 2, 3, 4]) (T := TV l (proj (h)) (h) N (E) i (-1) []) (S := TU l (proj h) h N E i [true, true, false, false, false, false, false, false, false, false, false, false, true, false, false]) (callU_ok 9) funU (by rw [hρ]; exact ap6U nuLb l (proj h) h N E i) ?_
    (by rw [hρ]; exact fin_le (by decide) (rfl) (rfl) (rfl) (rfl)) (fun ρ' a' w hh => nu_check hρ v2 h7 (ih _ _ v2) hh) ⟨hr.sl, hr.m⟩
  exact ⟨nd (by rw [hl]), rfl, Nat.le_refl _, hw, nd (by omega), ⟨rfl, rfl⟩, decide_eq_true (by omega), rfl, Nat.le_refl _, hw, rfl, Nat.le_refl _, hok, fun hc => hp ⟨hc.1, by omega⟩, decide_eq_false (by omega), decide_eq_false (by omega), decide_eq_false (by omega), decide_eq_false (by omega), decide_eq_false (by omega), decide_eq_false (by omega), decide_eq_false (by omega), decide_eq_false (by omega), decide_eq_false (by omega), hi, by omega, by omega, decide_eq_true (by omega), decide_eq_true (by omega), trivial⟩
end
end Go.Proofs.Ytjnnfehepbicfaa
