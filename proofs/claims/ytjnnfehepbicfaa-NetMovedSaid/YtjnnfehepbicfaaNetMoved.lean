/- NetMoved is true of any datagrams and place, and leaves its arguments as they were. -/
import Derived.Test.YtjnnfehepbicfaaNmB
namespace Go.Proofs.Ytjnnfehepbicfaa
open Go.ChangeShapes Go.WideShapes Go.ChangeAt Go.RowKit Go.Sx
def wantMv (R : Rws) (k : Int) : Rws := List.take k.toNat (List.drop 0 R) ++ List.take (Nat.sub R.length (k + 1).toNat) (List.drop (k + 1).toNat R) ++
    [([(R.getD k.toNat ([], [])).1.getD 0 0, (R.getD k.toNat ([], [])).1.getD 1 0], (R.getD k.toNat ([], [])).2)]
theorem want_eq (R : Rws) {k : Int} (h0 : 0 ≤ k) (h1 : k < R.length) (h2 : (row R k).1.length = 2) : List.take k.toNat (List.drop 0 R) ++ List.take (Nat.sub R.length (k + 1).toNat) (List.drop (k + 1).toNat R) ++
    [([(R.getD k.toNat ([], [])).1.getD 0 0, (R.getD k.toNat ([], [])).1.getD 1 0], (R.getD k.toNat ([], [])).2)] = R.eraseIdx k.toNat ++ [row R k] := by
  have e : [([(R.getD k.toNat ([], [])).1.getD 0 0, (R.getD k.toNat ([], [])).1.getD 1 0], (R.getD k.toNat ([], [])).2)] = [row R k] := congrArg (fun x => [x]) (row2 h2)
  have e2 : List.take (Nat.sub R.length (k.toNat + 1)) (List.drop (k.toNat + 1) R) = List.drop (k.toNat + 1) R := List.take_of_length_le (by rw [List.length_drop]; exact Nat.le_refl _)
  rw [e, show (k + 1).toNat = k.toNat + 1 by omega, e2, List.drop_zero, List.eraseIdx_eq_take_drop_succ]
theorem nm_start {ρ0 : Env} {Wd : World} {l WW : Rws} {at_ : Int} (hρ : ρ0.length = 1) (hw : okN 3 WW) (hl : WW.length ≤ 30) {a : Slots} {b : List SB} {ob : List Prop}
    (q : stopV [5, 9, 84, 85] [0, 1, 8, 13] (run Try.prog (callY 9) efN FM 0 100000 [false] [.code (body 7)] ⟨argSlots 0 [rsl 0 l.length l.length, si .i64 at_], [rr l], [false, true, false, false, true, false, false, false, true, false, true, true, true], []⟩) = some (EM, a, b, ob))
    (hob : allP ob) (ha : leSlots [0, 1, 8, 13] a (TM l WW WW 0 []).sl) (hb : leBs [0, 1, 8, 13] b (TM l WW WW 0 []).m) {ρ' : Env} {ac : Act} {w : World} (hr : RelD [] (ρ0 ++ ρ') (uptoN Wd) Wd FM.ntmps ⟨argSlots 0 [rsl 0 l.length l.length, si .i64 at_], [rr l], [], []⟩ ac w) :
    Goes Try.prog 7 (EndS Wd) [.code (body 7)] ac w :=
  goes_stop (ρ0 := ρ0) (r := [1, 8, 13]) (T := TM l WW WW 0 []) (S := ⟨argSlots 0 [rsl 0 l.length l.length, si .i64 at_], [rr l], [false, true, false, false, true, false, false, false, true, false, true, true, true], []⟩) (callY_ok 9) funM (by rw [hρ]; exact q) hob ⟨by rw [hρ]; decide, by rw [hρ]; exact ha, by rw [hρ]; exact hb⟩
      (fun ρ' a w hh => nm_loop hρ hw hl hh) ⟨hr.sl, hr.m⟩
set_option maxRecDepth 100000 in
theorem netMoved_calls (l : Rws) (e : E) (v : Value) (at_ : Int) {W0 : World} (r : readN W0 (e, rr l)) (_w : ∀ r ∈ l, wfB k2 r) (_m : l.length ≤ maxLen)
    (u : ∀ (ρ : Env) (b : Nat), ρ[b]? = some e → (V.v (.one (.slice b (.c 0) 3 (.s l.length) (.s l.length)))).rel ρ v) (_hn : (Lit.int .i64 at_).wf = true) (W : World) (hW : W0 = W := by rfl) :
    Calls Try.prog 7 #[v, .int .i64 at_] W fun e w' => e = .returned (.bool true) ∧ Below W.heap.size W w' := by
  subst hW
  have hm := mem_argsN (W := W0) [(e, rr l)] (by intro y hy; simp at hy; subst hy; exact r)
  have hu : relVs ([(e, rr l)].map (·.1)) [rsl 0 l.length l.length, si .i64 at_] [v, .int .i64 at_] := ⟨_, _, rfl, u _ 0 rfl, _, _, rfl, ⟨rfl, rfl⟩, rfl⟩
  have hlen := laidS_len l
  have hok := laidS_wf l
  by_cases h0 : (laidS l).length = 0
  · have hc : copyE (laidS l) 0 = 2 := copyE_out (by omega)
    refine law_obsN tabY_ok (congrFun (congrFun nm0 l) at_) ?_ hm hu
    simp [allP, hok, h0, hc]
  · have hk := pickS_bd (x := at_) (n := ((laidS l).length : Int)) (by omega)
    have q := congrFun (congrFun nmE l) at_
    have E1 : dropS (laidS l ++ [row (laidS l) (pickS at_ ((laidS l).length : Int))]) ((laidS l).length : Int) = laidS l := drop_last _ _
    have E2 : dropS (laidS l ++ [row (laidS l) (pickS at_ ((laidS l).length : Int))]) (pickS at_ ((laidS l).length : Int)) = (laidS l).eraseIdx (pickS at_ ((laidS l).length : Int)).toNat ++ [row (laidS l) (pickS at_ ((laidS l).length : Int))] := drop_mid _ _ hk.1 hk.2
    have hkn : (pickS at_ ((laidS l).length : Int)).toNat < (laidS l).length := by omega
    have hr2 : (row (laidS l) (pickS at_ ((laidS l).length : Int))).1.length = 2 := (hok.2.1 _ (row_mem hk.1 hk.2)).1
    have E3 := want_eq (laidS l) hk.1 hk.2 hr2
    have E4 : wantMv (laidS l) (pickS at_ ((laidS l).length : Int)) = _ := E3
    have hne : laidS l ≠ [] := fun h => h0 (by rw [h]; rfl)
    have hwa := wf_app hok (row_mem hk.1 hk.2) (by omega)
    have hmemW : ∀ x ∈ (laidS l).eraseIdx (pickS at_ ((laidS l).length : Int)).toNat ++ [row (laidS l) (pickS at_ ((laidS l).length : Int))], x ∈ laidS l := by
      intro x hx
      rcases List.mem_append.1 hx with h | h
      · exact List.mem_of_mem_eraseIdx h
      · rw [List.mem_singleton.1 h]; exact row_mem hk.1 hk.2
    have hlW : ((laidS l).eraseIdx (pickS at_ ((laidS l).length : Int)).toNat ++ [row (laidS l) (pickS at_ ((laidS l).length : Int))]).length = (laidS l).length := by
      rw [List.length_append, List.length_eraseIdx, if_pos hkn]; simp; omega
    have hce : copyE (laidS l) (pickS at_ ((laidS l).length : Int)) = 0 := by unfold copyE; rw [if_neg (by omega), if_neg (by omega)]
    simp only [E1, E2] at q
    simp only [E3] at q
    have hlen1 : (pickS at_ ((laidS l).length : Int)).toNat + ((laidS l).length - (pickS at_ ((laidS l).length : Int) + 1).toNat) + 1 = (laidS l).length := by omega
    generalize hWW : (laidS l).eraseIdx (pickS at_ ((laidS l).length : Int)).toNat ++ [row (laidS l) (pickS at_ ((laidS l).length : Int))] = WW at *
    have hokW : okN 3 WW := ⟨hok.1, fun x hx => hok.2.1 x (hmemW x hx), by omega⟩
    refine calls_goes (h := []) (ob := []) funM bodM (by exact tmpM) hm hu ?_
    intro ac w hrel
    refine nm_start rfl hokW (by omega) q ?_ ?_ ?_ hrel
    · clear q
      generalize row (laidS l) (pickS at_ ((laidS l).length : Int)) = rk at *
      generalize pickS at_ ((laidS l).length : Int) = k at *
      generalize laidS l = R at *
      simp only [allP]
      simp [hok, hwa, hokW, hce, hlW, hne]; omega
    · simp [TM, leSlots, leV, leV1, leC, si, rsl, np, N.v, List.range, List.range.loop, hlW]; omega
    · have : leBs [0, 1, 8, 13] [SB.mk false (Cells.recB k2 l), SB.mk true (.exp [(.sint .i64 3), (.slice 8 (.c 0) 3 (.s WW.length) (.s WW.length))]), SB.mk true (Cells.recB k2 WW), SB.mk true (Cells.recB k2 (wantMv (laidS l) (pickS at_ ((laidS l).length : Int))))] (TM l WW WW 0 []).m := by
        rw [E4]
        simp [TM, leBs, leB, leCells, leL, leC, nb, rr, orr, N.v]
      exact this

set_option maxRecDepth 100000 in
theorem netMoved_lifted (os : Os) (started : os.Started) (H : Type) (enc : TypeId × Value → H) :
    ReturnsInHanded {} Try.checked os 7 .any (Rows.netMovedSpec.pre6 enc Try.prog Try.f7 Rows.netMovedRow.domain false) (Rows.netMovedSpec.post enc Try.prog Try.f7 false true false false) := by
  refine returnsInHanded_of_change (C := Try.checked) own started (by kernel_rfl) Try.func7
    (ChangeSpec.witness6 (enc := enc) (C := Try.checked) false ⟨#[], #[.slice none 0 0, .int .i64 0], []⟩ 8 (by kernel_rfl) (by kernel_rfl) (by kernel_rfl) (by kernel_rfl)) ?_
  intro W base args ds gs before hval0 hW hcnd _
  have hval : ∀ (j : Nat) t v, Try.f7.params[j]? = some t → args[j]? = some v → Value.okWide Try.prog W .any base t v := hval0
  have hW' := hW
  obtain ⟨p, q, hA0, hV, hbef, hfz, hnd⟩ := hW
  have hA : DataW.TrodAll enc Try.prog W 0 (fun _ => true) true Try.f7.params.toList args.toList ds p := hA0
  rw [Try.params7] at hA hval
  obtain ⟨v0, v1, d0, d1, p0, p1, rfl, rfl, hp, h0, h1⟩ := trodAll_two hA
  obtain ⟨a0, e0, r0, w0, m0, u0⟩ := one_rowB (ks := [.i64, .i64]) (d := 20) (by kernel_rfl) (hval 0 54 v0 rfl rfl) h0
  obtain ⟨a1, rfl, rfl, _, w1⟩ := open_int Try.underlying3 (hval 1 3 v1 rfl rfl) h1
  refine (netMoved_calls a0 e0 v0 a1 r0 w0 m0 u0 w1 W).mono fun e W' ⟨he, hb⟩ => ?_
  subst he
  exact ⟨_, rfl, post_law laidOut (by rw [Try.params7]; decide +kernel) rfl rfl (by kernel_rfl) Try.underlying4 hW' hb⟩

theorem netMoved_holds : Rows.NetMovedSaid :=
  OpenClaim.holds_of_wide 7 Try.f7 rfl rfl rfl rfl rfl rfl rfl ⟨rfl, rfl, rfl, rfl, rfl⟩ rfl rfl rfl rfl rfl (by kernel_rfl) Try.func7 (by kernel_rfl)
    (of_decide_eq_true (by kernel_rfl)) (by unfold Func.isWrapper; first | (rw [if_pos (by decide +kernel)]; kernel_rfl) | (rw [if_neg (by decide +kernel)]; exact ⟨rfl, rfl⟩))
    (fun os started H enc _ => netMoved_lifted os started H enc)
#print axioms netMoved_holds

end Go.Proofs.Ytjnnfehepbicfaa
