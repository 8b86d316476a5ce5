/- CommandLists is true of any two lists of orders and any cut, and leaves its arguments as they were. -/
import Derived.Test.YtgkhbhddmafakaaLstsA
import Derived.Test.YtgkhbhddmafakaaLstsP
namespace Go.Proofs.Ytgkhbhddmafakaa
open Go.ChangeShapes Go.WideShapes Go.ChangeAt Go.RowKit Go.Sx
theorem tabLs_ok : ∀ f g, tabLs ordS listS f = some g → TabOk Try.prog f g := tabs_ok fun x hx => by
  simp only [List.mem_cons, List.not_mem_nil, or_false] at hx
  rcases hx with rfl | rfl | rfl | rfl
  · exact yes_ok no_tabs awake_run
  · exact ordF_tab
  · exact list_tab
  · exact same2_tab
theorem add_self (n : Nat) : Nat.add n n = n + n := rfl
theorem sub_n (a b : Nat) : Nat.sub a b = a - b := rfl
theorem take_two (L : List (List Int)) : List.take (L.length + L.length) (L ++ L) = L ++ L := by
  rw [List.take_of_length_le]; simp
theorem u8_inj {x y : Int} (hx : 0 ≤ x ∧ x < 256) (hy : 0 ≤ y ∧ y < 256) (h : UInt8.ofNat x.toNat = UInt8.ofNat y.toNat) : x = y := by
  have := congrArg UInt8.toNat h
  simp only [UInt8.toNat_ofNat'] at this
  omega
theorem bytes_eq : ∀ {a b : List Int}, wfB a → wfB b → ((a.map fun n => UInt8.ofNat n.toNat) == b.map fun n => UInt8.ofNat n.toNat) = decide (a = b)
  | [], [], _, _ => rfl
  | [], _ :: _, _, _ => rfl
  | _ :: _, [], _, _ => rfl
  | x :: a, y :: b, ha, hb => by
    have ih := bytes_eq (a := a) (b := b) (fun z hz => ha z (by simp [hz])) (fun z hz => hb z (by simp [hz]))
    simp only [List.map_cons, List.cons_beq_cons, ih]
    by_cases hxy : x = y
    · subst hxy; simp
    · have : ¬ UInt8.ofNat x.toNat = UInt8.ofNat y.toNat := fun h => hxy (u8_inj (ha x (by simp)) (hb y (by simp)) h)
      simp [hxy, this]
set_option maxHeartbeats 8000000 in
set_option maxRecDepth 100000 in
theorem commandLists_calls (l : List (List Int)) (e : E) (v : Value) (m : List (List Int)) (e' : E) (v' : Value) (cut : Int) {W0 : World}
    (r : readOnly W0 (e, roO l)) (w : ∀ r ∈ l, wfRow [.i64, .i64, .u8, .i64, .i64, .i64, .i64] r) (_m : l.length ≤ maxLen) (u : ∀ (ρ : Env) (b : Nat), ρ[b]? = some e → (V.v (.one (.slice b (.c 0) 7 (.s l.length) (.s l.length)))).rel ρ v)
    (r' : readOnly W0 (e', roO m)) (w' : ∀ r ∈ m, wfRow [.i64, .i64, .u8, .i64, .i64, .i64, .i64] r) (_m' : m.length ≤ maxLen) (u' : ∀ (ρ : Env) (b : Nat), ρ[b]? = some e' → (V.v (.one (.slice b (.c 0) 7 (.s m.length) (.s m.length)))).rel ρ v')
    (wc : (Lit.int .i64 cut).wf = true) (W : World) (hW : W0 = W := by rfl) : Calls Try.prog 7 #[v, v', .int .i64 cut] W fun e w' => e = .returned (.bool true) ∧ Below W.heap.size W w' := by
  subst hW
  have hm := mem_args (W := W0) [(e, roO l), (e', roO m)] (by intro y hy; simp at hy; rcases hy with rfl | rfl; exact r; exact r')
  have hu : relVs ([(e, roO l), (e', roO m)].map (·.1)) [slO 0 l.length l.length, slO 1 m.length m.length, si .i64 cut] [v, v', .int .i64 cut] := ⟨_, _, rfl, u _ 0 rfl, _, _, rfl, u' _ 1 rfl, _, _, rfl, ⟨rfl, rfl⟩, rfl⟩
  have app : ∀ {X : Type} {f g : GO → GL → List (List Int) → List (List Int) → Int → X}, f = g → f ordS listS l m cut = g ordS listS l m cut := fun h => by rw [h]
  have h7 : rows7 l := fun x hx => (wf7 (w x hx)).1
  have hwo : wfO l := fun x hx => (wf7 (w x hx)).2
  have k7 : rows7 m := fun x hx => (wf7 (w' x hx)).1
  have kwo : wfO m := fun x hx => (wf7 (w' x hx)).2
  have m1 : (0 : Int) ≤ if 60 < (l.length : Int) then 60 else (l.length : Int) := by split <;> omega
  have m2 : (if 60 < (l.length : Int) then 60 else (l.length : Int)) ≤ (l.length : Int) := by split <;> omega
  have m3 : (0 : Int) ≤ if 60 < (m.length : Int) then 60 else (m.length : Int) := by split <;> omega
  have m4 : (if 60 < (m.length : Int) then 60 else (m.length : Int)) ≤ (m.length : Int) := by split <;> omega
  obtain ⟨n1, hn1⟩ : ∃ n1, Int.toNat (if 60 < (l.length : Int) then 60 else (l.length : Int)) = n1 := ⟨_, rfl⟩
  obtain ⟨n2, hn2⟩ : ∃ n2, Int.toNat (if 60 < (m.length : Int) then 60 else (m.length : Int)) = n2 := ⟨_, rfl⟩
  have m5 : n1 ≤ l.length ∧ n1 ≤ 60 := by rw [← hn1]; split <;> omega
  have m6 : n2 ≤ m.length ∧ n2 ≤ 60 := by rw [← hn2]; split <;> omega
  have h72 := rows7_take h7 n1
  have hwo2 := wfO_take hwo n1
  have k72 := rows7_take k7 n2
  have kwo2 := wfO_take kwo n2
  by_cases hl : (ordS (l.take n1)).2 = 0
  rotate_left
  · have q := app lsN1
    simp only [ls, hn1, hn2] at q
    refine law_obs tabLs_ok q ?_ hm hu
    exact ⟨t2K hl, m6.1, kwo, m5.1, hwo, m3, m4, m1, m2, trivial⟩
  by_cases hk : (ordS (m.take n2)).2 = 0
  rotate_left
  · have q := app lsN2
    simp only [ls, hn1, hn2] at q
    refine law_obs tabLs_ok q ?_ hm hu
    exact ⟨t2K hk, t1K hl, m6.1, kwo, m5.1, hwo, m3, m4, m1, m2, trivial⟩
  obtain ⟨la, ll, le⟩ := ord_all hl
  obtain ⟨ka, kl, ke⟩ := ord_all hk
  have hlen1 : (l.take n1).length = n1 := by rw [List.length_take]; omega
  have hlen2 : (m.take n2).length = n2 := by rw [List.length_take]; omega
  obtain ⟨L, hL⟩ : ∃ L, l.take n1 = L := ⟨_, rfl⟩
  obtain ⟨M, hM⟩ : ∃ M, m.take n2 = M := ⟨_, rfl⟩
  rw [hL] at hl h72 hwo2 la ll le hlen1
  rw [hM] at hk k72 kwo2 ka kl ke hlen2
  obtain ⟨A, hA⟩ : ∃ A, vint ((L.length : Nat) : Int) ++ bytesO L = A := ⟨_, rfl⟩
  obtain ⟨B, hB⟩ : ∃ B, vint ((M.length : Nat) : Int) ++ bytesO M = B := ⟨_, rfl⟩
  rw [hA] at le
  rw [hB] at ke
  have d7 : rows7 (L ++ L) := fun x hx => by rcases List.mem_append.1 hx with h | h <;> exact h72 x h
  have dwo : wfO (L ++ L) := fun x hx => by rcases List.mem_append.1 hx with h | h <;> exact hwo2 x h
  have da : (L ++ L).all rowOk = true := by rw [List.all_append, la]; rfl
  obtain ⟨X, x1, x2, x3, x4⟩ := ord_yes2 d7 dwo (ord_is da (by rw [List.length_append]; omega))
  have e2 : (L ++ L).take (n1 + n1) = L ++ L := by rw [← hlen1]; exact take_two L
  have e3 : (L ++ L).length = n1 + n1 := by rw [List.length_append, hlen1]
  have e4 : (L ++ L).drop n1 = L := by rw [← hlen1]; exact List.drop_left
  have e5 : (L ++ L).take n1 = L := by rw [← hlen1]; exact List.take_left
  have e6 : n1 + n1 - n1 = n1 := by omega
  have e7 : L.take n1 = L := by rw [← hlen1]; exact List.take_length
  have wA : wfB A := by rw [← hA]; exact isB_app (isB_vint _) (wfB_bytesO hwo2)
  have wB : wfB B := by rw [← hB]; exact isB_app (isB_vint _) (wfB_bytesO kwo2)
  have lA : A.length ≤ 80000 := by
    have hb := bytesO_len la
    have hv := vint_le (n := ((L.length : Nat) : Int)) ⟨by omega, by omega⟩
    rw [← hA, List.length_append]; omega
  have lB : B.length ≤ 80000 := by
    have hb := bytesO_len ka
    have hv := vint_le (n := ((M.length : Nat) : Int)) ⟨by omega, by omega⟩
    rw [← hB, List.length_append]; omega
  have hcut : 0 ≤ cut → cut < A.length → (!decide ((listS A cut.toNat).2 = 109)) = false := fun h0 h1 => by
    rw [← hA] at h1 ⊢
    rw [list_cut h72 hwo2 la (n := cut.toNat) (by omega)]; rfl
  have hmin : Int.toNat (if (B.length : Int) < (A.length : Int) then (B.length : Int) else (A.length : Int)) = min A.length B.length := by split <;> omega
  have hmin0 : (0 : Int) ≤ if (B.length : Int) < (A.length : Int) then (B.length : Int) else (A.length : Int) := by split <;> omega
  have hmin1 : (if (B.length : Int) < (A.length : Int) then (B.length : Int) else (A.length : Int)) ≤ (B.length : Int) := by split <;> omega
  have hbeg : A.length ≤ B.length → (!(A.map (fun n => UInt8.ofNat n.toNat) == (B.take A.length).map (fun n => UInt8.ofNat n.toNat)) == decide (L = M)) = false := fun h => by
    rw [bytes_eq wA (fun x hx => wB x (List.mem_of_mem_take hx))]
    have := begins_iff h72 k72 la ka hA.symm hB.symm
    by_cases hLM : L = M
    · rw [decide_eq_true hLM, decide_eq_true (this.2 hLM)]; rfl
    · rw [decide_eq_false hLM, decide_eq_false fun h => hLM (this.1 h)]; rfl
  have hno : ¬ A.length ≤ B.length → decide (L = M) = false := fun h => decide_eq_false fun e => h (by rw [← hA, ← hB, e]; exact Nat.le_refl _)
  have mn1 : A.length ≤ B.length → min A.length B.length = A.length := fun h => Nat.min_eq_left h
  have mn2 : ¬ A.length ≤ B.length → min A.length B.length = B.length := fun h => Nat.min_eq_right (by omega)
  by_cases hAB : A.length ≤ B.length
  · have hmin' := mn1 hAB
    by_cases hc0 : 0 ≤ cut
    · by_cases hc1 : cut < A.length
      · have q := app ls12
        simp only [ls, hn1, hn2, List.drop_zero, add_self, sub_n, hL, hM, List.nil_append, e2, le, ke, x1, x2, e3, e4, e5, e6, e7, Int.toNat_natCast, hmin, hmin'] at q
        refine law_obs tabLs_ok q ?_ hm hu
        repeat' (first | exact allO_nil | refine allO_cons ?_ ?_)
        all_goals first | exact Eq.refl _ | exact Nat.le_refl _ | exact m1 | exact m2 | exact m3 | exact m4 | exact m5.1 | exact m6.1 | exact h7 | exact k7 | exact hwo | exact kwo | exact h72 | exact k72 | exact hwo2 | exact kwo2 | exact d7 | exact dwo | exact x3 | exact wA | exact wB | exact hmin0 | exact hmin1 | exact t1K rfl | exact decide_eq_true rfl | omega | exact decide_eq_true (by omega) | exact decide_eq_false (by omega) | exact hcut hc0 hc1 | exact hbeg hAB | (rw [hno hAB]; rfl) | (rw [hmin']; omega) | skip
      · have q := app ls11
        simp only [ls, hn1, hn2, List.drop_zero, add_self, sub_n, hL, hM, List.nil_append, e2, le, ke, x1, x2, e3, e4, e5, e6, e7, Int.toNat_natCast, hmin, hmin'] at q
        refine law_obs tabLs_ok q ?_ hm hu
        repeat' (first | exact allO_nil | refine allO_cons ?_ ?_)
        all_goals first | exact Eq.refl _ | exact Nat.le_refl _ | exact m1 | exact m2 | exact m3 | exact m4 | exact m5.1 | exact m6.1 | exact h7 | exact k7 | exact hwo | exact kwo | exact h72 | exact k72 | exact hwo2 | exact kwo2 | exact d7 | exact dwo | exact x3 | exact wA | exact wB | exact hmin0 | exact hmin1 | exact t1K rfl | exact decide_eq_true rfl | omega | exact decide_eq_true (by omega) | exact decide_eq_false (by omega) | exact hcut hc0 hc1 | exact hbeg hAB | (rw [hno hAB]; rfl) | (rw [hmin']; omega) | skip
    · have q := app ls10
      simp only [ls, hn1, hn2, List.drop_zero, add_self, sub_n, hL, hM, List.nil_append, e2, le, ke, x1, x2, e3, e4, e5, e6, e7, Int.toNat_natCast, hmin, hmin'] at q
      refine law_obs tabLs_ok q ?_ hm hu
      repeat' (first | exact allO_nil | refine allO_cons ?_ ?_)
      all_goals first | exact Eq.refl _ | exact Nat.le_refl _ | exact m1 | exact m2 | exact m3 | exact m4 | exact m5.1 | exact m6.1 | exact h7 | exact k7 | exact hwo | exact kwo | exact h72 | exact k72 | exact hwo2 | exact kwo2 | exact d7 | exact dwo | exact x3 | exact wA | exact wB | exact hmin0 | exact hmin1 | exact t1K rfl | exact decide_eq_true rfl | omega | exact decide_eq_true (by omega) | exact decide_eq_false (by omega) | exact hcut hc0 hc1 | exact hbeg hAB | (rw [hno hAB]; rfl) | (rw [hmin']; omega) | skip
  · have hmin' := mn2 hAB
    by_cases hc0 : 0 ≤ cut
    · by_cases hc1 : cut < A.length
      · have q := app ls02
        simp only [ls, hn1, hn2, List.drop_zero, add_self, sub_n, hL, hM, List.nil_append, e2, le, ke, x1, x2, e3, e4, e5, e6, e7, Int.toNat_natCast, hmin, hmin'] at q
        refine law_obs tabLs_ok q ?_ hm hu
        repeat' (first | exact allO_nil | refine allO_cons ?_ ?_)
        all_goals first | exact Eq.refl _ | exact Nat.le_refl _ | exact m1 | exact m2 | exact m3 | exact m4 | exact m5.1 | exact m6.1 | exact h7 | exact k7 | exact hwo | exact kwo | exact h72 | exact k72 | exact hwo2 | exact kwo2 | exact d7 | exact dwo | exact x3 | exact wA | exact wB | exact hmin0 | exact hmin1 | exact t1K rfl | exact decide_eq_true rfl | omega | exact decide_eq_true (by omega) | exact decide_eq_false (by omega) | exact hcut hc0 hc1 | exact hbeg hAB | (rw [hno hAB]; rfl) | (rw [hmin']; omega) | skip
      · have q := app ls01
        simp only [ls, hn1, hn2, List.drop_zero, add_self, sub_n, hL, hM, List.nil_append, e2, le, ke, x1, x2, e3, e4, e5, e6, e7, Int.toNat_natCast, hmin, hmin'] at q
        refine law_obs tabLs_ok q ?_ hm hu
        repeat' (first | exact allO_nil | refine allO_cons ?_ ?_)
        all_goals first | exact Eq.refl _ | exact Nat.le_refl _ | exact m1 | exact m2 | exact m3 | exact m4 | exact m5.1 | exact m6.1 | exact h7 | exact k7 | exact hwo | exact kwo | exact h72 | exact k72 | exact hwo2 | exact kwo2 | exact d7 | exact dwo | exact x3 | exact wA | exact wB | exact hmin0 | exact hmin1 | exact t1K rfl | exact decide_eq_true rfl | omega | exact decide_eq_true (by omega) | exact decide_eq_false (by omega) | exact hcut hc0 hc1 | exact hbeg hAB | (rw [hno hAB]; rfl) | (rw [hmin']; omega) | skip
    · have q := app ls00
      simp only [ls, hn1, hn2, List.drop_zero, add_self, sub_n, hL, hM, List.nil_append, e2, le, ke, x1, x2, e3, e4, e5, e6, e7, Int.toNat_natCast, hmin, hmin'] at q
      refine law_obs tabLs_ok q ?_ hm hu
      repeat' (first | exact allO_nil | refine allO_cons ?_ ?_)
      all_goals first | exact Eq.refl _ | exact Nat.le_refl _ | exact m1 | exact m2 | exact m3 | exact m4 | exact m5.1 | exact m6.1 | exact h7 | exact k7 | exact hwo | exact kwo | exact h72 | exact k72 | exact hwo2 | exact kwo2 | exact d7 | exact dwo | exact x3 | exact wA | exact wB | exact hmin0 | exact hmin1 | exact t1K rfl | exact decide_eq_true rfl | omega | exact decide_eq_true (by omega) | exact decide_eq_false (by omega) | exact hcut hc0 hc1 | exact hbeg hAB | (rw [hno hAB]; rfl) | (rw [hmin']; omega) | skip

set_option maxRecDepth 100000 in
theorem commandLists_lifted (os : Os) (started : os.Started) (H : Type) (enc : TypeId × Value → H) :
    ReturnsInHanded {} Try.checked os 7 .any (Rows.commandListsSpec.pre6 enc Try.prog Try.f7 Rows.commandListsRow.domain false) (Rows.commandListsSpec.post enc Try.prog Try.f7 false true false false) := by
  refine returnsInHanded_of_change (C := Try.checked) own started (by kernel_rfl) Try.func7
    (ChangeSpec.witness6 (enc := enc) (C := Try.checked) false ⟨#[], #[.slice none 0 0, .slice none 0 0, .int .i64 0], []⟩ 8 (by kernel_rfl) (by kernel_rfl) (by kernel_rfl) (by kernel_rfl)) ?_
  intro W base args ds gs before hval0 hW hcnd _
  have hval : ∀ (j : Nat) t v, Try.f7.params[j]? = some t → args[j]? = some v → Value.okWide Try.prog W .any base t v := hval0
  have hW' := hW
  obtain ⟨p, q, hA0, hV, hbef, hfz, hnd⟩ := hW
  have hA : DataW.TrodAll enc Try.prog W 0 (fun _ => true) true Try.f7.params.toList args.toList ds p := hA0
  rw [Try.params7] at hA hval
  obtain ⟨v0, v1, v2, d0, d1, d2, p0, p1, p2, rfl, rfl, hp, h0, h1, h2⟩ := trodAll_three hA
  obtain ⟨a0, e0, r0, w0, m0, u0⟩ := one_rows (ks := [.i64, .i64, .u8, .i64, .i64, .i64, .i64]) (d := 20) (by kernel_rfl) (hval 0 35 v0 rfl rfl) h0
  obtain ⟨a1, e1, r1, w1, m1, u1⟩ := one_rows (ks := [.i64, .i64, .u8, .i64, .i64, .i64, .i64]) (d := 20) (by kernel_rfl) (hval 1 35 v1 rfl rfl) h1
  obtain ⟨a2, rfl, rfl, _, w2⟩ := open_int Try.underlying3 (hval 2 3 v2 rfl rfl) h2
  refine (commandLists_calls a0 e0 v0 a1 e1 v1 a2 r0 w0 m0 u0 r1 w1 m1 u1 w2 W).mono fun e W' ⟨he, hb⟩ => ?_
  subst he
  exact ⟨_, rfl, post_law laidOut (by rw [Try.params7]; decide +kernel) rfl rfl (by kernel_rfl) Try.underlying4 hW' hb⟩

theorem commandLists_holds : Rows.CommandListsSaid :=
  OpenClaim.holds_of_wide 7 Try.f7 rfl rfl rfl rfl rfl rfl rfl ⟨rfl, rfl, rfl, rfl, rfl⟩ rfl rfl rfl rfl rfl (by kernel_rfl) Try.func7 (by kernel_rfl)
    (of_decide_eq_true (by kernel_rfl)) (by unfold Func.isWrapper; first | (rw [if_pos (by decide +kernel)]; kernel_rfl) | (rw [if_neg (by decide +kernel)]; exact ⟨rfl, rfl⟩))
    (fun os started H enc _ => commandLists_lifted os started H enc)
#print axioms commandLists_holds

end Go.Proofs.Ytgkhbhddmafakaa
