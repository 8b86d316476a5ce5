/- BytesTwo is true of any bytes and any two bits, and leaves its arguments as they were. -/
import Derived.Test.YtjjjpflnhagfcaaTwoA
namespace Go.Proofs.Ytjjjpflnhagfcaa
open Go.ChangeShapes Go.WideShapes Go.ChangeAt Go.RowKit Go.Sx
theorem tabT2_ok : ∀ f g, tabT2 f = some g → TabOk Try.prog f g := tabs_ok fun x hx => by
  simp only [List.mem_cons, List.not_mem_nil, or_false] at hx
  rcases hx with rfl | rfl | rfl
  · exact yes_ok no_tabs awake_run
  · exact seal_tab
  · exact unseal_tab
theorem pow8 : ∀ t : Nat, t < 8 → IntKind.wrap .u8 (1 * 2 ^ t) = ((2 ^ t : Nat) : Int) := by decide
theorem flip_run {x : List Int} (hw : wf8 x) (p : Nat) : List.set x (Int.toNat (Int.tdiv (p : Int) 8)) (bits .xor .u8 (List.getD x (Int.toNat (Int.tdiv (p : Int) 8)) 0) (IntKind.wrap .u8 (1 * 2 ^ if Int.toNat (Int.tmod (p : Int) 8) ≤ 8 then Int.toNat (Int.tmod (p : Int) 8) else 8))) = flip x p := by
  have e1 : Int.toNat (Int.tdiv (p : Int) 8) = p / 8 := by rw [Int.tdiv_eq_ediv_of_nonneg (by omega)]; omega
  have e2 : Int.toNat (Int.tmod (p : Int) 8) = p % 8 := by rw [Int.tmod_eq_emod_of_nonneg (by omega)]; omega
  have ht : p % 8 < 8 := Nat.mod_lt _ (by omega)
  have hp : 2 ^ (p % 8) < 256 := Nat.lt_of_lt_of_eq (Nat.pow_lt_pow_right (by omega) ht) (show 2 ^ 8 = 256 from rfl)
  have hp' : ((2 ^ (p % 8) : Nat) : Int) < 256 := Int.ofNat_lt.2 hp
  have hg := wf8_get hw (p / 8)
  rw [e1, e2, if_pos (by omega), pow8 _ ht, u8_xor _ _ hg.1 hg.2 (Int.natCast_nonneg _) hp', Int.toNat_natCast]
  rfl
theorem tmod_nat {p : Int} (h : 0 ≤ p) (n : Nat) : Int.tmod p (8 * ((n : Nat) : Int)) = ((p.toNat % (8 * n) : Nat) : Int) := by
  obtain ⟨k, rfl⟩ := Int.eq_ofNat_of_zero_le h
  rw [show (8 * (n : Int)) = ((8 * n : Nat) : Int) by omega]
  rfl
theorem place_ok {r n : Nat} (h : r < 8 * (n + 4)) (hn : n ≤ 300) : Int.toNat (Int.tdiv (r : Int) 8) < n + 4 ∧ 0 ≤ Int.tdiv (r : Int) 8 ∧ Int.tdiv (r : Int) 8 < ((Nat.add n 4 : Nat) : Int) ∧ 0 ≤ Int.tmod (r : Int) 8 ∧ -9223372036854775808 ≤ Int.tdiv (r : Int) 8 ∧ Int.tdiv (r : Int) 8 ≤ 9223372036854775807 := by
  rw [Int.tdiv_eq_ediv_of_nonneg (by omega), Int.tmod_eq_emod_of_nonneg (by omega)]
  show _ ∧ _ ∧ _ < ((n + 4 : Nat) : Int) ∧ _
  omega
theorem allP_nil : allP [] := trivial
theorem allP_cons {p : Prop} {r : List Prop} (h : p) (h' : allP r) : allP (p :: r) := ⟨h, h'⟩
theorem beqs (x : List UInt8) : (x == x) = true := by simp
theorem bytesTwo_calls (l : List Int) (e : E) (v : Value) (p q : Int) {W0 : World} (r : readOnly W0 (e, ri l)) (w : ∀ n ∈ l, (Lit.int .u8 n).wf = true) (_m : l.length ≤ maxLen)
    (u : ∀ (ρ : Env) (b : Nat), ρ[b]? = some e → (V.v (.one (.slice b (.c 0) 1 (.s l.length) (.s l.length)))).rel ρ v) (wp : (Lit.int .u16 p).wf = true) (wq : (Lit.int .u16 q).wf = true) (W : World) (hW : W0 = W := by rfl) : Calls Try.prog 7 #[v, .int .u16 p, .int .u16 q] W fun e w' => e = .returned (.bool true) ∧ Below W.heap.size W w' := by
  subst hW
  have hm := mem_args (W := W0) [(e, ri l)] (by intro y hy; simp at hy; subst hy; exact r)
  have hu : relVs ([(e, ri l)].map (·.1)) [bsl 0 l.length l.length, si .u16 p, si .u16 q] [v, .int .u16 p, .int .u16 q] := ⟨_, _, rfl, u _ 0 rfl, _, _, rfl, ⟨rfl, rfl⟩, _, _, rfl, ⟨rfl, rfl⟩, rfl⟩
  have hp0 : 0 ≤ p ∧ p < 65536 := by simp [Lit.wf, IntKind.min, IntKind.max, IntKind.signed, IntKind.bits] at wp; omega
  have hq0 : 0 ≤ q ∧ q < 65536 := by simp [Lit.wf, IntKind.min, IntKind.max, IntKind.signed, IntKind.bits] at wq; omega
  by_cases h0 : (300 : Int) < l.length
  · refine law_obs tabT2_ok (congrFun (congrFun (congrFun tw0 l) p) q) ?_ hm hu
    exact ⟨decide_eq_true h0, trivial⟩
  · have hw := wf8_of w
    have hN := congrFun (congrFun (congrFun twN l) p) q
    have hE := congrFun (congrFun (congrFun twE l) p) q
    have hP := tmod_nat hp0.1 (l.length + 4)
    have hQ := tmod_nat hq0.1 (l.length + 4)
    have hPl : p.toNat % (8 * (l.length + 4)) < 8 * (l.length + 4) := Nat.mod_lt _ (by omega)
    have hQl : q.toNat % (8 * (l.length + 4)) < 8 * (l.length + 4) := Nat.mod_lt _ (by omega)
    generalize p.toNat % (8 * (l.length + 4)) = P at *
    generalize q.toNat % (8 * (l.length + 4)) = Q at *
    have hwL := wf8_seal hw
    have hwP := wf8_flip hwL P
    have hwQ := wf8_flip hwP Q
    have lL := seal_len l
    have lP : (flip (sealS l) P).length = l.length + 4 := by rw [flip_len, lL]
    have lQ : (flip (flip (sealS l) P) Q).length = l.length + 4 := by rw [flip_len, lP]
    have tP : List.take (Nat.add l.length 4) (flip (sealS l) P) = flip (sealS l) P := List.take_of_length_le (by rw [lP]; exact Nat.le_refl _)
    have tQ : List.take (Nat.add l.length 4) (flip (flip (sealS l) P) Q) = flip (flip (sealS l) P) Q := List.take_of_length_le (by rw [lQ]; exact Nat.le_refl _)
    have fP := flip_run hwL P
    have fQ := flip_run hwP Q
    have u1 := unseal_one hw hPl
    simp only [List.take_length, hP, hQ, fP, fQ, tP, tQ, u1, lP, lQ, lL] at hN hE
    by_cases hne : P = Q
    · subst hne
      have ff : flip (flip (sealS l) P) P = sealS l := flip_twice hwL (by omega)
      have u2 := unseal_seal l
      simp only [ff, u2] at hE
      refine law_obs tabT2_ok hE ?_ hm hu
      obtain ⟨a1, a2, a3, a4, a5⟩ := place_ok hPl (by omega)
      obtain ⟨b1, b2, b3, b4, b5⟩ := place_ok hQl (by omega)
      have c1 : l.length.add 4 ≤ l.length + 4 := Nat.le_refl _
      have c2 : l.length.add 4 ≤ 1000000 := by show l.length + 4 ≤ _; omega
      have c3 : (!decide (((l.length + 4 : Nat) : Int) = (l.length : Int) + 4)) = false := by rw [decide_eq_true (by omega)]; rfl
      repeat' (first | exact allP_nil | refine allP_cons ?_ ?_)
      all_goals first | exact trivial | exact decide_eq_true trivial | exact hw | exact hwL | exact hwP | exact hwQ | exact c1 | exact c2 | exact a1 | exact a2 | exact a3 | exact a4 | exact a5 | exact b1 | exact b2 | exact b3 | exact b4 | exact b5 | exact beqs _ | exact decide_eq_false h0 | exact c3 | exact decide_eq_true rfl | omega | exact decide_eq_false (by omega)
    · have u2 := unseal_two hw (by omega) hPl hQl hne
      simp only [u2] at hN
      refine law_obs tabT2_ok hN ?_ hm hu
      obtain ⟨a1, a2, a3, a4, a5⟩ := place_ok hPl (by omega)
      obtain ⟨b1, b2, b3, b4, b5⟩ := place_ok hQl (by omega)
      have c1 : l.length.add 4 ≤ l.length + 4 := Nat.le_refl _
      have c2 : l.length.add 4 ≤ 1000000 := by show l.length + 4 ≤ _; omega
      have c3 : (!decide (((l.length + 4 : Nat) : Int) = (l.length : Int) + 4)) = false := by rw [decide_eq_true (by omega)]; rfl
      repeat' (first | exact allP_nil | refine allP_cons ?_ ?_)
      all_goals first | exact trivial | exact decide_eq_true trivial | exact hw | exact hwL | exact hwP | exact hwQ | exact c1 | exact c2 | exact a1 | exact a2 | exact a3 | exact a4 | exact a5 | exact b1 | exact b2 | exact b3 | exact b4 | exact b5 | exact beqs _ | exact decide_eq_false h0 | exact c3 | exact decide_eq_true rfl | omega | exact decide_eq_false (by omega)

set_option maxRecDepth 100000 in
theorem bytesTwo_lifted (os : Os) (started : os.Started) (H : Type) (enc : TypeId × Value → H) :
    ReturnsInHanded {} Try.checked os 7 .any (Rows.bytesTwoSpec.pre6 enc Try.prog Try.f7 Rows.bytesTwoRow.domain false) (Rows.bytesTwoSpec.post enc Try.prog Try.f7 false true false false) := by
  refine returnsInHanded_of_change (C := Try.checked) own started (by kernel_rfl) Try.func7
    (ChangeSpec.witness6 (enc := enc) (C := Try.checked) false ⟨#[], #[.slice none 0 0, .int .u16 0, .int .u16 0], []⟩ 8 (by kernel_rfl) (by kernel_rfl) (by kernel_rfl) (by kernel_rfl)) ?_
  intro W base args ds gs before hval0 hW hcnd _
  have hval : ∀ (j : Nat) t v, Try.f7.params[j]? = some t → args[j]? = some v → Value.okWide Try.prog W .any base t v := hval0
  have hW' := hW
  obtain ⟨p, q, hA0, hV, hbef, hfz, hnd⟩ := hW
  have hA : DataW.TrodAll enc Try.prog W 0 (fun _ => true) true Try.f7.params.toList args.toList ds p := hA0
  rw [Try.params7] at hA hval
  obtain ⟨v0, v1, v2, d0, d1, d2, p0, p1, p2, rfl, rfl, hp, h0, h1, h2⟩ := trodAll_three hA
  obtain ⟨a0, e0, r0, w0, m0, u0⟩ := one_ints (k := .u8) (d := 20) (by kernel_rfl) (hval 0 23 v0 rfl rfl) h0
  obtain ⟨a1, rfl, rfl, _, w1⟩ := open_int Try.underlying35 (hval 1 35 v1 rfl rfl) h1
  obtain ⟨a2, rfl, rfl, _, w2⟩ := open_int Try.underlying35 (hval 2 35 v2 rfl rfl) h2
  refine (bytesTwo_calls a0 e0 v0 a1 a2 r0 w0 m0 u0 w1 w2 W).mono fun e W' ⟨he, hb⟩ => ?_
  subst he
  exact ⟨_, rfl, post_law laidOut (by rw [Try.params7]; decide +kernel) rfl rfl (by kernel_rfl) Try.underlying4 hW' hb⟩

theorem bytesTwo_holds : Rows.BytesTwoSaid :=
  OpenClaim.holds_of_wide 7 Try.f7 rfl rfl rfl rfl rfl rfl rfl ⟨rfl, rfl, rfl, rfl, rfl⟩ rfl rfl rfl rfl rfl (by kernel_rfl) Try.func7 (by kernel_rfl)
    (of_decide_eq_true (by kernel_rfl)) (by unfold Func.isWrapper; first | (rw [if_pos (by decide +kernel)]; kernel_rfl) | (rw [if_neg (by decide +kernel)]; exact ⟨rfl, rfl⟩))
    (fun os started H enc _ => bytesTwo_lifted os started H enc)
#print axioms bytesTwo_holds

end Go.Proofs.Ytjjjpflnhagfcaa
