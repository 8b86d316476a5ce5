/- Two functions of the library, walked (lines of the shelf's templates turned to this program). ShaOrder: its run. ShaOrder is true of any two hashes. -/
import Derived.Test.YtlboenjdbgkofaaSxAF
import Derived.Test.YtlboenjdbgkofaaRows
import Derived.Lib.Strings
import Derived.Lib.Slices
import Derived.Lib.Walk
import Derived.Lib.Bytealg
import Derived.Test.YtlboenjdbgkofaaZaD
namespace Go.Proofs.Ytlboenjdbgkofaa
section
open Go Go.Proofs Go.Sx
set_option maxHeartbeats 1000000 in
set_option maxRecDepth 100000 in
theorem cmpS (a b : ByteArray) (w : World) : Calls Try.prog 36 #[.string a, .string b] w fun e w' => e = .returned (.int .i64 (Lib.compareBytes a.data.toList b.data.toList)) ∧ w' = w := by
  go_enter Try.func36, Try.ntmps36
  go_wp2
  rw [run_callFunc_extern Try.func54 (by kernel_rfl) (by kernel_rfl) (by kernel_rfl) (e := Extern.BytealgCompare.compare) (by kernel_rfl), Lib.run_compareString]
  simp only [Result.andThen]
  rw [Oper.upon_value]
  go_wp2
  go_ret
  exact ⟨rfl, rfl⟩
set_option maxHeartbeats 1000000 in
theorem compare_calls (a b : ByteArray) (w : World) : Calls Try.prog 19 #[.string a, .string b] w fun e w' => e = .returned (.int .i64 (Lib.compareBytes a.data.toList b.data.toList)) ∧ w' = w := by
  go_enter Try.func19, Try.ntmps19
  go_wp2_with (go_at_call 36; refine (cmpS _ _ _).mono ?_; rintro e w' ⟨rfl, rfl⟩)
  go_ret
  exact ⟨rfl, rfl⟩
set_option maxHeartbeats 1000000 in
set_option maxRecDepth 100000 in
theorem idxS (s : ByteArray) (c : Int) (w : World) : Calls Try.prog 37 #[.string s, .int .u8 c] w fun e w' => e = .returned (.int .i64 (Lib.indexByte s.data.toList c.toNat.toUInt8)) ∧ w' = w := by
  go_enter Try.func37, Try.ntmps37
  go_wp2
  rw [run_callFunc_extern Try.func55 (by kernel_rfl) (by kernel_rfl) (by kernel_rfl) (e := Extern.BytealgIndexByte.indexByte) (by kernel_rfl), Lib.run_indexByteString]
  simp only [Result.andThen]
  rw [Oper.upon_value]
  go_wp2
  go_ret
  exact ⟨rfl, rfl⟩
set_option maxHeartbeats 1000000 in
theorem index_calls (s : ByteArray) (c : Int) (w : World) : Calls Try.prog 20 #[.string s, .int .u8 c] w fun e w' => e = .returned (.int .i64 (Lib.indexByte s.data.toList c.toNat.toUInt8)) ∧ w' = w := by
  go_enter Try.func20, Try.ntmps20
  go_wp2_with (go_at_call 37; refine (idxS _ _ _).mono ?_; rintro e w' ⟨rfl, rfl⟩)
  go_ret
  exact ⟨rfl, rfl⟩
theorem cmp_tab : TabOk Try.prog 19 (strTab Lib.compareBytes) := strTab_ok compare_calls
theorem idx_tab : TabOk Try.prog 20 (idxTab fun l c => Lib.indexByte l c.toNat.toUInt8) := idxTab_ok index_calls
end
section
open Go.Sx
def tabOr := tabs [(19, strTab Lib.compareBytes), (20, idxTab fun l c => Lib.indexByte l c.toNat.toUInt8), (15, hexT), (14, yesT)]
noncomputable def lwOr (f : FuncId) (args : List V) (m : List SB) (h : List Bool) := obsOf (callN Try.prog tabOr (fun _ => false) 100000 6 f args m h)
def ixD (g : List Int) (j : Nat) : Int := Lib.indexByte (ByteArray.data { data := #[(48 : UInt8), 49, 50, 51, 52, 53, 54, 55, 56, 57, 97, 98, 99, 100, 101, 102] }).toList (Nat.toUInt8 (Int.toNat (((hexN (nats g)).getD j 0).toNat : Int)))
def orP (g : List Int) (i : Nat) : List Prop := [(!decide (IntKind.wrap IntKind.u8 (16 * ixD g (2 * i) + ixD g (2 * i + 1)) = g.getD i 0)) = false,
  (-9223372036854775808 : Int) ≤ 16 * ixD g (2 * i) + ixD g (2 * i + 1) ∧ 16 * ixD g (2 * i) + ixD g (2 * i + 1) ≤ (9223372036854775807 : Int),
  (-9223372036854775808 : Int) ≤ 16 * ixD g (2 * i) ∧ 16 * ixD g (2 * i) ≤ (9223372036854775807 : Int), decide (ixD g (2 * i + 1) < (0 : Int)) = false, decide (ixD g (2 * i) < (0 : Int)) = false,
  ((2 * i + 1 : Nat) : Int) < ((hexN (nats g)).length : Int), ((2 * i : Nat) : Int) < ((hexN (nats g)).length : Int), i < g.length]
def orQ (g k : List Int) : List Prop := [g.length = 32, (!decide (Lib.compareBytes (hexN (nats g)) (hexN (nats k)) = Lib.compareBytes (g.map fun n => UInt8.ofNat n.toNat) (k.map fun n => UInt8.ofNat n.toNat))) = false,
  (0 : Nat) = 0, 32 = k.length, 32 ≤ k.length, (0 : Nat) = 0, 32 = g.length, 32 ≤ g.length, (!decide (((hexN (nats k)).length : Int) = (64 : Int))) = false, (!decide (((hexN (nats g)).length : Int) = (64 : Int))) = false, u8L k, k.length = 32, u8L g, g.length = 32, k.length = 32, g.length = 32]
theorem orR : (fun (g k : List Int) => lwOr 7 [.v (.aggi .u8 g), .v (.aggi .u8 k)] [] ([false, false, true, true, false] ++ List.replicate 96 false)) = fun g k => some ((List.range 32).reverse.flatMap (orP g) ++ orQ g k) := by kernel_rfl
end
section
open Go.ChangeShapes Go.WideShapes Go.ChangeAt Go.RowKit Go.Sx
theorem hexN_cons (a : Nat) (x : List Nat) : hexN (a :: x) = dg (a / 16) :: dg (a % 16) :: hexN x := rfl
theorem hexN_len : ∀ x : List Nat, (hexN x).length = 2 * x.length
  | [] => rfl
  | a :: x => by rw [hexN_cons, List.length_cons, List.length_cons, hexN_len x, List.length_cons]; omega
theorem hexN_hi : ∀ (x : List Nat) (i : Nat), i < x.length → (hexN x).getD (2 * i) 0 = dg (x.getD i 0 / 16)
  | [], i, h => by simp at h
  | a :: x, 0, _ => rfl
  | a :: x, i + 1, h => by
    rw [hexN_cons, show 2 * (i + 1) = 2 * i + 1 + 1 by omega, List.getD_cons_succ, List.getD_cons_succ, List.getD_cons_succ]
    exact hexN_hi x i (by simpa using h)
theorem hexN_lo : ∀ (x : List Nat) (i : Nat), i < x.length → (hexN x).getD (2 * i + 1) 0 = dg (x.getD i 0 % 16)
  | [], i, h => by simp at h
  | a :: x, 0, _ => rfl
  | a :: x, i + 1, h => by
    rw [hexN_cons, show 2 * (i + 1) + 1 = 2 * i + 1 + 1 + 1 by omega, List.getD_cons_succ, List.getD_cons_succ, List.getD_cons_succ]
    exact hexN_lo x i (by simpa using h)
theorem dg_lt : ∀ i : Fin 16, ∀ j : Fin 16, decide (dg i.1 < dg j.1) = decide (i.1 < j.1) := by decide +kernel
theorem dg_lt' {i j : Nat} (hi : i < 16) (hj : j < 16) : (dg i < dg j) = (i < j) := propext (decide_eq_decide.1 (dg_lt ⟨i, hi⟩ ⟨j, hj⟩))
theorem dg_ix0 : ∀ i : Fin 16, decide (Lib.indexByte (ByteArray.data { data := #[(48 : UInt8), 49, 50, 51, 52, 53, 54, 55, 56, 57, 97, 98, 99, 100, 101, 102] }).toList (Nat.toUInt8 (dg i.1).toNat) = (i.1 : Int)) = true := by decide +kernel
theorem dg_ix {n : Nat} (h : n < 16) : Lib.indexByte (ByteArray.data { data := #[(48 : UInt8), 49, 50, 51, 52, 53, 54, 55, 56, 57, 97, 98, 99, 100, 101, 102] }).toList (Nat.toUInt8 (dg n).toNat) = (n : Int) := of_decide_eq_true (dg_ix0 ⟨n, h⟩)
theorem u8_lt {a b : Nat} (ha : a < 256) (hb : b < 256) : (UInt8.ofNat a < UInt8.ofNat b) = (a < b) := by
  rw [UInt8.lt_iff_toNat_lt, UInt8.toNat_ofNat', UInt8.toNat_ofNat', Nat.mod_eq_of_lt ha, Nat.mod_eq_of_lt hb]
theorem cmp_hex : ∀ {x y : List Nat}, x.length = y.length → (∀ n ∈ x, n < 256) → (∀ n ∈ y, n < 256) → Lib.compareBytes (hexN x) (hexN y) = Lib.compareBytes (x.map UInt8.ofNat) (y.map UInt8.ofNat)
  | [], [], _, _, _ => rfl
  | [], _ :: _, h, _, _ => by simp at h
  | _ :: _, [], h, _, _ => by simp at h
  | a :: x, b :: y, h, wx, wy => by
    have ih := cmp_hex (x := x) (y := y) (by simpa using h) (fun n hn => wx n (List.mem_cons_of_mem _ hn)) (fun n hn => wy n (List.mem_cons_of_mem _ hn))
    have ha : a < 256 := wx a (List.mem_cons_self ..)
    have hb : b < 256 := wy b (List.mem_cons_self ..)
    simp only [hexN_cons, List.map_cons, Lib.compareBytes, ih, dg_lt' (show a / 16 < 16 by omega) (show b / 16 < 16 by omega), dg_lt' (show b / 16 < 16 by omega) (show a / 16 < 16 by omega),
      dg_lt' (show a % 16 < 16 by omega) (show b % 16 < 16 by omega), dg_lt' (show b % 16 < 16 by omega) (show a % 16 < 16 by omega), u8_lt ha hb, u8_lt hb ha]
    by_cases h1 : a / 16 < b / 16
    · rw [if_pos h1, if_pos (show a < b by omega)]
    · by_cases h2 : b / 16 < a / 16
      · rw [if_neg h1, if_pos h2, if_neg (show ¬ a < b by omega), if_pos (show b < a by omega)]
      · rw [if_neg h1, if_neg h2]
        by_cases h3 : a % 16 < b % 16
        · rw [if_pos h3, if_pos (show a < b by omega)]
        · by_cases h4 : b % 16 < a % 16
          · rw [if_neg h3, if_pos h4, if_neg (show ¬ a < b by omega), if_pos (show b < a by omega)]
          · rw [if_neg h3, if_neg h4, if_neg (show ¬ a < b by omega), if_neg (show ¬ b < a by omega)]
theorem tabOr_ok : ∀ f g, tabOr f = some g → TabOk Try.prog f g := tabs_ok fun x hx => by
  simp only [List.mem_cons, List.not_mem_nil, or_false] at hx
  rcases hx with rfl | rfl | rfl | rfl
  · exact cmp_tab
  · exact idx_tab
  · exact hex_tab
  · exact yes_tab
theorem wfRow_u8 : ∀ {n : Nat} {l : List Int}, wfRow (List.replicate n .u8) l → l.length = n ∧ u8L l ∧ ivals (List.replicate n .u8) l = l.map (Value.int .u8)
  | 0, [], _ => ⟨rfl, (fun _ h => by cases h), rfl⟩
  | 0, _ :: _, h => h.elim
  | n + 1, [], h => h.elim
  | n + 1, a :: l, ⟨h1, h2⟩ => by
    obtain ⟨e1, e2, e3⟩ := wfRow_u8 (n := n) h2
    refine ⟨by rw [List.length_cons, e1], fun x hx => ?_, ?_⟩
    · rcases List.mem_cons.1 hx with rfl | hx
      · simp [Lit.wf, IntKind.min, IntKind.max, IntKind.signed, IntKind.bits] at h1
        omega
      · exact e2 x hx
    · rw [List.replicate_succ, ivals, e3, List.map_cons]
theorem ixD_hi {x : List Nat} (hx : wfB8 x) {i : Nat} (hi : i < x.length) : ixD (ci x) (2 * i) = ((x.getD i 0 / 16 : Nat) : Int) := by
  have := wf_get8 hx i
  unfold ixD
  rw [nats_ci, hexN_hi x i hi, Int.toNat_natCast]
  exact dg_ix (by omega)
theorem ixD_lo {x : List Nat} (hx : wfB8 x) {i : Nat} (hi : i < x.length) : ixD (ci x) (2 * i + 1) = ((x.getD i 0 % 16 : Nat) : Int) := by
  unfold ixD
  rw [nats_ci, hexN_lo x i hi, Int.toNat_natCast]
  exact dg_ix (by omega)
theorem orP_ok {x : List Nat} (hx : wfB8 x) {i : Nat} (hi : i < x.length) : ∀ p ∈ orP (ci x) i, p := by
  unfold orP
  rw [ixD_hi hx hi, ixD_lo hx hi, nats_ci, hexN_len, ci_get, ci_len]
  have h := wf_get8 hx i
  have e : IntKind.wrap IntKind.u8 (16 * ((x.getD i 0 / 16 : Nat) : Int) + ((x.getD i 0 % 16 : Nat) : Int)) = ((x.getD i 0 : Nat) : Int) := by
    rw [show 16 * ((x.getD i 0 / 16 : Nat) : Int) + ((x.getD i 0 % 16 : Nat) : Int) = ((x.getD i 0 : Nat) : Int) by omega]
    exact w8s h
  rw [e]
  intro p hp
  simp only [List.mem_cons, List.not_mem_nil, or_false] at hp
  rcases hp with rfl | rfl | rfl | rfl | rfl | rfl | rfl | rfl
  · simp
  · omega
  · omega
  · exact decide_eq_false (by omega)
  · exact decide_eq_false (by omega)
  · omega
  · omega
  · exact hi
theorem map_ofN (x : List Nat) : (ci x).map (fun n => UInt8.ofNat n.toNat) = x.map UInt8.ofNat := by
  simp [ci]
theorem orQ_ok {x y : List Nat} (hx : wfB8 x) (hy : wfB8 y) (lx : x.length = 32) (ly : y.length = 32) : ∀ p ∈ orQ (ci x) (ci y), p := by
  unfold orQ
  have ux : u8L (ci x) := ci_u8 hx
  have uy : u8L (ci y) := ci_u8 hy
  rw [nats_ci, nats_ci, map_ofN, map_ofN, cmp_hex (lx.trans ly.symm) hx hy, hexN_len, hexN_len, ci_len, ci_len, lx, ly]
  intro p hp
  simp only [List.mem_cons, List.not_mem_nil, or_false] at hp
  rcases hp with rfl | rfl | rfl | rfl | rfl | rfl | rfl | rfl | rfl | rfl | rfl | rfl | rfl | rfl | rfl | rfl
  all_goals first | rfl | exact ux | exact uy | exact Nat.le_refl _ | simp
theorem shaOrder_calls (a b : List Int) (wa : wfRow [.u8, .u8, .u8, .u8, .u8, .u8, .u8, .u8, .u8, .u8, .u8, .u8, .u8, .u8, .u8, .u8, .u8, .u8, .u8, .u8, .u8, .u8, .u8, .u8, .u8, .u8, .u8, .u8, .u8, .u8, .u8, .u8] a) (wb : wfRow [.u8, .u8, .u8, .u8, .u8, .u8, .u8, .u8, .u8, .u8, .u8, .u8, .u8, .u8, .u8, .u8, .u8, .u8, .u8, .u8, .u8, .u8, .u8, .u8, .u8, .u8, .u8, .u8, .u8, .u8, .u8, .u8] b) (W : World) : Calls Try.prog 7 #[.agg (ivals [.u8, .u8, .u8, .u8, .u8, .u8, .u8, .u8, .u8, .u8, .u8, .u8, .u8, .u8, .u8, .u8, .u8, .u8, .u8, .u8, .u8, .u8, .u8, .u8, .u8, .u8, .u8, .u8, .u8, .u8, .u8, .u8] a).toArray, .agg (ivals [.u8, .u8, .u8, .u8, .u8, .u8, .u8, .u8, .u8, .u8, .u8, .u8, .u8, .u8, .u8, .u8, .u8, .u8, .u8, .u8, .u8, .u8, .u8, .u8, .u8, .u8, .u8, .u8, .u8, .u8, .u8, .u8] b).toArray] W fun e w' => e = .returned (.bool true) ∧ Below W.heap.size W w' := by
  obtain ⟨la, ua, ea⟩ := wfRow_u8 (n := 32) wa
  obtain ⟨lb, ub, eb⟩ := wfRow_u8 (n := 32) wb
  have ia : ivals [.u8, .u8, .u8, .u8, .u8, .u8, .u8, .u8, .u8, .u8, .u8, .u8, .u8, .u8, .u8, .u8, .u8, .u8, .u8, .u8, .u8, .u8, .u8, .u8, .u8, .u8, .u8, .u8, .u8, .u8, .u8, .u8] a = a.map (Value.int .u8) := ea
  have ib : ivals [.u8, .u8, .u8, .u8, .u8, .u8, .u8, .u8, .u8, .u8, .u8, .u8, .u8, .u8, .u8, .u8, .u8, .u8, .u8, .u8, .u8, .u8, .u8, .u8, .u8, .u8, .u8, .u8, .u8, .u8, .u8, .u8] b = b.map (Value.int .u8) := eb
  rw [ia, ib]
  have ca : ci (nats a) = a := ci_nats fun y hy => (ua y hy).1
  have cb : ci (nats b) = b := ci_nats fun y hy => (ub y hy).1
  refine law_obs tabOr_ok (congrFun (congrFun orR a) b) ?_ (MemRel.nil W) ⟨_, _, rfl, rfl, _, _, rfl, rfl, rfl⟩
  refine allP_of fun p hp => ?_
  rw [← ca, ← cb] at hp
  rcases List.mem_append.1 hp with hp | hp
  · obtain ⟨i, hi, hp⟩ := List.mem_flatMap.1 hp
    exact orP_ok (nats_wf8 ua) (by have := List.mem_range.1 (List.mem_reverse.1 hi); simp [nats, la]; omega) p hp
  · exact orQ_ok (nats_wf8 ua) (nats_wf8 ub) (by simp [nats, la]) (by simp [nats, lb]) p hp

set_option maxRecDepth 100000 in
theorem shaOrder_lifted (os : Os) (started : os.Started) (H : Type) (enc : TypeId × Value → H) :
    ReturnsInHanded {} Try.checked os 7 .any (Rows.shaOrderSpec.pre6 enc Try.prog Try.f7 Rows.shaOrderRow.domain false) (Rows.shaOrderSpec.post enc Try.prog Try.f7 false true false false) := by
  refine returnsInHanded_of_change (C := Try.checked) own started (by kernel_rfl) Try.func7
    (ChangeSpec.witness6 (enc := enc) (C := Try.checked) false ⟨#[], #[.agg #[.int .u8 0, .int .u8 0, .int .u8 0, .int .u8 0, .int .u8 0, .int .u8 0, .int .u8 0, .int .u8 0, .int .u8 0, .int .u8 0, .int .u8 0, .int .u8 0, .int .u8 0, .int .u8 0, .int .u8 0, .int .u8 0, .int .u8 0, .int .u8 0, .int .u8 0, .int .u8 0, .int .u8 0, .int .u8 0, .int .u8 0, .int .u8 0, .int .u8 0, .int .u8 0, .int .u8 0, .int .u8 0, .int .u8 0, .int .u8 0, .int .u8 0, .int .u8 0], .agg #[.int .u8 0, .int .u8 0, .int .u8 0, .int .u8 0, .int .u8 0, .int .u8 0, .int .u8 0, .int .u8 0, .int .u8 0, .int .u8 0, .int .u8 0, .int .u8 0, .int .u8 0, .int .u8 0, .int .u8 0, .int .u8 0, .int .u8 0, .int .u8 0, .int .u8 0, .int .u8 0, .int .u8 0, .int .u8 0, .int .u8 0, .int .u8 0, .int .u8 0, .int .u8 0, .int .u8 0, .int .u8 0, .int .u8 0, .int .u8 0, .int .u8 0, .int .u8 0]], []⟩ 8 (by kernel_rfl) (by kernel_rfl) (by kernel_rfl) (by kernel_rfl)) ?_
  intro W base args ds gs before hval0 hW hcnd _
  have hval : ∀ (j : Nat) t v, Try.f7.params[j]? = some t → args[j]? = some v → Value.okWide Try.prog W .any base t v := hval0
  have hW' := hW
  obtain ⟨p, q, hA0, hV, hbef, hfz, hnd⟩ := hW
  have hA : DataW.TrodAll enc Try.prog W 0 (fun _ => true) true Try.f7.params.toList args.toList ds p := hA0
  rw [Try.params7] at hA hval
  obtain ⟨v0, v1, d0, d1, p0, p1, rfl, rfl, hp, h0, h1⟩ := trodAll_two hA
  obtain ⟨a0, w0, rfl⟩ := agg_ints (ks := [.u8, .u8, .u8, .u8, .u8, .u8, .u8, .u8, .u8, .u8, .u8, .u8, .u8, .u8, .u8, .u8, .u8, .u8, .u8, .u8, .u8, .u8, .u8, .u8, .u8, .u8, .u8, .u8, .u8, .u8, .u8, .u8]) (d := 20) (by kernel_rfl) (hval 0 23 v0 rfl rfl) h0
  obtain ⟨a1, w1, rfl⟩ := agg_ints (ks := [.u8, .u8, .u8, .u8, .u8, .u8, .u8, .u8, .u8, .u8, .u8, .u8, .u8, .u8, .u8, .u8, .u8, .u8, .u8, .u8, .u8, .u8, .u8, .u8, .u8, .u8, .u8, .u8, .u8, .u8, .u8, .u8]) (d := 20) (by kernel_rfl) (hval 1 23 v1 rfl rfl) h1
  refine (shaOrder_calls a0 a1 w0 w1 W).mono fun e W' ⟨he, hb⟩ => ?_
  subst he
  exact ⟨_, rfl, post_law laidOut (by rw [Try.params7]; decide +kernel) rfl rfl (by kernel_rfl) Try.underlying4 hW' hb⟩

theorem shaOrder_holds : Rows.ShaOrderSaid :=
  OpenClaim.holds_of_wide 7 Try.f7 rfl rfl rfl rfl rfl rfl rfl ⟨rfl, rfl, rfl, rfl, rfl⟩ rfl rfl rfl rfl rfl (by kernel_rfl) Try.func7 (by kernel_rfl)
    (of_decide_eq_true (by kernel_rfl)) (by unfold Func.isWrapper; first | (rw [if_pos (by decide +kernel)]; kernel_rfl) | (rw [if_neg (by decide +kernel)]; exact ⟨rfl, rfl⟩))
    (fun os started H enc _ => shaOrder_lifted os started H enc)
#print axioms shaOrder_holds
end
end Go.Proofs.Ytlboenjdbgkofaa
