/- ShaStill: its runs. Laws of two lists of bytes: what they share. ShaStill is true of any bytes, and leaves its arguments as they were. -/
import Derived.Test.YtlboenjdbgkofaaZaD
namespace Go.Proofs.Ytlboenjdbgkofaa
section
open Go.Sx
def tabL := tabs [(10, loc wantH gOf), (12, loc wantM gHm), (14, yesT)]
def bls (b n c : Nat) : V := .v (.one (.slice b (.c 0) 1 (.s n) (.s c)))
noncomputable def lwL (f : FuncId) (args : List V) (m : List SB) (h : List Bool) := obsOf (callN Try.prog tabL (fun _ => false) 100000 6 f args m h)
theorem st0 : (fun (a b : List Int) => lwL 6 [bls 0 a.length a.length, bls 1 b.length b.length] [roH a, roH b] [true]) = fun (a : List Int) (b : List Int) => some ([decide ((500 : Int) < (↑(List.length a) : Int)) = true]) := by kernel_rfl
theorem st1 : (fun (a b : List Int) => lwL 6 [bls 0 a.length a.length, bls 1 b.length b.length] [roH a, roH b] [false, true]) = fun (a : List Int) (b : List Int) => some ([decide ((500 : Int) < (↑(List.length b) : Int)) = true, decide ((500 : Int) < (↑(List.length a) : Int)) = false]) := by kernel_rfl
theorem st2 : (fun (a b : List Int) => lwL 6 [bls 0 a.length a.length, bls 1 b.length b.length] [roH a, roH b] [false, false, true, true, true, true, false, false, false, true, true, true, true, true, true]) = fun (a : List Int) (b : List Int) => some ([(List.map (fun (n : Int) ↦ UInt8.ofNat (Int.toNat n)) ([] ++ b ++ [(77 : Int), (42 : Int), (99 : Int), (17 : Int)]) == List.map (fun (n : Int) ↦ UInt8.ofNat (Int.toNat n)) b ++ Array.toList (ByteArray.data { data := #[OfNat.ofNat (77 : Nat), OfNat.ofNat (42 : Nat), OfNat.ofNat (99 : Nat), OfNat.ofNat (17 : Nat)] })) = true, List.length (List.map (fun (n : Int) ↦ UInt8.ofNat (Int.toNat n)) b) + (4 : Nat) ≤ (9223372036854775807 : Nat), (0 : Nat) = (0 : Nat), List.length b = List.length b, (0 : Nat) = (0 : Nat), Int.toNat ((↑(Int.toNat (↑(List.length b) : Int)) : Int) + (4 : Int)) = List.length ([] ++ b ++ [(77 : Int), (42 : Int), (99 : Int), (17 : Int)]), (0 : Int) ≤ (↑(Int.toNat (↑(List.length b) : Int)) : Int) + (4 : Int), (↑(Int.toNat (↑(List.length b) : Int)) : Int) + (4 : Int) ≤ (↑(Nat.add (List.length b) (4 : Nat)) : Int), (-9223372036854775808 : Int) ≤ (↑(Int.toNat (↑(List.length b) : Int)) : Int) + (4 : Int) ∧ (↑(Int.toNat (↑(List.length b) : Int)) : Int) + (4 : Int) ≤ (9223372036854775807 : Int), (List.map (fun (n : Int) ↦ UInt8.ofNat (Int.toNat n)) ([] ++ a ++ [(77 : Int), (42 : Int), (99 : Int), (17 : Int)]) == List.map (fun (n : Int) ↦ UInt8.ofNat (Int.toNat n)) a ++ Array.toList (ByteArray.data { data := #[OfNat.ofNat (77 : Nat), OfNat.ofNat (42 : Nat), OfNat.ofNat (99 : Nat), OfNat.ofNat (17 : Nat)] })) = true, List.length (List.map (fun (n : Int) ↦ UInt8.ofNat (Int.toNat n)) a) + (4 : Nat) ≤ (9223372036854775807 : Nat), (0 : Nat) = (0 : Nat), List.length a = List.length a, (0 : Nat) = (0 : Nat), Int.toNat ((↑(Int.toNat (↑(List.length a) : Int)) : Int) + (4 : Int)) = List.length ([] ++ a ++ [(77 : Int), (42 : Int), (99 : Int), (17 : Int)]), (0 : Int) ≤ (↑(Int.toNat (↑(List.length a) : Int)) : Int) + (4 : Int), (↑(Int.toNat (↑(List.length a) : Int)) : Int) + (4 : Int) ≤ (↑(Nat.add (List.length a) (4 : Nat)) : Int), (-9223372036854775808 : Int) ≤ (↑(Int.toNat (↑(List.length a) : Int)) : Int) + (4 : Int) ∧ (↑(Int.toNat (↑(List.length a) : Int)) : Int) + (4 : Int) ≤ (9223372036854775807 : Int), (!decide (ci (hmacN (partN ([] ++ a ++ [(77 : Int), (42 : Int), (99 : Int), (17 : Int)]) (0 : Nat) (Int.toNat (↑(List.length a) : Int))) (partN ([] ++ a ++ [(77 : Int), (42 : Int), (99 : Int), (17 : Int)]) (0 : Nat) (Int.toNat (↑(List.length a) : Int)))) = ci (hmacN (partN a (0 : Nat) (List.length a)) (partN a (0 : Nat) (List.length a))))) = false, List.length (ci (hmacN (partN ([] ++ a ++ [(77 : Int), (42 : Int), (99 : Int), (17 : Int)]) (0 : Nat) (Int.toNat (↑(List.length a) : Int))) (partN ([] ++ a ++ [(77 : Int), (42 : Int), (99 : Int), (17 : Int)]) (0 : Nat) (Int.toNat (↑(List.length a) : Int))))) = (32 : Nat), List.length (ci (hmacN (partN a (0 : Nat) (List.length a)) (partN a (0 : Nat) (List.length a)))) = (32 : Nat), u8L a, (0 : Nat) + List.length a ≤ List.length a, (0 : Nat) + List.length a ≤ List.length a, List.length a ≤ (500000000 : Nat), u8L ([] ++ a ++ [(77 : Int), (42 : Int), (99 : Int), (17 : Int)]), (0 : Nat) + Int.toNat (↑(List.length a) : Int) ≤ List.length ([] ++ a ++ [(77 : Int), (42 : Int), (99 : Int), (17 : Int)]), (0 : Nat) + Int.toNat (↑(List.length a) : Int) ≤ List.length ([] ++ a ++ [(77 : Int), (42 : Int), (99 : Int), (17 : Int)]), List.length ([] ++ a ++ [(77 : Int), (42 : Int), (99 : Int), (17 : Int)]) ≤ (500000000 : Nat), (!decide (ci (hmacN (partN ([] ++ a ++ [(77 : Int), (42 : Int), (99 : Int), (17 : Int)]) (0 : Nat) (Int.toNat (↑(List.length a) : Int))) (partN ([] ++ b ++ [(77 : Int), (42 : Int), (99 : Int), (17 : Int)]) (0 : Nat) (Int.toNat (↑(List.length b) : Int)))) = ci (hmacN (partN a (0 : Nat) (List.length a)) (partN b (0 : Nat) (List.length b))))) = false, List.length (ci (hmacN (partN ([] ++ a ++ [(77 : Int), (42 : Int), (99 : Int), (17 : Int)]) (0 : Nat) (Int.toNat (↑(List.length a) : Int))) (partN ([] ++ b ++ [(77 : Int), (42 : Int), (99 : Int), (17 : Int)]) (0 : Nat) (Int.toNat (↑(List.length b) : Int))))) = (32 : Nat), List.length (ci (hmacN (partN a (0 : Nat) (List.length a)) (partN b (0 : Nat) (List.length b)))) = (32 : Nat), u8L ([] ++ a ++ [(77 : Int), (42 : Int), (99 : Int), (17 : Int)]), u8L ([] ++ b ++ [(77 : Int), (42 : Int), (99 : Int), (17 : Int)]), (0 : Nat) + Int.toNat (↑(List.length a) : Int) ≤ List.length ([] ++ a ++ [(77 : Int), (42 : Int), (99 : Int), (17 : Int)]), (0 : Nat) + Int.toNat (↑(List.length b) : Int) ≤ List.length ([] ++ b ++ [(77 : Int), (42 : Int), (99 : Int), (17 : Int)]), List.length ([] ++ a ++ [(77 : Int), (42 : Int), (99 : Int), (17 : Int)]) ≤ (500000000 : Nat), List.length ([] ++ b ++ [(77 : Int), (42 : Int), (99 : Int), (17 : Int)]) ≤ (500000000 : Nat), List.length (ci (hmacN (partN a (0 : Nat) (List.length a)) (partN b (0 : Nat) (List.length b)))) = (32 : Nat), (!decide (ci (shaN (partN ([] ++ a ++ [(77 : Int), (42 : Int), (99 : Int), (17 : Int)]) (0 : Nat) (Int.toNat (↑(List.length a) : Int)))) = ci (shaN (partN a (0 : Nat) (List.length a))))) = false, List.length (ci (shaN (partN ([] ++ a ++ [(77 : Int), (42 : Int), (99 : Int), (17 : Int)]) (0 : Nat) (Int.toNat (↑(List.length a) : Int))))) = (32 : Nat), List.length (ci (shaN (partN a (0 : Nat) (List.length a)))) = (32 : Nat), u8L ([] ++ a ++ [(77 : Int), (42 : Int), (99 : Int), (17 : Int)]), (0 : Nat) + Int.toNat (↑(List.length a) : Int) ≤ List.length ([] ++ a ++ [(77 : Int), (42 : Int), (99 : Int), (17 : Int)]), List.length ([] ++ a ++ [(77 : Int), (42 : Int), (99 : Int), (17 : Int)]) ≤ (1000000000 : Nat), List.length (ci (shaN (partN a (0 : Nat) (List.length a)))) = (32 : Nat), u8L b, u8L a, (0 : Nat) + List.length b ≤ List.length b, (0 : Nat) + List.length a ≤ List.length a, List.length b ≤ (500000000 : Nat), List.length a ≤ (500000000 : Nat), u8L b, (0 : Nat) + List.length b ≤ List.length b, List.length b ≤ (1000000000 : Nat), (0 : Int) ≤ (↑(List.length b) : Int), (↑(List.length b) : Int) ≤ (↑(Nat.add (List.length b) (4 : Nat)) : Int), (0 : Nat) = (0 : Nat), List.length b = List.length ([] ++ b), (List.length b + (4 : Nat)) * (1 : Nat) ≤ (140737488355328 : Nat), List.length b + (4 : Nat) ≤ (9223372036854775807 : Nat), (0 : Nat) = (0 : Nat), List.length b = List.length b, List.length b * (1 : Nat) ≤ (140737488355328 : Nat), List.length b ≤ (9223372036854775807 : Nat), (0 : Int) ≤ (↑(List.length a) : Int), (↑(List.length a) : Int) ≤ (↑(Nat.add (List.length a) (4 : Nat)) : Int), (0 : Nat) = (0 : Nat), List.length a = List.length ([] ++ a), (List.length a + (4 : Nat)) * (1 : Nat) ≤ (140737488355328 : Nat), List.length a + (4 : Nat) ≤ (9223372036854775807 : Nat), (0 : Nat) = (0 : Nat), List.length a = List.length a, List.length a * (1 : Nat) ≤ (140737488355328 : Nat), List.length a ≤ (9223372036854775807 : Nat), List.length (ci (hmacN (partN a (0 : Nat) (List.length a)) (partN b (0 : Nat) (List.length b)))) = (32 : Nat), List.length (ci (hmacN (partN a (0 : Nat) (List.length a)) (partN b (0 : Nat) (List.length b)))) = (32 : Nat), List.length (ci (shaN (partN a (0 : Nat) (List.length a)))) = (32 : Nat), List.length (ci (shaN (partN a (0 : Nat) (List.length a)))) = (32 : Nat), u8L a, u8L b, (0 : Nat) + List.length a ≤ List.length a, (0 : Nat) + List.length b ≤ List.length b, List.length a ≤ (500000000 : Nat), List.length b ≤ (500000000 : Nat), u8L a, (0 : Nat) + List.length a ≤ List.length a, List.length a ≤ (1000000000 : Nat), decide ((500 : Int) < (↑(List.length b) : Int)) = false, decide ((500 : Int) < (↑(List.length a) : Int)) = false]) := by kernel_rfl
end
section
open Go.ChangeShapes Go.WideShapes Go.ChangeAt Go.RowKit Go.Sx
theorem tabL_ok : ∀ f g, tabL f = some g → TabOk Try.prog f g := tabs_ok fun x hx => by
  simp only [List.mem_cons, List.not_mem_nil, or_false] at hx
  rcases hx with rfl | rfl | rfl
  · exact of_tab
  · exact hm_tab
  · exact yes_tab
theorem u8L_wf {l : List Int} (h : ∀ n ∈ l, (Lit.int .u8 n).wf = true) : u8L l := fun x hx => by
  have := h x hx
  simp [Lit.wf, IntKind.min, IntKind.max, IntKind.signed, IntKind.bits] at this
  omega
theorem partN_front (a t : List Int) : partN (a ++ t) 0 a.length = partN a 0 a.length := by
  unfold partN
  rw [List.drop_zero, List.drop_zero, List.take_left, List.take_length]
theorem u8L_app {a t : List Int} (ha : u8L a) (ht : u8L t) : u8L (a ++ t) := fun x hx => by
  rcases List.mem_append.1 hx with h | h
  · exact ha x h
  · exact ht x h
end
section
open Go.ChangeShapes Go.WideShapes Go.ChangeAt Go.RowKit Go.Sx
theorem kept4 (a : List Int) : (List.map (fun (n : Int) => UInt8.ofNat (Int.toNat n)) (a ++ [77, 42, 99, 17]) == List.map (fun (n : Int) => UInt8.ofNat (Int.toNat n)) a ++ Array.toList (ByteArray.data { data := #[77, 42, 99, 17] })) = true := by
  rw [List.map_append]
  exact beq_iff_eq.2 rfl
theorem shaStill_calls (a : List Int) (e : E) (v : Value) (b : List Int) (e' : E) (v' : Value) {W0 : World}
    (r : readOnly W0 (e, roH a)) (w : ∀ n ∈ a, (Lit.int .u8 n).wf = true) (_m : a.length ≤ maxLen) (u : ∀ (ρ : Env) (b : Nat), ρ[b]? = some e → (V.v (.one (.slice b (.c 0) 1 (.s a.length) (.s a.length)))).rel ρ v)
    (r' : readOnly W0 (e', roH b)) (w' : ∀ n ∈ b, (Lit.int .u8 n).wf = true) (_m' : b.length ≤ maxLen) (u' : ∀ (ρ : Env) (c : Nat), ρ[c]? = some e' → (V.v (.one (.slice c (.c 0) 1 (.s b.length) (.s b.length)))).rel ρ v')
    (W : World) (hW : W0 = W := by rfl) : Calls Try.prog 6 #[v, v'] W fun e w' => e = .returned (.bool true) ∧ Below W.heap.size W w' := by
  subst hW
  have hm := mem_args (W := W0) [(e, roH a), (e', roH b)] (by intro y hy; simp at hy; rcases hy with rfl | rfl; exact r; exact r')
  have hu : relVs ([(e, roH a), (e', roH b)].map (·.1)) [bls 0 a.length a.length, bls 1 b.length b.length] [v, v'] := ⟨_, _, rfl, u _ 0 rfl, _, _, rfl, u' _ 1 rfl, rfl⟩
  have ua := u8L_wf w
  have ub := u8L_wf w'
  by_cases h0 : (500 : Int) < a.length
  · exact law_obs tabL_ok (congrFun (congrFun st0 a) b) ⟨decide_eq_true h0, trivial⟩ hm hu
  by_cases h1 : (500 : Int) < b.length
  · exact law_obs tabL_ok (congrFun (congrFun st1 a) b) ⟨decide_eq_true h1, decide_eq_false h0, trivial⟩ hm hu
  have q := congrFun (congrFun st2 a) b
  have ea : ∀ u v : Nat, Nat.add u v = u + v := fun _ _ => rfl
  have e1 : ((List.length a : Int) + 4).toNat = a.length + 4 := by omega
  have e2 : ((List.length b : Int) + 4).toNat = b.length + 4 := by omega
  have l1 : ∀ x, List.length (ci (shaN x)) = 32 := fun x => by rw [ci_len, shaN_len]
  have l2 : ∀ k x, List.length (ci (hmacN k x)) = 32 := fun k x => by rw [ci_len, hmacN_len]
  have u4 : u8L [77, 42, 99, 17] := u8L_of (by decide)
  simp only [List.nil_append, Int.toNat_natCast, partN_front, ea, e1, e2, l1, l2] at q
  refine law_obs tabL_ok q ?_ hm hu
  have k1 := kept4 a
  have k2 := kept4 b
  have u5 := u8L_app ua u4
  have u6 := u8L_app ub u4
  simp only [allP, List.length_append, List.length_map, List.length_cons, List.length_nil]
  repeat' (first | exact trivial | exact ua | exact ub | exact u5 | exact u6 | exact k1 | exact k2 | refine And.intro ?_ ?_)
  all_goals first | rfl | omega | exact decide_eq_false h0 | exact decide_eq_false h1 | simp

set_option maxRecDepth 100000 in
theorem shaStill_lifted (os : Os) (started : os.Started) (H : Type) (enc : TypeId × Value → H) :
    ReturnsInHanded {} Try.checked os 6 .any (Rows.shaStillSpec.pre6 enc Try.prog Try.f6 Rows.shaStillRow.domain false) (Rows.shaStillSpec.post enc Try.prog Try.f6 false true false false) := by
  refine returnsInHanded_of_change (C := Try.checked) own started (by kernel_rfl) Try.func6
    (ChangeSpec.witness6 (enc := enc) (C := Try.checked) false ⟨#[], #[.slice none 0 0, .slice none 0 0], []⟩ 8 (by kernel_rfl) (by kernel_rfl) (by kernel_rfl) (by kernel_rfl)) ?_
  intro W base args ds gs before hval0 hW hcnd _
  have hval : ∀ (j : Nat) t v, Try.f6.params[j]? = some t → args[j]? = some v → Value.okWide Try.prog W .any base t v := hval0
  have hW' := hW
  obtain ⟨p, q, hA0, hV, hbef, hfz, hnd⟩ := hW
  have hA : DataW.TrodAll enc Try.prog W 0 (fun _ => true) true Try.f6.params.toList args.toList ds p := hA0
  rw [Try.params6] at hA hval
  obtain ⟨v0, v1, d0, d1, p0, p1, rfl, rfl, hp, h0, h1⟩ := trodAll_two hA
  obtain ⟨a0, e0, r0, w0, m0, u0⟩ := one_ints (k := .u8) (d := 20) (by kernel_rfl) (hval 0 22 v0 rfl rfl) h0
  obtain ⟨a1, e1, r1, w1, m1, u1⟩ := one_ints (k := .u8) (d := 20) (by kernel_rfl) (hval 1 22 v1 rfl rfl) h1
  refine (shaStill_calls a0 e0 v0 a1 e1 v1 r0 w0 m0 u0 r1 w1 m1 u1 W).mono fun e W' ⟨he, hb⟩ => ?_
  subst he
  exact ⟨_, rfl, post_law laidOut (by rw [Try.params6]; decide +kernel) rfl rfl (by kernel_rfl) Try.underlying4 hW' hb⟩

theorem shaStill_holds : Rows.ShaStillSaid :=
  OpenClaim.holds_of_wide 6 Try.f6 rfl rfl rfl rfl rfl rfl rfl ⟨rfl, rfl, rfl, rfl, rfl⟩ rfl rfl rfl rfl rfl (by kernel_rfl) Try.func6 (by kernel_rfl)
    (of_decide_eq_true (by kernel_rfl)) (by unfold Func.isWrapper; first | (rw [if_pos (by decide +kernel)]; kernel_rfl) | (rw [if_neg (by decide +kernel)]; exact ⟨rfl, rfl⟩))
    (fun os started H enc _ => shaStill_lifted os started H enc)
#print axioms shaStill_holds
end
end Go.Proofs.Ytlboenjdbgkofaa
