/- ShaStill: its runs. Laws of two lists of bytes: what they share. ShaOuter: its runs. ShaOuter is true of any key and bytes. -/
import Derived.Test.YtlboenjdbgkofaaZaD
namespace Go.Proofs.Ytlboenjdbgkofaa
section
open Go.Sx
def tabL := tabs [(10, loc wantH gOf), (12, loc wantM gHm), (14, yesT)]
def bls (b n c : Nat) : V := .v (.one (.slice b (.c 0) 1 (.s n) (.s c)))
noncomputable def lwL (f : FuncId) (args : List V) (m : List SB) (h : List Bool) := obsOf (callN Try.prog tabL (fun _ => false) 100000 6 f args m h)
theorem st0 : (fun (a b : List Int) => lwL 6 [bls 0 a.length a.length, bls 1 b.length b.length] [roH a, roH b] [true]) = fun (a : List Int) (b : List Int) => some ([decide ((500 : Int) < (↑(List.length a) : Int)) = true]) := by kernel_rfl
theorem st1 : (fun (a b : List Int) => lwL 6 [bls 0 a.length a.length, bls 1 b.length b.length] [roH a, roH b] [false, true]) = fun (a : List Int) (b : List Int) => some ([decide ((500 : Int) < (↑(List.length b) : Int)) = true, decide ((500 : Int) < (↑(List.length a) : Int)) = false]) := by kernel_rfl
theorem st2 : (fun (a b : List Int) => lwL 6 [bls 0 a.length a.length, bls 1 b.length b.length] [roH a, roH b] [false, false, true, true, true, true, false, false, false, true, true, true, true, true, true]) = fun (a : List Int) (b : List Int) => some ([(List.map (fun (n : Int) ↦ UInt8.ofNat (Int.toNat n)) ([] ++ b ++ [(77 : Int), (42 : Int), (99 : Int), (17 : Int)]) == List.map (fun (n : Int) ↦ UInt8.ofNat (Int.toNat n)) b ++ Array.toList (ByteArray.data { data := #[OfNat.ofNat (77 : Nat), OfNat.ofNat (42 : Nat), OfNat.ofNat (99 : Nat), OfNat.ofNat (17 : Nat)] })) = true, List.length (List.map (fun (n : Int) ↦ UInt8.ofNat (Int.toNat n)) b) + (4 : Nat) ≤ (9223372036854775807 : Nat), (0 : Nat) = (0 : Nat), List.length b = List.length b, (0 : Nat) = (0 : Nat), Int.toNat ((↑(Int.toNat (↑(List.length b) : Int)) : Int) + (4 : Int)) = List.length ([] ++ b ++ [(77 : Int), (42 : Int), (99 : Int), (17 : Int)]), (0 : Int) ≤ (↑(Int.toNat (↑(List.length b) : Int)) : Int) + (4 : Int), (↑(Int.toNat (↑(List.length b) : Int)) : Int) + (4 : Int) ≤ (↑(Nat.add (List.length b) (4 : Nat)) : Int), (-9223372036854775808 : Int) ≤ (↑(Int.toNat (↑(List.length b) : Int)) : Int) + (4 : Int) ∧ (↑(Int.toNat (↑(List.length b) : Int)) : Int) + (4 : Int) ≤ (9223372036854775807 : Int), (List.map (fun (n : Int) ↦ UInt8.ofNat (Int.toNat n)) ([] ++ a ++ [(77 : Int), (42 : Int), (99 : Int), (17 : Int)]) == List.map (fun (n : Int) ↦ UInt8.ofNat (Int.toNat n)) a ++ Array.toList (ByteArray.data { data := #[OfNat.ofNat (77 : Nat), OfNat.ofNat (42 : Nat), OfNat.ofNat (99 : Nat), OfNat.ofNat (17 : Nat)] })) = true, List.length (List.map (fun (n : Int) ↦ UInt8.ofNat (Int.toNat n)) a) + (4 : Nat) ≤ (9223372036854775807 : Nat), (0 : Nat) = (0 : Nat), List.length a = List.length a, (0 : Nat) = (0 : Nat), Int.toNat ((↑(Int.toNat (↑(List.length a) : Int)) : Int) + (4 : Int)) = List.length ([] ++ a ++ [(77 : Int), (42 : Int), (99 : Int), (17 : Int)]), (0 : Int) ≤ (↑(Int.toNat (↑(List.length a) : Int)) : Int) + (4 : Int), (↑(Int.toNat (↑(List.length a) : Int)) : Int) + (4 : Int) ≤ (↑(Nat.add (List.length a) (4 : Nat)) : Int), (-9223372036854775808 : Int) ≤ (↑(Int.toNat (↑(List.length a) : Int)) : Int) + (4 : Int) ∧ (↑(Int.toNat (↑(List.length a) : Int)) : Int) + (4 : Int) ≤ (9223372036854775807 : Int), (!decide (ci (hmacN (partN ([] ++ a ++ [(77 : Int), (42 : Int), (99 : Int), (17 : Int)]) (0 : Nat) (Int.toNat (↑(List.length a) : Int))) (partN ([] ++ a ++ [(77 : Int), (42 : Int), (99 : Int), (17 : Int)]) (0 : Nat) (Int.toNat (↑(List.length a) : Int)))) = ci (hmacN (partN a (0 : Nat) (List.length a)) (partN a (0 : Nat) (List.length a))))) = false, List.length (ci (hmacN (partN ([] ++ a ++ [(77 : Int), (42 : Int), (99 : Int), (17 : Int)]) (0 : Nat) (Int.toNat (↑(List.length a) : Int))) (partN ([] ++ a ++ [(77 : Int), (42 : Int), (99 : Int), (17 : Int)]) (0 : Nat) (Int.toNat (↑(List.length a) : Int))))) = (32 : Nat), List.length (ci (hmacN (partN a (0 : Nat) (List.length a)) (partN a (0 : Nat) (List.length a)))) = (32 : Nat), u8L a, (0 : Nat) + List.length a ≤ List.length a, (0 : Nat) + List.length a ≤ List.length a, List.length a ≤ (500000000 : Nat), u8L ([] ++ a ++ [(77 : Int), (42 : Int), (99 : Int), (17 : Int)]), (0 : Nat) + Int.toNat (↑(List.length a) : Int) ≤ List.length ([] ++ a ++ [(77 : Int), (42 : Int), (99 : Int), (17 : Int)]), (0 : Nat) + Int.toNat (↑(List.length a) : Int) ≤ List.length ([] ++ a ++ [(77 : Int), (42 : Int), (99 : Int), (17 : Int)]), List.length ([] ++ a ++ [(77 : Int), (42 : Int), (99 : Int), (17 : Int)]) ≤ (500000000 : Nat), (!decide (ci (hmacN (partN ([] ++ a ++ [(77 : Int), (42 : Int), (99 : Int), (17 : Int)]) (0 : Nat) (Int.toNat (↑(List.length a) : Int))) (partN ([] ++ b ++ [(77 : Int), (42 : Int), (99 : Int), (17 : Int)]) (0 : Nat) (Int.toNat (↑(List.length b) : Int)))) = ci (hmacN (partN a (0 : Nat) (List.length a)) (partN b (0 : Nat) (List.length b))))) = false, List.length (ci (hmacN (partN ([] ++ a ++ [(77 : Int), (42 : Int), (99 : Int), (17 : Int)]) (0 : Nat) (Int.toNat (↑(List.length a) : Int))) (partN ([] ++ b ++ [(77 : Int), (42 : Int), (99 : Int), (17 : Int)]) (0 : Nat) (Int.toNat (↑(List.length b) : Int))))) = (32 : Nat), List.length (ci (hmacN (partN a (0 : Nat) (List.length a)) (partN b (0 : Nat) (List.length b)))) = (32 : Nat), u8L ([] ++ a ++ [(77 : Int), (42 : Int), (99 : Int), (17 : Int)]), u8L ([] ++ b ++ [(77 : Int), (42 : Int), (99 : Int), (17 : Int)]), (0 : Nat) + Int.toNat (↑(List.length a) : Int) ≤ List.length ([] ++ a ++ [(77 : Int), (42 : Int), (99 : Int), (17 : Int)]), (0 : Nat) + Int.toNat (↑(List.length b) : Int) ≤ List.length ([] ++ b ++ [(77 : Int), (42 : Int), (99 : Int), (17 : Int)]), List.length ([] ++ a ++ [(77 : Int), (42 : Int), (99 : Int), (17 : Int)]) ≤ (500000000 : Nat), List.length ([] ++ b ++ [(77 : Int), (42 : Int), (99 : Int), (17 : Int)]) ≤ (500000000 : Nat), List.length (ci (hmacN (partN a (0 : Nat) (List.length a)) (partN b (0 : Nat) (List.length b)))) = (32 : Nat), (!decide (ci (shaN (partN ([] ++ a ++ [(77 : Int), (42 : Int), (99 : Int), (17 : Int)]) (0 : Nat) (Int.toNat (↑(List.length a) : Int)))) = ci (shaN (partN a (0 : Nat) (List.length a))))) = false, List.length (ci (shaN (partN ([] ++ a ++ [(77 : Int), (42 : Int), (99 : Int), (17 : Int)]) (0 : Nat) (Int.toNat (↑(List.length a) : Int))))) = (32 : Nat), List.length (ci (shaN (partN a (0 : Nat) (List.length a)))) = (32 : Nat), u8L ([] ++ a ++ [(77 : Int), (42 : Int), (99 : Int), (17 : Int)]), (0 : Nat) + Int.toNat (↑(List.length a) : Int) ≤ List.length ([] ++ a ++ [(77 : Int), (42 : Int), (99 : Int), (17 : Int)]), List.length ([] ++ a ++ [(77 : Int), (42 : Int), (99 : Int), (17 : Int)]) ≤ (1000000000 : Nat), List.length (ci (shaN (partN a (0 : Nat) (List.length a)))) = (32 : Nat), u8L b, u8L a, (0 : Nat) + List.length b ≤ List.length b, (0 : Nat) + List.length a ≤ List.length a, List.length b ≤ (500000000 : Nat), List.length a ≤ (500000000 : Nat), u8L b, (0 : Nat) + List.length b ≤ List.length b, List.length b ≤ (1000000000 : Nat), (0 : Int) ≤ (↑(List.length b) : Int), (↑(List.length b) : Int) ≤ (↑(Nat.add (List.length b) (4 : Nat)) : Int), (0 : Nat) = (0 : Nat), List.length b = List.length ([] ++ b), (List.length b + (4 : Nat)) * (1 : Nat) ≤ (140737488355328 : Nat), List.length b + (4 : Nat) ≤ (9223372036854775807 : Nat), (0 : Nat) = (0 : Nat), List.length b = List.length b, List.length b * (1 : Nat) ≤ (140737488355328 : Nat), List.length b ≤ (9223372036854775807 : Nat), (0 : Int) ≤ (↑(List.length a) : Int), (↑(List.length a) : Int) ≤ (↑(Nat.add (List.length a) (4 : Nat)) : Int), (0 : Nat) = (0 : Nat), List.length a = List.length ([] ++ a), (List.length a + (4 : Nat)) * (1 : Nat) ≤ (140737488355328 : Nat), List.length a + (4 : Nat) ≤ (9223372036854775807 : Nat), (0 : Nat) = (0 : Nat), List.length a = List.length a, List.length a * (1 : Nat) ≤ (140737488355328 : Nat), List.length a ≤ (9223372036854775807 : Nat), List.length (ci (hmacN (partN a (0 : Nat) (List.length a)) (partN b (0 : Nat) (List.length b)))) = (32 : Nat), List.length (ci (hmacN (partN a (0 : Nat) (List.length a)) (partN b (0 : Nat) (List.length b)))) = (32 : Nat), List.length (ci (shaN (partN a (0 : Nat) (List.length a)))) = (32 : Nat), List.length (ci (shaN (partN a (0 : Nat) (List.length a)))) = (32 : Nat), u8L a, u8L b, (0 : Nat) + List.length a ≤ List.length a, (0 : Nat) + List.length b ≤ List.length b, List.length a ≤ (500000000 : Nat), List.length b ≤ (500000000 : Nat), u8L a, (0 : Nat) + List.length a ≤ List.length a, List.length a ≤ (1000000000 : Nat), decide ((500 : Int) < (↑(List.length b) : Int)) = false, decide ((500 : Int) < (↑(List.length a) : Int)) = false]) := by kernel_rfl
end
section
open Go.ChangeShapes Go.WideShapes Go.ChangeAt Go.RowKit Go.Sx
theorem tabL_ok : ∀ f g, tabL f = some g → TabOk Try.prog f g := tabs_ok fun x hx => by
  simp only [List.mem_cons, List.not_mem_nil, or_false] at hx
  rcases hx with rfl | rfl | rfl
  · exact of_tab
  · exact hm_tab
  · exact yes_tab
theorem u8L_wf {l : List Int} (h : ∀ n ∈ l, (Lit.int .u8 n).wf = true) : u8L l := fun x hx => by
  have := h x hx
  simp [Lit.wf, IntKind.min, IntKind.max, IntKind.signed, IntKind.bits] at this
  omega
theorem partN_front (a t : List Int) : partN (a ++ t) 0 a.length = partN a 0 a.length := by
  unfold partN
  rw [List.drop_zero, List.drop_zero, List.take_left, List.take_length]
theorem u8L_app {a t : List Int} (ha : u8L a) (ht : u8L t) : u8L (a ++ t) := fun x hx => by
  rcases List.mem_append.1 hx with h | h
  · exact ha x h
  · exact ht x h
end
section
open Go.Sx
def blS (a : List Int) : List Int := List.take (if a.length ≤ 64 then a.length else 64) a ++ List.drop (if a.length ≤ 64 then a.length else 64) (List.replicate 64 0)
def blL (a : List Int) : List Int := List.take 32 (ci (shaN (partN a 0 a.length))) ++ List.drop 32 (List.replicate 64 0)
def rowX (bl : List Int) (v : Int) : List Int := (List.range 64).map fun j => bits .xor .u8 (bl.getD j 0) v
def ouI (bl b : List Int) : List Int := ci (shaN (partN (rowX bl 54 ++ b) 0 (64 + b.length)))
def ouP (bl a b : List Int) : List Prop := [decide (ci (shaN (partN (rowX bl 92 ++ ouI bl b) 0 96)) = ci (hmacN (partN a 0 a.length) (partN b 0 b.length))) = true,
  (ci (shaN (partN (rowX bl 92 ++ ouI bl b) 0 96))).length = 32, (ci (hmacN (partN a 0 a.length) (partN b 0 b.length))).length = 32, u8L a, u8L b, 0 + a.length ≤ a.length, 0 + b.length ≤ b.length, a.length ≤ 500000000, b.length ≤ 500000000,
  u8L (rowX bl 92 ++ ouI bl b), 96 ≤ (rowX bl 92 ++ ouI bl b).length, (rowX bl 92 ++ ouI bl b).length ≤ 1000000000, (0 : Nat) = 0, 32 = (ouI bl b).length, 32 ≤ (ouI bl b).length, (ouI bl b).length = 32, (ouI bl b).length = 32,
  u8L (rowX bl 54 ++ b), 0 + (64 + b.length) ≤ (rowX bl 54 ++ b).length, (rowX bl 54 ++ b).length ≤ 1000000000, (0 : Nat) = 0, b.length = b.length, (64 + b.length) * 1 ≤ 140737488355328, 64 + b.length ≤ 9223372036854775807] ++
  ((List.range 64).reverse.map (fun j => j < bl.length) ++ (List.range 64).reverse.map (fun j => j < bl.length))
def ouS (a b : List Int) : List Prop := ouP (blS a) a b ++ [(0 : Nat) = 0, a.length = a.length, (64 : Nat) ≤ 64, decide ((64 : Int) < (a.length : Int)) = false, decide ((1000 : Int) < (b.length : Int)) = false, decide ((250 : Int) < (a.length : Int)) = false]
def ouL (a b : List Int) : List Prop := ouP (blL a) a b ++ [(0 : Nat) = 0, 32 = (ci (shaN (partN a 0 a.length))).length, (64 : Nat) ≤ 64, 32 ≤ (ci (shaN (partN a 0 a.length))).length, (ci (shaN (partN a 0 a.length))).length = 32, (ci (shaN (partN a 0 a.length))).length = 32,
  u8L a, 0 + a.length ≤ a.length, a.length ≤ 1000000000, decide ((64 : Int) < (a.length : Int)) = true, decide ((1000 : Int) < (b.length : Int)) = false, decide ((250 : Int) < (a.length : Int)) = false]
theorem ou0 : (fun (a b : List Int) => lwL 5 [bls 0 a.length a.length, bls 1 b.length b.length] [roH a, roH b] [true]) = fun (a b : List Int) => some [decide ((250 : Int) < (a.length : Int)) = true] := by kernel_rfl
theorem ou1 : (fun (a b : List Int) => lwL 5 [bls 0 a.length a.length, bls 1 b.length b.length] [roH a, roH b] [false, true]) = fun (a b : List Int) => some [decide ((1000 : Int) < (b.length : Int)) = true, decide ((250 : Int) < (a.length : Int)) = false] := by kernel_rfl
theorem ou2 : (fun (a b : List Int) => lwL 5 [bls 0 a.length a.length, bls 1 b.length b.length] [roH a, roH b] [false, false, false, true, true, true, true]) = fun a b => some (ouS a b) := by kernel_rfl
theorem ou3 : (fun (a b : List Int) => lwL 5 [bls 0 a.length a.length, bls 1 b.length b.length] [roH a, roH b] [false, false, true, true, true, true, true]) = fun a b => some (ouL a b) := by kernel_rfl
end
section
open Go.ChangeShapes Go.WideShapes Go.ChangeAt Go.RowKit Go.Sx
theorem rowX_ci {B : List Nat} (hB : wfB8 B) (h : B.length = 64) {v : Nat} (hv : v < 256) : rowX (ci B) (v : Int) = ci (xrN v B) := by
  have e := list_range h
  unfold rowX xrN
  conv => rhs; rw [e]
  unfold ci
  rw [List.map_map, List.map_map]
  refine List.map_congr_left fun j _ => ?_
  have hg := ci_get B j
  unfold ci at hg
  show bits .xor .u8 _ _ = _
  rw [hg, bxor8 (wf_get8 hB j) hv]
  rfl
theorem blS_eq {a : List Int} (ua : u8L a) (h : a.length ≤ 64) : blS a = ci (blN (partN a 0 a.length)) := by
  have e := blk_short (k := a) (o := 0) (n := a.length) ua h (by omega)
  rw [List.drop_zero, List.take_length] at e
  exact e
theorem blL_eq {a : List Int} (h : 64 < a.length) : blL a = ci (blN (partN a 0 a.length)) := blk_long h (by omega)
theorem ou_ok {a b : List Int} {B : List Nat} (ua : u8L a) (ub : u8L b) (hB : blN (partN a 0 a.length) = B) (la : a.length ≤ 250) (lb : b.length ≤ 1000) : ∀ p ∈ ouP (ci B) a b, p := by
  have Bl : B.length = 64 := by rw [← hB]; exact blN_len _
  have Bw : wfB8 B := by rw [← hB]; exact blN_wf (partN_wf ua 0 _)
  obtain ⟨X, hX⟩ : ∃ X, partN b 0 b.length = X := ⟨_, rfl⟩
  have Xl : X.length = b.length := by rw [← hX]; exact partN_len (by omega)
  have Xw : wfB8 X := by rw [← hX]; exact partN_wf ub 0 _
  have hb : b = ci X := by
    rw [← hX]; unfold partN
    rw [List.drop_zero, List.take_length, ci_nats fun y hy => (ub y hy).1]
  have r54 : rowX (ci B) 54 = ci (xrN 54 B) := rowX_ci Bw Bl (v := 54) (by decide)
  have r92 : rowX (ci B) 92 = ci (xrN 92 B) := rowX_ci Bw Bl (v := 92) (by decide)
  have eI : ouI (ci B) b = ci (shaN (xrN 54 B ++ X)) := by
    unfold ouI
    rw [r54, ← Xl, hb, ← ci_app, partN_whole (by rw [List.length_append, xrN_len, Bl])]
  have eO : partN (ci (xrN 92 B) ++ ci (shaN (xrN 54 B ++ X))) 0 96 = xrN 92 B ++ shaN (xrN 54 B ++ X) := by
    rw [← ci_app]; exact partN_whole (by rw [List.length_append, xrN_len, Bl, shaN_len])
  have eH : hmacN (partN a 0 a.length) X = shaN (xrN 92 B ++ shaN (xrN 54 B ++ X)) := by rw [← hB]; rfl
  have u1 : u8L (ci (xrN 54 B) ++ b) := u8L_app (ci_u8 (xrN_wf (by decide) Bw)) ub
  have u2 : u8L (ci (xrN 92 B) ++ ci (shaN (xrN 54 B ++ X))) := u8L_app (ci_u8 (xrN_wf (by decide) Bw)) (ci_u8 (shaN_wf _))
  unfold ouP
  rw [eI, r54, r92, eO, hX, eH]
  intro p hp
  rcases List.mem_append.1 hp with hp | hp
  · refine allP_mem ?_ p hp
    simp only [allP, List.length_append, ci_len, xrN_len, Bl, shaN_len]
    repeat' (first | exact trivial | exact ua | exact ub | exact u1 | exact u2 | refine And.intro ?_ ?_)
    all_goals first | rfl | omega | exact decide_eq_true rfl
  · rcases List.mem_append.1 hp with hp | hp <;>
    · obtain ⟨j, hj, rfl⟩ := List.mem_map.1 hp
      have := List.mem_range.1 (List.mem_reverse.1 hj)
      rw [ci_len, Bl]; exact this
theorem shaOuter_calls (a : List Int) (e : E) (v : Value) (b : List Int) (e' : E) (v' : Value) {W0 : World}
    (r : readOnly W0 (e, roH a)) (w : ∀ n ∈ a, (Lit.int .u8 n).wf = true) (_m : a.length ≤ maxLen) (u : ∀ (ρ : Env) (b : Nat), ρ[b]? = some e → (V.v (.one (.slice b (.c 0) 1 (.s a.length) (.s a.length)))).rel ρ v)
    (r' : readOnly W0 (e', roH b)) (w' : ∀ n ∈ b, (Lit.int .u8 n).wf = true) (_m' : b.length ≤ maxLen) (u' : ∀ (ρ : Env) (c : Nat), ρ[c]? = some e' → (V.v (.one (.slice c (.c 0) 1 (.s b.length) (.s b.length)))).rel ρ v')
    (W : World) (hW : W0 = W := by rfl) : Calls Try.prog 5 #[v, v'] W fun e w' => e = .returned (.bool true) ∧ Below W.heap.size W w' := by
  subst hW
  have hm := mem_args (W := W0) [(e, roH a), (e', roH b)] (by intro y hy; simp at hy; rcases hy with rfl | rfl; exact r; exact r')
  have hu : relVs ([(e, roH a), (e', roH b)].map (·.1)) [bls 0 a.length a.length, bls 1 b.length b.length] [v, v'] := ⟨_, _, rfl, u _ 0 rfl, _, _, rfl, u' _ 1 rfl, rfl⟩
  have ua := u8L_wf w
  have ub := u8L_wf w'
  by_cases h0 : (250 : Int) < a.length
  · exact law_obs tabL_ok (congrFun (congrFun ou0 a) b) ⟨decide_eq_true h0, trivial⟩ hm hu
  by_cases h1 : (1000 : Int) < b.length
  · exact law_obs tabL_ok (congrFun (congrFun ou1 a) b) ⟨decide_eq_true h1, decide_eq_false h0, trivial⟩ hm hu
  by_cases h2 : (64 : Int) < a.length
  · refine law_obs tabL_ok (congrFun (congrFun ou3 a) b) (allP_of fun p hp => ?_) hm hu
    unfold ouL at hp
    rw [blL_eq (by omega)] at hp
    rcases List.mem_append.1 hp with hp | hp
    · exact ou_ok ua ub rfl (by omega) (by omega) p hp
    · refine allP_mem ?_ p hp
      simp only [allP, ci_len, shaN_len]
      repeat' (first | exact trivial | exact ua | refine And.intro ?_ ?_)
      all_goals first | rfl | omega | exact decide_eq_true h2 | exact decide_eq_false h0 | exact decide_eq_false h1
  · refine law_obs tabL_ok (congrFun (congrFun ou2 a) b) (allP_of fun p hp => ?_) hm hu
    unfold ouS at hp
    rw [blS_eq ua (by omega)] at hp
    rcases List.mem_append.1 hp with hp | hp
    · exact ou_ok ua ub rfl (by omega) (by omega) p hp
    · refine allP_mem ?_ p hp
      simp only [allP]
      repeat' (first | exact trivial | refine And.intro ?_ ?_)
      all_goals first | rfl | omega | exact decide_eq_false h2 | exact decide_eq_false h0 | exact decide_eq_false h1

set_option maxRecDepth 100000 in
theorem shaOuter_lifted (os : Os) (started : os.Started) (H : Type) (enc : TypeId × Value → H) :
    ReturnsInHanded {} Try.checked os 5 .any (Rows.shaOuterSpec.pre6 enc Try.prog Try.f5 Rows.shaOuterRow.domain false) (Rows.shaOuterSpec.post enc Try.prog Try.f5 false true false false) := by
  refine returnsInHanded_of_change (C := Try.checked) own started (by kernel_rfl) Try.func5
    (ChangeSpec.witness6 (enc := enc) (C := Try.checked) false ⟨#[], #[.slice none 0 0, .slice none 0 0], []⟩ 8 (by kernel_rfl) (by kernel_rfl) (by kernel_rfl) (by kernel_rfl)) ?_
  intro W base args ds gs before hval0 hW hcnd _
  have hval : ∀ (j : Nat) t v, Try.f5.params[j]? = some t → args[j]? = some v → Value.okWide Try.prog W .any base t v := hval0
  have hW' := hW
  obtain ⟨p, q, hA0, hV, hbef, hfz, hnd⟩ := hW
  have hA : DataW.TrodAll enc Try.prog W 0 (fun _ => true) true Try.f5.params.toList args.toList ds p := hA0
  rw [Try.params5] at hA hval
  obtain ⟨v0, v1, d0, d1, p0, p1, rfl, rfl, hp, h0, h1⟩ := trodAll_two hA
  obtain ⟨a0, e0, r0, w0, m0, u0⟩ := one_ints (k := .u8) (d := 20) (by kernel_rfl) (hval 0 22 v0 rfl rfl) h0
  obtain ⟨a1, e1, r1, w1, m1, u1⟩ := one_ints (k := .u8) (d := 20) (by kernel_rfl) (hval 1 22 v1 rfl rfl) h1
  refine (shaOuter_calls a0 e0 v0 a1 e1 v1 r0 w0 m0 u0 r1 w1 m1 u1 W).mono fun e W' ⟨he, hb⟩ => ?_
  subst he
  exact ⟨_, rfl, post_law laidOut (by rw [Try.params5]; decide +kernel) rfl rfl (by kernel_rfl) Try.underlying4 hW' hb⟩

theorem shaOuter_holds : Rows.ShaOuterSaid :=
  OpenClaim.holds_of_wide 5 Try.f5 rfl rfl rfl rfl rfl rfl rfl ⟨rfl, rfl, rfl, rfl, rfl⟩ rfl rfl rfl rfl rfl (by kernel_rfl) Try.func5 (by kernel_rfl)
    (of_decide_eq_true (by kernel_rfl)) (by unfold Func.isWrapper; first | (rw [if_pos (by decide +kernel)]; kernel_rfl) | (rw [if_neg (by decide +kernel)]; exact ⟨rfl, rfl⟩))
    (fun os started H enc _ => shaOuter_lifted os started H enc)
#print axioms shaOuter_holds
end
end Go.Proofs.Ytlboenjdbgkofaa
