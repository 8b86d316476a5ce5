/- The reference's against, listed and Hex: their runs; The reference's against, listed and Hex: the contracts; The reference's listed, Hex and Hmac; The reference's Hmac: its runs; The reference's Hmac: the contract. -/
import Derived.Test.YtbamfolinbehiaaRb
section
namespace Go.Proofs.Ytbamfolinbehiaa
open Go.Sx
noncomputable def G0 := loopN Try.prog 50 0
noncomputable def G1 := loopN Try.prog 50 1
noncomputable def EG0 : List Item := .code (.loop G0.1) :: G0.2
noncomputable def KG0 : List Item := .inLoop G0.1 :: G0.2
noncomputable def EG1 : List Item := .code (.loop G1.1) :: G1.2
noncomputable def KG1 : List Item := .inLoop G1.1 :: G1.2
def bK (n : Int) : V := .v (.one (.sint .u8 n))
def TG0 (k b l : List Int) (o n c p m d z : Nat) (x : Int) (i : Nat) (h : List Bool) : St := ⟨[(0, slH 0 o n c), (1, bK x), (2, slH 1 p m d), (7, bmS 2 z z), (8, si .i64 i)], [roH k, roH b, oB l], h, []⟩
def TG1 (k b l : List Int) (p m d z i : Nat) (h : List Bool) : St := ⟨[(2, slH 1 p m d), (7, bmS 2 z z), (9, si .i64 i)], [roH k, roH b, oB l], h, []⟩
noncomputable def runG (x : Go.Code × List Item) (lim : Nat) (ls : List Bool) (S : St) := run Try.prog (call0 4) (fun _ => false) (fnF 50) lim 100000 ls (.code x.1 :: .inLoop x.1 :: x.2) S
theorem agE : (fun (k b : List Int) (o n c p m d : Nat) (x : Int) => stopV [0, 1, 2, 7, 8] [0, 1, 2] (run Try.prog (call0 4) (fun _ => false) (fnF 50) 0 100000 [false] [.code (bodyF 50)] ⟨argSlots 0 [slH 0 o n c, bK x, slH 1 p m d], [roH k, roH b], [], []⟩)) = fun k b o n c p (m : Nat) d x => some (EG0, ([(0, .v (.one (.slice 0 (.s o) 1 (.s n) (.s c)))), (1, .v (.one (.sint .u8 x))), (2, .v (.one (.slice 1 (.s p) 1 (.s m) (.s d)))), (7, .v (.one (.slice 2 (.c 0) 1 (.s (Int.toNat (64 + (m : Int)))) (.s (Int.toNat (64 + (m : Int))))))), (8, .v (.one (.int .i64 0)))], ([SB.mk false (.ints .u8 k), SB.mk false (.ints .u8 b), SB.mk true (.ints .u8 (List.replicate (Int.toNat (64 + (m : Int))) 0))], [(0 : Int) ≤ 64 + (m : Int), 64 + (m : Int) ≤ 64 + (m : Int), Int.toNat (64 + (m : Int)) * 1 ≤ 140737488355328, Int.toNat (64 + (m : Int)) ≤ 9223372036854775807, (-9223372036854775808 : Int) ≤ 64 + (m : Int) ∧ 64 + (m : Int) ≤ 9223372036854775807]))) := by kernel_rfl
theorem agR : (fun (k b l : List Int) (o n c p m d z : Nat) (x : Int) (i : Nat) => stopV [0, 1, 2, 7, 8] [0, 1, 2] (runG G0 (G0.2.length + 1) [] (TG0 k b l o n c p m d z x i [true, true]))) = fun k b l o (n : Nat) c p m d (z : Nat) x (i : Nat) => some (KG0, ([(0, .v (.one (.slice 0 (.s o) 1 (.s n) (.s c)))), (1, .v (.one (.sint .u8 x))), (2, .v (.one (.slice 1 (.s p) 1 (.s m) (.s d)))), (7, .v (.one (.slice 2 (.c 0) 1 (.s z) (.s z)))), (8, .v (.one (.sint .i64 ((i : Int) + 1))))], ([SB.mk false (.ints .u8 k), SB.mk false (.ints .u8 b), SB.mk true (.ints .u8 (List.set (List.set l i x) i (Go.bits Go.BinOp.xor .u8 x (List.getD k (Nat.add o i) 0))))], [(-9223372036854775808) ≤ (i : Int) + 1 ∧ (i : Int) + (1 : Int) ≤ 9223372036854775807, i < (List.set l i x).length, 0 ≤ (i : Int), (i : Int) < (z : Int), Nat.add o i < k.length, 0 ≤ (i : Int), (i : Int) < (n : Int), decide ((i : Int) < (n : Int)) = true, i < l.length, 0 ≤ (i : Int), (i : Int) < (z : Int), decide ((i : Int) < 64) = true]))) := by kernel_rfl
theorem agS : (fun (k b l : List Int) (o n c p m d z : Nat) (x : Int) (i : Nat) => stopV [0, 1, 2, 7, 8] [0, 1, 2] (runG G0 (G0.2.length + 1) [] (TG0 k b l o n c p m d z x i [true, false]))) = fun k b l o (n : Nat) c p m d (z : Nat) x (i : Nat) => some (KG0, ([(0, .v (.one (.slice 0 (.s o) 1 (.s n) (.s c)))), (1, .v (.one (.sint .u8 x))), (2, .v (.one (.slice 1 (.s p) 1 (.s m) (.s d)))), (7, .v (.one (.slice 2 (.c 0) 1 (.s z) (.s z)))), (8, .v (.one (.sint .i64 ((i : Int) + 1))))], ([SB.mk false (.ints .u8 k), SB.mk false (.ints .u8 b), SB.mk true (.ints .u8 (List.set l i x))], [(-9223372036854775808) ≤ (i : Int) + 1 ∧ (i : Int) + (1 : Int) ≤ 9223372036854775807, decide ((i : Int) < (n : Int)) = false, i < l.length, 0 ≤ (i : Int), (i : Int) < (z : Int), decide ((i : Int) < 64) = true]))) := by kernel_rfl
theorem agL : (fun (k b l : List Int) (o n c p m d z : Nat) (x : Int) (i : Nat) => stopV [2, 7, 9] [0, 1, 2] (runG G0 0 [false] (TG0 k b l o n c p m d z x i [false]))) = fun k b l _ _ _ p m d z _ (i : Nat) => some (EG1, ([(2, .v (.one (.slice 1 (.s p) 1 (.s m) (.s d)))), (7, .v (.one (.slice 2 (.c 0) 1 (.s z) (.s z)))), (9, .v (.one (.int .i64 0)))], ([SB.mk false (.ints .u8 k), SB.mk false (.ints .u8 b), SB.mk true (.ints .u8 l)], [decide ((i : Int) < 64) = false]))) := by kernel_rfl
theorem agT : (fun (k b l : List Int) (p m d z i : Nat) => stopV [2, 7, 9] [0, 1, 2] (runG G1 (G1.2.length + 1) [] (TG1 k b l p m d z i [true]))) = fun k b l p (m : Nat) d (z : Nat) (i : Nat) => some (KG1, ([(2, .v (.one (.slice 1 (.s p) 1 (.s m) (.s d)))), (7, .v (.one (.slice 2 (.c 0) 1 (.s z) (.s z)))), (9, .v (.one (.sint .i64 ((i : Int) + 1))))], ([SB.mk false (.ints .u8 k), SB.mk false (.ints .u8 b), SB.mk true (.ints .u8 (List.set l (Int.toNat (64 + (i : Int))) (List.getD b (Nat.add p i) 0)))], [(-9223372036854775808) ≤ (i : Int) + 1 ∧ (i : Int) + (1 : Int) ≤ 9223372036854775807, Int.toNat (64 + (i : Int)) < l.length, (0 : Int) ≤ 64 + (i : Int), 64 + (i : Int) < (z : Int), Nat.add p i < b.length, 0 ≤ (i : Int), (i : Int) < (m : Int), (-9223372036854775808 : Int) ≤ 64 + (i : Int) ∧ 64 + (i : Int) ≤ 9223372036854775807, decide ((i : Int) < (m : Int)) = true]))) := by kernel_rfl
theorem agX : (fun (k b l : List Int) (p m d z i : Nat) => endV [0, 1, 2] (runG G1 0 [] (TG1 k b l p m d z i [false]))) = fun k b l _ (m : Nat) _ z (i : Nat) => some (.v (.one (.slice 2 (.c 0) 1 (.s z) (.s z))), ([SB.mk false (.ints .u8 k), SB.mk false (.ints .u8 b), SB.mk true (.ints .u8 l)], [decide ((i : Int) < (m : Int)) = false])) := by kernel_rfl
theorem liR : (fun (l : List Int) => retV [64] (call0 4 48 [.v (.aggi .u8 l)] [] [])) = fun l => some (.v (.one (.slice 64 (.c 0) 1 (.c 32) (.c 32))), ([SB.mk true (.exp [.sint .u8 (l.getD 0 0), .sint .u8 (l.getD 1 0), .sint .u8 (l.getD 2 0), .sint .u8 (l.getD 3 0), .sint .u8 (l.getD 4 0), .sint .u8 (l.getD 5 0), .sint .u8 (l.getD 6 0), .sint .u8 (l.getD 7 0), .sint .u8 (l.getD 8 0), .sint .u8 (l.getD 9 0), .sint .u8 (l.getD 10 0), .sint .u8 (l.getD 11 0), .sint .u8 (l.getD 12 0), .sint .u8 (l.getD 13 0), .sint .u8 (l.getD 14 0), .sint .u8 (l.getD 15 0), .sint .u8 (l.getD 16 0), .sint .u8 (l.getD 17 0), .sint .u8 (l.getD 18 0), .sint .u8 (l.getD 19 0), .sint .u8 (l.getD 20 0), .sint .u8 (l.getD 21 0), .sint .u8 (l.getD 22 0), .sint .u8 (l.getD 23 0), .sint .u8 (l.getD 24 0), .sint .u8 (l.getD 25 0), .sint .u8 (l.getD 26 0), .sint .u8 (l.getD 27 0), .sint .u8 (l.getD 28 0), .sint .u8 (l.getD 29 0), .sint .u8 (l.getD 30 0), .sint .u8 (l.getD 31 0)])], [31 < l.length, 30 < l.length, 29 < l.length, 28 < l.length, 27 < l.length, 26 < l.length, 25 < l.length, 24 < l.length, 23 < l.length, 22 < l.length, 21 < l.length, 20 < l.length, 19 < l.length, 18 < l.length, 17 < l.length, 16 < l.length, 15 < l.length, 14 < l.length, 13 < l.length, 12 < l.length, 11 < l.length, 10 < l.length, 9 < l.length, 8 < l.length, 7 < l.length, 6 < l.length, 5 < l.length, 4 < l.length, 3 < l.length, 2 < l.length, 1 < l.length, 0 < l.length])) := by kernel_rfl
end Go.Proofs.Ytbamfolinbehiaa
end
section
namespace Go.Proofs.Ytbamfolinbehiaa
open Go.ChangeShapes Go.WideShapes Go.ChangeAt Go.RowKit Go.Sx
theorem funAg : Try.prog.funcs[50]? = some (fnF 50) := by kernel_rfl
theorem bodAg : (fnF 50).body = some (bodyF 50) := by kernel_rfl
theorem tmpAg : 3 ≤ (fnF 50).ntmps := Nat.le_of_ble_eq_true (by kernel_rfl)
theorem nd012R : (List.range 2 ++ [2]).Nodup := by decide
def agQ (x : Nat) (K B : List Nat) : List Nat := xrN x (blN K) ++ B
theorem agQ_len (x : Nat) (K B : List Nat) : (agQ x K B).length = 64 + B.length := by
 unfold agQ; rw [List.length_append, xrN_len, blN_len]
theorem agQ_key {x i : Nat} {K B : List Nat} (hn : K.length ≤ 64) (hi : i < K.length) : (agQ x K B).getD i 0 = K.getD i 0 ^^^ x := by
 have h1 : i < (xrN x (blN K)).length := by rw [xrN_len, blN_len]; omega
 unfold agQ
 simp only [List.getD_eq_getElem?_getD]
 rw [List.getElem?_append_left h1]
 unfold xrN blN hkN
 rw [if_neg (by omega), List.getElem?_map, List.getElem?_append_left (by omega), List.getElem?_eq_getElem (by omega)]
 rfl
theorem agQ_nul {x i : Nat} {K B : List Nat} (hn : K.length ≤ 64) (hi : K.length ≤ i) (h : i < 64) : (agQ x K B).getD i 0 = x := by
 have h1 : i < (xrN x (blN K)).length := by rw [xrN_len, blN_len]; omega
 unfold agQ
 simp only [List.getD_eq_getElem?_getD]
 rw [List.getElem?_append_left h1]
 unfold xrN blN hkN
 rw [if_neg (by omega), List.getElem?_map, List.getElem?_append_right hi, List.getElem?_replicate, if_pos (by omega)]
 show 0 ^^^ x = x
 exact Nat.zero_xor x
theorem agQ_behind {x j : Nat} {K B : List Nat} : (agQ x K B).getD (64 + j) 0 = B.getD j 0 := by
 have h1 : (xrN x (blN K)).length = 64 := by rw [xrN_len, blN_len]
 unfold agQ
 simp only [List.getD_eq_getElem?_getD]
 rw [List.getElem?_append_right (by omega), h1, Nat.add_sub_cancel_left]
theorem u8_part {b : List Int} (hb : u8L b) (o n i : Nat) (hi : i < n) : b.getD (Nat.add o i) 0 = (((partN b o n).getD i 0 : Nat) : Int) := by
 have hg := u8get hb (o + i)
 rw [partN_get (by omega), getI]
 show b.getD (o + i) 0 = _
 omega
set_option maxHeartbeats 1000000 in
theorem against_works {k b : List Int} {o n c p m d x : Nat} (hk : u8L k) (hb : u8L b) (hx : x < 256) (hn : n ≤ 64) (hkl : o + n ≤ k.length) (hbl : p + m ≤ b.length) (hm : m ≤ 1000000000) :
  Works Try.prog 50 [slH 0 o n c, bK x, slH 1 p m d] [roH k, roH b] (bmS 2 (64 + m) (64 + m)) [roH k, roH b, oB (ci (agQ x (partN k o n) (partN b p m)))] := by
 have Kl : (partN k o n).length = n := partN_len (by omega)
 have Bl : (partN b p m).length = m := partN_len (by omega)
 have Kw : wfB8 (partN k o n) := partN_wf hk o n
 obtain ⟨Q, hQ⟩ : ∃ Q, ci (agQ x (partN k o n) (partN b p m)) = Q := ⟨_, rfl⟩
 have Ql : Q.length = 64 + m := by rw [← hQ, ci_len, agQ_len, Bl]
 have Qg : ∀ i, Q.getD i 0 = (((agQ x (partN k o n) (partN b p m)).getD i 0 : Nat) : Int) := fun i => by rw [← hQ, ci_get]
 rw [hQ]
 intro ρ K w us hm1 hu
 have hcd : n ≤ c ∧ m ≤ d := by
  obtain ⟨u, s, _, ⟨⟨e, _, hu1⟩, _⟩, u2, s2, _, _, u3, s3, _, ⟨⟨e3, _, hu3⟩, _⟩, _⟩ := hu
  constructor
  ·rcases hu1 with ⟨h0, _⟩ | ⟨_, _, _, h1, _⟩
   ·simp only [N.v] at h0; omega
   ·exact h1
  ·rcases hu3 with ⟨h0, _⟩ | ⟨_, _, _, h1, _⟩
   ·simp only [N.v] at h0; omega
   ·exact h1
 obtain ⟨hc, hd⟩ := hcd
 refine works_goes funAg bodAg (by exact tmpAg) (fun ρ K W a w hρ hr => ?_) ρ K w us hm1 hu
 have second : ∀ ρ' a w, RelD [] (ρ ++ ρ') K W (fnF 50).ntmps (TG1 k b (Q.take (64 + 0) ++ List.replicate (64 + m - (64 + 0)) 0) p m d (64 + m) 0 []) a w → Goes Try.prog 50 (RetW ρ K W (bmS 2 (64 + m) (64 + m)) [roH k, roH b, oB Q]) (.code (.loop G1.1) :: G1.2) a w := by
  intro ρ' a w hr
  refine loop_goes (I := Nat) (n := 2) (eff := fun _ => false) (Inv := fun j h => TG1 k b (Q.take (64 + j) ++ List.replicate (64 + m - (64 + j)) 0) p m d (64 + m) j h) (good := fun j => j ≤ m) (μ := fun j => m - j) (call0_okR 4) funAg (fun _ _ => ⟨rfl, rfl⟩) ?_ hρ (i := 0) (Nat.zero_le _) hr
  intro j hj
  have hl : (Q.take (64 + j) ++ List.replicate (64 + m - (64 + j)) (0 : Int)).length = 64 + m := by rw [List.length_append, List.length_take, List.length_replicate]; omega
  by_cases hlt : j < m
  ·have q := cf7 agT k b (Q.take (64 + j) ++ List.replicate (64 + m - (64 + j)) (0 : Int)) p m d (64 + m)
   have q := congrFun q j
   have e1 : b.getD (Nat.add p j) 0 = Q.getD (64 + j) 0 := by rw [Qg, agQ_behind, u8_part hb p m j hlt]
   have e2 : Int.toNat ((64 : Int) + (j : Int)) = 64 + j := by omega
   rw [e1, e2, set_copy Q (64 + m) (64 + j) (by omega) (by omega)] at q
   refine .round [true] [] _ _ [2, 7, 9] [2] _ _ _ (j + 1) q ⟨⟨by omega, by omega⟩, by rw [hl]; omega, by omega, by omega, by show p + j < _; omega, by omega, by omega, ⟨by omega, by omega⟩, decide_eq_true (by omega), trivial⟩ ⟨nd012R, ?_, ?_⟩ hlt (by omega)
   ·exact ⟨⟨rfl, rfl, rfl, rfl, rfl, Nat.le_refl _, hd⟩, ⟨rfl, rfl, rfl, rfl, rfl, Nat.le_refl _, Nat.le_refl _⟩, ⟨rfl, rfl, rfl⟩, trivial⟩
   ·exact ⟨⟨fun h => h, rfl, rfl⟩, ⟨fun h => h, rfl, rfl⟩, ⟨fun h => h, rfl, rfl⟩, trivial⟩
  ·have hjm : j = m := by omega
   subst hjm
   refine .stop [false] [] _ _ [2] _ _ _ (cf8 agX k b (Q.take (64 + j) ++ List.replicate (64 + j - (64 + j)) (0 : Int)) p j d (64 + j) j) ⟨decide_eq_false (by omega), trivial⟩ nd012R ?_ ?_
   ·exact ⟨rfl, rfl, rfl, rfl, Nat.le_refl _, Nat.le_refl _⟩
   ·rw [Nat.sub_self, List.take_of_length_le (by omega), List.replicate_zero, List.append_nil]
    exact ⟨⟨fun h => h, rfl, rfl⟩, ⟨fun h => h, rfl, rfl⟩, ⟨fun h => h, rfl, rfl⟩, trivial⟩
 have q0 := cf9 agE k b o n c p m d (x : Int)
 have e64 : Int.toNat ((64 : Int) + (m : Int)) = 64 + m := by omega
 rw [e64] at q0
 refine goes_stop (ρ0 := ρ) (r := [2]) (k' := EG0) (T := TG0 k b (Q.take 0 ++ List.replicate (64 + m - 0) 0) o n c p m d (64 + m) x 0 []) (ob := [(0 : Int) ≤ (64 : Int) + (m : Int), (64 : Int) + (m : Int) ≤ (64 : Int) + (m : Int), (64 + m) * 1 ≤ 140737488355328, 64 + m ≤ 9223372036854775807, -9223372036854775808 ≤ (64 : Int) + (m : Int) ∧ (64 : Int) + (m : Int) ≤ 9223372036854775807]) (call0_okR 4) funAg (by rw [hρ]; exact q0) ⟨by omega, by omega, by omega, by omega, ⟨by omega, by omega⟩, trivial⟩ ⟨by rw [hρ]; exact nd012R, ?_, ?_⟩ (fun ρ2 a2 w2 h2 => ?_) (hr.hints (S' := ⟨argSlots 0 [slH 0 o n c, bK x, slH 1 p m d], [roH k, roH b], [], []⟩) rfl rfl)
 ·rw [hρ]; exact ⟨⟨rfl, rfl, rfl, rfl, rfl, Nat.le_refl _, hc⟩, ⟨rfl, rfl, rfl⟩, ⟨rfl, rfl, rfl, rfl, rfl, Nat.le_refl _, hd⟩, ⟨rfl, rfl, rfl, rfl, rfl, Nat.le_refl _, Nat.le_refl _⟩, ⟨rfl, rfl, rfl⟩, trivial⟩
 ·rw [hρ]; exact ⟨⟨fun h => h, rfl, rfl⟩, ⟨fun h => h, rfl, rfl⟩, ⟨fun h => h, rfl, by simp⟩, trivial⟩
 refine loop3_goes (I := Nat) (eff := fun _ => false) (Inv := fun i h => TG0 k b (Q.take i ++ List.replicate (64 + m - i) 0) o n c p m d (64 + m) x i h) (good := fun i => i ≤ 64) (μ := fun i => 64 - i) (call0_okR 4) funAg (fun _ _ => ⟨rfl, rfl⟩) ?_ (i := 0) (Nat.zero_le _) h2
 intro i hi
 have hl : (Q.take i ++ List.replicate (64 + m - i) (0 : Int)).length = 64 + m := by rw [List.length_append, List.length_take, List.length_replicate]; omega
 by_cases hlt : i < 64
 ·by_cases hin : i < n
  ·have q := cf11 agR k b (Q.take i ++ List.replicate (64 + m - i) (0 : Int)) o n c p m d (64 + m) (x : Int)
   have q := congrFun q i
   have e1 : bits .xor .u8 (x : Int) (k.getD (Nat.add o i) 0) = Q.getD i 0 := by
    rw [Qg, agQ_key (by omega) (by omega), u8_part hk o n i hin, bxor8 hx, Nat.xor_comm]
    rw [List.getD_eq_getElem?_getD, List.getElem?_eq_getElem (by omega)]
    exact Kw _ (List.getElem_mem _)
   rw [e1, List.set_set, set_copy Q (64 + m) i (by omega) (by omega)] at q
   refine .round [true, true] [] _ _ [0, 1, 2, 7, 8] [2] _ _ [-9223372036854775808 ≤ (i : Int) + 1 ∧ (i : Int) + 1 ≤ 9223372036854775807, i < ((Q.take i ++ List.replicate (64 + m - i) (0 : Int)).set i (x : Int)).length, (0 : Int) ≤ (i : Int), (i : Int) < ((64 + m : Nat) : Int), Nat.add o i < k.length, (0 : Int) ≤ (i : Int), (i : Int) < (n : Int), decide ((i : Int) < (n : Int)) = true, i < (Q.take i ++ List.replicate (64 + m - i) (0 : Int)).length, (0 : Int) ≤ (i : Int), (i : Int) < ((64 + m : Nat) : Int), decide ((i : Int) < (64 : Int)) = true] (i + 1) (by rw [hρ]; exact q) ⟨⟨by omega, by omega⟩, by rw [List.length_set, hl]; omega, by omega, by omega, by show o + i < _; omega, by omega, by omega, decide_eq_true (by omega), by omega, by omega, by omega, decide_eq_true (by omega), trivial⟩ ⟨by rw [hρ]; exact nd012R, ?_, ?_⟩ hlt (by omega)
   ·rw [hρ]; exact ⟨⟨rfl, rfl, rfl, rfl, rfl, Nat.le_refl _, hc⟩, ⟨rfl, rfl, rfl⟩, ⟨rfl, rfl, rfl, rfl, rfl, Nat.le_refl _, hd⟩, ⟨rfl, rfl, rfl, rfl, rfl, Nat.le_refl _, Nat.le_refl _⟩, ⟨rfl, rfl, rfl⟩, trivial⟩
   ·rw [hρ]; exact ⟨⟨fun h => h, rfl, rfl⟩, ⟨fun h => h, rfl, rfl⟩, ⟨fun h => h, rfl, rfl⟩, trivial⟩
  ·have q := cf11 agS k b (Q.take i ++ List.replicate (64 + m - i) (0 : Int)) o n c p m d (64 + m) (x : Int)
   have q := congrFun q i
   have e1 : ((x : Nat) : Int) = Q.getD i 0 := by rw [Qg, agQ_nul (by omega) (by omega) hlt]
   have e2 : (Q.take i ++ List.replicate (64 + m - i) (0 : Int)).set i (x : Int) = Q.take (i + 1) ++ List.replicate (64 + m - (i + 1)) 0 := by
    rw [e1, set_copy Q (64 + m) i (by omega) (by omega)]
   rw [e2] at q
   refine .round [true, false] [] _ _ [0, 1, 2, 7, 8] [2] _ _ [-9223372036854775808 ≤ (i : Int) + 1 ∧ (i : Int) + 1 ≤ 9223372036854775807, decide ((i : Int) < (n : Int)) = false, i < (Q.take i ++ List.replicate (64 + m - i) (0 : Int)).length, (0 : Int) ≤ (i : Int), (i : Int) < ((64 + m : Nat) : Int), decide ((i : Int) < (64 : Int)) = true] (i + 1) (by rw [hρ]; exact q) ⟨⟨by omega, by omega⟩, decide_eq_false (by omega), by omega, by omega, by omega, decide_eq_true (by omega), trivial⟩ ⟨by rw [hρ]; exact nd012R, ?_, ?_⟩ hlt (by omega)
   ·rw [hρ]; exact ⟨⟨rfl, rfl, rfl, rfl, rfl, Nat.le_refl _, hc⟩, ⟨rfl, rfl, rfl⟩, ⟨rfl, rfl, rfl, rfl, rfl, Nat.le_refl _, hd⟩, ⟨rfl, rfl, rfl, rfl, rfl, Nat.le_refl _, Nat.le_refl _⟩, ⟨rfl, rfl, rfl⟩, trivial⟩
   ·rw [hρ]; exact ⟨⟨fun h => h, rfl, rfl⟩, ⟨fun h => h, rfl, rfl⟩, ⟨fun h => h, rfl, rfl⟩, trivial⟩
 ·have hi64 : i = 64 := by omega
  subst hi64
  refine .any fun ρ' a w hr' => ?_
  have q := cf11 agL k b (Q.take 64 ++ List.replicate (64 + m - 64) (0 : Int)) o n c p m d (64 + m) (x : Int)
  have q := congrFun q 64
  refine goes_stop (ρ0 := ρ) (r := [2]) (ob := [decide (((64 : Nat) : Int) < (64 : Int)) = false]) (call0_okR 4) funAg (by rw [hρ]; exact q) ⟨rfl, trivial⟩ ⟨by rw [hρ]; exact nd012R, ?_, ?_⟩ second (hr'.hints (S' := TG0 k b (Q.take 64 ++ List.replicate (64 + m - 64) 0) o n c p m d (64 + m) x 64 [false]) rfl rfl)
  ·rw [hρ]; exact ⟨⟨rfl, rfl, rfl, rfl, rfl, Nat.le_refl _, hd⟩, ⟨rfl, rfl, rfl, rfl, rfl, Nat.le_refl _, Nat.le_refl _⟩, ⟨rfl, rfl, rfl⟩, trivial⟩
  ·rw [hρ]; exact ⟨⟨fun h => h, rfl, rfl⟩, ⟨fun h => h, rfl, rfl⟩, ⟨fun h => h, rfl, rfl⟩, trivial⟩
end Go.Proofs.Ytbamfolinbehiaa
end
section
namespace Go.Proofs.Ytbamfolinbehiaa
open Go.ChangeShapes Go.WideShapes Go.ChangeAt Go.RowKit Go.Sx
theorem getD_list {l : List Int} {n : Nat} (h : l.length = n) : l = (List.range n).map fun i => l.getD i 0 := by
 apply List.ext_getElem
 ·simp [h]
 ·intro i h1 h2
  simp [List.getElem?_eq_getElem h1]
theorem leL_map {sel : List Nat} {k : IntKind} : ∀ {l : List Int}, leL sel (l.map (C.sint k)) (l.map (C.sint k))
 | [] => trivial
 | _ :: _ => ⟨⟨rfl, rfl⟩, leL_map⟩
def listT := fresh fun args h => match args with
 | [a] => match arrV .u8 a with
  | some (_, l) => some (.v (.one (.slice 0 (.c 0) 1 (.c 32) (.c 32))), [oB l], h, [u8L l, l.length = 32])
  | none => none
 | _ => none
theorem list_run {l : List Int} (hl : l.length = 32) {us : List Value} (hu : relVs [] [.v (.aggi .u8 l)] us) : Makes Try.prog 48 us (.v (.one (.slice 0 (.c 0) 1 (.c 32) (.c 32)))) [oB l] := by
 have e := getD_list hl
 refine makes_of (v := .v (.one (.slice 0 (.c 0) 1 (.c 32) (.c 32)))) (bs := [oB l]) (fun _ _ h => by cases h) (congrFun liR l) ?_ (by decide) ?_ ?_ hu
 ·simp only [allP, hl]
  repeat' (first | exact trivial | refine And.intro ?_ ?_)
  all_goals first | rfl | omega | decide
 ·exact ⟨rfl, rfl, rfl, rfl, Nat.le_refl _, Nat.le_refl _⟩
 ·refine ⟨⟨fun h => h, ?_⟩, trivial⟩
  show leL _ _ (l.map (C.sint .u8))
  conv => arg 3; rw [e]
  rw [List.map_map]
  exact leL_map (l := (List.range 32).map fun i => l.getD i 0)
theorem list_tab : TabOk Try.prog 48 listT := fresh_ok fun args h v bs h' ob hg hob => by
 split at hg
 ·rename_i a
  split at hg
  ·rename_i c l hl
   cases hg
   have h2 : l.length = 32 := hob (l.length = 32) (by simp)
   refine ⟨rfl, fun ρ us hu => ?_⟩
   obtain ⟨u, _, rfl, hr, rfl⟩ := hu
   have e := arrV_rel hl hr
   subst e
   exact list_run h2 ⟨_, _, rfl, rfl, rfl⟩
  ·cases hg
 ·cases hg
end Go.Proofs.Ytbamfolinbehiaa
end
section
namespace Go.Proofs.Ytbamfolinbehiaa
open Go.Sx
def gAg : Sx.Loc := fun args bs => match args, bs with
 | [.v (.one (.slice 0 i 1 n _)), .v (.one (.sint .u8 x)), .v (.one (.slice 1 j 1 m _))], [⟨false, .ints .u8 k⟩, ⟨false, .ints .u8 b⟩] => some (bmS 2 (64 + m.v) (64 + m.v), [roH k, roH b, oB (ci (agQ x.toNat (partN k i.v n.v) (partN b j.v m.v)))], [u8L k, u8L b, 0 ≤ x ∧ x < 256, n.v ≤ 64, i.v + n.v ≤ k.length, j.v + m.v ≤ b.length, m.v ≤ 1000000000])
 | _, _ => none
def tabRh := tabs [(49, loc wantH gRf), (48, listT), (50, loc wantM gAg)]
noncomputable def callRh (d : Nat) := callN Try.prog tabRh (fun _ => false) 100000 d
theorem rhS : (fun (k b : List Int) (n c p m d : Nat) => retV [0, 1] (callRh 6 35 [bmS 0 n c, slH 1 p m d] [roH k, roH b] [false])) = fun k b (n : Nat) _ p m _ => some (.v (.aggi .u8 (ci (shaN (partN (ci (agQ 92 (partN k 0 n) (partN (ci (shaN (partN (ci (agQ 54 (partN k 0 n) (partN b p m))) 0 (Nat.add 64 m)))) 0 32))) 0 96)))), ([SB.mk false (.ints .u8 k), SB.mk false (.ints .u8 b)], [(ci (shaN (partN (ci (agQ 92 (partN k 0 n) (partN (ci (shaN (partN (ci (agQ 54 (partN k 0 n) (partN b p m))) 0 (Nat.add 64 m)))) 0 32))) 0 96))).length = 32, (ci (shaN (partN (ci (agQ 92 (partN k 0 n) (partN (ci (shaN (partN (ci (agQ 54 (partN k 0 n) (partN b p m))) 0 (Nat.add 64 m)))) 0 32))) 0 96))).length = 32, (ci (shaN (partN (ci (agQ 92 (partN k 0 n) (partN (ci (shaN (partN (ci (agQ 54 (partN k 0 n) (partN b p m))) 0 (Nat.add 64 m)))) 0 32))) 0 96))).length = 32, u8L (ci (agQ 92 (partN k 0 n) (partN (ci (shaN (partN (ci (agQ 54 (partN k 0 n) (partN b p m))) 0 (Nat.add 64 m)))) 0 32))), 96 ≤ (ci (agQ 92 (partN k 0 n) (partN (ci (shaN (partN (ci (agQ 54 (partN k 0 n) (partN b p m))) 0 (Nat.add 64 m)))) 0 32))).length, 96 ≤ 1000000000, u8L k, u8L (ci (shaN (partN (ci (agQ 54 (partN k 0 n) (partN b p m))) 0 (Nat.add 64 m)))), (0 : Int) ≤ 92 ∧ (92 : Int) < 256, n ≤ 64, 0 + n ≤ k.length, 32 ≤ (ci (shaN (partN (ci (agQ 54 (partN k 0 n) (partN b p m))) 0 (Nat.add 64 m)))).length, 32 ≤ 1000000000, u8L (ci (shaN (partN (ci (agQ 54 (partN k 0 n) (partN b p m))) 0 (Nat.add 64 m)))), (ci (shaN (partN (ci (agQ 54 (partN k 0 n) (partN b p m))) 0 (Nat.add 64 m)))).length = 32, u8L (ci (agQ 54 (partN k 0 n) (partN b p m))), Nat.add 64 m ≤ (ci (agQ 54 (partN k 0 n) (partN b p m))).length, Nat.add 64 m ≤ 1000000000, u8L k, u8L b, (0 : Int) ≤ 54 ∧ (54 : Int) < 256, n ≤ 64, 0 + n ≤ k.length, p + m ≤ b.length, m ≤ 1000000000, decide (64 < (n : Int)) = false])) := by kernel_rfl
theorem rhL : (fun (k b : List Int) (n c p m d : Nat) => retV [0, 1] (callRh 6 35 [bmS 0 n c, slH 1 p m d] [roH k, roH b] [true])) = fun k b (n : Nat) _ p m _ => some (.v (.aggi .u8 (ci (shaN (partN (ci (agQ 92 (partN (ci (shaN (partN k 0 n))) 0 32) (partN (ci (shaN (partN (ci (agQ 54 (partN (ci (shaN (partN k 0 n))) 0 32) (partN b p m))) 0 (Nat.add 64 m)))) 0 32))) 0 96)))), ([SB.mk false (.ints .u8 k), SB.mk false (.ints .u8 b)], [(ci (shaN (partN (ci (agQ 92 (partN (ci (shaN (partN k 0 n))) 0 32) (partN (ci (shaN (partN (ci (agQ 54 (partN (ci (shaN (partN k 0 n))) 0 32) (partN b p m))) 0 (Nat.add 64 m)))) 0 32))) 0 96))).length = 32, (ci (shaN (partN (ci (agQ 92 (partN (ci (shaN (partN k 0 n))) 0 32) (partN (ci (shaN (partN (ci (agQ 54 (partN (ci (shaN (partN k 0 n))) 0 32) (partN b p m))) 0 (Nat.add 64 m)))) 0 32))) 0 96))).length = 32, (ci (shaN (partN (ci (agQ 92 (partN (ci (shaN (partN k 0 n))) 0 32) (partN (ci (shaN (partN (ci (agQ 54 (partN (ci (shaN (partN k 0 n))) 0 32) (partN b p m))) 0 (Nat.add 64 m)))) 0 32))) 0 96))).length = 32, (ci (shaN (partN (ci (agQ 92 (partN (ci (shaN (partN k 0 n))) 0 32) (partN (ci (shaN (partN (ci (agQ 54 (partN (ci (shaN (partN k 0 n))) 0 32) (partN b p m))) 0 (Nat.add 64 m)))) 0 32))) 0 96))).length = 32, (ci (shaN (partN (ci (agQ 92 (partN (ci (shaN (partN k 0 n))) 0 32) (partN (ci (shaN (partN (ci (agQ 54 (partN (ci (shaN (partN k 0 n))) 0 32) (partN b p m))) 0 (Nat.add 64 m)))) 0 32))) 0 96))).length = 32, (ci (shaN (partN (ci (agQ 92 (partN (ci (shaN (partN k 0 n))) 0 32) (partN (ci (shaN (partN (ci (agQ 54 (partN (ci (shaN (partN k 0 n))) 0 32) (partN b p m))) 0 (Nat.add 64 m)))) 0 32))) 0 96))).length = 32, u8L (ci (agQ 92 (partN (ci (shaN (partN k 0 n))) 0 32) (partN (ci (shaN (partN (ci (agQ 54 (partN (ci (shaN (partN k 0 n))) 0 32) (partN b p m))) 0 (Nat.add 64 m)))) 0 32))), 96 ≤ (ci (agQ 92 (partN (ci (shaN (partN k 0 n))) 0 32) (partN (ci (shaN (partN (ci (agQ 54 (partN (ci (shaN (partN k 0 n))) 0 32) (partN b p m))) 0 (Nat.add 64 m)))) 0 32))).length, 96 ≤ 1000000000, u8L (ci (shaN (partN k 0 n))), u8L (ci (shaN (partN (ci (agQ 54 (partN (ci (shaN (partN k 0 n))) 0 32) (partN b p m))) 0 (Nat.add 64 m)))), (0 : Int) ≤ 92 ∧ (92 : Int) < 256, 32 ≤ 64, 32 ≤ (ci (shaN (partN k 0 n))).length, 32 ≤ (ci (shaN (partN (ci (agQ 54 (partN (ci (shaN (partN k 0 n))) 0 32) (partN b p m))) 0 (Nat.add 64 m)))).length, 32 ≤ 1000000000, u8L (ci (shaN (partN (ci (agQ 54 (partN (ci (shaN (partN k 0 n))) 0 32) (partN b p m))) 0 (Nat.add 64 m)))), (ci (shaN (partN (ci (agQ 54 (partN (ci (shaN (partN k 0 n))) 0 32) (partN b p m))) 0 (Nat.add 64 m)))).length = 32, u8L (ci (agQ 54 (partN (ci (shaN (partN k 0 n))) 0 32) (partN b p m))), Nat.add 64 m ≤ (ci (agQ 54 (partN (ci (shaN (partN k 0 n))) 0 32) (partN b p m))).length, Nat.add 64 m ≤ 1000000000, u8L (ci (shaN (partN k 0 n))), u8L b, (0 : Int) ≤ 54 ∧ (54 : Int) < 256, 32 ≤ 64, 32 ≤ (ci (shaN (partN k 0 n))).length, p + m ≤ b.length, m ≤ 1000000000, u8L (ci (shaN (partN k 0 n))), (ci (shaN (partN k 0 n))).length = 32, u8L k, n ≤ k.length, n ≤ 1000000000, decide (64 < (n : Int)) = true])) := by kernel_rfl
end Go.Proofs.Ytbamfolinbehiaa
end
section
namespace Go.Proofs.Ytbamfolinbehiaa
open Go.ChangeShapes Go.WideShapes Go.ChangeAt Go.RowKit Go.Sx
theorem agQ_wf {x : Nat} {K B : List Nat} (hx : x < 256) (hK : wfB8 K) (hB : wfB8 B) : wfB8 (agQ x K B) := fun y hy => by
 rcases List.mem_append.1 hy with hy | hy
 ·exact xrN_wf hx (blN_wf hK) y hy
 ·exact hB y hy
theorem ag_tab : TabOk Try.prog 50 (loc wantM gAg) := loc_ok fun xs bs v bs' ob hg hob hokb => by
 unfold gAg at hg
 split at hg
 ·rename_i i n c x j m d k b
  cases hg
  have hx : 0 ≤ x ∧ x < 256 := hob (0 ≤ x ∧ x < 256) (by simp)
  intro ρ K w us hm hu
  obtain ⟨u1, s1, rfl, k1, u2, s2, rfl, ⟨k2, _⟩, u3, s3, rfl, k3, k4⟩ := hu
  have ex : ((x.toNat : Nat) : Int) = x := by omega
  refine against_works (hob (u8L k) (by simp)) (hob (u8L b) (by simp)) (by omega : x.toNat < 256) (hob (n.v ≤ 64) (by simp)) (hob (i.v + n.v ≤ k.length) (by simp)) (hob (j.v + m.v ≤ b.length) (by simp)) (hob (m.v ≤ 1000000000) (by simp)) ρ K w _ hm ⟨u1, _, rfl, slH_rel k1, u2, _, rfl, ⟨?_, ?_⟩, u3, _, rfl, slH_rel k3, k4⟩
  ·rw [ex]; exact k2
  ·rw [show u2 = .int .u8 x from k2]; rfl
 ·cases hg
theorem tabRh_ok : ∀ f g, tabRh f = some g → TabOk Try.prog f g := tabs_ok fun x hx => by
 simp only [List.mem_cons, List.not_mem_nil, or_false] at hx
 rcases hx with rfl | rfl | rfl
 ·exact rf_tab
 ·exact list_tab
 ·exact ag_tab
theorem hmacN_hashR {k x : List Nat} (h : 64 < k.length) : hmacN (shaN k) x = hmacN k x := by
 have e : blN (shaN k) = blN k := by
  unfold blN
  have : hkN (shaN k) = hkN k := by
   unfold hkN
   rw [if_neg (by rw [shaN_len]; decide), if_pos h]
  rw [this]
 unfold hmacN
 rw [e]
theorem rh_works {k b : List Int} {n c p m d : Nat} (hk : u8L k) (hb : u8L b) (hkl : n ≤ k.length) (hbl : p + m ≤ b.length) (hk2 : k.length ≤ 500000000) (hb2 : b.length ≤ 500000000) :
  Works Try.prog 35 [bmS 0 n c, slH 1 p m d] [roH k, roH b] (.v (.aggi .u8 (ci (hmacN (partN k 0 n) (partN b p m))))) [roH k, roH b] := by
 have Kl : (partN k 0 n).length = n := partN_len (by omega)
 have Bl : (partN b p m).length = m := partN_len (by omega)
 have Kw : wfB8 (partN k 0 n) := partN_wf hk 0 n
 have Bw : wfB8 (partN b p m) := partN_wf hb p m
 have l1 : ∀ x, List.length (ci (shaN x)) = 32 := fun x => by rw [ci_len, shaN_len]
 have ea : ∀ u v : Nat, Nat.add u v = u + v := fun _ _ => rfl
 have aw : ∀ x K B, (agQ x K B).length = 64 + B.length := agQ_len
 have w1 : ∀ x, u8L (ci (shaN x)) := fun x => ci_u8 (shaN_wf x)
 have pw : ∀ x K B n, 64 + B.length = n → partN (ci (agQ x K B)) 0 n = agQ x K B := fun x K B n h => partN_whole (by rw [aw, h])
 have pw54 : ∀ K, partN (ci (agQ 54 K (partN b p m))) 0 (64 + m) = agQ 54 K (partN b p m) := fun K => pw _ _ _ _ (by rw [Bl])
 have pw92 : ∀ K x, partN (ci (agQ 92 K (shaN x))) 0 96 = agQ 92 K (shaN x) := fun K x => pw _ _ _ _ (by rw [shaN_len])
 have p32 : ∀ x, partN (ci (shaN x)) 0 32 = shaN x := fun x => partN_whole (shaN_len x)
 by_cases hn : n ≤ 64
 ·have q := cf7 rhS k b n c p m d
  simp only [ea, p32, pw54, pw92] at q
  have u1 : u8L (ci (agQ 54 (partN k 0 n) (partN b p m))) := ci_u8 (agQ_wf (by decide) Kw Bw)
  have u2 : ∀ x, u8L (ci (agQ 92 (partN k 0 n) (shaN x))) := fun x => ci_u8 (agQ_wf (by decide) Kw (shaN_wf x))
  refine works_of (r := []) tabRh_ok q ?_ (by decide : (List.range 2 ++ ([] : List Nat)).Nodup) ⟨rfl, rfl⟩ ⟨⟨fun h => h, rfl, rfl⟩, ⟨fun h => h, rfl, rfl⟩, trivial⟩
  simp only [allP, ci_len, l1, aw, Bl, shaN_len]
  repeat' (first | exact trivial | exact hk | exact hb | exact u1 | exact u2 _ | exact w1 _ | refine And.intro ?_ ?_)
  all_goals first | rfl | omega | exact decide_eq_false (by omega)
 ·have q := cf7 rhL k b n c p m d
  simp only [ea, p32, pw54, pw92] at q
  have u1 : u8L (ci (agQ 54 (shaN (partN k 0 n)) (partN b p m))) := ci_u8 (agQ_wf (by decide) (shaN_wf _) Bw)
  have u2 : ∀ x, u8L (ci (agQ 92 (shaN (partN k 0 n)) (shaN x))) := fun x => ci_u8 (agQ_wf (by decide) (shaN_wf _) (shaN_wf x))
  rw [← hmacN_hashR (k := partN k 0 n) (by rw [Kl]; omega)]
  refine works_of (r := []) tabRh_ok q ?_ (by decide : (List.range 2 ++ ([] : List Nat)).Nodup) ⟨rfl, rfl⟩ ⟨⟨fun h => h, rfl, rfl⟩, ⟨fun h => h, rfl, rfl⟩, trivial⟩
  simp only [allP, ci_len, l1, aw, Bl, shaN_len]
  repeat' (first | exact trivial | exact hk | exact hb | exact u1 | exact u2 _ | exact w1 _ | refine And.intro ?_ ?_)
  all_goals first | rfl | omega | exact decide_eq_true (by omega)
end Go.Proofs.Ytbamfolinbehiaa
end
