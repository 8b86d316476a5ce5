/- The reference's message: its runs; The reference's message: the contract; What the reference's Of calls: the contracts; The reference's Of: its runs; The reference's Of: a round, plain; The reference's Of: how it is printed out, plain; The reference's Of: printing out, the run; The reference's Of: the adding loop, the run; The reference's Of: a round, the run; The reference's Of: the rounds of a block, the run; The reference's Of: a block, plain; The reference's Of: block after block, the run; The reference's Of: the contract. -/
import Derived.Test.YtbamfolinbehiaaRa
section
namespace Go.Proofs.Ytbamfolinbehiaa
open Go.Sx
noncomputable def M0 := loopN Try.prog 57 0
noncomputable def M1 := loopN Try.prog 57 1
noncomputable def M2 := loopN Try.prog 57 2
noncomputable def EM0 : List Item := .code (.loop M0.1) :: M0.2
noncomputable def KM0 : List Item := .inLoop M0.1 :: M0.2
noncomputable def EM1 : List Item := .code (.loop M1.1) :: M1.2
noncomputable def KM1 : List Item := .inLoop M1.1 :: M1.2
noncomputable def EM2 : List Item := .code (.loop M2.1) :: M2.2
noncomputable def KM2 : List Item := .inLoop M2.1 :: M2.2
def bmS (b n c : Nat) : V := .v (.one (.slice b (.c 0) 1 (.s n) (.s c)))
def TM0 (b : List Int) (n c z : Nat) (h : List Bool) : St := ⟨[(0, bmS 0 n c), (3, si .i64 z)], [roH b], h, []⟩
def TM1 (b l : List Int) (n c m i : Nat) (h : List Bool) : St := ⟨[(0, bmS 0 n c), (4, bmS 1 m m), (5, si .i64 i)], [roH b, oB l], h, []⟩
def TM2 (b l : List Int) (m : Nat) (k i : Int) (h : List Bool) : St := ⟨[(4, bmS 1 m m), (6, si .i64 k), (7, si .i64 i)], [roH b, oB l], h, []⟩
noncomputable def runM (x : Go.Code × List Item) (lim : Nat) (ls : List Bool) (S : St) := run Try.prog (call0 4) (fun _ => false) (fnF 57) lim 100000 ls (.code x.1 :: .inLoop x.1 :: x.2) S
theorem mgE : (fun (b : List Int) (n c : Nat) => stopV [0, 3] [0] (run Try.prog (call0 4) (fun _ => false) (fnF 57) 0 100000 [false] [.code (bodyF 57)] ⟨argSlots 0 [bmS 0 n c], [roH b], [], []⟩)) = fun b n c => some (EM0, ([(0, .v (.one (.slice 0 (.c 0) 1 (.s n) (.s c)))), (3, .v (.one (.int .i64 0)))], ([SB.mk false (.ints .u8 b)], []))) := by kernel_rfl
theorem mg0R : (fun (b : List Int) (n c z : Nat) => stopV [0, 3] [0] (runM M0 (M0.2.length + 1) [] (TM0 b n c z [true]))) = fun b (n : Nat) c (z : Nat) => some (KM0, ([(0, .v (.one (.slice 0 (.c 0) 1 (.s n) (.s c)))), (3, .v (.one (.sint .i64 ((z : Int) + 1))))], ([SB.mk false (.ints .u8 b)], [(-9223372036854775808) ≤ (z : Int) + 1 ∧ (z : Int) + (1 : Int) ≤ 9223372036854775807, (!decide (Int.tmod ((n : Int) + 9 + (z : Int)) (64 : Int) = 0)) = true, (-9223372036854775808) ≤ (n : Int) + 9 + (z : Int) ∧ (n : Int) + 9 + (z : Int) ≤ 9223372036854775807, (-9223372036854775808) ≤ (n : Int) + 9 ∧ (n : Int) + (9 : Int) ≤ 9223372036854775807]))) := by kernel_rfl
theorem mg0L : (fun (b : List Int) (n c z : Nat) => stopV [0, 4, 5] [0, 1] (runM M0 0 [false] (TM0 b n c z [false]))) = fun b (n : Nat) c (z : Nat) => some (EM1, ([(0, .v (.one (.slice 0 (.c 0) 1 (.s n) (.s c)))), (4, .v (.one (.slice 1 (.c 0) 1 (.s (Int.toNat ((n : Int) + 9 + (z : Int)))) (.s (Int.toNat ((n : Int) + 9 + (z : Int))))))), (5, .v (.one (.int .i64 0)))], ([SB.mk false (.ints .u8 b), SB.mk true (.ints .u8 (List.replicate (Int.toNat ((n : Int) + 9 + (z : Int))) 0))], [0 ≤ (n : Int) + 9 + (z : Int), (n : Int) + 9 + (z : Int) ≤ (n : Int) + 9 + (z : Int), Int.toNat ((n : Int) + 9 + (z : Int)) * 1 ≤ 140737488355328, Int.toNat ((n : Int) + 9 + (z : Int)) ≤ 9223372036854775807, (-9223372036854775808) ≤ (n : Int) + 9 + (z : Int) ∧ (n : Int) + 9 + (z : Int) ≤ 9223372036854775807, (-9223372036854775808) ≤ (n : Int) + 9 ∧ (n : Int) + (9 : Int) ≤ 9223372036854775807, (!decide (Int.tmod ((n : Int) + 9 + (z : Int)) (64 : Int) = 0)) = false, (-9223372036854775808) ≤ (n : Int) + 9 + (z : Int) ∧ (n : Int) + 9 + (z : Int) ≤ 9223372036854775807, (-9223372036854775808) ≤ (n : Int) + 9 ∧ (n : Int) + (9 : Int) ≤ 9223372036854775807]))) := by kernel_rfl
theorem mg1R : (fun (b l : List Int) (n c m i : Nat) => stopV [0, 4, 5] [0, 1] (runM M1 (M1.2.length + 1) [] (TM1 b l n c m i [true]))) = fun b l (n : Nat) c (m : Nat) (i : Nat) => some (KM1, ([(0, .v (.one (.slice 0 (.c 0) 1 (.s n) (.s c)))), (4, .v (.one (.slice 1 (.c 0) 1 (.s m) (.s m)))), (5, .v (.one (.sint .i64 ((i : Int) + 1))))], ([SB.mk false (.ints .u8 b), SB.mk true (.ints .u8 (List.set l i (List.getD b i 0)))], [(-9223372036854775808) ≤ (i : Int) + 1 ∧ (i : Int) + (1 : Int) ≤ 9223372036854775807, i < l.length, 0 ≤ (i : Int), (i : Int) < (m : Int), i < b.length, 0 ≤ (i : Int), (i : Int) < (n : Int), decide ((i : Int) < (n : Int)) = true]))) := by kernel_rfl
theorem mg1L : (fun (b l : List Int) (n c m i : Nat) => stopV [4, 6, 7] [0, 1] (runM M1 0 [false] (TM1 b l n c m i [false]))) = fun b l (n : Nat) _ (m : Nat) (i : Nat) => some (EM2, ([(4, .v (.one (.slice 1 (.c 0) 1 (.s m) (.s m)))), (6, .v (.one (.sint .i64 (8 * (n : Int))))), (7, .v (.one (.sint .i64 ((m : Int) - 1))))], ([SB.mk false (.ints .u8 b), SB.mk true (.ints .u8 (List.set l n 128))], [(-9223372036854775808) ≤ (m : Int) - 1 ∧ (m : Int) - (1 : Int) ≤ 9223372036854775807, (-9223372036854775808 : Int) ≤ 8 * (n : Int) ∧ 8 * (n : Int) ≤ 9223372036854775807, n < l.length, 0 ≤ (n : Int), (n : Int) < (m : Int), decide ((i : Int) < (n : Int)) = false]))) := by kernel_rfl
theorem mg2R : (fun (b l : List Int) (m : Nat) (k i : Int) => stopV [4, 6, 7] [0, 1] (runM M2 (M2.2.length + 1) [] (TM2 b l m k i [true]))) = fun b l (m : Nat) k i => some (KM2, ([(4, .v (.one (.slice 1 (.c 0) 1 (.s m) (.s m)))), (6, .v (.one (.sint .i64 (Int.tdiv k 256)))), (7, .v (.one (.sint .i64 (i - 1))))], ([SB.mk false (.ints .u8 b), SB.mk true (.ints .u8 (List.set l (Int.toNat i) (IntKind.wrap .u8 (Int.tmod k 256))))], [(-9223372036854775808) ≤ i - 1 ∧ i - (1 : Int) ≤ 9223372036854775807, (-9223372036854775808) ≤ Int.tdiv k 256 ∧ Int.tdiv k (256 : Int) ≤ 9223372036854775807, Int.toNat i < l.length, 0 ≤ i, i < (m : Int), decide (0 < k) = true]))) := by kernel_rfl
theorem mg2X : (fun (b l : List Int) (m : Nat) (k i : Int) => endV [0, 1] (runM M2 0 [] (TM2 b l m k i [false]))) = fun b l m k _ => some (.v (.one (.slice 1 (.c 0) 1 (.s m) (.s m))), ([SB.mk false (.ints .u8 b), SB.mk true (.ints .u8 l)], [decide (0 < k) = false])) := by kernel_rfl
end Go.Proofs.Ytbamfolinbehiaa
end
section
namespace Go.Proofs.Ytbamfolinbehiaa
open Go.ChangeShapes Go.WideShapes Go.ChangeAt Go.RowKit Go.Sx
theorem funMg : Try.prog.funcs[57]? = some (fnF 57) := by kernel_rfl
theorem bodMg : (fnF 57).body = some (bodyF 57) := by kernel_rfl
theorem tmpMg : 1 ≤ (fnF 57).ntmps := Nat.le_of_ble_eq_true (by kernel_rfl)
def tlN (n j : Nat) : List Nat := [if 7 < j then n * 8 / 72057594037927936 % 256 else 0, if 6 < j then n * 8 / 281474976710656 % 256 else 0, if 5 < j then n * 8 / 1099511627776 % 256 else 0, if 4 < j then n * 8 / 4294967296 % 256 else 0,
 if 3 < j then n * 8 / 16777216 % 256 else 0, if 2 < j then n * 8 / 65536 % 256 else 0, if 1 < j then n * 8 / 256 % 256 else 0, if 0 < j then n * 8 % 256 else 0]
theorem tlN_len (n j : Nat) : (tlN n j).length = 8 := by unfold tlN; exact Eq.refl 8
theorem tlN_step (n j : Nat) (hj : j < 8) : (tlN n j).set (7 - j) (n * 8 / 256 ^ j % 256) = tlN n (j + 1) := by
 have : j = 0 ∨ j = 1 ∨ j = 2 ∨ j = 3 ∨ j = 4 ∨ j = 5 ∨ j = 6 ∨ j = 7 := by omega
 rcases this with rfl | rfl | rfl | rfl | rfl | rfl | rfl | rfl <;> simp [tlN]
theorem tlN_end {n j : Nat} (hj : j ≤ 8) (h : n * 8 / 256 ^ j = 0) : tlN n j = lenN n := by
 have : j = 0 ∨ j = 1 ∨ j = 2 ∨ j = 3 ∨ j = 4 ∨ j = 5 ∨ j = 6 ∨ j = 7 ∨ j = 8 := by omega
 rcases this with rfl | rfl | rfl | rfl | rfl | rfl | rfl | rfl | rfl <;> simp [tlN, lenN] at h ⊢ <;> omega
theorem set_copy (b : List Int) (m i : Nat) (hi : i < b.length) (hm : i < m) : (b.take i ++ List.replicate (m - i) (0 : Int)).set i (b.getD i 0) = b.take (i + 1) ++ List.replicate (m - (i + 1)) 0 := by
 have hl : (b.take i).length = i := by rw [List.length_take]; omega
 rw [List.set_append_right _ _ (by omega), hl, Nat.sub_self, show m - i = (m - (i + 1)) + 1 by omega, List.replicate_succ, List.set_cons_zero, List.take_add_one, List.getElem?_eq_getElem hi, List.getD_eq_getElem?_getD, List.getElem?_eq_getElem hi, List.append_assoc]
 rfl
def hdN (x : List Nat) (z : Nat) : List Nat := x ++ ([128] ++ List.replicate z 0)
theorem hdN_len (x : List Nat) (z : Nat) : (hdN x z).length = x.length + 1 + z := by unfold hdN; simp; omega
theorem ci_appM (a b : List Nat) : ci (a ++ b) = ci a ++ ci b := by unfold ci; rw [List.map_append]
theorem message_works (b : List Int) (n c : Nat) (hn : n ≤ b.length) (hm : n ≤ 1000000000) (hb : u8L b) : Works Try.prog 57 [bmS 0 n c] [roH b] (bmS 1 (padN (partN b 0 n)).length (padN (partN b 0 n)).length) [roH b, oB (ci (padN (partN b 0 n)))] := by
 have hxl : (partN b 0 n).length = n := partN_len (by omega)
 have hxc : ci (partN b 0 n) = b.take n := by
  unfold partN
  rw [List.drop_zero, ci_nats]
  exact fun y hy => (hb y (List.mem_of_mem_take hy)).1
 have hz := zN_div n
 obtain ⟨z, hzz⟩ : ∃ z, zN n = z := ⟨_, rfl⟩
 rw [hzz] at hz
 have hz64 : z < 64 := by rw [← hzz]; unfold zN; omega
 have hpad : padN (partN b 0 n) = hdN (partN b 0 n) z ++ lenN n := by
  unfold padN hdN
  rw [hxl, hzz]
  simp only [List.append_assoc]
 have hlen : (padN (partN b 0 n)).length = n + 9 + z := by
  rw [hpad, List.length_append, hdN_len, hxl]
  show n + 1 + z + 8 = _
  omega
 obtain ⟨m, hmm⟩ : ∃ m, n + 9 + z = m := ⟨_, rfl⟩
 have hmz : (n + 9 + z) % 64 = 0 := by omega
 rw [hlen, hmm]
 intro ρ K w us hm1 hu
 have hc : n ≤ c := by
  obtain ⟨u, s, _, ⟨⟨e, _, hu⟩, _⟩, _⟩ := hu
  rcases hu with ⟨h0, _⟩ | ⟨_, _, _, h1, _⟩
  ·simp only [N.v] at h0; omega
  ·exact h1
 refine works_goes funMg bodMg (by exact tmpMg) (fun ρ K W a w hρ hr => ?_) ρ K w us hm1 hu
 -- the last loop
 have third : ∀ ρ' a w, RelD [] (ρ ++ ρ') K W (fnF 57).ntmps (TM2 b (ci (hdN (partN b 0 n) z ++ tlN n 0)) m ((n * 8 / 256 ^ 0 : Nat) : Int) ((m : Int) - 1 - (0 : Nat)) []) a w → Goes Try.prog 57 (RetW ρ K W (bmS 1 m m) [roH b, oB (ci (padN (partN b 0 n)))]) (.code (.loop M2.1) :: M2.2) a w := by
  intro ρ' a w hr
  refine loop_goes (I := Nat) (n := 1) (eff := fun _ => false) (Inv := fun j h => TM2 b (ci (hdN (partN b 0 n) z ++ tlN n j)) m ((n * 8 / 256 ^ j : Nat) : Int) ((m : Int) - 1 - (j : Int)) h) (good := fun j => j ≤ 8) (μ := fun j => 8 - j) (call0_okR 4) funMg (fun _ _ => ⟨rfl, rfl⟩) ?_ hρ (i := 0) (Nat.zero_le _) hr
  intro j hj
  have hl : (ci (hdN (partN b 0 n) z ++ tlN n j)).length = m := by rw [ci_len, List.length_append, hdN_len, hxl, tlN_len]; omega
  have hle : n * 8 / 256 ^ j ≤ n * 8 := Nat.div_le_self _ _
  by_cases h0 : 0 < n * 8 / 256 ^ j
  ·have hj8 : j < 8 := by
    rcases Nat.lt_or_ge j 8 with h | h
    ·exact h
    ·have : j = 8 := by omega
     subst this
     have : n * 8 / 256 ^ 8 = 0 := Nat.div_eq_of_lt (by omega)
     omega
   have q := cf5 mg2R b (ci (hdN (partN b 0 n) z ++ tlN n j)) m ((n * 8 / 256 ^ j : Nat) : Int) ((m : Int) - 1 - (j : Int))
   have ed : Int.tdiv ((n * 8 / 256 ^ j : Nat) : Int) 256 = ((n * 8 / 256 ^ (j + 1) : Nat) : Int) := by
    rw [Nat.pow_succ, ← Nat.div_div_eq_div_mul]
    generalize n * 8 / 256 ^ j = y
    rw [Int.tdiv_eq_ediv_of_nonneg (by omega)]; omega
   have em : IntKind.wrap .u8 (Int.tmod ((n * 8 / 256 ^ j : Nat) : Int) 256) = ((n * 8 / 256 ^ j % 256 : Nat) : Int) := by
    generalize n * 8 / 256 ^ j = y
    rw [Int.tmod_eq_emod_of_nonneg (by omega), wrap_in ⟨by simp [IntKind.min, IntKind.signed]; omega, by simp [IntKind.max, IntKind.signed, IntKind.bits]; omega⟩]
    omega
   have ei : Int.toNat ((m : Int) - 1 - (j : Int)) = (hdN (partN b 0 n) z).length + (7 - j) := by rw [hdN_len, hxl]; omega
   have es : (ci (hdN (partN b 0 n) z ++ tlN n j)).set (Int.toNat ((m : Int) - 1 - (j : Int))) ((n * 8 / 256 ^ j % 256 : Nat) : Int) = ci (hdN (partN b 0 n) z ++ tlN n (j + 1)) := by
    rw [ei, ci_set, List.set_append_right _ _ (by omega), Nat.add_sub_cancel_left, tlN_step n j hj8]
   rw [ed, em, es] at q
   have hj2 : n * 8 / 256 ^ (j + 1) ≤ n * 8 := Nat.div_le_self _ _
   have key : ∀ y : Nat, y ≤ 8000000000 → (-9223372036854775808 : Int) ≤ (y : Int) ∧ (y : Int) ≤ 9223372036854775807 := fun y h => ⟨by omega, by omega⟩
   have kpos : ∀ y : Nat, 0 < y → decide ((0 : Int) < (y : Int)) = true := fun y h => decide_eq_true (by omega)
   refine .round [true] [] _ _ [4, 6, 7] [1] _ _ _ (j + 1) q ⟨⟨by omega, by omega⟩, key _ (by omega), by rw [hl]; omega, by omega, by omega, kpos _ h0, trivial⟩ ⟨nd01R, ?_, ?_⟩ hj8 (by omega)
   ·exact ⟨⟨rfl, rfl, rfl, rfl, rfl, Nat.le_refl _, Nat.le_refl _⟩, ⟨rfl, rfl, rfl⟩, ⟨rfl, rfl, by omega⟩, trivial⟩
   ·exact ⟨⟨fun h => h, rfl, rfl⟩, ⟨fun h => h, rfl, rfl⟩, trivial⟩
  ·have hz0 : n * 8 / 256 ^ j = 0 := Nat.le_zero.1 (Nat.not_lt.1 h0)
   refine .stop [false] [] _ _ [1] _ _ _ (cf5 mg2X b (ci (hdN (partN b 0 n) z ++ tlN n j)) m ((n * 8 / 256 ^ j : Nat) : Int) ((m : Int) - 1 - (j : Int))) ⟨by rw [hz0]; exact decide_eq_false (by omega), trivial⟩ nd01R ?_ ?_
   ·exact ⟨rfl, rfl, rfl, rfl, Nat.le_refl _, Nat.le_refl _⟩
   ·rw [tlN_end hj hz0, ← hpad]; exact ⟨⟨fun h => h, rfl, rfl⟩, ⟨fun h => h, rfl, rfl⟩, trivial⟩
 -- the copying
 have hset : (b.take n ++ List.replicate (m - n) (0 : Int)).set n 128 = ci (hdN (partN b 0 n) z ++ tlN n 0) := by
  have hl : (b.take n).length = n := by rw [List.length_take]; omega
  rw [List.set_append_right _ _ (by omega), hl, Nat.sub_self, show m - n = (z + 8) + 1 by omega, List.replicate_succ, List.set_cons_zero, ci_appM]
  unfold hdN
  rw [ci_appM, ci_appM, hxc, ← List.replicate_append_replicate]
  have e8 : ci (tlN n 0) = List.replicate 8 0 := by simp [tlN, ci]
  have ez : ci (List.replicate z 0) = List.replicate z (0 : Int) := by unfold ci; rw [List.map_replicate]; rfl
  rw [e8, ez]
  show _ = (b.take n ++ ([128] ++ List.replicate z 0)) ++ List.replicate 8 0
  simp only [List.append_assoc, List.cons_append, List.nil_append]
 have second : ∀ ρ' a w, RelD [] (ρ ++ ρ') K W (fnF 57).ntmps (TM1 b (b.take 0 ++ List.replicate (m - 0) 0) n c m 0 []) a w → Goes Try.prog 57 (RetW ρ K W (bmS 1 m m) [roH b, oB (ci (padN (partN b 0 n)))]) (.code (.loop M1.1) :: M1.2) a w := by
  intro ρ' a w hr
  refine loop3_goes (I := Nat) (eff := fun _ => false) (Inv := fun i h => TM1 b (b.take i ++ List.replicate (m - i) 0) n c m i h) (good := fun i => i ≤ n) (μ := fun i => n - i) (call0_okR 4) funMg (fun _ _ => ⟨rfl, rfl⟩) ?_ (i := 0) (Nat.zero_le _) hr
  intro i hi
  have hl : (b.take i ++ List.replicate (m - i) (0 : Int)).length = m := by rw [List.length_append, List.length_take, List.length_replicate]; omega
  by_cases hlt : i < n
  ·have q := cf6 mg1R b (b.take i ++ List.replicate (m - i) (0 : Int)) n c m i
   rw [set_copy b m i (by omega) (by omega)] at q
   refine .round [true] [] _ _ [0, 4, 5] [1] _ _ [-9223372036854775808 ≤ (i : Int) + 1 ∧ (i : Int) + 1 ≤ 9223372036854775807, i < (b.take i ++ List.replicate (m - i) (0 : Int)).length, (0 : Int) ≤ (i : Int), (i : Int) < (m : Int), i < b.length, (0 : Int) ≤ (i : Int), (i : Int) < (n : Int), decide ((i : Int) < (n : Int)) = true] (i + 1) (by rw [hρ]; exact q) ⟨⟨by omega, by omega⟩, by omega, by omega, by omega, by omega, by omega, by omega, decide_eq_true (by omega), trivial⟩ ⟨by rw [hρ]; exact nd01R, ?_, ?_⟩ hlt (by omega)
   ·rw [hρ]; exact ⟨⟨rfl, rfl, rfl, rfl, rfl, Nat.le_refl _, hc⟩, ⟨rfl, rfl, rfl, rfl, rfl, Nat.le_refl _, Nat.le_refl _⟩, ⟨rfl, rfl, rfl⟩, trivial⟩
   ·rw [hρ]; exact ⟨⟨fun h => h, rfl, rfl⟩, ⟨fun h => h, rfl, rfl⟩, trivial⟩
  ·have hin : i = n := by omega
   subst hin
   refine .any fun ρ' a w hr' => ?_
   have q := cf6 mg1L b (b.take i ++ List.replicate (m - i) (0 : Int)) i c m i
   rw [hset] at q
   refine goes_stop (ρ0 := ρ) (r := [1]) (ob := [-9223372036854775808 ≤ (m : Int) - 1 ∧ (m : Int) - 1 ≤ 9223372036854775807, -9223372036854775808 ≤ 8 * (i : Int) ∧ 8 * (i : Int) ≤ 9223372036854775807, i < (b.take i ++ List.replicate (m - i) (0 : Int)).length, (0 : Int) ≤ (i : Int), (i : Int) < (m : Int), decide ((i : Int) < (i : Int)) = false]) (call0_okR 4) funMg (by rw [hρ]; exact q) ⟨⟨by omega, by omega⟩, ⟨by omega, by omega⟩, by omega, by omega, by omega, decide_eq_false (by omega), trivial⟩ ⟨by rw [hρ]; exact nd01R, ?_, ?_⟩ third (hr'.hints (S' := TM1 b (b.take i ++ List.replicate (m - i) 0) i c m i [false]) rfl rfl)
   ·rw [hρ]; exact ⟨⟨rfl, rfl, rfl, rfl, rfl, Nat.le_refl _, Nat.le_refl _⟩, ⟨rfl, rfl, by rw [Nat.pow_zero, Nat.div_one]; omega⟩, ⟨rfl, rfl, by omega⟩, trivial⟩
   ·rw [hρ]; exact ⟨⟨fun h => h, rfl, rfl⟩, ⟨fun h => h, rfl, rfl⟩, trivial⟩
 -- the noughts
 refine goes_stop (ρ0 := ρ) (r := []) (ob := []) (T := TM0 b n c 0 []) (call0_okR 4) funMg (by rw [hρ]; exact congrFun (congrFun mgE b) n |> fun q => congrFun q c) trivial ⟨by rw [hρ]; exact (by decide : (List.range 1 ++ ([] : List Nat)).Nodup), ?_, ?_⟩ (fun ρ2 a2 w2 h2 => ?_) (hr.hints (S' := ⟨argSlots 0 [bmS 0 n c], [roH b], [], []⟩) rfl rfl)
 ·rw [hρ]; exact ⟨⟨rfl, rfl, rfl, rfl, rfl, Nat.le_refl _, hc⟩, ⟨rfl, rfl, rfl⟩, trivial⟩
 ·rw [hρ]; exact ⟨⟨fun h => h, rfl, rfl⟩, trivial⟩
 refine loop3_goes (I := Nat) (eff := fun _ => false) (Inv := fun y h => TM0 b n c y h) (good := fun y => y ≤ z) (μ := fun y => z - y) (call0_okR 4) funMg (fun _ _ => ⟨rfl, rfl⟩) ?_ (i := 0) (Nat.zero_le _) h2
 intro y hy
 have et : Int.tmod ((n : Int) + 9 + (y : Int)) 64 = (((n + 9 + y) % 64 : Nat) : Int) := by rw [Int.tmod_eq_emod_of_nonneg (by omega)]; omega
 by_cases hlt : y < z
 ·have q := cf4 mg0R b n c y
  rw [et] at q
  have hne : (n + 9 + y) % 64 ≠ 0 := by omega
  refine .round [true] [] _ _ [0, 3] [] _ _ [-9223372036854775808 ≤ (y : Int) + 1 ∧ (y : Int) + 1 ≤ 9223372036854775807, (!decide ((((n + 9 + y) % 64 : Nat) : Int) = 0)) = true, -9223372036854775808 ≤ (n : Int) + 9 + (y : Int) ∧ (n : Int) + 9 + (y : Int) ≤ 9223372036854775807, -9223372036854775808 ≤ (n : Int) + 9 ∧ (n : Int) + 9 ≤ 9223372036854775807] (y + 1) (by rw [hρ]; exact q) ⟨⟨by omega, by omega⟩, by rw [decide_eq_false (by omega)]; rfl, ⟨by omega, by omega⟩, ⟨by omega, by omega⟩, trivial⟩ ⟨by rw [hρ]; exact (by decide : (List.range 1 ++ ([] : List Nat)).Nodup), ?_, ?_⟩ hlt (by omega)
  ·rw [hρ]; exact ⟨⟨rfl, rfl, rfl, rfl, rfl, Nat.le_refl _, hc⟩, ⟨rfl, rfl, rfl⟩, trivial⟩
  ·rw [hρ]; exact ⟨⟨fun h => h, rfl, rfl⟩, trivial⟩
 ·have hyz : y = z := by omega
  subst hyz
  refine .any fun ρ' a w hr' => ?_
  have q := cf4 mg0L b n c y
  have em : Int.toNat ((n : Int) + 9 + (y : Int)) = m := by omega
  rw [et, em, show (n + 9 + y) % 64 = 0 from hmz] at q
  refine goes_stop (ρ0 := ρ) (r := [1]) (T := TM1 b (b.take 0 ++ List.replicate (m - 0) 0) n c m 0 []) (k' := EM1) (a := [(0, bmS 0 n c), (4, bmS 1 m m), (5, .v (.one (.int .i64 0)))]) (b := [roH b, oB (List.replicate m 0)]) (ob := [(0 : Int) ≤ (n : Int) + 9 + (y : Int), (n : Int) + 9 + (y : Int) ≤ (n : Int) + 9 + (y : Int), m * 1 ≤ 140737488355328, m ≤ 9223372036854775807, -9223372036854775808 ≤ (n : Int) + 9 + (y : Int) ∧ (n : Int) + 9 + (y : Int) ≤ 9223372036854775807, -9223372036854775808 ≤ (n : Int) + 9 ∧ (n : Int) + 9 ≤ 9223372036854775807, (!decide (((0 : Nat) : Int) = 0)) = false, -9223372036854775808 ≤ (n : Int) + 9 + (y : Int) ∧ (n : Int) + 9 + (y : Int) ≤ 9223372036854775807, -9223372036854775808 ≤ (n : Int) + 9 ∧ (n : Int) + 9 ≤ 9223372036854775807]) (call0_okR 4) funMg (by rw [hρ]; exact q) ⟨by omega, by omega, by omega, by omega, ⟨by omega, by omega⟩, ⟨by omega, by omega⟩, rfl, ⟨by omega, by omega⟩, ⟨by omega, by omega⟩, trivial⟩ ⟨by rw [hρ]; exact nd01R, ?_, ?_⟩ second (hr'.hints (S' := TM0 b n c y [false]) rfl rfl)
  ·rw [hρ]; exact ⟨⟨rfl, rfl, rfl, rfl, rfl, Nat.le_refl _, hc⟩, ⟨rfl, rfl, rfl, rfl, rfl, Nat.le_refl _, Nat.le_refl _⟩, ⟨rfl, rfl, rfl⟩, trivial⟩
  ·rw [hρ]; exact ⟨⟨fun h => h, rfl, rfl⟩, ⟨fun h => h, rfl, by simp⟩, trivial⟩
end Go.Proofs.Ytbamfolinbehiaa
end
section
namespace Go.Proofs.Ytbamfolinbehiaa
open Go.ChangeShapes Go.WideShapes Go.ChangeAt Go.RowKit Go.Sx
def bitN (w : Bool) (x y z : Nat) : Nat := if w = true then chN x y z else mjN x y z
def gBiR : List V → List Bool → Option Made := fun args h => match args with
 | [e, f, g, .v (.one (.bool w))] => match ivs [.u32, .u32, .u32] [e, f, g] with
  | some [x, y, z] => some (si .u32 ((bitN w x.toNat y.toNat z.toNat : Nat) : Int), [], h, [0 ≤ x ∧ x < 4294967296, 0 ≤ y ∧ y < 4294967296, 0 ≤ z ∧ z < 4294967296])
  | _ => none
 | _ => none
def wantU : List V → List Want
 | .v (.one (.slice _ _ _ _ _)) :: _ => [(false, .ints .u8)]
 | _ => []
def gRo : Sx.Loc := fun args bs => match args, bs with
 | [.v (.one (.slice 0 (.s o) 1 (.s n) (.s _)))], [⟨false, .ints k b⟩] => match decide (k = .u8) with
  | true => some (wS 1, [roH b, wB (ci (scN (ldN (partN b o 64) 64) 48))], [n = 64, o + n ≤ b.length, u8L b])
  | false => none
 | _, _ => none
def gMg : Sx.Loc := fun args bs => match args, bs with
 | [.v (.one (.slice 0 (.c 0) 1 (.s n) (.s _)))], [⟨false, .ints k b⟩] => match decide (k = .u8) with
  | true => some (bmS 1 (padN (partN b 0 n)).length (padN (partN b 0 n)).length, [roH b, oB (ci (padN (partN b 0 n)))], [n ≤ b.length, n ≤ 1000000000, u8L b])
  | false => none
 | _, _ => none
def tabOf := tabs [(60, numTab [.u32, .i64] gTuR), (61, fresh gBiR), (58, fresh gPrR), (59, loc wantU gRo), (57, loc wantU gMg)]
theorem bit_tab : TabOk Try.prog 61 (fresh gBiR) := fresh_ok fun args h v bs h' ob hg hob => by
 unfold gBiR at hg
 split at hg
 ·rename_i e f g w
  split at hg
  ·rename_i x y z hn
   cases hg
   have h1 : 0 ≤ x ∧ x < 4294967296 := hob _ (by simp)
   have h2 : 0 ≤ y ∧ y < 4294967296 := hob (0 ≤ y ∧ y < 4294967296) (by simp)
   have h3 : 0 ≤ z ∧ z < 4294967296 := hob (0 ≤ z ∧ z < 4294967296) (by simp)
   refine ⟨rfl, fun ρ us hu => ?_⟩
   obtain ⟨u1, s1, rfl, r1, u2, s2, rfl, r2, u3, s3, rfl, r3, u4, s4, rfl, ⟨r4, _⟩, h5⟩ := hu
   simp only [relVs] at h5; subst h5
   simp only [C.rel] at r4; subst r4
   have hi := (ivs_rel hn (us := [u1, u2, u3]) ⟨u1, _, rfl, r1, u2, _, rfl, r2, u3, _, rfl, r3, rfl⟩).1
   injection hi with i1 hi; injection hi with i2 hi; injection hi with i3 hi
   subst i1; subst i2; subst i3
   have hw := bits_works w x.toNat y.toNat z.toNat (bitN w x.toNat y.toNat z.toNat) (by omega) (by omega) (by omega) rfl
   rw [show ((x.toNat : Nat) : Int) = x by omega, show ((y.toNat : Nat) : Int) = y by omega, show ((z.toNat : Nat) : Int) = z by omega] at hw
   exact noBs (xs := [si .u32 x, si .u32 y, si .u32 z, bV w]) hw ⟨_, _, rfl, ⟨rfl, rfl⟩, _, _, rfl, ⟨rfl, rfl⟩, _, _, rfl, ⟨rfl, rfl⟩, _, _, rfl, ⟨rfl, rfl⟩, rfl⟩
  ·cases hg
 ·cases hg
theorem rol_tab : TabOk Try.prog 59 (loc wantU gRo) := loc_ok fun xs bs v bs' ob hg hob hokb => by
 unfold gRo at hg
 split at hg
 ·rename_i o n c k b
  split at hg
  ·rename_i hk
   cases hg
   have hk' : k = .u8 := of_decide_eq_true hk
   subst hk'
   exact rolled_works b o n c (hob _ (by simp)) (hob (o + n ≤ b.length) (by simp)) (hob (u8L b) (by simp))
  ·cases hg
 ·cases hg
theorem msg_tab : TabOk Try.prog 57 (loc wantU gMg) := loc_ok fun xs bs v bs' ob hg hob hokb => by
 unfold gMg at hg
 split at hg
 ·rename_i n c k b
  split at hg
  ·rename_i hk
   cases hg
   have hk' : k = .u8 := of_decide_eq_true hk
   subst hk'
   exact message_works b n c (hob _ (by simp)) (hob (n ≤ 1000000000) (by simp)) (hob (u8L b) (by simp))
  ·cases hg
 ·cases hg
theorem tabOf_ok : ∀ f g, tabOf f = some g → TabOk Try.prog f g := tabs_ok fun x hx => by
 simp only [List.mem_cons, List.not_mem_nil, or_false] at hx
 rcases hx with rfl | rfl | rfl | rfl | rfl
 ·exact tur_tab
 ·exact bit_tab
 ·exact pr_tab
 ·exact rol_tab
 ·exact msg_tab
end Go.Proofs.Ytbamfolinbehiaa
end
section
namespace Go.Proofs.Ytbamfolinbehiaa
open Go.Sx
noncomputable def callOf (d : Nat) := callN Try.prog tabOf (fun _ => false) 100000 d
noncomputable def LOf := loopN Try.prog 49 2
noncomputable def EOf : List Item := .code (.loop LOf.1) :: LOf.2
noncomputable def KOf : List Item := .inLoop LOf.1 :: LOf.2
def zz32 : SB := ⟨true, .exp (List.replicate 32 (.int .u8 0))⟩
def s8S (b : Nat) : V := .v (.one (.slice b (.c 0) 1 (.c 8) (.c 8)))
def TOf (b p s w v : List Int) (m k t : Nat) (h : List Bool) : St := ⟨[(2, .v (.one (.ptr 1 (.c 0) 1 0))), (3, bmS 2 m m), (4, s8S 3), (6, si .i64 k), (7, wS 4), (8, s8S 5), (9, si .i64 t)], [roH b, zz32, oB p, wB s, wB w, wB v], h, []⟩
noncomputable def rOf (lim : Nat) (ls h : List Bool) (b p s w v : List Int) (m k t : Nat) := run Try.prog (callOf 4) (fun _ => false) (fnF 49) lim 100000 ls (.code LOf.1 :: .inLoop LOf.1 :: LOf.2) (TOf b p s w v m k t h)
noncomputable def L1f := loopN Try.prog 49 1
noncomputable def E1f : List Item := .code (.loop L1f.1) :: L1f.2
def T1f (b p s : List Int) (m k : Nat) (h : List Bool) : St := ⟨[(2, .v (.one (.ptr 1 (.c 0) 1 0))), (3, bmS 2 m m), (4, s8S 3), (6, si .i64 k)], [roH b, zz32, oB p, wB s], h, []⟩
theorem rfE : (fun (b : List Int) (n c : Nat) => stopV [2, 3, 4, 6] [0, 1, 2, 3] (run Try.prog (callOf 4) (fun _ => false) (fnF 49) 0 100000 [true, false] [.code (bodyF 49)] ⟨argSlots 0 [bmS 0 n c], [roH b], [], []⟩)) = fun b n _ => some (E1f, ([(2, .v (.one (.ptr 1 (.c 0) 1 0))), (3, .v (.one (.slice 2 (.c 0) 1 (.s (padN (partN b 0 n)).length) (.s (padN (partN b 0 n)).length)))), (4, .v (.one (.slice 3 (.c 0) 1 (.c 8) (.c 8)))), (6, .v (.one (.int .i64 0)))], ([SB.mk false (.ints .u8 b), SB.mk true (.exp [.int .u8 0, .int .u8 0, .int .u8 0, .int .u8 0, .int .u8 0, .int .u8 0, .int .u8 0, .int .u8 0, .int .u8 0, .int .u8 0, .int .u8 0, .int .u8 0, .int .u8 0, .int .u8 0, .int .u8 0, .int .u8 0, .int .u8 0, .int .u8 0, .int .u8 0, .int .u8 0, .int .u8 0, .int .u8 0, .int .u8 0, .int .u8 0, .int .u8 0, .int .u8 0, .int .u8 0, .int .u8 0, .int .u8 0, .int .u8 0, .int .u8 0, .int .u8 0]), SB.mk true (.ints .u8 (ci (padN (partN b 0 n)))), SB.mk true (.exp [.sint .u32 (1779033703), .sint .u32 (3144134277), .sint .u32 (1013904242), .sint .u32 (2773480762), .sint .u32 (1359893119), .sint .u32 (2600822924), .sint .u32 (528734635), .sint .u32 (1541459225)])], [(0 : Int) ≤ 7 ∧ (7 : Int) < 8, (0 : Int) ≤ 6 ∧ (6 : Int) < 8, (0 : Int) ≤ 5 ∧ (5 : Int) < 8, (0 : Int) ≤ 4 ∧ (4 : Int) < 8, (0 : Int) ≤ 3 ∧ (3 : Int) < 8, (0 : Int) ≤ 2 ∧ (2 : Int) < 8, (0 : Int) ≤ 1 ∧ (1 : Int) < 8, (0 : Int) ≤ 0 ∧ (0 : Int) < 8, n ≤ b.length, n ≤ 1000000000, u8L b]))) := by kernel_rfl
theorem rfB : (fun (b p s : List Int) (m k : Nat) => stopV [2, 3, 4, 6, 7, 8, 9] [0, 1, 2, 3, 4, 6] (run Try.prog (callOf 4) (fun _ => false) (fnF 49) 0 100000 [false] (.code L1f.1 :: .inLoop L1f.1 :: L1f.2) (T1f b p s m k [true, true]))) = fun b p s (m : Nat) (k : Nat) => some (EOf, ([(2, .v (.one (.ptr 1 (.c 0) 1 0))), (3, .v (.one (.slice 2 (.c 0) 1 (.s m) (.s m)))), (4, .v (.one (.slice 3 (.c 0) 1 (.c 8) (.c 8)))), (6, .v (.one (.sint .i64 (k : Int)))), (7, .v (.one (.slice 4 (.c 0) 1 (.c 64) (.c 64)))), (8, .v (.one (.slice 6 (.c 0) 1 (.c 8) (.c 8)))), (9, .v (.one (.int .i64 0)))], ([SB.mk false (.ints .u8 b), SB.mk true (.exp [.int .u8 0, .int .u8 0, .int .u8 0, .int .u8 0, .int .u8 0, .int .u8 0, .int .u8 0, .int .u8 0, .int .u8 0, .int .u8 0, .int .u8 0, .int .u8 0, .int .u8 0, .int .u8 0, .int .u8 0, .int .u8 0, .int .u8 0, .int .u8 0, .int .u8 0, .int .u8 0, .int .u8 0, .int .u8 0, .int .u8 0, .int .u8 0, .int .u8 0, .int .u8 0, .int .u8 0, .int .u8 0, .int .u8 0, .int .u8 0, .int .u8 0, .int .u8 0]), SB.mk true (.ints .u8 p), SB.mk true (.ints .u32 s), SB.mk true (.ints .u32 (ci (scN (ldN (partN p k 64) 64) 48))), SB.mk true (.ints .u32 ([] ++ s))], [0 = 0, 8 = s.length, Nat.sub (Int.toNat ((k : Int) + 64)) k = 64, k + Nat.sub (Int.toNat ((k : Int) + 64)) k ≤ p.length, u8L p, 0 ≤ (k : Int) + 64, (k : Int) + 64 ≤ (m : Int), 0 ≤ (k : Int), (k : Int) ≤ ((Int.toNat ((k : Int) + 64)) : Int), (-9223372036854775808) ≤ (k : Int) + 64 ∧ (k : Int) + (64 : Int) ≤ 9223372036854775807, decide ((k : Int) < (m : Int)) = true]))) := by kernel_rfl
theorem rfR : (fun (b p s w v : List Int) (m k t : Nat) => stopV [2, 3, 4, 6, 7, 8, 9] [0, 1, 2, 3, 4, 7] (rOf (LOf.2.length + 1) [] [true, false, true] b p s w v m k t)) = fun b p s w v m (k : Nat) (t : Nat) => some (KOf, ([(2, .v (.one (.ptr 1 (.c 0) 1 0))), (3, .v (.one (.slice 2 (.c 0) 1 (.s m) (.s m)))), (4, .v (.one (.slice 3 (.c 0) 1 (.c 8) (.c 8)))), (6, .v (.one (.sint .i64 (k : Int)))), (7, .v (.one (.slice 4 (.c 0) 1 (.c 64) (.c 64)))), (8, .v (.one (.slice 7 (.c 0) 1 (.c 8) (.c 8)))), (9, .v (.one (.sint .i64 ((t : Int) + 1))))], ([SB.mk false (.ints .u8 b), SB.mk true (.exp [.int .u8 0, .int .u8 0, .int .u8 0, .int .u8 0, .int .u8 0, .int .u8 0, .int .u8 0, .int .u8 0, .int .u8 0, .int .u8 0, .int .u8 0, .int .u8 0, .int .u8 0, .int .u8 0, .int .u8 0, .int .u8 0, .int .u8 0, .int .u8 0, .int .u8 0, .int .u8 0, .int .u8 0, .int .u8 0, .int .u8 0, .int .u8 0, .int .u8 0, .int .u8 0, .int .u8 0, .int .u8 0, .int .u8 0, .int .u8 0, .int .u8 0, .int .u8 0]), SB.mk true (.ints .u8 p), SB.mk true (.ints .u32 s), SB.mk true (.ints .u32 w), SB.mk true (.ints .u32 (List.set ([IntKind.wrap .u32 (IntKind.wrap .u32 (IntKind.wrap .u32 (IntKind.wrap .u32 (IntKind.wrap .u32 (v.getD 7 0 + Go.bits Go.BinOp.xor .u32 (Go.bits Go.BinOp.xor .u32 ((rr (Int.toNat (v.getD 4 0)) 6) : Int) ((rr (Int.toNat (v.getD 4 0)) 11) : Int)) ((rr (Int.toNat (v.getD 4 0)) 25) : Int)) + (↑(List.getD RN t 0) : Int)) + List.getD w t 0) + ((bitN true (Int.toNat (v.getD 4 0)) (Int.toNat (v.getD 5 0)) (Int.toNat (v.getD 6 0))) : Int)) + IntKind.wrap .u32 (Go.bits Go.BinOp.xor .u32 (Go.bits Go.BinOp.xor .u32 ((rr (Int.toNat (v.getD 0 0)) 2) : Int) ((rr (Int.toNat (v.getD 0 0)) 13) : Int)) ((rr (Int.toNat (v.getD 0 0)) 22) : Int) + ((bitN false (Int.toNat (v.getD 0 0)) (Int.toNat (v.getD 1 0)) (Int.toNat (v.getD 2 0))) : Int)))] ++ List.take 7 (List.drop 0 v)) 4 (IntKind.wrap .u32 (List.getD ([IntKind.wrap .u32 (IntKind.wrap .u32 (IntKind.wrap .u32 (IntKind.wrap .u32 (IntKind.wrap .u32 (v.getD 7 0 + Go.bits Go.BinOp.xor .u32 (Go.bits Go.BinOp.xor .u32 ((rr (Int.toNat (v.getD 4 0)) 6) : Int) ((rr (Int.toNat (v.getD 4 0)) 11) : Int)) ((rr (Int.toNat (v.getD 4 0)) 25) : Int)) + (↑(List.getD RN t 0) : Int)) + List.getD w t 0) + ((bitN true (Int.toNat (v.getD 4 0)) (Int.toNat (v.getD 5 0)) (Int.toNat (v.getD 6 0))) : Int)) + IntKind.wrap .u32 (Go.bits Go.BinOp.xor .u32 (Go.bits Go.BinOp.xor .u32 ((rr (Int.toNat (v.getD 0 0)) 2) : Int) ((rr (Int.toNat (v.getD 0 0)) 13) : Int)) ((rr (Int.toNat (v.getD 0 0)) 22) : Int) + ((bitN false (Int.toNat (v.getD 0 0)) (Int.toNat (v.getD 1 0)) (Int.toNat (v.getD 2 0))) : Int)))] ++ List.take 7 (List.drop 0 v)) 4 0 + IntKind.wrap .u32 (IntKind.wrap .u32 (IntKind.wrap .u32 (IntKind.wrap .u32 (v.getD 7 0 + Go.bits Go.BinOp.xor .u32 (Go.bits Go.BinOp.xor .u32 ((rr (Int.toNat (v.getD 4 0)) 6) : Int) ((rr (Int.toNat (v.getD 4 0)) 11) : Int)) ((rr (Int.toNat (v.getD 4 0)) 25) : Int)) + (↑(List.getD RN t 0) : Int)) + List.getD w t 0) + ((bitN true (Int.toNat (v.getD 4 0)) (Int.toNat (v.getD 5 0)) (Int.toNat (v.getD 6 0))) : Int))))))], [(-9223372036854775808) ≤ (t : Int) + 1 ∧ (t : Int) + (1 : Int) ≤ 9223372036854775807, 4 < ([IntKind.wrap .u32 (IntKind.wrap .u32 (IntKind.wrap .u32 (IntKind.wrap .u32 (IntKind.wrap .u32 (v.getD 7 0 + Go.bits Go.BinOp.xor .u32 (Go.bits Go.BinOp.xor .u32 ((rr (Int.toNat (v.getD 4 0)) 6) : Int) ((rr (Int.toNat (v.getD 4 0)) 11) : Int)) ((rr (Int.toNat (v.getD 4 0)) 25) : Int)) + (↑(List.getD RN t 0) : Int)) + List.getD w t 0) + ((bitN true (Int.toNat (v.getD 4 0)) (Int.toNat (v.getD 5 0)) (Int.toNat (v.getD 6 0))) : Int)) + IntKind.wrap .u32 (Go.bits Go.BinOp.xor .u32 (Go.bits Go.BinOp.xor .u32 ((rr (Int.toNat (v.getD 0 0)) 2) : Int) ((rr (Int.toNat (v.getD 0 0)) 13) : Int)) ((rr (Int.toNat (v.getD 0 0)) 22) : Int) + ((bitN false (Int.toNat (v.getD 0 0)) (Int.toNat (v.getD 1 0)) (Int.toNat (v.getD 2 0))) : Int)))] ++ List.take 7 (List.drop 0 v)).length, 4 < ([IntKind.wrap .u32 (IntKind.wrap .u32 (IntKind.wrap .u32 (IntKind.wrap .u32 (IntKind.wrap .u32 (v.getD 7 0 + Go.bits Go.BinOp.xor .u32 (Go.bits Go.BinOp.xor .u32 ((rr (Int.toNat (v.getD 4 0)) 6) : Int) ((rr (Int.toNat (v.getD 4 0)) 11) : Int)) ((rr (Int.toNat (v.getD 4 0)) 25) : Int)) + (↑(List.getD RN t 0) : Int)) + List.getD w t 0) + ((bitN true (Int.toNat (v.getD 4 0)) (Int.toNat (v.getD 5 0)) (Int.toNat (v.getD 6 0))) : Int)) + IntKind.wrap .u32 (Go.bits Go.BinOp.xor .u32 (Go.bits Go.BinOp.xor .u32 ((rr (Int.toNat (v.getD 0 0)) 2) : Int) ((rr (Int.toNat (v.getD 0 0)) 13) : Int)) ((rr (Int.toNat (v.getD 0 0)) 22) : Int) + ((bitN false (Int.toNat (v.getD 0 0)) (Int.toNat (v.getD 1 0)) (Int.toNat (v.getD 2 0))) : Int)))] ++ List.take 7 (List.drop 0 v)).length, 7 ≤ v.length, 0 ≤ v.getD 0 0 ∧ List.getD v 0 (0 : Int) < 4294967296, 0 ≤ v.getD 1 0 ∧ List.getD v 1 (0 : Int) < 4294967296, 0 ≤ v.getD 2 0 ∧ List.getD v 2 (0 : Int) < 4294967296, 0 ≤ v.getD 0 0 ∧ List.getD v 0 (0 : Int) < 4294967296, (0 : Int) ≤ 22 ∧ (22 : Int) ≤ 31, 0 ≤ v.getD 0 0 ∧ List.getD v 0 (0 : Int) < 4294967296, (0 : Int) ≤ 13 ∧ (13 : Int) ≤ 31, 0 ≤ v.getD 0 0 ∧ List.getD v 0 (0 : Int) < 4294967296, (0 : Int) ≤ 2 ∧ (2 : Int) ≤ 31, 2 < v.length, 1 < v.length, 0 ≤ v.getD 4 0 ∧ List.getD v 4 (0 : Int) < 4294967296, 0 ≤ v.getD 5 0 ∧ List.getD v 5 (0 : Int) < 4294967296, 0 ≤ v.getD 6 0 ∧ List.getD v 6 (0 : Int) < 4294967296, 0 ≤ (t : Int) ∧ (t : Int) < 64, 0 ≤ v.getD 4 0 ∧ List.getD v 4 (0 : Int) < 4294967296, (0 : Int) ≤ 25 ∧ (25 : Int) ≤ 31, 0 ≤ v.getD 4 0 ∧ List.getD v 4 (0 : Int) < 4294967296, (0 : Int) ≤ 11 ∧ (11 : Int) ≤ 31, 0 ≤ v.getD 4 0 ∧ List.getD v 4 (0 : Int) < 4294967296, (0 : Int) ≤ 6 ∧ (6 : Int) ≤ 31, 6 < v.length, 5 < v.length, t < w.length, 0 ≤ (t : Int), (t : Int) < 64, 7 < v.length, 0 < v.length, 4 < v.length, decide ((t : Int) < 64) = true]))) := by kernel_rfl
noncomputable def L3f := loopN Try.prog 49 3
noncomputable def E3f : List Item := .code (.loop L3f.1) :: L3f.2
noncomputable def K3f : List Item := .inLoop L3f.1 :: L3f.2
noncomputable def L4f := loopN Try.prog 49 4
noncomputable def E4f : List Item := .code (.loop L4f.1) :: L4f.2
noncomputable def K4f : List Item := .inLoop L4f.1 :: L4f.2
def T3f (b p s v : List Int) (m k i : Nat) (h : List Bool) : St := ⟨[(2, .v (.one (.ptr 1 (.c 0) 1 0))), (3, bmS 2 m m), (4, s8S 3), (6, si .i64 k), (8, s8S 4), (14, si .i64 i)], [roH b, zz32, oB p, wB s, wB v], h, []⟩
noncomputable def r3f (lim : Nat) (ls h : List Bool) (b p s v : List Int) (m k i : Nat) := run Try.prog (callOf 4) (fun _ => false) (fnF 49) lim 100000 ls (.code L3f.1 :: .inLoop L3f.1 :: L3f.2) (T3f b p s v m k i h)
def T4f (b s o : List Int) (i : Int) (h : List Bool) : St := ⟨[(2, .v (.one (.ptr 1 (.c 0) 1 0))), (4, s8S 2), (15, .v (.one (.ptr 3 (.c 0) 1 0))), (16, si .i64 i)], [roH b, zz32, wB s, oB o], h, []⟩
noncomputable def r4f (lim : Nat) (ls h : List Bool) (b s o : List Int) (i : Int) := run Try.prog (callOf 4) (fun _ => false) (fnF 49) lim 100000 ls (.code L4f.1 :: .inLoop L4f.1 :: L4f.2) (T4f b s o i h)
theorem rfN : (fun (b p s w v : List Int) (m k t : Nat) => stopV [2, 3, 4, 6, 8, 14] [0, 1, 2, 3, 5] (rOf 0 [false] [false] b p s w v m k t)) = fun b p s _ v m (k : Nat) (t : Nat) => some (E3f, ([(2, .v (.one (.ptr 1 (.c 0) 1 0))), (3, .v (.one (.slice 2 (.c 0) 1 (.s m) (.s m)))), (4, .v (.one (.slice 3 (.c 0) 1 (.c 8) (.c 8)))), (6, .v (.one (.sint .i64 (k : Int)))), (8, .v (.one (.slice 5 (.c 0) 1 (.c 8) (.c 8)))), (14, .v (.one (.int .i64 0)))], ([SB.mk false (.ints .u8 b), SB.mk true (.exp [.int .u8 0, .int .u8 0, .int .u8 0, .int .u8 0, .int .u8 0, .int .u8 0, .int .u8 0, .int .u8 0, .int .u8 0, .int .u8 0, .int .u8 0, .int .u8 0, .int .u8 0, .int .u8 0, .int .u8 0, .int .u8 0, .int .u8 0, .int .u8 0, .int .u8 0, .int .u8 0, .int .u8 0, .int .u8 0, .int .u8 0, .int .u8 0, .int .u8 0, .int .u8 0, .int .u8 0, .int .u8 0, .int .u8 0, .int .u8 0, .int .u8 0, .int .u8 0]), SB.mk true (.ints .u8 p), SB.mk true (.ints .u32 s), SB.mk true (.ints .u32 v)], [decide ((t : Int) < 64) = false]))) := by kernel_rfl
theorem raR : (fun (b p s v : List Int) (m k i : Nat) => stopV [2, 3, 4, 6, 8, 14] [0, 1, 2, 3, 4] (r3f (L3f.2.length + 1) [] [true] b p s v m k i)) = fun b p s v m (k : Nat) (i : Nat) => some (K3f, ([(2, .v (.one (.ptr 1 (.c 0) 1 0))), (3, .v (.one (.slice 2 (.c 0) 1 (.s m) (.s m)))), (4, .v (.one (.slice 3 (.c 0) 1 (.c 8) (.c 8)))), (6, .v (.one (.sint .i64 (k : Int)))), (8, .v (.one (.slice 4 (.c 0) 1 (.c 8) (.c 8)))), (14, .v (.one (.sint .i64 ((i : Int) + 1))))], ([SB.mk false (.ints .u8 b), SB.mk true (.exp [.int .u8 0, .int .u8 0, .int .u8 0, .int .u8 0, .int .u8 0, .int .u8 0, .int .u8 0, .int .u8 0, .int .u8 0, .int .u8 0, .int .u8 0, .int .u8 0, .int .u8 0, .int .u8 0, .int .u8 0, .int .u8 0, .int .u8 0, .int .u8 0, .int .u8 0, .int .u8 0, .int .u8 0, .int .u8 0, .int .u8 0, .int .u8 0, .int .u8 0, .int .u8 0, .int .u8 0, .int .u8 0, .int .u8 0, .int .u8 0, .int .u8 0, .int .u8 0]), SB.mk true (.ints .u8 p), SB.mk true (.ints .u32 (List.set s i (IntKind.wrap .u32 (List.getD s i 0 + List.getD v i 0)))), SB.mk true (.ints .u32 v)], [(-9223372036854775808) ≤ (i : Int) + 1 ∧ (i : Int) + (1 : Int) ≤ 9223372036854775807, i < s.length, 0 ≤ (i : Int), (i : Int) < 8, i < v.length, 0 ≤ (i : Int), (i : Int) < 8, i < s.length, 0 ≤ (i : Int), (i : Int) < 8, decide ((i : Int) < 8) = true]))) := by kernel_rfl
theorem raN : (fun (b p s v : List Int) (m k i : Nat) => stopV [2, 3, 4, 6, 7, 8, 9] [0, 1, 2, 3, 5, 7] (r3f 0 [false] [false, true, true] b p s v m k i)) = fun b p s _ (m : Nat) (k : Nat) (i : Nat) => some (EOf, ([(2, .v (.one (.ptr 1 (.c 0) 1 0))), (3, .v (.one (.slice 2 (.c 0) 1 (.s m) (.s m)))), (4, .v (.one (.slice 3 (.c 0) 1 (.c 8) (.c 8)))), (6, .v (.one (.sint .i64 ((k : Int) + 64)))), (7, .v (.one (.slice 5 (.c 0) 1 (.c 64) (.c 64)))), (8, .v (.one (.slice 7 (.c 0) 1 (.c 8) (.c 8)))), (9, .v (.one (.int .i64 0)))], ([SB.mk false (.ints .u8 b), SB.mk true (.exp [.int .u8 0, .int .u8 0, .int .u8 0, .int .u8 0, .int .u8 0, .int .u8 0, .int .u8 0, .int .u8 0, .int .u8 0, .int .u8 0, .int .u8 0, .int .u8 0, .int .u8 0, .int .u8 0, .int .u8 0, .int .u8 0, .int .u8 0, .int .u8 0, .int .u8 0, .int .u8 0, .int .u8 0, .int .u8 0, .int .u8 0, .int .u8 0, .int .u8 0, .int .u8 0, .int .u8 0, .int .u8 0, .int .u8 0, .int .u8 0, .int .u8 0, .int .u8 0]), SB.mk true (.ints .u8 p), SB.mk true (.ints .u32 s), SB.mk true (.ints .u32 (ci (scN (ldN (partN p (Int.toNat ((k : Int) + 64)) 64) 64) 48))), SB.mk true (.ints .u32 ([] ++ s))], [0 = 0, 8 = s.length, Nat.sub (Int.toNat ((k : Int) + 64 + 64)) (Int.toNat ((k : Int) + 64)) = 64, Int.toNat ((k : Int) + 64) + Nat.sub (Int.toNat ((k : Int) + 64 + 64)) (Int.toNat ((k : Int) + 64)) ≤ p.length, u8L p, 0 ≤ (k : Int) + 64 + 64, (k : Int) + 64 + 64 ≤ (m : Int), 0 ≤ (k : Int) + 64, (k : Int) + 64 ≤ ((Int.toNat ((k : Int) + 64 + 64)) : Int), (-9223372036854775808) ≤ (k : Int) + 64 + 64 ∧ (k : Int) + 64 + (64 : Int) ≤ 9223372036854775807, decide ((k : Int) + 64 < (m : Int)) = true, (-9223372036854775808) ≤ (k : Int) + 64 ∧ (k : Int) + (64 : Int) ≤ 9223372036854775807, decide ((i : Int) < 8) = false]))) := by kernel_rfl
theorem raE : (fun (b p s v : List Int) (m k i : Nat) => stopV [2, 4, 15, 16] [0, 1, 3, 5] (r3f 0 [false] [false, false] b p s v m k i)) = fun b _ s _ (m : Nat) (k : Nat) (i : Nat) => some (E4f, ([(2, .v (.one (.ptr 1 (.c 0) 1 0))), (4, .v (.one (.slice 3 (.c 0) 1 (.c 8) (.c 8)))), (15, .v (.one (.ptr 5 (.c 0) 1 0))), (16, .v (.one (.int .i64 31)))], ([SB.mk false (.ints .u8 b), SB.mk true (.exp [.int .u8 0, .int .u8 0, .int .u8 0, .int .u8 0, .int .u8 0, .int .u8 0, .int .u8 0, .int .u8 0, .int .u8 0, .int .u8 0, .int .u8 0, .int .u8 0, .int .u8 0, .int .u8 0, .int .u8 0, .int .u8 0, .int .u8 0, .int .u8 0, .int .u8 0, .int .u8 0, .int .u8 0, .int .u8 0, .int .u8 0, .int .u8 0, .int .u8 0, .int .u8 0, .int .u8 0, .int .u8 0, .int .u8 0, .int .u8 0, .int .u8 0, .int .u8 0]), SB.mk true (.ints .u32 s), SB.mk true (.exp [.int .u8 0, .int .u8 0, .int .u8 0, .int .u8 0, .int .u8 0, .int .u8 0, .int .u8 0, .int .u8 0, .int .u8 0, .int .u8 0, .int .u8 0, .int .u8 0, .int .u8 0, .int .u8 0, .int .u8 0, .int .u8 0, .int .u8 0, .int .u8 0, .int .u8 0, .int .u8 0, .int .u8 0, .int .u8 0, .int .u8 0, .int .u8 0, .int .u8 0, .int .u8 0, .int .u8 0, .int .u8 0, .int .u8 0, .int .u8 0, .int .u8 0, .int .u8 0])], [decide ((k : Int) + 64 < (m : Int)) = false, (-9223372036854775808) ≤ (k : Int) + 64 ∧ (k : Int) + (64 : Int) ≤ 9223372036854775807, decide ((i : Int) < 8) = false]))) := by kernel_rfl
theorem rbR : (fun (b s o : List Int) (i : Int) => stopV [2, 4, 15, 16] [0, 1, 2, 3] (r4f (L4f.2.length + 1) [] [true] b s o i)) = fun b s o i => some (K4f, ([(2, .v (.one (.ptr 1 (.c 0) 1 0))), (4, .v (.one (.slice 2 (.c 0) 1 (.c 8) (.c 8)))), (15, .v (.one (.ptr 3 (.c 0) 1 0))), (16, .v (.one (.sint .i64 (i - 1))))], ([SB.mk false (.ints .u8 b), SB.mk true (.exp [.int .u8 0, .int .u8 0, .int .u8 0, .int .u8 0, .int .u8 0, .int .u8 0, .int .u8 0, .int .u8 0, .int .u8 0, .int .u8 0, .int .u8 0, .int .u8 0, .int .u8 0, .int .u8 0, .int .u8 0, .int .u8 0, .int .u8 0, .int .u8 0, .int .u8 0, .int .u8 0, .int .u8 0, .int .u8 0, .int .u8 0, .int .u8 0, .int .u8 0, .int .u8 0, .int .u8 0, .int .u8 0, .int .u8 0, .int .u8 0, .int .u8 0, .int .u8 0]), SB.mk true (.ints .u32 (List.set s (Int.toNat (Int.tdiv i 4)) (Int.tdiv (List.getD s (Int.toNat (Int.tdiv i 4)) 0) 256))), SB.mk true (.ints .u8 (List.set o (Int.toNat i) (IntKind.wrap .u8 (Int.tmod (List.getD s (Int.toNat (Int.tdiv i 4)) 0) 256))))], [(-9223372036854775808) ≤ i - 1 ∧ i - (1 : Int) ≤ 9223372036854775807, Int.toNat (Int.tdiv i 4) < s.length, 0 ≤ Int.tdiv i 4, Int.tdiv i (4 : Int) < 8, 0 ≤ Int.tdiv (List.getD s (Int.toNat (Int.tdiv i 4)) 0) 256 ∧ Int.tdiv (List.getD s (Int.toNat (Int.tdiv i 4)) 0) (256 : Int) ≤ 4294967295, Int.toNat (Int.tdiv i 4) < s.length, 0 ≤ Int.tdiv i 4, Int.tdiv i (4 : Int) < 8, (-9223372036854775808) ≤ Int.tdiv i 4 ∧ Int.tdiv i (4 : Int) ≤ 9223372036854775807, (-9223372036854775808) ≤ Int.tdiv i 4 ∧ Int.tdiv i (4 : Int) ≤ 9223372036854775807, Int.toNat i < o.length, 0 ≤ i, i < 32, Int.toNat (Int.tdiv i 4) < s.length, 0 ≤ Int.tdiv i 4, Int.tdiv i (4 : Int) < 8, (-9223372036854775808) ≤ Int.tdiv i 4 ∧ Int.tdiv i (4 : Int) ≤ 9223372036854775807, decide (0 ≤ i) = true]))) := by kernel_rfl
theorem rbX : (fun (b s o : List Int) (i : Int) => endV [0] (r4f 0 [] [false] b s o i)) = fun b _ o i => some (.v (.aggi .u8 o), ([SB.mk false (.ints .u8 b)], [o.length = 32, o.length = 32, o.length = 32, o.length = 32, decide (0 ≤ i) = false])) := by kernel_rfl
end Go.Proofs.Ytbamfolinbehiaa
end
section
namespace Go.Proofs.Ytbamfolinbehiaa
open Go.RowKit Go.Sx
def xI (kk ww : Nat) (s : S8) : Int := IntKind.wrap .u32 (IntKind.wrap .u32 (IntKind.wrap .u32 (IntKind.wrap .u32 ((s.h : Int) + bits .xor .u32 (bits .xor .u32 ((rr s.e 6 : Nat) : Int) ((rr s.e 11 : Nat) : Int)) ((rr s.e 25 : Nat) : Int)) + (kk : Int)) + (ww : Int)) + ((bitN true s.e s.f s.g : Nat) : Int))
def yI (s : S8) : Int := IntKind.wrap .u32 (bits .xor .u32 (bits .xor .u32 ((rr s.a 2 : Nat) : Int) ((rr s.a 13 : Nat) : Int)) ((rr s.a 22 : Nat) : Int) + ((bitN false s.a s.b s.c : Nat) : Int))
theorem thr_int {x : Nat} (h : x < 4294967296) (i j k : Nat) : bits .xor .u32 (bits .xor .u32 ((rr x i : Nat) : Int) ((rr x j : Nat) : Int)) ((rr x k : Nat) : Int) = ((thrN x i j k : Nat) : Int) := by
 rw [bxor (rr_lt _ h) (rr_lt _ h), bxor (xor_lt (rr_lt _ h) (rr_lt _ h)) (rr_lt _ h)]; rfl
theorem xI_eq {kk ww : Nat} {s : S8} (he : s.e < 4294967296) : xI kk ww s = ((x8 kk ww s : Nat) : Int) := by
 unfold xI
 rw [thr_int he, wadd, wadd, wadd, wadd]; rfl
theorem yI_eq {s : S8} (ha : s.a < 4294967296) : yI s = ((m32 (thrN s.a 2 13 22 + mjN s.a s.b s.c) : Nat) : Int) := by
 unfold yI
 rw [thr_int ha, wadd]; rfl
theorem m32_assoc (x y z : Nat) : m32 (x + m32 (y + z)) = m32 (m32 (x + y) + z) := by unfold m32; omega
theorem now_eq {kk ww : Nat} {s : S8} (ha : s.a < 4294967296) (he : s.e < 4294967296) :
  ([IntKind.wrap .u32 (xI kk ww s + yI s)] ++ List.take 7 (List.drop 0 (ci s.l))).set 4 (IntKind.wrap .u32 (List.getD ([IntKind.wrap .u32 (xI kk ww s + yI s)] ++ List.take 7 (List.drop 0 (ci s.l))) 4 0 + xI kk ww s)) = ci (st8 kk ww s).l := by
 rw [xI_eq he, yI_eq ha, wadd, m32_assoc]
 show [((_ : Nat) : Int), (s.a : Int), (s.b : Int), (s.c : Int), IntKind.wrap .u32 ((s.d : Int) + ((x8 kk ww s : Nat) : Int)), (s.e : Int), (s.f : Int), (s.g : Int)] = _
 rw [wadd]
 rfl
end Go.Proofs.Ytbamfolinbehiaa
end
section
namespace Go.Proofs.Ytbamfolinbehiaa
open Go.RowKit Go.Sx
def cntN (j q : Nat) : Nat := min 4 (4 * q + 4 - j)
def seS (s : List Nat) (j : Nat) : List Nat := (List.range 8).map fun q => s.getD q 0 / 256 ^ cntN j q
def ouS (s : List Nat) (j : Nat) : List Nat := List.replicate j 0 ++ (outN s).drop j
theorem seS_len (s : List Nat) (j : Nat) : (seS s j).length = 8 := by simp [seS]
theorem ouS_len (s : List Nat) {j : Nat} (h : j ≤ 32) : (ouS s j).length = 32 := by simp [ouS, outN_len]; omega
theorem seS_get (s : List Nat) (j : Nat) {q : Nat} (h : q < 8) : (seS s j).getD q 0 = s.getD q 0 / 256 ^ cntN j q := by
 simp [seS, List.getD_eq_getElem?_getD, h]
theorem seS_step (s : List Nat) {j : Nat} (h : j < 32) : (seS s (j + 1)).set (j / 4) ((seS s (j + 1)).getD (j / 4) 0 / 256) = seS s j := by
 rw [seS_get s (j + 1) (by omega), Nat.div_div_eq_div_mul, ← Nat.pow_succ]
 refine List.ext_getElem (by simp [seS]) fun q h1 h2 => ?_
 have hq : q < 8 := by rw [seS_len] at h2; exact h2
 rw [List.getElem_set]
 simp only [seS, List.getElem_map, List.getElem_range]
 by_cases e : j / 4 = q
 ·rw [if_pos e, ← e]
  have : cntN (j + 1) (j / 4) + 1 = cntN j (j / 4) := by unfold cntN; omega
  rw [← this]
 ·rw [if_neg e]
  have : cntN (j + 1) q = cntN j q := by unfold cntN; omega
  rw [this]
theorem ouS_step (s : List Nat) {j : Nat} (h : j < 32) : (ouS s (j + 1)).set j ((seS s (j + 1)).getD (j / 4) 0 % 256) = ouS s j := by
 have e : (seS s (j + 1)).getD (j / 4) 0 % 256 = (outN s)[j]'(by rw [outN_len]; exact h) := by
  rw [seS_get s (j + 1) (by omega)]
  simp only [outN, List.getElem_map, List.getElem_range]
  have : cntN (j + 1) (j / 4) = 3 - j % 4 := by unfold cntN; omega
  rw [this, show (256 : Nat) = 2 ^ 8 from rfl, ← Nat.pow_mul, show 8 * (3 - j % 4) = 24 - j % 4 * 8 by omega]
 rw [e]
 unfold ouS
 rw [List.replicate_succ', List.append_assoc, List.set_append_right _ _ (by simp), List.length_replicate, Nat.sub_self]
 show _ ++ ([_] ++ _) = _
 rw [List.singleton_append, ← List.drop_eq_getElem_cons]
theorem seS_top (s : List Nat) (h : s.length = 8) : seS s 32 = s := by
 obtain ⟨a, b, c, d, e, f, g, i, rfl⟩ := l8 h
 simp [seS, cntN, List.range, List.range.loop]
theorem ouS_top (s : List Nat) : ouS s 32 = List.replicate 32 0 := by
 unfold ouS
 rw [List.drop_of_length_le (by rw [outN_len]; exact Nat.le_refl _), List.append_nil]
theorem ouS_bot (s : List Nat) : ouS s 0 = outN s := by simp [ouS]
theorem seS_wf {s : List Nat} (h : wfW s) (j : Nat) : wfW (seS s j) := fun x hx => by
 simp only [seS, List.mem_map] at hx
 obtain ⟨q, _, rfl⟩ := hx
 exact dv_lt _ (wf_get h q)
end Go.Proofs.Ytbamfolinbehiaa
end
section
namespace Go.Proofs.Ytbamfolinbehiaa
open Go.ChangeShapes Go.WideShapes Go.ChangeAt Go.RowKit Go.Sx
theorem funOfR : Try.prog.funcs[49]? = some (fnF 49) := by kernel_rfl
theorem bodOfR : (fnF 49).body = some (bodyF 49) := by kernel_rfl
theorem tmpOfR : 1 ≤ (fnF 49).ntmps := Nat.le_of_ble_eq_true (by kernel_rfl)
theorem callOf_ok (d : Nat) : CallOk Try.prog (callOf d) := callN_sound tabOf_ok d
theorem z8_same (sel : List Nat) (n : Nat) : leL sel (List.replicate n (C.int .u8 0)) (List.replicate n (C.int .u8 0)) := by
 induction n with
 | zero => trivial
 | succ n ih => exact ⟨⟨rfl, rfl⟩, ih⟩
def pI : Nat → Int
 | 0 => -1
 | j + 1 => (j : Int)
theorem pI_eq (j : Nat) : (j : Int) - 1 = pI j := by cases j with
 | zero => rfl
 | succ j => show ((j + 1 : Nat) : Int) - 1 = (j : Int); omega
theorem of_last {b : List Int} {s : List Nat} (hs : s.length = 8) (ws : wfW s) {ρ : Env} {K : Nat → Prop} {W : World} (hρ : ρ.length = 1) : ∀ ρ' a w, RelD [] (ρ ++ ρ') K W (fnF 49).ntmps (T4f b (ci (seS s 32)) (ci (ouS s 32)) 31 []) a w →
  Goes Try.prog 49 (RetW ρ K W (.v (.aggi .u8 (ci (outN s)))) [roH b]) (.code (.loop L4f.1) :: L4f.2) a w := by
 intro ρ' a w hr
 refine loop_goes (I := Nat) (n := 1) (eff := fun _ => false) (Inv := fun j h => T4f b (ci (seS s j)) (ci (ouS s j)) (pI j) h) (good := fun j => j ≤ 32) (μ := fun j => j) (callOf_ok 4) funOfR (fun _ _ => ⟨rfl, rfl⟩) ?_ hρ (i := 32) (Nat.le_refl _) hr
 intro j hj
 have hl := seS_len s j
 have hlo := ouS_len s hj
 cases j with
 | zero =>
  refine .stop [false] [] _ _ [] _ _ _ (cf4 rbX b (ci (seS s 0)) (ci (ouS s 0)) (-1 : Int)) ⟨by rw [ci_len, hlo], by rw [ci_len, hlo], by rw [ci_len, hlo], by rw [ci_len, hlo], decide_eq_false (by omega), trivial⟩ (by decide) ?_ ?_
  ·rw [ouS_bot]; exact ⟨rfl, rfl⟩
  ·exact ⟨⟨fun h => h, rfl, rfl⟩, trivial⟩
 | succ j =>
  have q := cf4 rbR b (ci (seS s (j + 1))) (ci (ouS s (j + 1))) (j : Int)
  have hg := wf_get (seS_wf ws (j + 1)) (j / 4)
  have e4 : Int.tdiv (j : Int) 4 = ((j / 4 : Nat) : Int) := td4 j
  have e5 : Int.tdiv (((seS s (j + 1)).getD (j / 4) 0 : Nat) : Int) 256 = (((seS s (j + 1)).getD (j / 4) 0 / 256 : Nat) : Int) := by
   generalize (seS s (j + 1)).getD (j / 4) 0 = y
   rw [Int.tdiv_eq_ediv_of_nonneg (by omega)]; omega
  have e6 : IntKind.wrap .u8 (Int.tmod (((seS s (j + 1)).getD (j / 4) 0 : Nat) : Int) 256) = (((seS s (j + 1)).getD (j / 4) 0 % 256 : Nat) : Int) := by
   generalize (seS s (j + 1)).getD (j / 4) 0 = y
   rw [Int.tmod_eq_emod_of_nonneg (by omega), wrap_in ⟨by simp [IntKind.min, IntKind.signed]; omega, by simp [IntKind.max, IntKind.signed, IntKind.bits]; omega⟩]
   omega
  have e7 : Int.toNat ((j / 4 : Nat) : Int) = j / 4 := rfl
  have e8 : Int.toNat (j : Int) = j := rfl
  rw [e4, e7, e8, ci_get, e5, e6, ci_set, ci_set, seS_step s (by omega), ouS_step s (by omega)] at q
  have hy : (seS s (j + 1)).getD (j / 4) 0 / 256 < 4294967296 := dv_lt _ hg
  generalize (seS s (j + 1)).getD (j / 4) 0 / 256 = y at q hy
  refine .round [true] [] _ _ [2, 4, 15, 16] [1, 2, 3] _ _ _ j q ?_ ⟨(by decide : (List.range 1 ++ [1, 2, 3]).Nodup), ?_, ?_⟩ (by omega) (by omega)
  ·simp only [ci_len, hl, hlo]
   exact ⟨⟨by omega, by omega⟩, by omega, by omega, by omega, ⟨by omega, by omega⟩, by omega, by omega, by omega, ⟨by omega, by omega⟩, ⟨by omega, by omega⟩, by omega, by omega, by omega, by omega, by omega, by omega, ⟨by omega, by omega⟩, decide_eq_true (by omega), trivial⟩
  ·exact ⟨⟨rfl, rfl, rfl, rfl, rfl⟩, ⟨rfl, rfl, rfl, rfl, rfl, Nat.le_refl _, Nat.le_refl _⟩, ⟨rfl, rfl, rfl, rfl, rfl⟩, ⟨rfl, rfl, pI_eq j⟩, trivial⟩
  ·exact ⟨⟨fun h => h, rfl, rfl⟩, ⟨fun h => h, z8_same _ 32⟩, ⟨fun h => h, rfl, rfl⟩, ⟨fun h => h, rfl, rfl⟩, trivial⟩
end Go.Proofs.Ytbamfolinbehiaa
end
section
namespace Go.Proofs.Ytbamfolinbehiaa
open Go.ChangeShapes Go.WideShapes Go.ChangeAt Go.RowKit Go.Sx
theorem of_add {b : List Int} {p s v : List Nat} {m k : Nat} (hs : s.length = 8) (hv : v.length = 8) {ρ : Env} {K : Nat → Prop} {W : World} {R : Ending → World → Prop} (hρ : ρ.length = 1)
  (hk : ∀ ρ' a w, RelD [] (ρ ++ ρ') K W (fnF 49).ntmps (T3f b (ci p) (ci (adN s v 8)) (ci v) m k 8 []) a w → Goes Try.prog 49 R (.code L3f.1 :: .inLoop L3f.1 :: L3f.2) a w) :
  ∀ ρ' a w, RelD [] (ρ ++ ρ') K W (fnF 49).ntmps (T3f b (ci p) (ci s) (ci v) m k 0 []) a w → Goes Try.prog 49 R (.code (.loop L3f.1) :: L3f.2) a w := by
 intro ρ' a w hr
 refine loop3_goes (I := Nat) (eff := fun _ => false) (Inv := fun i h => T3f b (ci p) (ci (adN s v i)) (ci v) m k i h) (good := fun i => i ≤ 8) (μ := fun i => 8 - i) (callOf_ok 4) funOfR (fun _ _ => ⟨rfl, rfl⟩) ?_ (i := 0) (Nat.zero_le _) hr
 intro i hi
 by_cases h8 : i = 8
 ·subst h8
  exact .any hk
 ·have hl := adN_len s v i
  have q := cf7 raR b (ci p) (ci (adN s v i)) (ci v) m k i
  rw [ci_get, ci_get, wadd, ci_set] at q
  refine .round [true] [] _ _ [2, 3, 4, 6, 8, 14] [1, 2, 3, 4] _ _ _ (i + 1) (by rw [hρ]; exact q) ?_ ⟨by rw [hρ]; exact (by decide : (List.range 1 ++ [1, 2, 3, 4]).Nodup), ?_, ?_⟩ (by omega) (by omega)
  ·simp only [ci_len, hl, hs, hv]
   exact ⟨⟨by omega, by omega⟩, by omega, by omega, by omega, by omega, by omega, by omega, by omega, by omega, by omega, decide_eq_true (by omega), trivial⟩
  ·rw [hρ]; exact ⟨⟨rfl, rfl, rfl, rfl, rfl⟩, ⟨rfl, rfl, rfl, rfl, rfl, Nat.le_refl _, Nat.le_refl _⟩, ⟨rfl, rfl, rfl, rfl, rfl, Nat.le_refl _, Nat.le_refl _⟩, ⟨rfl, rfl, rfl⟩, ⟨rfl, rfl, rfl, rfl, rfl, Nat.le_refl _, Nat.le_refl _⟩, ⟨rfl, rfl, rfl⟩, trivial⟩
  ·rw [hρ]; exact ⟨⟨fun h => h, rfl, rfl⟩, ⟨fun h => h, z8_same _ 32⟩, ⟨fun h => h, rfl, rfl⟩, ⟨fun h => h, rfl, rfl⟩, ⟨fun h => h, rfl, rfl⟩, trivial⟩
end Go.Proofs.Ytbamfolinbehiaa
end
section
namespace Go.Proofs.Ytbamfolinbehiaa
open Go.ChangeShapes Go.WideShapes Go.ChangeAt Go.RowKit Go.Sx
theorem of_round {b p s : List Int} {w : List Nat} {S : S8} {m k t : Nat} (ht : t < 64) (hw : w.length = 64) (ha : S.a < 4294967296) (hb : S.b < 4294967296) (hc : S.c < 4294967296) (he : S.e < 4294967296) (hf : S.f < 4294967296) (hg : S.g < 4294967296) :
  ∃ ob, allP ob ∧ stopV [2, 3, 4, 6, 7, 8, 9] [0, 1, 2, 3, 4, 7] (rOf (LOf.2.length + 1) [] [true, false, true] b p s (ci w) (ci S.l) m k t) =
   some (KOf, [(2, .v (.one (.ptr 1 (.c 0) 1 0))), (3, bmS 2 m m), (4, s8S 3), (6, si .i64 k), (7, wS 4), (8, s8S 7), (9, si .i64 ((t : Int) + 1))], [roH b, zz32, oB p, ⟨true, .ints .u32 s⟩, wB (ci w), wB (ci (st8 (RN.getD t 0) (w.getD t 0) S).l)], ob) := by
 have q := cf8 rfR b p s (ci w) (ci S.l) m k t
 have e := now_eq (kk := RN.getD t 0) (ww := w.getD t 0) ha he
 rw [← e]
 unfold xI yI
 rw [← ci_get w t]
 refine ⟨_, ?_, q⟩
 have g : ∀ y : Nat, y < 4294967296 → (0 : Int) ≤ (y : Int) ∧ (y : Int) < 4294967296 := fun y h => ⟨by omega, by omega⟩
 have r : ∀ y : Nat, y ≤ 31 → (0 : Int) ≤ (y : Int) ∧ (y : Int) ≤ 31 := fun y h => ⟨by omega, by omega⟩
 have l8 : (ci S.l).length = 8 := rfl
 have lw : (ci w).length = 64 := by rw [ci_len, hw]
 exact ⟨⟨by omega, by omega⟩, Nat.le_of_ble_eq_true rfl, Nat.le_of_ble_eq_true rfl, Nat.le_of_ble_eq_true rfl, g _ ha, g _ hb, g _ hc, g _ ha, by decide, g _ ha, by decide, g _ ha, by decide, Nat.le_of_ble_eq_true rfl, Nat.le_of_ble_eq_true rfl, g _ he, g _ hf, g _ hg, ⟨by omega, by omega⟩, g _ he, by decide, g _ he, by decide, g _ he, by decide, Nat.le_of_ble_eq_true rfl, Nat.le_of_ble_eq_true rfl, by omega, by omega, by omega, Nat.le_of_ble_eq_true rfl, Nat.le_of_ble_eq_true rfl, Nat.le_of_ble_eq_true rfl, decide_eq_true (by omega), trivial⟩
end Go.Proofs.Ytbamfolinbehiaa
end
section
namespace Go.Proofs.Ytbamfolinbehiaa
open Go.ChangeShapes Go.WideShapes Go.ChangeAt Go.RowKit Go.Sx
def ok8 (S : S8) : Prop := (S.a < 4294967296 ∧ S.b < 4294967296 ∧ S.c < 4294967296 ∧ S.d < 4294967296) ∧ (S.e < 4294967296 ∧ S.f < 4294967296 ∧ S.g < 4294967296 ∧ S.h < 4294967296)
theorem ok8_step {kk ww : Nat} {S : S8} (h : ok8 S) : ok8 (st8 kk ww S) := ⟨⟨m32_lt _, h.1.1, h.1.2.1, h.1.2.2.1⟩, ⟨m32_lt _, h.2.1, h.2.2.1, h.2.2.2.1⟩⟩
theorem ok8_rounds {R w : List Nat} {S : S8} (h : ok8 S) : ∀ t, ok8 (rs8 R w S t)
 | 0 => h
 | t + 1 => ok8_step (ok8_rounds h t)
theorem ok8_s8 {l : List Nat} (h : wfW l) : ok8 (s8 l) := ⟨⟨wf_get h 0, wf_get h 1, wf_get h 2, wf_get h 3⟩, ⟨wf_get h 4, wf_get h 5, wf_get h 6, wf_get h 7⟩⟩
theorem of_rounds {b p s : List Int} {w : List Nat} {S : S8} {m k : Nat} (hw : w.length = 64) (hS : ok8 S) {ρ : Env} {K : Nat → Prop} {W : World} {R : Ending → World → Prop} (hρ : ρ.length = 1)
  (hk : ∀ ρ' a w', RelD [] (ρ ++ ρ') K W (fnF 49).ntmps (TOf b p s (ci w) (ci (rs8 RN w S 64).l) m k 64 []) a w' → Goes Try.prog 49 R (.code LOf.1 :: .inLoop LOf.1 :: LOf.2) a w') :
  ∀ ρ' a w', RelD [] (ρ ++ ρ') K W (fnF 49).ntmps (TOf b p s (ci w) (ci S.l) m k 0 []) a w' → Goes Try.prog 49 R (.code (.loop LOf.1) :: LOf.2) a w' := by
 intro ρ' a w' hr
 refine loop3_goes (I := Nat) (eff := fun _ => false) (Inv := fun t h => TOf b p s (ci w) (ci (rs8 RN w S t).l) m k t h) (good := fun t => t ≤ 64) (μ := fun t => 64 - t) (callOf_ok 4) funOfR (fun _ _ => ⟨rfl, rfl⟩) ?_ (i := 0) (Nat.zero_le _) hr
 intro t ht
 by_cases h64 : t = 64
 ·subst h64
  exact .any hk
 ·have h := ok8_rounds (R := RN) (w := w) hS t
  obtain ⟨ob, hob, q⟩ := of_round (b := b) (p := p) (s := s) (m := m) (k := k) (t := t) (by omega) hw h.1.1 h.1.2.1 h.1.2.2.1 h.2.1 h.2.2.1 h.2.2.2.1
  refine .round [true, false, true] [] _ _ [2, 3, 4, 6, 7, 8, 9] [1, 2, 3, 4, 7] _ _ _ (t + 1) (by rw [hρ]; exact q) hob ⟨by rw [hρ]; exact (by decide : (List.range 1 ++ [1, 2, 3, 4, 7]).Nodup), ?_, ?_⟩ (by omega) (by omega)
  ·rw [hρ]; exact ⟨⟨rfl, rfl, rfl, rfl, rfl⟩, ⟨rfl, rfl, rfl, rfl, rfl, Nat.le_refl _, Nat.le_refl _⟩, ⟨rfl, rfl, rfl, rfl, rfl, Nat.le_refl _, Nat.le_refl _⟩, ⟨rfl, rfl, rfl⟩, ⟨rfl, rfl, rfl, rfl, rfl, Nat.le_refl _, Nat.le_refl _⟩, ⟨rfl, rfl, rfl, rfl, rfl, Nat.le_refl _, Nat.le_refl _⟩, ⟨rfl, rfl, rfl⟩, trivial⟩
  ·rw [hρ]; exact ⟨⟨fun h => h, rfl, rfl⟩, ⟨fun h => h, z8_same _ 32⟩, ⟨fun h => h, rfl, rfl⟩, ⟨fun h => h, rfl, rfl⟩, ⟨fun h => h, rfl, rfl⟩, ⟨fun h => h, rfl, rfl⟩, trivial⟩
end Go.Proofs.Ytbamfolinbehiaa
end
section
namespace Go.Proofs.Ytbamfolinbehiaa
open Go.ChangeShapes Go.WideShapes Go.ChangeAt Go.RowKit Go.Sx
def wOf (P : List Nat) (q : Nat) : List Nat := scN (ldN (partN (ci P) (64 * q) 64) 64) 48
theorem wOf_len (P : List Nat) (q : Nat) : (wOf P q).length = 64 := by unfold wOf; rw [scN_len, ldN_len]
theorem s8_S (S : S8) : s8 S.l = S := rfl
theorem blk_eq {P s : List Nat} (hs : s.length = 8) (q : Nat) : adN s (rs8 RN (wOf P q) (s8 s) 64).l 8 = wkN RN s (P.drop (64 * q)) := by
 rw [wkN_congr (p := P.drop (64 * q)) (q := partN (ci P) (64 * q) 64) (fun i hi => by rw [drop_getD, partN_get hi, nats_ci]), wkN_eq hs, adN_eq hs rfl, s8_S]
 rfl
end Go.Proofs.Ytbamfolinbehiaa
end
section
namespace Go.Proofs.Ytbamfolinbehiaa
open Go.ChangeShapes Go.WideShapes Go.ChangeAt Go.RowKit Go.Sx
theorem z8_ints (sel : List Nat) (n : Nat) : leL sel (List.replicate n (C.int .u8 0)) ((ci (List.replicate n 0)).map (C.sint .u8)) := by
 induction n with
 | zero => trivial
 | succ n ih => exact ⟨⟨rfl, rfl⟩, ih⟩
theorem of_blocks {b : List Int} {P : List Nat} {N : Nat} (hP : P.length = 64 * N) (wP : u8L (ci P)) (hN : 64 * N ≤ 2000000000) {ρ : Env} {K : Nat → Prop} {W : World} (hρ : ρ.length = 1) : ∀ (left q : Nat), q + left + 1 = N → ∀ ρ' a w',
  RelD [] (ρ ++ ρ') K W (fnF 49).ntmps (TOf b (ci P) (ci (bkN RN S0N P q)) (ci (wOf P q)) (ci (s8 (bkN RN S0N P q)).l) (64 * N) (64 * q) 0 []) a w' →
  Goes Try.prog 49 (RetW ρ K W (.v (.aggi .u8 (ci (outN (bkN RN S0N P N))))) [roH b]) (.code (.loop LOf.1) :: LOf.2) a w' := by
 intro left
 induction left with
 | zero =>
  intro q hq
  have hs : (bkN RN S0N P q).length = 8 := bkN_len S0_len q
  have hb1 : (bkN RN S0N P N).length = 8 := bkN_len S0_len N
  have hb2 : wfW (bkN RN S0N P N) := bkN_wf S0_wf N
  refine of_rounds (wOf_len P q) (ok8_s8 (bkN_wf S0_wf q)) hρ fun ρ' a w' hr => ?_
  refine goes_stop (ρ0 := ρ) (r := [1, 2, 3, 5]) (ob := [decide (((64 : Nat) : Int) < 64) = false]) (k' := E3f) (T := T3f b (ci P) (ci (bkN RN S0N P q)) (ci (rs8 RN (wOf P q) (s8 (bkN RN S0N P q)) 64).l) (64 * N) (64 * q) 0 []) (callOf_ok 4) funOfR (by rw [hρ]; exact cf8 rfN b (ci P) _ _ _ (64 * N) (64 * q) 64) ⟨decide_eq_false (by omega), trivial⟩ ⟨by rw [hρ]; exact (by decide : (List.range 1 ++ [1, 2, 3, 5]).Nodup), ?_, ?_⟩ ?_ (hr.hints (S' := TOf b (ci P) _ _ _ (64 * N) (64 * q) 64 [false]) rfl rfl)
  ·rw [hρ]; exact ⟨⟨rfl, rfl, rfl, rfl, rfl⟩, ⟨rfl, rfl, rfl, rfl, rfl, Nat.le_refl _, Nat.le_refl _⟩, ⟨rfl, rfl, rfl, rfl, rfl, Nat.le_refl _, Nat.le_refl _⟩, ⟨rfl, rfl, rfl⟩, ⟨rfl, rfl, rfl, rfl, rfl, Nat.le_refl _, Nat.le_refl _⟩, ⟨rfl, rfl, rfl⟩, trivial⟩
  ·rw [hρ]; exact ⟨⟨fun h => h, rfl, rfl⟩, ⟨fun h => h, z8_same _ 32⟩, ⟨fun h => h, rfl, rfl⟩, ⟨fun h => h, rfl, rfl⟩, ⟨fun h => h, rfl, rfl⟩, trivial⟩
  refine of_add (m := 64 * N) (k := 64 * q) hs rfl hρ fun ρ' a w' hr => ?_
  rw [blk_eq hs q] at hr
  have hN1 : wkN RN (bkN RN S0N P q) (P.drop (64 * q)) = bkN RN S0N P N := by rw [← hq]; rfl
  rw [hN1] at hr
  have qE := cf7 raE b (ci P) (ci (bkN RN S0N P N)) (ci (rs8 RN (wOf P q) (s8 (bkN RN S0N P q)) 64).l) (64 * N) (64 * q) 8
  refine goes_stop (ρ0 := ρ) (r := [1, 3, 5]) (ob := [decide (((64 * q : Nat) : Int) + 64 < ((64 * N : Nat) : Int)) = false, -9223372036854775808 ≤ ((64 * q : Nat) : Int) + 64 ∧ ((64 * q : Nat) : Int) + 64 ≤ 9223372036854775807, decide (((8 : Nat) : Int) < 8) = false]) (k' := E4f) (T := T4f b (ci (seS (bkN RN S0N P N) 32)) (ci (ouS (bkN RN S0N P N) 32)) 31 []) (callOf_ok 4) funOfR (by rw [hρ]; exact qE) ⟨decide_eq_false (by omega), ⟨by omega, by omega⟩, decide_eq_false (by omega), trivial⟩ ⟨by rw [hρ]; exact (by decide : (List.range 1 ++ [1, 3, 5]).Nodup), ?_, ?_⟩ (of_last hb1 hb2 hρ) (hr.hints (S' := T3f b (ci P) _ _ (64 * N) (64 * q) 8 [false, false]) rfl rfl)
  ·rw [hρ]; exact ⟨⟨rfl, rfl, rfl, rfl, rfl⟩, ⟨rfl, rfl, rfl, rfl, rfl, Nat.le_refl _, Nat.le_refl _⟩, ⟨rfl, rfl, rfl, rfl, rfl⟩, ⟨rfl, rfl, rfl⟩, trivial⟩
  ·rw [hρ, seS_top _ hb1, ouS_top]; exact ⟨⟨fun h => h, rfl, rfl⟩, ⟨fun h => h, z8_same _ 32⟩, ⟨fun h => h, rfl, rfl⟩, ⟨fun h => h, z8_ints _ 32⟩, trivial⟩
 | succ left ih =>
  intro q hq
  have hs : (bkN RN S0N P q).length = 8 := bkN_len S0_len q
  have hb1 : (bkN RN S0N P (q + 1)).length = 8 := bkN_len S0_len (q + 1)
  refine of_rounds (wOf_len P q) (ok8_s8 (bkN_wf S0_wf q)) hρ fun ρ' a w' hr => ?_
  refine goes_stop (ρ0 := ρ) (r := [1, 2, 3, 5]) (ob := [decide (((64 : Nat) : Int) < 64) = false]) (k' := E3f) (T := T3f b (ci P) (ci (bkN RN S0N P q)) (ci (rs8 RN (wOf P q) (s8 (bkN RN S0N P q)) 64).l) (64 * N) (64 * q) 0 []) (callOf_ok 4) funOfR (by rw [hρ]; exact cf8 rfN b (ci P) _ _ _ (64 * N) (64 * q) 64) ⟨decide_eq_false (by omega), trivial⟩ ⟨by rw [hρ]; exact (by decide : (List.range 1 ++ [1, 2, 3, 5]).Nodup), ?_, ?_⟩ ?_ (hr.hints (S' := TOf b (ci P) _ _ _ (64 * N) (64 * q) 64 [false]) rfl rfl)
  ·rw [hρ]; exact ⟨⟨rfl, rfl, rfl, rfl, rfl⟩, ⟨rfl, rfl, rfl, rfl, rfl, Nat.le_refl _, Nat.le_refl _⟩, ⟨rfl, rfl, rfl, rfl, rfl, Nat.le_refl _, Nat.le_refl _⟩, ⟨rfl, rfl, rfl⟩, ⟨rfl, rfl, rfl, rfl, rfl, Nat.le_refl _, Nat.le_refl _⟩, ⟨rfl, rfl, rfl⟩, trivial⟩
  ·rw [hρ]; exact ⟨⟨fun h => h, rfl, rfl⟩, ⟨fun h => h, z8_same _ 32⟩, ⟨fun h => h, rfl, rfl⟩, ⟨fun h => h, rfl, rfl⟩, ⟨fun h => h, rfl, rfl⟩, trivial⟩
  refine of_add (m := 64 * N) (k := 64 * q) hs rfl hρ fun ρ' a w' hr => ?_
  rw [blk_eq hs q] at hr
  have hN1 : wkN RN (bkN RN S0N P q) (P.drop (64 * q)) = bkN RN S0N P (q + 1) := rfl
  rw [hN1] at hr
  have qE := cf7 raN b (ci P) (ci (bkN RN S0N P (q + 1))) (ci (rs8 RN (wOf P q) (s8 (bkN RN S0N P q)) 64).l) (64 * N) (64 * q) 8
  have ek : ((64 * q : Nat) : Int) + 64 = ((64 * (q + 1) : Nat) : Int) := by omega
  have ek2 : Int.toNat ((64 * (q + 1) : Nat) : Int) = 64 * (q + 1) := rfl
  rw [ek, ek2] at qE
  refine goes_stop (ρ0 := ρ) (r := [1, 2, 3, 5, 7]) (k' := EOf) (T := TOf b (ci P) (ci (bkN RN S0N P (q + 1))) (ci (wOf P (q + 1))) (ci (s8 (bkN RN S0N P (q + 1))).l) (64 * N) (64 * (q + 1)) 0 []) (callOf_ok 4) funOfR (by rw [hρ]; exact qE) ?_ ⟨by rw [hρ]; exact (by decide : (List.range 1 ++ [1, 2, 3, 5, 7]).Nodup), ?_, ?_⟩ (ih (q + 1) (by omega)) (hr.hints (S' := T3f b (ci P) _ _ (64 * N) (64 * q) 8 [false, true, true]) rfl rfl)
  ·have hp8 : (ci P).length = 64 * N := by rw [ci_len, hP]
   have t1 : Int.toNat (((64 * (q + 1) : Nat) : Int) + 64) = 64 * (q + 1) + 64 := by omega
   have t2 : Nat.sub (64 * (q + 1) + 64) (64 * (q + 1)) = 64 := by show (64 * (q + 1) + 64) - (64 * (q + 1)) = 64; omega
   simp only [t1, t2, hp8, ci_len, hb1]
   exact ⟨trivial, trivial, trivial, by omega, wP, by omega, by omega, by omega, by omega, ⟨by omega, by omega⟩, decide_eq_true (by omega), ⟨by omega, by omega⟩, decide_eq_false (by omega), trivial⟩
  ·rw [hρ]; exact ⟨⟨rfl, rfl, rfl, rfl, rfl⟩, ⟨rfl, rfl, rfl, rfl, rfl, Nat.le_refl _, Nat.le_refl _⟩, ⟨rfl, rfl, rfl, rfl, rfl, Nat.le_refl _, Nat.le_refl _⟩, ⟨rfl, rfl, rfl⟩, ⟨rfl, rfl, rfl, rfl, rfl, Nat.le_refl _, Nat.le_refl _⟩, ⟨rfl, rfl, rfl, rfl, rfl, Nat.le_refl _, Nat.le_refl _⟩, ⟨rfl, rfl, rfl⟩, trivial⟩
  ·rw [hρ, s8_l hb1]; exact ⟨⟨fun h => h, rfl, rfl⟩, ⟨fun h => h, z8_same _ 32⟩, ⟨fun h => h, rfl, rfl⟩, ⟨fun h => h, rfl, rfl⟩, ⟨fun h => h, rfl, rfl⟩, ⟨fun h => h, rfl, rfl⟩, trivial⟩
end Go.Proofs.Ytbamfolinbehiaa
end
section
namespace Go.Proofs.Ytbamfolinbehiaa
open Go.ChangeShapes Go.WideShapes Go.ChangeAt Go.RowKit Go.Sx
theorem u8L_ciJ {l : List Nat} (h : wfB8 l) : u8L (ci l) := fun x hx => by
 obtain ⟨y, hy, rfl⟩ := List.mem_map.1 hx
 have := h y hy
 show (0 : Int) ≤ (y : Int) ∧ (y : Int) < 256
 omega
theorem ref_works {b : List Int} {n c : Nat} (hn : n ≤ b.length) (hm : n ≤ 1000000000) (hb : u8L b) : Works Try.prog 49 [bmS 0 n c] [roH b] (.v (.aggi .u8 (ci (shaN (partN b 0 n))))) [roH b] := by
 refine works_goes funOfR bodOfR (by exact tmpOfR) (fun ρ K W a w hρ hr => ?_)
 have hxl : (partN b 0 n).length = n := partN_len (by omega)
 have hz := zN_div n
 have hPl := padN_len (partN b 0 n)
 rw [hxl] at hPl
 have wP : wfB8 (padN (partN b 0 n)) := padN_wf (partN_wf hb 0 n)
 obtain ⟨N, hN⟩ : ∃ N, (padN (partN b 0 n)).length = 64 * N := ⟨(padN (partN b 0 n)).length / 64, by omega⟩
 have hN0 : 0 < N := by omega
 have hu : u8L (ci (padN (partN b 0 n))) := u8L_ciJ wP
 have hsha : shaN (partN b 0 n) = outN (bkN RN S0N (padN (partN b 0 n)) N) := by
  show outN (bkN RN S0N (padN (partN b 0 n)) ((padN (partN b 0 n)).length / 64)) = _
  rw [hN, Nat.mul_div_cancel_left _ (by decide)]
 rw [hsha]
 have key := of_blocks (b := b) (ρ := ρ) (K := K) (W := W) hN hu (by omega) hρ (N - 1) 0 (by omega)
 have q0 := cf3 rfE b n c
 have q1 := cf5 rfB b (ci (padN (partN b 0 n))) (ci S0N) (64 * N) 0
 rw [hN] at q0
 have i8 : ∀ y : Nat, y < 8 → (0 : Int) ≤ (y : Int) ∧ (y : Int) < 8 := fun y h => ⟨by omega, by omega⟩
 refine goes_stop (ρ0 := ρ) (r := [1, 2, 3]) (k' := E1f) (T := T1f b (ci (padN (partN b 0 n))) (ci S0N) (64 * N) 0 []) (callOf_ok 4) funOfR (by rw [hρ]; exact q0) ?_ ⟨by rw [hρ]; exact (by decide : (List.range 1 ++ [1, 2, 3]).Nodup), ?_, ?_⟩ (fun ρ2 a2 w2 h2 => ?_) (hr.hints (S' := ⟨argSlots 0 [bmS 0 n c], [roH b], [], []⟩) rfl rfl)
 ·exact ⟨i8 7 (by decide), i8 6 (by decide), i8 5 (by decide), i8 4 (by decide), i8 3 (by decide), i8 2 (by decide), i8 1 (by decide), i8 0 (by decide), hn, hm, hb, trivial⟩
 ·rw [hρ]; exact ⟨⟨rfl, rfl, rfl, rfl, rfl⟩, ⟨rfl, rfl, rfl, rfl, rfl, Nat.le_refl _, Nat.le_refl _⟩, ⟨rfl, rfl, rfl, rfl, rfl, Nat.le_refl _, Nat.le_refl _⟩, ⟨rfl, rfl, rfl⟩, trivial⟩
 ·have e0 : ci S0N = [1779033703, 3144134277, 1013904242, 2773480762, 1359893119, 2600822924, 528734635, 1541459225] := by decide +kernel
  have l8 : leL (List.range ρ.length ++ [1, 2, 3]) [.sint .u32 1779033703, .sint .u32 3144134277, .sint .u32 1013904242, .sint .u32 2773480762, .sint .u32 1359893119, .sint .u32 2600822924, .sint .u32 528734635, .sint .u32 1541459225] ((ci S0N).map (C.sint .u32)) := by
   rw [e0]; exact ⟨⟨rfl, rfl⟩, ⟨rfl, rfl⟩, ⟨rfl, rfl⟩, ⟨rfl, rfl⟩, ⟨rfl, rfl⟩, ⟨rfl, rfl⟩, ⟨rfl, rfl⟩, ⟨rfl, rfl⟩, trivial⟩
  exact ⟨⟨fun h => h, rfl, rfl⟩, ⟨fun h => h, z8_same _ 32⟩, ⟨fun h => h, rfl, rfl⟩, ⟨fun h => h, l8⟩, trivial⟩
 refine .step (fun _ => step_loop) ?_
 refine goes_stop (ρ0 := ρ) (r := [1, 2, 3, 4, 6]) (k' := EOf) (T := TOf b (ci (padN (partN b 0 n))) (ci (bkN RN S0N (padN (partN b 0 n)) 0)) (ci (wOf (padN (partN b 0 n)) 0)) (ci (s8 (bkN RN S0N (padN (partN b 0 n)) 0)).l) (64 * N) (64 * 0) 0 []) (callOf_ok 4) funOfR (by rw [hρ]; exact q1) ?_ ⟨by rw [hρ]; exact (by decide : (List.range 1 ++ [1, 2, 3, 4, 6]).Nodup), ?_, ?_⟩ key (h2.hints (S' := T1f b (ci (padN (partN b 0 n))) (ci S0N) (64 * N) 0 [true, true]) rfl rfl)
 ·have hp8 : (ci (padN (partN b 0 n))).length = 64 * N := by rw [ci_len, hN]
  have hs8 : (ci S0N).length = 8 := by rw [ci_len, S0_len]
  exact ⟨rfl, hs8.symm, rfl, by rw [hp8]; show 0 + 64 ≤ _; omega, hu, by omega, by omega, by omega, by decide, ⟨by omega, by omega⟩, decide_eq_true (by omega), trivial⟩
 ·rw [hρ]; exact ⟨⟨rfl, rfl, rfl, rfl, rfl⟩, ⟨rfl, rfl, rfl, rfl, rfl, Nat.le_refl _, Nat.le_refl _⟩, ⟨rfl, rfl, rfl, rfl, rfl, Nat.le_refl _, Nat.le_refl _⟩, ⟨rfl, rfl, rfl⟩, ⟨rfl, rfl, rfl, rfl, rfl, Nat.le_refl _, Nat.le_refl _⟩, ⟨rfl, rfl, rfl, rfl, rfl, Nat.le_refl _, Nat.le_refl _⟩, ⟨rfl, rfl, rfl⟩, trivial⟩
 ·rw [hρ, s8_l (show (bkN RN S0N (padN (partN b 0 n)) 0).length = 8 from S0_len)]; exact ⟨⟨fun h => h, rfl, rfl⟩, ⟨fun h => h, z8_same _ 32⟩, ⟨fun h => h, rfl, rfl⟩, ⟨fun h => h, rfl, rfl⟩, ⟨fun h => h, rfl, rfl⟩, ⟨fun h => h, rfl, rfl⟩, trivial⟩
theorem bmS_rel {ρ : Env} {b : Nat} {n c : N} {u : Value} (h : V.rel ρ (.v (.one (.slice b (.c 0) 1 n c))) u) : (bmS b n.v c.v).rel ρ u := h
def gRf : Sx.Loc := fun args bs => match args, bs with
 | [.v (.one (.slice 0 (.c 0) 1 n _))], [⟨false, .ints .u8 b⟩] => some (.v (.aggi .u8 (ci (shaN (partN b 0 n.v)))), [roH b], [u8L b, n.v ≤ b.length, n.v ≤ 1000000000])
 | _, _ => none
theorem rf_tab : TabOk Try.prog 49 (loc wantH gRf) := loc_ok fun xs bs v bs' ob hg hob hokb => by
 unfold gRf at hg
 split at hg
 ·rename_i n c l
  cases hg
  intro ρ K w us hm hu
  obtain ⟨u1, s1, rfl, k1, k2⟩ := hu
  exact ref_works (hob (n.v ≤ l.length) (by simp)) (hob (n.v ≤ 1000000000) (by simp)) (hob (u8L l) (by simp)) ρ K w _ hm ⟨u1, _, rfl, bmS_rel k1, k2⟩
 ·cases hg
end Go.Proofs.Ytbamfolinbehiaa
end
