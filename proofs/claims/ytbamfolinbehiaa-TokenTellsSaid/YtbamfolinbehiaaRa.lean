/- The reference's turned, moved and bits: their runs; The reference's turned, moved and bits: the contracts; The reference's rolled: its runs; The reference's rolled: the contract; The reference's printed root words: the contract, by closed runs. -/
import Derived.Test.YtbamfolinbehiaaWd
import Derived.Test.YtbamfolinbehiaaSxAI
import Derived.Test.YtbamfolinbehiaaWf
section
namespace Go.Proofs.Ytbamfolinbehiaa
open Go.Sx
noncomputable def fnF (f : Go.FuncId) : Go.Func := match Try.prog.funcs[f]? with | some fn => fn | none => default
noncomputable def LTu := loopN Try.prog 60 0
noncomputable def ETu : List Item := .code (.loop LTu.1) :: LTu.2
noncomputable def KTu : List Item := .inLoop LTu.1 :: LTu.2
noncomputable def LMo := loopN Try.prog 70 0
noncomputable def EMo : List Item := .code (.loop LMo.1) :: LMo.2
noncomputable def KMo : List Item := .inLoop LMo.1 :: LMo.2
def TTu (x : Int) (k i : Nat) (h : List Bool) : St := ⟨[(0, si .u32 x), (1, si .i64 k), (5, si .i64 i)], [], h, []⟩
noncomputable def rTu (lim : Nat) (h : List Bool) (x : Int) (k i : Nat) := run Try.prog (call0 4) (fun _ => false) (fnF 60) lim 100000 [] (.code LTu.1 :: .inLoop LTu.1 :: LTu.2) (TTu x k i h)
noncomputable def rMo (lim : Nat) (h : List Bool) (x : Int) (k i : Nat) := run Try.prog (call0 4) (fun _ => false) (fnF 70) lim 100000 [] (.code LMo.1 :: .inLoop LMo.1 :: LMo.2) (TTu x k i h)
theorem tuE : (fun (x : Int) (k : Nat) => stopV [0, 1, 5] [] (run Try.prog (call0 4) (fun _ => false) (fnF 60) 0 100000 [false] [.code (bodyF 60)] ⟨argSlots 0 [si .u32 x, si .i64 k], [], [], []⟩)) = fun x (k : Nat) => some (ETu, ([(0, .v (.one (.sint .u32 x))), (1, .v (.one (.sint .i64 (k : Int)))), (5, .v (.one (.int .i64 0)))], ([], []))) := by kernel_rfl
theorem tuR : (fun (x : Int) (k i : Nat) => stopV [0, 1, 5] [] (rTu (LTu.2.length + 1) [true] x k i)) = fun x (k : Nat) (i : Nat) => some (KTu, ([(0, .v (.one (.sint .u32 (IntKind.wrap .u32 (Int.tdiv x 2 + IntKind.wrap .u32 (Int.tmod x 2 * 2147483648)))))), (1, .v (.one (.sint .i64 (k : Int)))), (5, .v (.one (.sint .i64 ((i : Int) + 1))))], ([], [(-9223372036854775808) ≤ (i : Int) + 1 ∧ (i : Int) + (1 : Int) ≤ 9223372036854775807, 0 ≤ Int.tdiv x 2 ∧ Int.tdiv x (2 : Int) ≤ 4294967295, decide ((i : Int) < (k : Int)) = true]))) := by kernel_rfl
theorem tuX : (fun (x : Int) (k i : Nat) => endV [] (rTu 0 [false] x k i)) = fun (x : Int) (k : Nat) (i : Nat) => some (V.v (V1.one (C.sint .u32 (x))), ([], [decide ((i : Int) < (k : Int)) = false])) := by kernel_rfl
theorem moE : (fun (x : Int) (k : Nat) => stopV [0, 1, 5] [] (run Try.prog (call0 4) (fun _ => false) (fnF 70) 0 100000 [false] [.code (bodyF 70)] ⟨argSlots 0 [si .u32 x, si .i64 k], [], [], []⟩)) = fun x (k : Nat) => some (EMo, ([(0, .v (.one (.sint .u32 x))), (1, .v (.one (.sint .i64 (k : Int)))), (5, .v (.one (.int .i64 0)))], ([], []))) := by kernel_rfl
theorem moR : (fun (x : Int) (k i : Nat) => stopV [0, 1, 5] [] (rMo (LMo.2.length + 1) [true] x k i)) = fun x (k : Nat) (i : Nat) => some (KMo, ([(0, .v (.one (.sint .u32 (Int.tdiv x 2)))), (1, .v (.one (.sint .i64 (k : Int)))), (5, .v (.one (.sint .i64 ((i : Int) + 1))))], ([], [(-9223372036854775808) ≤ (i : Int) + 1 ∧ (i : Int) + (1 : Int) ≤ 9223372036854775807, 0 ≤ Int.tdiv x 2 ∧ Int.tdiv x (2 : Int) ≤ 4294967295, decide ((i : Int) < (k : Int)) = true]))) := by kernel_rfl
theorem moX : (fun (x : Int) (k i : Nat) => endV [] (rMo 0 [false] x k i)) = fun (x : Int) (k : Nat) (i : Nat) => some (V.v (V1.one (C.sint .u32 (x))), ([], [decide ((i : Int) < (k : Int)) = false])) := by kernel_rfl
noncomputable def LBi := loopN Try.prog 61 0
noncomputable def EBi : List Item := .code (.loop LBi.1) :: LBi.2
noncomputable def KBi : List Item := .inLoop LBi.1 :: LBi.2
def bV (w : Bool) : V := .v (.one (.bool w))
def TBi (w : Bool) (e f g o : Int) (i : Nat) (h : List Bool) : St := ⟨[(0, si .u32 e), (1, si .u32 f), (2, si .u32 g), (3, bV w), (9, si .u32 o), (10, si .u64 i)], [], h, []⟩
noncomputable def rBi (lim : Nat) (h : List Bool) (w : Bool) (e f g o : Int) (i : Nat) := run Try.prog (call0 4) (fun _ => false) (fnF 61) lim 100000 [] (.code LBi.1 :: .inLoop LBi.1 :: LBi.2) (TBi w e f g o i h)
noncomputable def eBi (w : Bool) (e f g : Int) := run Try.prog (call0 4) (fun _ => false) (fnF 61) 0 100000 [false] [.code (bodyF 61)] ⟨argSlots 0 [si .u32 e, si .u32 f, si .u32 g, bV w], [], [], []⟩
theorem biTE : (fun (e f g : Int) => stopV [0, 1, 2, 3, 9, 10] [] (eBi true e f g)) = fun e f g => some (EBi, ([(0, .v (.one (.sint .u32 e))), (1, .v (.one (.sint .u32 f))), (2, .v (.one (.sint .u32 g))), (3, .v (.one (.bool true))), (9, .v (.one (.int .u32 0))), (10, .v (.one (.int .u64 0)))], ([], []))) := by kernel_rfl
theorem biFE : (fun (e f g : Int) => stopV [0, 1, 2, 3, 9, 10] [] (eBi false e f g)) = fun e f g => some (EBi, ([(0, .v (.one (.sint .u32 e))), (1, .v (.one (.sint .u32 f))), (2, .v (.one (.sint .u32 g))), (3, .v (.one (.bool false))), (9, .v (.one (.int .u32 0))), (10, .v (.one (.int .u64 0)))], ([], []))) := by kernel_rfl
theorem biTT : (fun (e f g o : Int) (i : Nat) => stopV [0, 1, 2, 3, 9, 10] [] (rBi (LBi.2.length + 1) [true, true] true e f g o i)) = fun e f g o (i : Nat) => some (KBi, ([(0, .v (.one (.sint .u32 e))), (1, .v (.one (.sint .u32 f))), (2, .v (.one (.sint .u32 g))), (3, .v (.one (.bool true))), (9, .v (.one (.sint .u32 (IntKind.wrap .u32 (o + IntKind.wrap .u32 (Int.tmod (Int.fdiv f (2 ^ if i ≤ 32 then i else 32)) 2 * 2 ^ if i ≤ 32 then i else 32)))))), (10, .v (.one (.sint .u64 (IntKind.wrap .u64 ((i : Int) + 1)))))], ([], [0 ≤ (i : Int), decide (Int.tmod (Int.fdiv e (2 ^ if i ≤ 32 then i else 32)) (2 : Int) = 1) = true, 0 ≤ (i : Int), 0 ≤ (i : Int), 0 ≤ (i : Int), decide ((i : Int) < 32) = true]))) := by kernel_rfl
theorem biTF : (fun (e f g o : Int) (i : Nat) => stopV [0, 1, 2, 3, 9, 10] [] (rBi (LBi.2.length + 1) [true, false] true e f g o i)) = fun e f g o (i : Nat) => some (KBi, ([(0, .v (.one (.sint .u32 e))), (1, .v (.one (.sint .u32 f))), (2, .v (.one (.sint .u32 g))), (3, .v (.one (.bool true))), (9, .v (.one (.sint .u32 (IntKind.wrap .u32 (o + IntKind.wrap .u32 (Int.tmod (Int.fdiv g (2 ^ if i ≤ 32 then i else 32)) 2 * 2 ^ if i ≤ 32 then i else 32)))))), (10, .v (.one (.sint .u64 (IntKind.wrap .u64 ((i : Int) + 1)))))], ([], [0 ≤ (i : Int), decide (Int.tmod (Int.fdiv e (2 ^ if i ≤ 32 then i else 32)) (2 : Int) = 1) = false, 0 ≤ (i : Int), 0 ≤ (i : Int), 0 ≤ (i : Int), decide ((i : Int) < 32) = true]))) := by kernel_rfl
theorem biFT : (fun (e f g o : Int) (i : Nat) => stopV [0, 1, 2, 3, 9, 10] [] (rBi (LBi.2.length + 1) [true, true] false e f g o i)) = fun e f g o (i : Nat) => some (KBi, ([(0, .v (.one (.sint .u32 e))), (1, .v (.one (.sint .u32 f))), (2, .v (.one (.sint .u32 g))), (3, .v (.one (.bool false))), (9, .v (.one (.sint .u32 (IntKind.wrap .u32 (o + IntKind.wrap .u32 (Int.tmod (Int.fdiv f (2 ^ if i ≤ 32 then i else 32)) 2 * 2 ^ if i ≤ 32 then i else 32)))))), (10, .v (.one (.sint .u64 (IntKind.wrap .u64 ((i : Int) + 1)))))], ([], [0 ≤ (i : Int), decide (Int.tmod (Int.fdiv e (2 ^ if i ≤ 32 then i else 32)) 2 = Int.tmod (Int.fdiv f (2 ^ if i ≤ 32 then i else 32)) 2) = true, 0 ≤ (i : Int), 0 ≤ (i : Int), 0 ≤ (i : Int), decide ((i : Int) < 32) = true]))) := by kernel_rfl
theorem biFF : (fun (e f g o : Int) (i : Nat) => stopV [0, 1, 2, 3, 9, 10] [] (rBi (LBi.2.length + 1) [true, false] false e f g o i)) = fun e f g o (i : Nat) => some (KBi, ([(0, .v (.one (.sint .u32 e))), (1, .v (.one (.sint .u32 f))), (2, .v (.one (.sint .u32 g))), (3, .v (.one (.bool false))), (9, .v (.one (.sint .u32 (IntKind.wrap .u32 (o + IntKind.wrap .u32 (Int.tmod (Int.fdiv g (2 ^ if i ≤ 32 then i else 32)) 2 * 2 ^ if i ≤ 32 then i else 32)))))), (10, .v (.one (.sint .u64 (IntKind.wrap .u64 ((i : Int) + 1)))))], ([], [0 ≤ (i : Int), decide (Int.tmod (Int.fdiv e (2 ^ if i ≤ 32 then i else 32)) 2 = Int.tmod (Int.fdiv f (2 ^ if i ≤ 32 then i else 32)) 2) = false, 0 ≤ (i : Int), 0 ≤ (i : Int), 0 ≤ (i : Int), decide ((i : Int) < 32) = true]))) := by kernel_rfl
theorem biTX : (fun (e f g o : Int) (i : Nat) => endV [] (rBi 0 [false] true e f g o i)) = fun (_ : Int) (_ : Int) (_ : Int) (o : Int) (i : Nat) => some (V.v (V1.one (C.sint .u32 (o))), ([], [decide ((i : Int) < 32) = false])) := by kernel_rfl
theorem biFX : (fun (e f g o : Int) (i : Nat) => endV [] (rBi 0 [false] false e f g o i)) = fun (_ : Int) (_ : Int) (_ : Int) (o : Int) (i : Nat) => some (V.v (V1.one (C.sint .u32 (o))), ([], [decide ((i : Int) < 32) = false])) := by kernel_rfl
end Go.Proofs.Ytbamfolinbehiaa
end
section
namespace Go.Proofs.Ytbamfolinbehiaa
open Go.ChangeShapes Go.WideShapes Go.ChangeAt Go.RowKit Go.Sx
def trn (x : Nat) : Nat := x / 2 + x % 2 * 2147483648
def trns : Nat → Nat → Nat
 | 0, x => x
 | k + 1, x => trn (trns k x)
theorem trn_lt {x : Nat} (h : x < 4294967296) : trn x < 4294967296 := by unfold trn; omega
theorem trns_lt {x : Nat} (h : x < 4294967296) : ∀ k, trns k x < 4294967296
 | 0 => h
 | k + 1 => trn_lt (trns_lt h k)
theorem trn_bit {x : Nat} (h : x < 4294967296) (j : Nat) : (trn x).testBit j = if j < 31 then x.testBit (j + 1) else if j = 31 then x.testBit 0 else false := by
 unfold trn
 rw [show x / 2 + x % 2 * 2147483648 = 2 ^ 31 * (x % 2) + x / 2 by omega, Nat.testBit_two_pow_mul_add _ (show x / 2 < 2 ^ 31 by omega)]
 by_cases h1 : j < 31
 ·rw [if_pos h1, if_pos h1, Nat.testBit_succ]
 ·rw [if_neg h1, if_neg h1]
  by_cases h2 : j = 31
  ·subst h2
   rw [if_pos rfl, Nat.sub_self, Nat.testBit_zero, Nat.testBit_zero]
   congr 2; omega
  ·rw [if_neg h2]
   refine Nat.testBit_lt_two_pow (Nat.lt_of_lt_of_le (show x % 2 < 2 ^ 1 by omega) (Nat.pow_le_pow_right (show 0 < 2 by decide) (by omega)))
theorem high32 {n j : Nat} (h : n < 4294967296) (hj : 32 ≤ j) : n.testBit j = false :=
 Nat.testBit_lt_two_pow (Nat.lt_of_lt_of_le h (Nat.pow_le_pow_right (show 0 < 2 by decide) hj))
theorem trns_bit {x : Nat} (h : x < 4294967296) : ∀ k j, (trns k x).testBit j = (decide (j < 32) && x.testBit ((j + k) % 32))
 | 0, j => by
  by_cases hj : j < 32
  ·rw [decide_eq_true hj, Nat.add_zero, Nat.mod_eq_of_lt hj]; rfl
  ·rw [decide_eq_false hj]; exact high32 h (by omega)
 | k + 1, j => by
  show (trn (trns k x)).testBit j = _
  rw [trn_bit (trns_lt h k), trns_bit h k, trns_bit h k]
  by_cases h1 : j < 31
  ·rw [if_pos h1, decide_eq_true (by omega : j + 1 < 32), decide_eq_true (by omega : j < 32), show j + 1 + k = j + (k + 1) by omega]
  ·rw [if_neg h1]
   by_cases h2 : j = 31
   ·rw [if_pos h2, decide_eq_true (by omega : 0 < 32), decide_eq_true (by omega : j < 32), show (0 + k) % 32 = (j + (k + 1)) % 32 by omega]
   ·rw [if_neg h2, decide_eq_false (by omega : ¬ j < 32)]; rfl
theorem trns_rr {x k : Nat} (h : x < 4294967296) (hk : k ≤ 31) : trns k x = rr x k := Nat.eq_of_testBit_eq fun j => by
 unfold rr
 rw [trns_bit h, Nat.testBit_or, show (4294967296 : Nat) = 2 ^ 32 from rfl, Nat.testBit_mod_two_pow, Nat.testBit_mul_two_pow, Nat.testBit_div_two_pow]
 by_cases hj : j < 32
 ·rw [decide_eq_true hj]
  by_cases hs : j + k < 32
  ·rw [decide_eq_false (by omega : ¬ 32 - k ≤ j), Nat.mod_eq_of_lt hs]
   simp
  ·rw [decide_eq_true (by omega : 32 - k ≤ j), high32 h (by omega : 32 ≤ j + k), show (j + k) % 32 = j - (32 - k) by omega]
   simp
 ·rw [decide_eq_false hj, high32 h (by omega : 32 ≤ j + k)]; rfl
theorem mod_step (v i : Nat) : v % 2 ^ (i + 1) = v % 2 ^ i + v / 2 ^ i % 2 * 2 ^ i := by
 rw [Nat.mod_pow_succ, Nat.mul_comm]
theorem bit_toNat (x i : Nat) : x / 2 ^ i % 2 = (x.testBit i).toNat := (Nat.toNat_testBit x i).symm
theorem ch_bit (e f g i : Nat) : chN e f g / 2 ^ i % 2 = if e / 2 ^ i % 2 = 1 then f / 2 ^ i % 2 else g / 2 ^ i % 2 := by
 unfold chN
 simp only [bit_toNat, Nat.testBit_xor, Nat.testBit_and]
 cases e.testBit i <;> cases f.testBit i <;> cases g.testBit i <;> rfl
theorem mj_bit (e f g i : Nat) : mjN e f g / 2 ^ i % 2 = if e / 2 ^ i % 2 = f / 2 ^ i % 2 then f / 2 ^ i % 2 else g / 2 ^ i % 2 := by
 unfold mjN
 simp only [bit_toNat, Nat.testBit_or, Nat.testBit_and]
 cases e.testBit i <;> cases f.testBit i <;> cases g.testBit i <;> rfl
theorem ch_lt {e f g : Nat} (he : e < 4294967296) (hf : f < 4294967296) (hg : g < 4294967296) : chN e f g < 4294967296 := xor_lt hg (and_lt (xor_lt hf hg))
theorem mj_lt {e f g : Nat} (he : e < 4294967296) (hf : f < 4294967296) (hg : g < 4294967296) : mjN e f g < 4294967296 := or_lt (and_lt hf) (and_lt (or_lt he hf))
theorem funTu : Try.prog.funcs[60]? = some (fnF 60) := by kernel_rfl
theorem bodTu : (fnF 60).body = some (bodyF 60) := by kernel_rfl
theorem tmpTu : 2 ≤ (fnF 60).ntmps := Nat.le_of_ble_eq_true (by kernel_rfl)
theorem funMo : Try.prog.funcs[70]? = some (fnF 70) := by kernel_rfl
theorem bodMo : (fnF 70).body = some (bodyF 70) := by kernel_rfl
theorem tmpMo : 2 ≤ (fnF 70).ntmps := Nat.le_of_ble_eq_true (by kernel_rfl)
theorem funBi : Try.prog.funcs[61]? = some (fnF 61) := by kernel_rfl
theorem bodBi : (fnF 61).body = some (bodyF 61) := by kernel_rfl
theorem tmpBi : 4 ≤ (fnF 61).ntmps := Nat.le_of_ble_eq_true (by kernel_rfl)
theorem call0_okR (d : Nat) : CallOk Try.prog (call0 d) := callN_sound no_tabs d
theorem nd00 : (List.range 0 ++ ([] : List Nat)).Nodup := by decide
theorem td2 (x : Nat) : Int.tdiv (x : Int) 2 = ((x / 2 : Nat) : Int) := by rw [Int.tdiv_eq_ediv_of_nonneg (by omega)]; omega
theorem trn_int {x : Nat} (h : x < 4294967296) : IntKind.wrap .u32 (Int.tdiv (x : Int) 2 + IntKind.wrap .u32 (Int.tmod (x : Int) 2 * 2147483648)) = ((trn x : Nat) : Int) := by
 have e1 : Int.tmod (x : Int) 2 * 2147483648 = ((x % 2 * 2147483648 : Nat) : Int) := by rw [Int.tmod_eq_emod_of_nonneg (by omega)]; omega
 rw [td2, e1, w32s (by omega), ← Int.natCast_add, w32s (by have := trn_lt h; unfold trn at this; exact this)]
 rfl
theorem turned_works (x k : Nat) (hx : x < 4294967296) (hk : k ≤ 31) : Works Try.prog 60 [si .u32 x, si .i64 k] [] (si .u32 ((rr x k : Nat) : Int)) [] := by
 refine works_loop (I := Nat) (Inv := fun i h => TTu ((trns i x : Nat) : Int) k i h) (good := fun i => i ≤ k) (μ := fun i => k - i) (i := 0) (r := []) (call0_okR 4) funTu bodTu (by exact tmpTu) (fun _ _ => ⟨rfl, rfl⟩)
  (congrFun (congrFun tuE (x : Int)) k) trivial ⟨nd00, ?_, trivial⟩ (Nat.zero_le _) ?_
 ·exact ⟨⟨rfl, rfl, rfl⟩, ⟨rfl, rfl, rfl⟩, ⟨rfl, rfl, rfl⟩, trivial⟩
 intro i hi
 have hl := trns_lt hx i
 by_cases hlt : i < k
 ·have q := cf3 tuR ((trns i x : Nat) : Int) k i
  rw [trn_int hl] at q
  refine .round [true] [] _ _ [0, 1, 5] [] _ _ _ (i + 1) q ⟨⟨by omega, by omega⟩, ?_, decide_eq_true (by omega), trivial⟩ ⟨nd00, ?_, trivial⟩ hlt (by omega)
  ·rw [td2]; omega
  ·exact ⟨⟨rfl, rfl, rfl⟩, ⟨rfl, rfl, rfl⟩, ⟨rfl, rfl, rfl⟩, trivial⟩
 ·have hik : i = k := by omega
  subst hik
  refine .stop [false] [] _ _ [] _ _ _ (cf3 tuX ((trns i x : Nat) : Int) i i) ⟨decide_eq_false (by omega), trivial⟩ nd00 ?_ trivial
  rw [trns_rr hx hk]; exact ⟨rfl, rfl⟩
theorem moved_works (x k : Nat) (hx : x < 4294967296) (hk : k ≤ 31) : Works Try.prog 70 [si .u32 x, si .i64 k] [] (si .u32 ((x / 2 ^ k : Nat) : Int)) [] := by
 refine works_loop (I := Nat) (Inv := fun i h => TTu ((x / 2 ^ i : Nat) : Int) k i h) (good := fun i => i ≤ k) (μ := fun i => k - i) (i := 0) (r := []) (call0_okR 4) funMo bodMo (by exact tmpMo) (fun _ _ => ⟨rfl, rfl⟩)
  (congrFun (congrFun moE (x : Int)) k) trivial ⟨nd00, ?_, trivial⟩ (Nat.zero_le _) ?_
 ·refine ⟨⟨rfl, rfl, ?_⟩, ⟨rfl, rfl, rfl⟩, ⟨rfl, rfl, rfl⟩, trivial⟩
  rw [Nat.pow_zero, Nat.div_one]
 intro i hi
 by_cases hlt : i < k
 ·have q := cf3 moR ((x / 2 ^ i : Nat) : Int) k i
  have hdl : x / 2 ^ i < 4294967296 := dv_lt _ hx
  rw [td2, show x / 2 ^ i / 2 = x / 2 ^ (i + 1) by rw [Nat.pow_succ, Nat.div_div_eq_div_mul]] at q
  have hdl2 : x / 2 ^ (i + 1) < 4294967296 := dv_lt _ hx
  have key : ∀ y : Nat, y < 4294967296 → (0 : Int) ≤ (y : Int) ∧ (y : Int) ≤ 4294967295 := fun y h => ⟨by omega, by omega⟩
  refine .round [true] [] _ _ [0, 1, 5] [] _ _ _ (i + 1) q ⟨⟨by omega, by omega⟩, key _ hdl2, decide_eq_true (by omega), trivial⟩ ⟨nd00, ?_, trivial⟩ hlt (by omega)
  exact ⟨⟨rfl, rfl, rfl⟩, ⟨rfl, rfl, rfl⟩, ⟨rfl, rfl, rfl⟩, trivial⟩
 ·have hik : i = k := by omega
  subst hik
  exact .stop [false] [] _ _ [] _ _ _ (cf3 moX ((x / 2 ^ i : Nat) : Int) i i) ⟨decide_eq_false (by omega), trivial⟩ nd00 ⟨rfl, rfl⟩ trivial
theorem bit32 (x i : Nat) (hi : i < 32) : Int.tmod (Int.fdiv (x : Int) (2 ^ (if i ≤ 32 then i else 32))) 2 = ((x / 2 ^ i % 2 : Nat) : Int) := by
 rw [if_pos (by omega)]
 have hp : (0 : Int) ≤ 2 ^ i := Int.le_of_lt (Int.pow_pos (by decide))
 have e : Int.fdiv (x : Int) (2 ^ i) = ((x / 2 ^ i : Nat) : Int) := by
  rw [Int.fdiv_eq_ediv_of_nonneg _ hp, Int.natCast_ediv, Int.natCast_pow]
  rfl
 rw [e, Int.tmod_eq_emod_of_nonneg (Int.natCast_nonneg _)]
 rfl
theorem put32 {v b i : Nat} (hv : v < 4294967296) (hi : i < 32) (hb : b = v / 2 ^ i % 2) : IntKind.wrap .u32 (((v % 2 ^ i : Nat) : Int) + IntKind.wrap .u32 ((b : Int) * 2 ^ (if i ≤ 32 then i else 32))) = ((v % 2 ^ (i + 1) : Nat) : Int) := by
 have hs := mod_step v i
 have hp : 2 ^ i ≤ 2 ^ 31 := Nat.pow_le_pow_right (show 0 < 2 by decide) (by omega)
 have hle : v % 2 ^ (i + 1) ≤ v := Nat.mod_le _ _
 rw [if_pos (by omega), show (b : Int) * 2 ^ i = ((b * 2 ^ i : Nat) : Int) by rw [Int.natCast_mul, Int.natCast_pow]; rfl]
 rw [hb, w32s (by omega), ← Int.natCast_add, ← hs, w32s (by omega)]
theorem bits_works (w : Bool) (e f g v : Nat) (he : e < 4294967296) (hf : f < 4294967296) (hg : g < 4294967296) (hv : v = if w = true then chN e f g else mjN e f g) : Works Try.prog 61 [si .u32 e, si .u32 f, si .u32 g, bV w] [] (si .u32 (v : Int)) [] := by
 have hlt : v < 4294967296 := by
  rw [hv]; split
  ·exact ch_lt he hf hg
  ·exact mj_lt he hf hg
 refine works_loop (I := Nat) (Inv := fun i h => TBi w (e : Int) (f : Int) (g : Int) ((v % 2 ^ i : Nat) : Int) i h) (good := fun i => i ≤ 32) (μ := fun i => 32 - i) (i := 0) (r := []) (ob := []) (a := (TBi w (e : Int) (f : Int) (g : Int) 0 0 []).sl.map fun x => if x.1 = 9 then (9, .v (.one (.int .u32 0))) else if x.1 = 10 then (10, .v (.one (.int .u64 0))) else x) (b := []) (ks := [0, 1, 2, 3, 9, 10]) (h := []) (ls := [false]) (lim := 0) (fuel := 100000) (x := LBi.1) (k := LBi.2) (eff := fun _ => false) (call0_okR 4) funBi bodBi (by exact tmpBi) (fun _ _ => ⟨rfl, rfl⟩)
  ?_ trivial ⟨nd00, ?_, trivial⟩ (Nat.zero_le _) ?_
 ·cases w with
  | true => exact cf3 biTE (e : Int) (f : Int) (g : Int)
  | false => exact cf3 biFE (e : Int) (f : Int) (g : Int)
 ·cases w <;> exact ⟨⟨rfl, rfl, rfl⟩, ⟨rfl, rfl, rfl⟩, ⟨rfl, rfl, rfl⟩, ⟨rfl, rfl⟩, ⟨rfl, rfl, by rw [Nat.pow_zero, Nat.mod_one]; rfl⟩, ⟨rfl, rfl, rfl⟩, trivial⟩
 intro i hi
 by_cases hlt2 : i < 32
 ·have wi : IntKind.wrap .u64 ((i : Int) + 1) = ((i + 1 : Nat) : Int) := by
   rw [wrap_in ⟨by simp [IntKind.min, IntKind.signed]; omega, by simp [IntKind.max, IntKind.signed, IntKind.bits]; omega⟩]; rfl
  have le : ∀ o : Nat, v % 2 ^ (i + 1) = o → leView (List.range 0 ++ []) [(0, si .u32 (e : Int)), (1, si .u32 (f : Int)), (2, si .u32 (g : Int)), (3, bV w), (9, si .u32 (o : Int)), (10, si .u64 ((i + 1 : Nat) : Int))] [] (TBi w (e : Int) (f : Int) (g : Int) ((v % 2 ^ (i + 1) : Nat) : Int) (i + 1) []) := by
   intro o ho
   subst ho
   cases w <;> exact ⟨nd00, ⟨⟨rfl, rfl, rfl⟩, ⟨rfl, rfl, rfl⟩, ⟨rfl, rfl, rfl⟩, ⟨rfl, rfl⟩, ⟨rfl, rfl, rfl⟩, ⟨rfl, rfl, rfl⟩, trivial⟩, trivial⟩
  have d32 : decide ((i : Int) < 32) = true := decide_eq_true (by omega)
  have i0 : (0 : Int) ≤ (i : Int) := by omega
  cases w with
  | true =>
   have hb := ch_bit e f g i
   rw [if_pos rfl] at hv
   by_cases h1 : e / 2 ^ i % 2 = 1
   ·rw [if_pos h1] at hb
    have q := cf5 biTT (e : Int) (f : Int) (g : Int) ((v % 2 ^ i : Nat) : Int) i
    rw [bit32 e i hlt2, bit32 f i hlt2, put32 hlt hlt2 (by rw [hv, hb]), wi] at q
    exact .round [true, true] [] _ _ [0, 1, 2, 3, 9, 10] [] _ _ _ (i + 1) q ⟨i0, decide_eq_true (by omega), i0, i0, i0, d32, trivial⟩ (le _ rfl) hlt2 (by omega)
   ·rw [if_neg h1] at hb
    have q := cf5 biTF (e : Int) (f : Int) (g : Int) ((v % 2 ^ i : Nat) : Int) i
    rw [bit32 e i hlt2, bit32 g i hlt2, put32 hlt hlt2 (by rw [hv, hb]), wi] at q
    exact .round [true, false] [] _ _ [0, 1, 2, 3, 9, 10] [] _ _ _ (i + 1) q ⟨i0, decide_eq_false (by omega), i0, i0, i0, d32, trivial⟩ (le _ rfl) hlt2 (by omega)
  | false =>
   have hb := mj_bit e f g i
   rw [if_neg (by decide)] at hv
   by_cases h1 : e / 2 ^ i % 2 = f / 2 ^ i % 2
   ·rw [if_pos h1] at hb
    have q := cf5 biFT (e : Int) (f : Int) (g : Int) ((v % 2 ^ i : Nat) : Int) i
    rw [bit32 e i hlt2, bit32 f i hlt2, put32 hlt hlt2 (by rw [hv, hb]), wi] at q
    exact .round [true, true] [] _ _ [0, 1, 2, 3, 9, 10] [] _ _ _ (i + 1) q ⟨i0, decide_eq_true (by omega), i0, i0, i0, d32, trivial⟩ (le _ rfl) hlt2 (by omega)
   ·rw [if_neg h1] at hb
    have q := cf5 biFF (e : Int) (f : Int) (g : Int) ((v % 2 ^ i : Nat) : Int) i
    rw [bit32 e i hlt2, bit32 f i hlt2, bit32 g i hlt2, put32 hlt hlt2 (by rw [hv, hb]), wi] at q
    exact .round [true, false] [] _ _ [0, 1, 2, 3, 9, 10] [] _ _ _ (i + 1) q ⟨i0, decide_eq_false (by omega), i0, i0, i0, d32, trivial⟩ (le _ rfl) hlt2 (by omega)
 ·have hik : i = 32 := by omega
  subst hik
  have hm : v % 2 ^ 32 = v := Nat.mod_eq_of_lt hlt
  have d32 : decide (((32 : Nat) : Int) < 32) = false := decide_eq_false (by omega)
  cases w with
  | true => exact .stop [false] [] _ _ [] _ _ _ (cf5 biTX (e : Int) (f : Int) (g : Int) ((v % 2 ^ 32 : Nat) : Int) 32) ⟨d32, trivial⟩ nd00 ⟨rfl, by rw [hm]⟩ trivial
  | false => exact .stop [false] [] _ _ [] _ _ _ (cf5 biFX (e : Int) (f : Int) (g : Int) ((v % 2 ^ 32 : Nat) : Int) 32) ⟨d32, trivial⟩ nd00 ⟨rfl, by rw [hm]⟩ trivial
end Go.Proofs.Ytbamfolinbehiaa
end
section
namespace Go.Proofs.Ytbamfolinbehiaa
open Go.Sx
def gTuR : List Int → V × List SB × List Prop
 | [x, k] => (si .u32 ((rr x.toNat k.toNat : Nat) : Int), [], [0 ≤ x ∧ x < 4294967296, 0 ≤ k ∧ k ≤ 31])
 | _ => (.tup [], [], [False])
def gMvR : List Int → V × List SB × List Prop
 | [x, k] => (si .u32 ((x.toNat / 2 ^ k.toNat : Nat) : Int), [], [0 ≤ x ∧ x < 4294967296, 0 ≤ k ∧ k ≤ 31])
 | _ => (.tup [], [], [False])
def tabRo := tabs [(60, numTab [.u32, .i64] gTuR), (70, numTab [.u32, .i64] gMvR)]
noncomputable def callRo (d : Nat) := callN Try.prog tabRo (fun _ => false) 100000 d
noncomputable def L1r := loopN Try.prog 59 1
noncomputable def E1r : List Item := .code (.loop L1r.1) :: L1r.2
noncomputable def K1r : List Item := .inLoop L1r.1 :: L1r.2
noncomputable def L2r := loopN Try.prog 59 2
noncomputable def E2r : List Item := .code (.loop L2r.1) :: L2r.2
noncomputable def K2r : List Item := .inLoop L2r.1 :: L2r.2
def oslR (b o n c : Nat) : V := .v (.one (.slice b (.s o) 1 (.s n) (.s c)))
def wB (l : List Int) : SB := ⟨true, .ints .u32 l⟩
def wS (b : Nat) : V := .v (.one (.slice b (.c 0) 1 (.c 64) (.c 64)))
def T1r (b l : List Int) (o n c t k : Nat) (h : List Bool) : St := ⟨[(0, oslR 0 o n c), (3, wS 1), (4, si .i64 t), (5, si .i64 k)], [roH b, wB l], h, []⟩
def T2r (b l : List Int) (o n c t : Nat) (h : List Bool) : St := ⟨[(0, oslR 0 o n c), (3, wS 1), (6, si .i64 t)], [roH b, wB l], h, []⟩
noncomputable def r1r (lim : Nat) (ls h : List Bool) (b l : List Int) (o n c t k : Nat) := run Try.prog (callRo 4) (fun _ => false) (fnF 59) lim 100000 ls (.code L1r.1 :: .inLoop L1r.1 :: L1r.2) (T1r b l o n c t k h)
noncomputable def r2r (lim : Nat) (h : List Bool) (b l : List Int) (o n c t : Nat) := run Try.prog (callRo 4) (fun _ => false) (fnF 59) lim 100000 [] (.code L2r.1 :: .inLoop L2r.1 :: L2r.2) (T2r b l o n c t h)
theorem roE : (fun (b : List Int) (o n c : Nat) => stopV [0, 3, 4, 5] [0, 1] (run Try.prog (callRo 4) (fun _ => false) (fnF 59) 0 100000 [true, false] [.code (bodyF 59)] ⟨argSlots 0 [oslR 0 o n c], [roH b], [], []⟩)) = fun b o n c => some (E1r, ([(0, .v (.one (.slice 0 (.s o) 1 (.s n) (.s c)))), (3, .v (.one (.slice 1 (.c 0) 1 (.c 64) (.c 64)))), (4, .v (.one (.int .i64 0))), (5, .v (.one (.int .i64 0)))], ([SB.mk false (.ints .u8 b), SB.mk true (.exp [.int .u32 0, .int .u32 0, .int .u32 0, .int .u32 0, .int .u32 0, .int .u32 0, .int .u32 0, .int .u32 0, .int .u32 0, .int .u32 0, .int .u32 0, .int .u32 0, .int .u32 0, .int .u32 0, .int .u32 0, .int .u32 0, .int .u32 0, .int .u32 0, .int .u32 0, .int .u32 0, .int .u32 0, .int .u32 0, .int .u32 0, .int .u32 0, .int .u32 0, .int .u32 0, .int .u32 0, .int .u32 0, .int .u32 0, .int .u32 0, .int .u32 0, .int .u32 0, .int .u32 0, .int .u32 0, .int .u32 0, .int .u32 0, .int .u32 0, .int .u32 0, .int .u32 0, .int .u32 0, .int .u32 0, .int .u32 0, .int .u32 0, .int .u32 0, .int .u32 0, .int .u32 0, .int .u32 0, .int .u32 0, .int .u32 0, .int .u32 0, .int .u32 0, .int .u32 0, .int .u32 0, .int .u32 0, .int .u32 0, .int .u32 0, .int .u32 0, .int .u32 0, .int .u32 0, .int .u32 0, .int .u32 0, .int .u32 0, .int .u32 0, .int .u32 0])], []))) := by kernel_rfl
theorem roR : (fun (b l : List Int) (o n c t k : Nat) => stopV [0, 3, 4, 5] [0, 1] (r1r (L1r.2.length + 1) [] [true] b l o n c t k)) = fun b l o (n : Nat) c (t : Nat) (k : Nat) => some (K1r, ([(0, .v (.one (.slice 0 (.s o) 1 (.s n) (.s c)))), (3, .v (.one (.slice 1 (.c 0) 1 (.c 64) (.c 64)))), (4, .v (.one (.sint .i64 (t : Int)))), (5, .v (.one (.sint .i64 ((k : Int) + 1))))], ([SB.mk false (.ints .u8 b), SB.mk true (.ints .u32 (List.set l t (IntKind.wrap .u32 (IntKind.wrap .u32 (List.getD l t 0 * 256) + List.getD b (Nat.add o (Int.toNat (4 * (t : Int) + (k : Int)))) 0))))], [(-9223372036854775808) ≤ (k : Int) + 1 ∧ (k : Int) + (1 : Int) ≤ 9223372036854775807, t < l.length, 0 ≤ (t : Int), (t : Int) < 64, 0 ≤ List.getD b (Nat.add o (Int.toNat (4 * (t : Int) + (k : Int)))) 0 ∧ List.getD b (Nat.add o (Int.toNat (4 * (t : Int) + (k : Int)))) (0 : Int) ≤ 4294967295, Nat.add o (Int.toNat (4 * (t : Int) + (k : Int))) < b.length, (0 : Int) ≤ 4 * (t : Int) + (k : Int), 4 * (t : Int) + (k : Int) < (n : Int), (-9223372036854775808 : Int) ≤ 4 * (t : Int) + (k : Int) ∧ 4 * (t : Int) + (k : Int) ≤ 9223372036854775807, (-9223372036854775808 : Int) ≤ 4 * (t : Int) ∧ 4 * (t : Int) ≤ 9223372036854775807, t < l.length, 0 ≤ (t : Int), (t : Int) < 64, decide ((k : Int) < 4) = true]))) := by kernel_rfl
theorem roN : (fun (b l : List Int) (o n c t k : Nat) => stopV [0, 3, 4, 5] [0, 1] (r1r 0 [false] [false, true] b l o n c t k)) = fun b l o n c (t : Nat) (k : Nat) => some (E1r, ([(0, .v (.one (.slice 0 (.s o) 1 (.s n) (.s c)))), (3, .v (.one (.slice 1 (.c 0) 1 (.c 64) (.c 64)))), (4, .v (.one (.sint .i64 ((t : Int) + 1)))), (5, .v (.one (.int .i64 0)))], ([SB.mk false (.ints .u8 b), SB.mk true (.ints .u32 l)], [decide ((t : Int) + (1 : Int) < 16) = true, (-9223372036854775808) ≤ (t : Int) + 1 ∧ (t : Int) + (1 : Int) ≤ 9223372036854775807, decide ((k : Int) < 4) = false]))) := by kernel_rfl
theorem roL : (fun (b l : List Int) (o n c t k : Nat) => stopV [0, 3, 6] [0, 1] (r1r 0 [false] [false, false] b l o n c t k)) = fun b l o n c (t : Nat) (k : Nat) => some (E2r, ([(0, .v (.one (.slice 0 (.s o) 1 (.s n) (.s c)))), (3, .v (.one (.slice 1 (.c 0) 1 (.c 64) (.c 64)))), (6, .v (.one (.int .i64 16)))], ([SB.mk false (.ints .u8 b), SB.mk true (.ints .u32 l)], [decide ((t : Int) + (1 : Int) < 16) = false, (-9223372036854775808) ≤ (t : Int) + 1 ∧ (t : Int) + (1 : Int) ≤ 9223372036854775807, decide ((k : Int) < 4) = false]))) := by kernel_rfl
theorem ro2R : (fun (b l : List Int) (o n c t : Nat) => stopV [0, 3, 6] [0, 1] (r2r (L2r.2.length + 1) [true] b l o n c t)) = fun b l o n c (t : Nat) => some (K2r, ([(0, .v (.one (.slice 0 (.s o) 1 (.s n) (.s c)))), (3, .v (.one (.slice 1 (.c 0) 1 (.c 64) (.c 64)))), (6, .v (.one (.sint .i64 ((t : Int) + 1))))], ([SB.mk false (.ints .u8 b), SB.mk true (.ints .u32 (List.set l t (IntKind.wrap .u32 (IntKind.wrap .u32 (IntKind.wrap .u32 (List.getD l (Int.toNat ((t : Int) - 16)) 0 + Go.bits Go.BinOp.xor .u32 (Go.bits Go.BinOp.xor .u32 ((rr (Int.toNat (List.getD l (Int.toNat ((t : Int) - 15)) 0)) 7) : Int) ((rr (Int.toNat (List.getD l (Int.toNat ((t : Int) - 15)) 0)) 18) : Int)) (↑(Int.toNat (List.getD l (Int.toNat ((t : Int) - 15)) 0) / 8) : Int)) + List.getD l (Int.toNat ((t : Int) - 7)) 0) + Go.bits Go.BinOp.xor .u32 (Go.bits Go.BinOp.xor .u32 ((rr (Int.toNat (List.getD l (Int.toNat ((t : Int) - 2)) 0)) 17) : Int) ((rr (Int.toNat (List.getD l (Int.toNat ((t : Int) - 2)) 0)) 19) : Int)) (↑(Int.toNat (List.getD l (Int.toNat ((t : Int) - 2)) 0) / 1024) : Int)))))], [(-9223372036854775808) ≤ (t : Int) + 1 ∧ (t : Int) + (1 : Int) ≤ 9223372036854775807, t < l.length, 0 ≤ (t : Int), (t : Int) < 64, Int.toNat ((t : Int) - 7) < l.length, 0 ≤ (t : Int) - 7, (t : Int) - (7 : Int) < 64, (-9223372036854775808) ≤ (t : Int) - 7 ∧ (t : Int) - (7 : Int) ≤ 9223372036854775807, Int.toNat ((t : Int) - 16) < l.length, 0 ≤ (t : Int) - 16, (t : Int) - (16 : Int) < 64, (-9223372036854775808) ≤ (t : Int) - 16 ∧ (t : Int) - (16 : Int) ≤ 9223372036854775807, 0 ≤ List.getD l (Int.toNat ((t : Int) - 2)) 0 ∧ List.getD l (Int.toNat ((t : Int) - 2)) (0 : Int) < 4294967296, (0 : Int) ≤ 10 ∧ (10 : Int) ≤ 31, 0 ≤ List.getD l (Int.toNat ((t : Int) - 2)) 0 ∧ List.getD l (Int.toNat ((t : Int) - 2)) (0 : Int) < 4294967296, (0 : Int) ≤ 19 ∧ (19 : Int) ≤ 31, 0 ≤ List.getD l (Int.toNat ((t : Int) - 2)) 0 ∧ List.getD l (Int.toNat ((t : Int) - 2)) (0 : Int) < 4294967296, (0 : Int) ≤ 17 ∧ (17 : Int) ≤ 31, 0 ≤ List.getD l (Int.toNat ((t : Int) - 15)) 0 ∧ List.getD l (Int.toNat ((t : Int) - 15)) (0 : Int) < 4294967296, (0 : Int) ≤ 3 ∧ (3 : Int) ≤ 31, 0 ≤ List.getD l (Int.toNat ((t : Int) - 15)) 0 ∧ List.getD l (Int.toNat ((t : Int) - 15)) (0 : Int) < 4294967296, (0 : Int) ≤ 18 ∧ (18 : Int) ≤ 31, 0 ≤ List.getD l (Int.toNat ((t : Int) - 15)) 0 ∧ List.getD l (Int.toNat ((t : Int) - 15)) (0 : Int) < 4294967296, (0 : Int) ≤ 7 ∧ (7 : Int) ≤ 31, Int.toNat ((t : Int) - 2) < l.length, 0 ≤ (t : Int) - 2, (t : Int) - (2 : Int) < 64, (-9223372036854775808) ≤ (t : Int) - 2 ∧ (t : Int) - (2 : Int) ≤ 9223372036854775807, Int.toNat ((t : Int) - 15) < l.length, 0 ≤ (t : Int) - 15, (t : Int) - (15 : Int) < 64, (-9223372036854775808) ≤ (t : Int) - 15 ∧ (t : Int) - (15 : Int) ≤ 9223372036854775807, decide ((t : Int) < 64) = true]))) := by kernel_rfl
theorem ro2X : (fun (b l : List Int) (o n c t : Nat) => endV [0, 1] (r2r 0 [false] b l o n c t)) = fun b l _ _ _ (t : Nat) => some (.v (.one (.slice 1 (.c 0) 1 (.c 64) (.c 64))), ([SB.mk false (.ints .u8 b), SB.mk true (.ints .u32 l)], [decide ((t : Int) < 64) = false])) := by kernel_rfl
end Go.Proofs.Ytbamfolinbehiaa
end
section
namespace Go.Proofs.Ytbamfolinbehiaa
open Go.ChangeShapes Go.WideShapes Go.ChangeAt Go.RowKit Go.Sx
theorem tur_tab : TabOk Try.prog 60 (numTab [.u32, .i64] gTuR) := numTab_ok fun ns hl hp => by
 match ns, hl with
 | [x, k], _ =>
  have h1 : 0 ≤ x ∧ x < 4294967296 := hp _ (by simp [gTuR])
  have h2 : 0 ≤ k ∧ k ≤ 31 := hp _ (by simp [gTuR])
  refine ⟨rfl, noBs (xs := [si .u32 x, si .i64 k]) ?_ ⟨_, _, rfl, ⟨rfl, rfl⟩, _, _, rfl, ⟨rfl, rfl⟩, rfl⟩⟩
  have := turned_works x.toNat k.toNat (by omega) (by omega)
  rw [show ((x.toNat : Nat) : Int) = x by omega, show ((k.toNat : Nat) : Int) = k by omega] at this
  exact this
theorem mvR_tab : TabOk Try.prog 70 (numTab [.u32, .i64] gMvR) := numTab_ok fun ns hl hp => by
 match ns, hl with
 | [x, k], _ =>
  have h1 : 0 ≤ x ∧ x < 4294967296 := hp _ (by simp [gMvR])
  have h2 : 0 ≤ k ∧ k ≤ 31 := hp _ (by simp [gMvR])
  refine ⟨rfl, noBs (xs := [si .u32 x, si .i64 k]) ?_ ⟨_, _, rfl, ⟨rfl, rfl⟩, _, _, rfl, ⟨rfl, rfl⟩, rfl⟩⟩
  have := moved_works x.toNat k.toNat (by omega) (by omega)
  rw [show ((x.toNat : Nat) : Int) = x by omega, show ((k.toNat : Nat) : Int) = k by omega] at this
  exact this
theorem tabRo_ok : ∀ f g, tabRo f = some g → TabOk Try.prog f g := tabs_ok fun x hx => by
 simp only [List.mem_cons, List.not_mem_nil, or_false] at hx
 rcases hx with rfl | rfl
 ·exact tur_tab
 ·exact mvR_tab
theorem callRo_ok (d : Nat) : CallOk Try.prog (callRo d) := callN_sound tabRo_ok d
theorem funRo : Try.prog.funcs[59]? = some (fnF 59) := by kernel_rfl
theorem bodRo : (fnF 59).body = some (bodyF 59) := by kernel_rfl
theorem tmpRo : 1 ≤ (fnF 59).ntmps := Nat.le_of_ble_eq_true (by kernel_rfl)
theorem nd01R : (List.range 1 ++ [1]).Nodup := by decide
theorem getI (b : List Int) (i : Nat) : (nats b).getD i 0 = (b.getD i 0).toNat := by
 simp only [nats, List.getD_eq_getElem?_getD, List.getElem?_map]
 cases b[i]? <;> rfl
theorem u8get {b : List Int} (h : u8L b) (i : Nat) : 0 ≤ b.getD i 0 ∧ b.getD i 0 < 256 := by
 rw [List.getD_eq_getElem?_getD]
 cases hi : b[i]? with
 | none => simp
 | some x => exact h x (List.mem_of_getElem? hi)
theorem or_low {a y : Nat} (hy : y < 256) : a * 256 % 4294967296 + y = a * 256 % 4294967296 ||| y := by
 have e : a * 256 % 4294967296 = 2 ^ 8 * (a % 16777216) := by omega
 rw [e]
 exact Nat.two_pow_add_eq_or_of_lt (show y < 2 ^ 8 by omega) _
theorem ld_int {w : List Nat} {b : List Int} {o t k : Nat} (hb : u8L b) (hw : wfW w) (ht : t < 16) (hk : k < 4) :
  (ci w).set t (IntKind.wrap .u32 (IntKind.wrap .u32 ((ci w).getD t 0 * 256) + b.getD (Nat.add o (Int.toNat (4 * (t : Int) + (k : Int)))) 0)) = ci (w.set ((4 * t + k) / 4) ((w.getD ((4 * t + k) / 4) 0 * 256) % 4294967296 ||| (partN b o 64).getD (4 * t + k) 0)) := by
 have e1 : (4 * t + k) / 4 = t := by omega
 have e2 : Nat.add o (Int.toNat (4 * (t : Int) + (k : Int))) = o + (4 * t + k) := by
  show o + Int.toNat (4 * (t : Int) + (k : Int)) = _
  omega
 have hg := u8get hb (o + (4 * t + k))
 obtain ⟨y, hy⟩ : ∃ y : Nat, b.getD (o + (4 * t + k)) 0 = (y : Int) := ⟨(b.getD (o + (4 * t + k)) 0).toNat, by omega⟩
 have hy2 : y < 256 := by omega
 rw [e1, e2, partN_get (by omega), getI, ci_get, hy, Int.toNat_natCast]
 clear hy hg e2 e1
 generalize w.getD t 0 = g
 rw [show (g : Int) * 256 = ((g * 256 : Nat) : Int) by omega, w32, ← Int.natCast_add, w32, or_low hy2, Nat.mod_eq_of_lt (or_lt (Nat.mod_lt _ (by decide)) (by omega)), ci_set]
theorem mvA_int {x : Nat} (h : x < 4294967296) : bits .xor .u32 (bits .xor .u32 ((rr x 7 : Nat) : Int) ((rr x 18 : Nat) : Int)) ((x / 8 : Nat) : Int) = ((movN x 7 18 3 : Nat) : Int) := by
 rw [bxor (rr_lt 7 h) (rr_lt 18 h), bxor (xor_lt (rr_lt 7 h) (rr_lt 18 h)) (dv_lt 8 h)]
 unfold movN
 rw [show (2 : Nat) ^ 3 = 8 from rfl]
theorem mvB_int {x : Nat} (h : x < 4294967296) : bits .xor .u32 (bits .xor .u32 ((rr x 17 : Nat) : Int) ((rr x 19 : Nat) : Int)) ((x / 1024 : Nat) : Int) = ((movN x 17 19 10 : Nat) : Int) := by
 rw [bxor (rr_lt 17 h) (rr_lt 19 h), bxor (xor_lt (rr_lt 17 h) (rr_lt 19 h)) (dv_lt 1024 h)]
 unfold movN
 rw [show (2 : Nat) ^ 10 = 1024 from rfl]
theorem sc_step {v : List Nat} (hv : wfW v) (hl : v.length = 64) (b : List Int) (o c s : Nat) (hs : s < 48) : ∃ ob, allP ob ∧
  stopV [0, 3, 6] [0, 1] (r2r (L2r.2.length + 1) [true] b (ci v) o 64 c (s + 16)) = some (K2r, [(0, oslR 0 o 64 c), (3, wS 1), (6, si .i64 (((s + 16 : Nat) : Int) + 1))], [roH b, wB (ci (v.set (s + 16) (m32 (m32 (m32 (v.getD s 0 + movN (v.getD (s + 1) 0) 7 18 3) + v.getD (s + 9) 0) + movN (v.getD (s + 14) 0) 17 19 10))))], ob) := by
 have q := cf6 ro2R b (ci v) o 64 c (s + 16)
 have i16 : Int.toNat (((s + 16 : Nat) : Int) - 16) = s := by omega
 have i15 : Int.toNat (((s + 16 : Nat) : Int) - 15) = s + 1 := by omega
 have i7 : Int.toNat (((s + 16 : Nat) : Int) - 7) = s + 9 := by omega
 have i2 : Int.toNat (((s + 16 : Nat) : Int) - 2) = s + 14 := by omega
 have g0 := wf_get hv s
 have g1 := wf_get hv (s + 1)
 have g9 := wf_get hv (s + 9)
 have g14 := wf_get hv (s + 14)
 simp only [i16, i15, i7, i2, ci_get, Int.toNat_natCast, ci_len, hl] at q
 generalize v.getD s 0 = A at *
 generalize v.getD (s + 1) 0 = X at *
 generalize v.getD (s + 9) 0 = B at *
 generalize v.getD (s + 14) 0 = Y at *
 rw [mvA_int g1, mvB_int g14, ← Int.natCast_add, w32, ← Int.natCast_add, w32, ← Int.natCast_add, w32, ci_set] at q
 refine ⟨_, ?_, q⟩
 simp only [allP]
 repeat' (first | exact trivial | refine And.intro ?_ ?_)
 all_goals first | omega | exact decide_eq_true (by omega)
theorem rolled_works (b : List Int) (o n c : Nat) (hn : n = 64) (ho : o + n ≤ b.length) (hb : u8L b) : Works Try.prog 59 [oslR 0 o n c] [roH b] (wS 1) [roH b, wB (ci (scN (ldN (partN b o 64) 64) 48))] := by
 subst hn
 have hp := partN_wf hb o 64
 have hW : wfW (ldN (partN b o 64) 64) := ldN_wf hp 64
 intro ρ K w us hm hu
 have hc : 64 ≤ c := by
  obtain ⟨u, s, _, ⟨⟨e, _, hu⟩, _⟩, _⟩ := hu
  rcases hu with ⟨h0, _⟩ | ⟨_, _, _, h1, _⟩
  ·simp only [N.v] at h0; omega
  ·exact h1
 refine works_goes funRo bodRo (by exact tmpRo) (fun ρ K W a w hρ hr => ?_) ρ K w us hm hu
 have i64k : ∀ x : Nat, x ≤ 1000 → (-9223372036854775808 : Int) ≤ (x : Int) + 1 ∧ (x : Int) + 1 ≤ 9223372036854775807 := fun x hx => ⟨by omega, by omega⟩
 -- the second loop
 have second : ∀ ρ' a w, RelD [] (ρ ++ ρ') K W (fnF 59).ntmps (T2r b (ci (ldN (partN b o 64) 64)) o 64 c 16 []) a w → Goes Try.prog 59 (RetW ρ K W (wS 1) [roH b, wB (ci (scN (ldN (partN b o 64) 64) 48))]) (.code (.loop L2r.1) :: L2r.2) a w := by
  intro ρ' a w hr
  refine loop_goes (I := Nat) (n := 1) (eff := fun _ => false) (Inv := fun s h => T2r b (ci (scN (ldN (partN b o 64) 64) s)) o 64 c (s + 16) h) (good := fun s => s ≤ 48) (μ := fun s => 48 - s) (callRo_ok 4) funRo (fun _ _ => ⟨rfl, rfl⟩) ?_ hρ (i := 0) (Nat.zero_le _) hr
  intro s hs
  have hl : (scN (ldN (partN b o 64) 64) s).length = 64 := by rw [scN_len, ldN_len]
  have hw := scN_wf hW s
  by_cases hlt : s < 48
  ·obtain ⟨ob, hob, q⟩ := sc_step hw hl b o c s hlt
   refine .round [true] [] _ _ [0, 3, 6] [1] _ _ _ (s + 1) q hob ⟨nd01R, ?_, ?_⟩ hlt (by omega)
   ·exact ⟨⟨rfl, rfl, rfl, rfl, rfl, Nat.le_refl _, hc⟩, ⟨rfl, rfl, rfl, rfl, rfl, Nat.le_refl _, Nat.le_refl _⟩, ⟨rfl, rfl, by omega⟩, trivial⟩
   ·exact ⟨⟨fun h => h, rfl, rfl⟩, ⟨fun h => h, rfl, rfl⟩, trivial⟩
  ·have hs48 : s = 48 := by omega
   subst hs48
   refine .stop [false] [] _ _ [1] _ _ _ (cf6 ro2X b (ci (scN (ldN (partN b o 64) 64) 48)) o 64 c (48 + 16)) ⟨decide_eq_false (by omega), trivial⟩ nd01R ?_ ?_
   ·exact ⟨rfl, rfl, rfl, rfl, Nat.le_refl _, Nat.le_refl _⟩
   ·exact ⟨⟨fun h => h, rfl, rfl⟩, ⟨fun h => h, rfl, rfl⟩, trivial⟩
 -- the first one, round and round
 refine goes_stop (ρ0 := ρ) (r := [1]) (ob := []) (T := T1r b (ci (ldN (partN b o 64) 0)) o 64 c 0 0 []) (callRo_ok 4) funRo (by rw [hρ]; exact cf3 roE b o 64 |> fun q => congrFun q c) trivial ⟨by rw [hρ]; exact nd01R, ?_, ?_⟩ (fun ρ2 a2 w2 h2 => ?_) (hr.hints (S' := ⟨argSlots 0 [oslR 0 o 64 c], [roH b], [], []⟩) rfl rfl)
 ·rw [hρ]; exact ⟨⟨rfl, rfl, rfl, rfl, rfl, Nat.le_refl _, hc⟩, ⟨rfl, rfl, rfl, rfl, rfl, Nat.le_refl _, Nat.le_refl _⟩, ⟨rfl, rfl, rfl⟩, ⟨rfl, rfl, rfl⟩, trivial⟩
 ·rw [hρ]; simp [T1r, leBs, leB, leCells, leL, leC, roH, wB, ldN, ci]
 refine loop3_goes (I := Nat × Nat) (eff := fun _ => false) (Inv := fun s h => T1r b (ci (ldN (partN b o 64) (4 * s.1 + s.2))) o 64 c s.1 s.2 h) (good := fun s => s.1 < 16 ∧ s.2 ≤ 4) (μ := fun s => (16 - s.1) * 5 + (4 - s.2)) (callRo_ok 4) funRo (fun _ _ => ⟨rfl, rfl⟩) ?_ (i := (0, 0)) ⟨by decide, by decide⟩ h2
 rintro ⟨t, k⟩ ⟨ht, hk⟩
 simp only at ht hk
 have hl : (ldN (partN b o 64) (4 * t + k)).length = 64 := ldN_len _ _
 have hw := ldN_wf hp (4 * t + k)
 by_cases hk4 : k < 4
 ·have q := cf7 roR b (ci (ldN (partN b o 64) (4 * t + k))) o 64 c t k
  have hg := u8get hb (Nat.add o (Int.toNat (4 * (t : Int) + (k : Int))))
  have hin : Nat.add o (Int.toNat (4 * (t : Int) + (k : Int))) < b.length := by
   show o + Int.toNat (4 * (t : Int) + (k : Int)) < _
   omega
  rw [ld_int hb hw ht hk4] at q
  refine .round [true] [] _ _ [0, 3, 4, 5] [1] _ _ _ (t, k + 1) (by rw [hρ]; exact q) ?_ ⟨by rw [hρ]; exact nd01R, ?_, ?_⟩ ⟨ht, hk4⟩ (by simp only; omega)
  ·simp only [ci_len, hl]
   exact ⟨by omega, by omega, by omega, by omega, by omega, hin, by omega, by omega, by omega, by omega, by omega, by omega, by omega, decide_eq_true (by omega), trivial⟩
  ·rw [hρ]; exact ⟨⟨rfl, rfl, rfl, rfl, rfl, Nat.le_refl _, hc⟩, ⟨rfl, rfl, rfl, rfl, rfl, Nat.le_refl _, Nat.le_refl _⟩, ⟨rfl, rfl, rfl⟩, ⟨rfl, rfl, rfl⟩, trivial⟩
  ·rw [hρ]; exact ⟨⟨fun h => h, rfl, rfl⟩, ⟨fun h => h, rfl, rfl⟩, trivial⟩
 ·have hk' : k = 4 := by omega
  subst hk'
  by_cases ht2 : t + 1 < 16
  ·have q := cf7 roN b (ci (ldN (partN b o 64) (4 * t + 4))) o 64 c t 4
   refine .next [false, true] [false] _ _ [0, 3, 4, 5] [1] _ _ [decide ((t : Int) + 1 < 16) = true, -9223372036854775808 ≤ (t : Int) + 1 ∧ (t : Int) + 1 ≤ 9223372036854775807, decide (((4 : Nat) : Int) < 4) = false] (t + 1, 0) (by rw [hρ]; exact q) ⟨decide_eq_true (by omega), ⟨by omega, by omega⟩, decide_eq_false (by omega), trivial⟩ ⟨by rw [hρ]; exact nd01R, ?_, ?_⟩ ⟨ht2, Nat.zero_le _⟩ (by simp only; omega)
   ·rw [hρ]; exact ⟨⟨rfl, rfl, rfl, rfl, rfl, Nat.le_refl _, hc⟩, ⟨rfl, rfl, rfl, rfl, rfl, Nat.le_refl _, Nat.le_refl _⟩, ⟨rfl, rfl, rfl⟩, ⟨rfl, rfl, rfl⟩, trivial⟩
   ·rw [hρ]; exact ⟨⟨fun h => h, rfl, rfl⟩, ⟨fun h => h, rfl, rfl⟩, trivial⟩
  ·have ht3 : t = 15 := by omega
   subst ht3
   refine .any fun ρ' a w hr' => ?_
   have q := cf7 roL b (ci (ldN (partN b o 64) 64)) o 64 c 15 4
   refine goes_stop (ρ0 := ρ) (r := [1]) (ob := [decide (((15 : Nat) : Int) + 1 < 16) = false, -9223372036854775808 ≤ ((15 : Nat) : Int) + 1 ∧ ((15 : Nat) : Int) + 1 ≤ 9223372036854775807, decide (((4 : Nat) : Int) < 4) = false]) (T := T2r b (ci (ldN (partN b o 64) 64)) o 64 c 16 []) (callRo_ok 4) funRo (by rw [hρ]; exact q) ⟨decide_eq_false (by omega), ⟨by omega, by omega⟩, decide_eq_false (by omega), trivial⟩ ⟨by rw [hρ]; exact nd01R, ?_, ?_⟩ second (hr'.hints (S' := T1r b (ci (ldN (partN b o 64) 64)) o 64 c 15 4 [false, false]) rfl rfl)
   ·rw [hρ]; exact ⟨⟨rfl, rfl, rfl, rfl, rfl, Nat.le_refl _, hc⟩, ⟨rfl, rfl, rfl, rfl, rfl, Nat.le_refl _, Nat.le_refl _⟩, ⟨rfl, rfl, rfl⟩, trivial⟩
   ·rw [hρ]; exact ⟨⟨fun h => h, rfl, rfl⟩, ⟨fun h => h, rfl, rfl⟩, trivial⟩
end Go.Proofs.Ytbamfolinbehiaa
end
section
namespace Go.Proofs.Ytbamfolinbehiaa
open Go.ChangeShapes Go.WideShapes Go.ChangeAt Go.RowKit Go.Sx
def cubesU : List UInt8 := [52, 50, 56, 97, 50, 102, 57, 56, 55, 49, 51, 55, 52, 52, 57, 49, 98, 53, 99, 48, 102, 98, 99, 102, 101, 57, 98, 53, 100, 98, 97, 53, 51, 57, 53, 54, 99, 50, 53, 98, 53, 57, 102, 49, 49, 49, 102, 49, 57, 50, 51, 102, 56, 50, 97, 52, 97, 98, 49, 99, 53, 101, 100, 53, 100, 56, 48, 55, 97, 97, 57, 56, 49, 50, 56, 51, 53, 98, 48, 49, 50, 52, 51, 49, 56, 53, 98, 101, 53, 53, 48, 99, 55, 100, 99, 51, 55, 50, 98, 101, 53, 100, 55, 52, 56, 48, 100, 101, 98, 49, 102, 101, 57, 98, 100, 99, 48, 54, 97, 55, 99, 49, 57, 98, 102, 49, 55, 52, 101, 52, 57, 98, 54, 57, 99, 49, 101, 102, 98, 101, 52, 55, 56, 54, 48, 102, 99, 49, 57, 100, 99, 54, 50, 52, 48, 99, 97, 49, 99, 99, 50, 100, 101, 57, 50, 99, 54, 102, 52, 97, 55, 52, 56, 52, 97, 97, 53, 99, 98, 48, 97, 57, 100, 99, 55, 54, 102, 57, 56, 56, 100, 97, 57, 56, 51, 101, 53, 49, 53, 50, 97, 56, 51, 49, 99, 54, 54, 100, 98, 48, 48, 51, 50, 55, 99, 56, 98, 102, 53, 57, 55, 102, 99, 55, 99, 54, 101, 48, 48, 98, 102, 51, 100, 53, 97, 55, 57, 49, 52, 55, 48, 54, 99, 97, 54, 51, 53, 49, 49, 52, 50, 57, 50, 57, 54, 55, 50, 55, 98, 55, 48, 97, 56, 53, 50, 101, 49, 98, 50, 49, 51, 56, 52, 100, 50, 99, 54, 100, 102, 99, 53, 51, 51, 56, 48, 100, 49, 51, 54, 53, 48, 97, 55, 51, 53, 52, 55, 54, 54, 97, 48, 97, 98, 98, 56, 49, 99, 50, 99, 57, 50, 101, 57, 50, 55, 50, 50, 99, 56, 53, 97, 50, 98, 102, 101, 56, 97, 49, 97, 56, 49, 97, 54, 54, 52, 98, 99, 50, 52, 98, 56, 98, 55, 48, 99, 55, 54, 99, 53, 49, 97, 51, 100, 49, 57, 50, 101, 56, 49, 57, 100, 54, 57, 57, 48, 54, 50, 52, 102, 52, 48, 101, 51, 53, 56, 53, 49, 48, 54, 97, 97, 48, 55, 48, 49, 57, 97, 52, 99, 49, 49, 54, 49, 101, 51, 55, 54, 99, 48, 56, 50, 55, 52, 56, 55, 55, 52, 99, 51, 52, 98, 48, 98, 99, 98, 53, 51, 57, 49, 99, 48, 99, 98, 51, 52, 101, 100, 56, 97, 97, 52, 97, 53, 98, 57, 99, 99, 97, 52, 102, 54, 56, 50, 101, 54, 102, 102, 51, 55, 52, 56, 102, 56, 50, 101, 101, 55, 56, 97, 53, 54, 51, 54, 102, 56, 52, 99, 56, 55, 56, 49, 52, 56, 99, 99, 55, 48, 50, 48, 56, 57, 48, 98, 101, 102, 102, 102, 97, 97, 52, 53, 48, 54, 99, 101, 98, 98, 101, 102, 57, 97, 51, 102, 55, 99, 54, 55, 49, 55, 56, 102, 50]
def squaresU : List UInt8 := [54, 97, 48, 57, 101, 54, 54, 55, 98, 98, 54, 55, 97, 101, 56, 53, 51, 99, 54, 101, 102, 51, 55, 50, 97, 53, 52, 102, 102, 53, 51, 97, 53, 49, 48, 101, 53, 50, 55, 102, 57, 98, 48, 53, 54, 56, 56, 99, 49, 102, 56, 51, 100, 57, 97, 98, 53, 98, 101, 48, 99, 100, 49, 57]
noncomputable def prR (s : List UInt8) (i : Nat) := retV [] (call0 4 58 [.v (.one (.str s)), .v (.one (.int .i64 i))] [] [])
def okP (m : Nat) : Option (V × List SB × List Prop) → Bool
 | some (.v (.one (.int .u32 k)), [], []) => decide (k = (m : Int))
 | _ => false
theorem okP_spec {m : Nat} {r : Option (V × List SB × List Prop)} (h : okP m r = true) : r = some (.v (.one (.int .u32 (m : Int))), [], []) := by
 unfold okP at h
 split at h
 ·rw [of_decide_eq_true h]
 ·cases h
theorem prC0 : ((List.range 16).all fun i => okP (RN.getD (0 + i) 0) (prR cubesU (0 + i))) = true := by kernel_rfl
theorem prC16 : ((List.range 16).all fun i => okP (RN.getD (16 + i) 0) (prR cubesU (16 + i))) = true := by kernel_rfl
theorem prC32 : ((List.range 16).all fun i => okP (RN.getD (32 + i) 0) (prR cubesU (32 + i))) = true := by kernel_rfl
theorem prC48 : ((List.range 16).all fun i => okP (RN.getD (48 + i) 0) (prR cubesU (48 + i))) = true := by kernel_rfl
theorem prS : ((List.range 8).all fun i => okP (RN.getD (64 + i) 0) (prR squaresU i)) = true := by kernel_rfl
theorem pr_at {a : Nat} (h : ((List.range 16).all fun i => okP (RN.getD (a + i) 0) (prR cubesU (a + i))) = true) {i : Nat} (h0 : a ≤ i) (h1 : i < a + 16) : prR cubesU i = some (.v (.one (.int .u32 ((RN.getD i 0 : Nat) : Int))), [], []) := by
 have := List.all_eq_true.1 h (i - a) (List.mem_range.2 (by omega))
 rw [show a + (i - a) = i by omega] at this
 exact okP_spec this
theorem pr_cubes {i : Nat} (h : i < 64) : prR cubesU i = some (.v (.one (.int .u32 ((RN.getD i 0 : Nat) : Int))), [], []) := by
 by_cases h1 : i < 16
 ·exact pr_at prC0 (by omega) (by omega)
 by_cases h2 : i < 32
 ·exact pr_at prC16 (by omega) (by omega)
 by_cases h3 : i < 48
 ·exact pr_at prC32 (by omega) (by omega)
 ·exact pr_at prC48 (by omega) (by omega)
theorem pr_squares {i : Nat} (h : i < 8) : prR squaresU i = some (.v (.one (.int .u32 ((RN.getD (64 + i) 0 : Nat) : Int))), [], []) :=
 okP_spec (List.all_eq_true.1 prS i (List.mem_range.2 h))
def gPrR : List V → List Bool → Option Made := fun args h => match args with
 | [.v (.one (.str s)), x] => match ivs [.i64] [x] with
  | some [n] => match decide (s = cubesU) with
   | true => some (si .u32 ((RN.getD n.toNat 0 : Nat) : Int), [], h, [0 ≤ n ∧ n < 64])
   | false => match decide (s = squaresU) with
    | true => some (si .u32 ((RN.getD (64 + n.toNat) 0 : Nat) : Int), [], h, [0 ≤ n ∧ n < 8])
    | false => none
  | _ => none
 | _ => none
theorem pr_makes {s : List UInt8} {n : Int} {m : Nat} (h0 : 0 ≤ n) (h : prR s n.toNat = some (.v (.one (.int .u32 (m : Int))), [], [])) : Makes Try.prog 58 [.string ⟨s.toArray⟩, .int .i64 n] (si .u32 (m : Int)) [] := by
 refine makes_of (v := si .u32 (m : Int)) (bs := []) no_tabs h trivial (by simp) ⟨rfl, rfl⟩ trivial ⟨_, _, rfl, ⟨rfl, rfl⟩, _, _, rfl, ⟨?_, rfl⟩, rfl⟩
 show Value.int .i64 n = Value.int .i64 ((n.toNat : Nat) : Int)
 rw [show ((n.toNat : Nat) : Int) = n by omega]
theorem pr_tab : TabOk Try.prog 58 (fresh gPrR) := fresh_ok fun args h v bs h' ob hg hob => by
 unfold gPrR at hg
 split at hg
 ·rename_i s x
  split at hg
  ·rename_i n hn
   have key : ∀ {ρ : Env} {us : List Value}, relVs ρ [.v (.one (.str s)), x] us → us = [.string ⟨s.toArray⟩, .int .i64 n] := by
    intro ρ us hu
    obtain ⟨u1, s1, rfl, ⟨r1, _⟩, u2, s2, rfl, r2, h3⟩ := hu
    simp only [relVs] at h3; subst h3
    simp only [C.rel] at r1; subst r1
    rw [ivOf_rel' hn r2]
   split at hg
   ·rename_i hs
    have hs := of_decide_eq_true hs
    cases hg
    have hb : 0 ≤ n ∧ n < 64 := hob _ (by simp)
    refine ⟨rfl, fun ρ us hu => ?_⟩
    rw [key hu, hs]
    exact pr_makes hb.1 (pr_cubes (by omega))
   ·split at hg
    ·rename_i hs
     have hs := of_decide_eq_true hs
     cases hg
     have hb : 0 ≤ n ∧ n < 8 := hob _ (by simp)
     refine ⟨rfl, fun ρ us hu => ?_⟩
     rw [key hu, hs]
     exact pr_makes hb.1 (pr_squares (by omega))
    ·cases hg
  ·cases hg
 ·cases hg
end Go.Proofs.Ytbamfolinbehiaa
end
