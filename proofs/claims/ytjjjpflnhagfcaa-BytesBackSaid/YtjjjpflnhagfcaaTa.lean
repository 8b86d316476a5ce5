/- What Uint and Int come to: bytes behind bytes. Varints, as lists of numbers. bytes.GetUint: what each path comes to. bytes.GetUint: what it comes to, and the contract. bytes.GetUint: the contract. bytes.GetInt, bytes.GetBlob: their runs. bytes.GetInt, bytes.GetBlob: the contracts. What is put is got, and what is got was put: varints. The reference's Varint and GetUint: their runs. The reference's Varint and GetUint: the contracts. The reference's GetInt and GetBlob: their runs. The reference's GetInt and GetBlob: the contracts. The reference's Uint and Int: their runs. The reference's Uint and Int: the contracts. -/
import Derived.Test.YtjjjpflnhagfcaaRows
import Derived.Test.YtjjjpflnhagfcaaSxAE
import Derived.Test.YtjjjpflnhagfcaaSxAG
import Derived.Laws.DeepNot64
namespace Go.Proofs.Ytjjjpflnhagfcaa
section
open Go.ChangeShapes Go.WideShapes Go.ChangeAt Go.RowKit Go.Sx
theorem own : ownKnob Try.prog.godebug = none := by kernel_rfl
theorem laidOut : laidOutB Try.prog = true := by kernel_rfl
noncomputable def call0 (d : Nat) := callN Try.prog (fun _ => none) (fun _ => false) 100000 d
def si (k : IntKind) (n : Int) : V := .v (.one (.sint k n))
def rep (b : Bool) (n : Nat) : List Bool := List.replicate n b
/-- bytes, all of a block, as a value -/
def bsl (b n c : Nat) : V := .v (.one (.slice b (.c 0) 1 (.s n) (.s c)))
/-- a varint's bytes -/
def vintN (n : Nat) : List Int := if n < 128 then [(n : Int)] else ((128 + n % 128 : Nat) : Int) :: vintN (n / 128)
termination_by n
decreasing_by omega
def vint (n : Int) : List Int := vintN n.toNat
def vb : Nat → Int → List Int
  | 0, n => [IntKind.wrap .u8 n]
  | j + 1, n => IntKind.wrap .u8 (IntKind.wrap .u8 (n.tmod 128) + 128) :: vb j (n.tdiv 128)
def vo : Nat → Int → List Prop
  | 0, n => [decide (128 ≤ n) = false]
  | j + 1, n => vo j (n.tdiv 128) ++ [inK .u64 (n.tdiv 128), decide (128 ≤ n) = true]
def lenB (j b : Nat) : V := .v (.one (.slice b (.c 0) 1 (.c (j + 1)) (.c (j + 1))))
def lenS (j b a : Nat) : V := .v (.one (.slice b (.c 0) 1 (.s (a + (j + 1))) (.s (a + (j + 1)))))
def sints (l : List Int) : List C := l.map (C.sint .u8)
noncomputable def uN (j : Nat) (n : Int) := retV [1] (call0 3 11 [.v (.one .nils), si .u64 n] [] (rep true j ++ [false]))
noncomputable def uS (j : Nat) (n : Int) (l : List Int) (a c : Nat) := retV [0, 2] (call0 3 11 [bsl 0 a c, si .u64 n] [⟨true, .ints .u8 l⟩] (rep true j ++ [false, true]))
def uNr (j : Nat) (n : Int) : Option (V × List SB × List Prop) := some (lenB j 1, [⟨true, .exp (sints (vb j n))⟩], vo j n)
def uSr (j : Nat) (n : Int) (l : List Int) (a : Nat) : Option (V × List SB × List Prop) := some (lenS j 2 a, [⟨true, .dead⟩, ⟨true, .ints .u8 (l ++ vb j n)⟩], [(0 : Nat) = 0, a = l.length, (a + (j + 1)) * 1 ≤ 140737488355328, a + (j + 1) ≤ 9223372036854775807] ++ vo j n)
theorem uN0 : (fun n => uN 0 n) = fun n => uNr 0 n := by kernel_rfl
theorem uS0 : (fun n l a c => uS 0 n l a c) = fun n l a _ => uSr 0 n l a := by kernel_rfl
theorem uN1 : (fun n => uN 1 n) = fun n => uNr 1 n := by kernel_rfl
theorem uS1 : (fun n l a c => uS 1 n l a c) = fun n l a _ => uSr 1 n l a := by kernel_rfl
theorem uN2 : (fun n => uN 2 n) = fun n => uNr 2 n := by kernel_rfl
theorem uS2 : (fun n l a c => uS 2 n l a c) = fun n l a _ => uSr 2 n l a := by kernel_rfl
theorem uN3 : (fun n => uN 3 n) = fun n => uNr 3 n := by kernel_rfl
theorem uS3 : (fun n l a c => uS 3 n l a c) = fun n l a _ => uSr 3 n l a := by kernel_rfl
theorem uN4 : (fun n => uN 4 n) = fun n => uNr 4 n := by kernel_rfl
theorem uS4 : (fun n l a c => uS 4 n l a c) = fun n l a _ => uSr 4 n l a := by kernel_rfl
theorem uN5 : (fun n => uN 5 n) = fun n => uNr 5 n := by kernel_rfl
theorem uS5 : (fun n l a c => uS 5 n l a c) = fun n l a _ => uSr 5 n l a := by kernel_rfl
theorem uN6 : (fun n => uN 6 n) = fun n => uNr 6 n := by kernel_rfl
theorem uS6 : (fun n l a c => uS 6 n l a c) = fun n l a _ => uSr 6 n l a := by kernel_rfl
theorem uN7 : (fun n => uN 7 n) = fun n => uNr 7 n := by kernel_rfl
theorem uS7 : (fun n l a c => uS 7 n l a c) = fun n l a _ => uSr 7 n l a := by kernel_rfl
theorem uN8 : (fun n => uN 8 n) = fun n => uNr 8 n := by kernel_rfl
theorem uS8 : (fun n l a c => uS 8 n l a c) = fun n l a _ => uSr 8 n l a := by kernel_rfl
theorem uN9 : (fun n => uN 9 n) = fun n => uNr 9 n := by kernel_rfl
theorem uS9 : (fun n l a c => uS 9 n l a c) = fun n l a _ => uSr 9 n l a := by kernel_rfl
theorem uN_all (n : Int) : ∀ j, j < 10 → uN j n = uNr j n
  | 0, _ => congrFun uN0 n | 1, _ => congrFun uN1 n | 2, _ => congrFun uN2 n | 3, _ => congrFun uN3 n | 4, _ => congrFun uN4 n
  | 5, _ => congrFun uN5 n | 6, _ => congrFun uN6 n | 7, _ => congrFun uN7 n | 8, _ => congrFun uN8 n | 9, _ => congrFun uN9 n
  | _ + 10, h => absurd h (by omega)
theorem uS_all (n : Int) (l : List Int) (a c : Nat) : ∀ j, j < 10 → uS j n l a c = uSr j n l a
  | 0, _ => congrFun (congrFun (congrFun (congrFun uS0 n) l) a) c | 1, _ => congrFun (congrFun (congrFun (congrFun uS1 n) l) a) c
  | 2, _ => congrFun (congrFun (congrFun (congrFun uS2 n) l) a) c | 3, _ => congrFun (congrFun (congrFun (congrFun uS3 n) l) a) c
  | 4, _ => congrFun (congrFun (congrFun (congrFun uS4 n) l) a) c | 5, _ => congrFun (congrFun (congrFun (congrFun uS5 n) l) a) c
  | 6, _ => congrFun (congrFun (congrFun (congrFun uS6 n) l) a) c | 7, _ => congrFun (congrFun (congrFun (congrFun uS7 n) l) a) c
  | 8, _ => congrFun (congrFun (congrFun (congrFun uS8 n) l) a) c | 9, _ => congrFun (congrFun (congrFun (congrFun uS9 n) l) a) c
  | _ + 10, h => absurd h (by omega)
theorem allP_app : ∀ {l r : List Prop}, allP l → allP r → allP (l ++ r)
  | [], _, _, h => h
  | _ :: _, _, h, h' => ⟨h.1, allP_app h.2 h'⟩
theorem vb_length : ∀ (j : Nat) (n : Int), (vb j n).length = j + 1
  | 0, _ => rfl
  | j + 1, n => by simp [vb, vb_length j]
theorem w8 {n : Int} (h0 : 0 ≤ n) (h1 : n < 256) : IntKind.wrap .u8 n = n := by
  refine wrap_in ⟨?_, ?_⟩ <;> simp [IntKind.min, IntKind.max, IntKind.signed, IntKind.bits] <;> omega
theorem w64 {n : Int} (h0 : 0 ≤ n) (h1 : n ≤ 18446744073709551615) : IntKind.wrap .u64 n = n := by
  refine wrap_in ⟨?_, ?_⟩ <;> simp [IntKind.min, IntKind.max, IntKind.signed, IntKind.bits] <;> omega
/-- one way is the way of a number, and yields its bytes -/
theorem vb_way : ∀ (j : Nat) (n : Int), 0 ≤ n → n ≤ 18446744073709551615 → n < 128 ^ (j + 1) → ∃ i, i ≤ j ∧ vb i n = vint n ∧ allP (vo i n)
  | 0, n, h0, _, h => by
    refine ⟨0, Nat.le_refl _, ?_, ?_⟩
    · have : n < 128 := by simpa using h
      unfold vb vint vintN
      rw [if_pos (by omega), w8 h0 (by omega)]
      congr 1; omega
    · have : n < 128 := by simpa using h
      simp [vo, allP]; omega
  | j + 1, n, h0, h1, h => by
    by_cases hs : n < 128
    · refine ⟨0, Nat.zero_le _, ?_, ?_⟩
      · unfold vb vint vintN
        rw [if_pos (by omega), w8 h0 (by omega)]
        congr 1; omega
      · simp [vo, allP]; omega
    · have hd : n.tdiv 128 = n / 128 := Int.tdiv_eq_ediv_of_nonneg h0
      have hm : n.tmod 128 = n % 128 := Int.tmod_eq_emod_of_nonneg h0
      have hlt : n / 128 < 128 ^ (j + 1) := by
        rw [Int.pow_succ] at h
        exact Int.ediv_lt_of_lt_mul (by omega) h
      obtain ⟨i, hi, h2, h3⟩ := vb_way j (n / 128) (by omega) (by omega) hlt
      refine ⟨i + 1, by omega, ?_, ?_⟩
      · unfold vb vint vintN
        rw [if_neg (by omega), hd, h2, hm, w8 (n := n % 128) (by omega) (by omega), w8 (by omega) (by omega)]
        congr 1
        · omega
        · unfold vint; congr 1; omega
      · simp only [vo]
        rw [hd]
        refine allP_app h3 ⟨⟨?_, ?_⟩, ?_, trivial⟩
        · simp [IntKind.min, IntKind.signed]; omega
        · simp [IntKind.max, IntKind.signed, IntKind.bits]; omega
        · simp; omega
theorem way_of {n : Int} (h0 : 0 ≤ n) (h1 : n ≤ 18446744073709551615) : ∃ i, i < 10 ∧ vb i n = vint n ∧ allP (vo i n) ∧ (vint n).length = i + 1 := by
  obtain ⟨i, h2, h3, h4⟩ := vb_way 9 n h0 h1 (by omega)
  exact ⟨i, by omega, h3, h4, by rw [← h3]; exact vb_length i n⟩
def u64 (n : Int) : Prop := 0 ≤ n ∧ n ≤ 18446744073709551615
/-- bytes that are asked for as own ones -/
def ownB1 : List V → List Want
  | .v (.one (.slice _ _ _ _ _)) :: _ => [(true, .ints .u8)]
  | _ => []
/-- a function that puts so many bytes behind bytes -/
def putL (k : IntKind) (f : Int → List Int) (pre : Int → Prop) : Sx.Loc := fun args bs => match args, bs with
  | [.v (.one .nils), .v (.one (.sint k' n))], [] => match decide (k' = k) with
    | true => some (bsl 0 (f n).length (f n).length, [⟨true, .ints .u8 (f n)⟩], [pre n])
    | false => none
  | [.v (.one (.slice 0 (.c 0) 1 (.s a) (.s _))), .v (.one (.sint k' n))], [⟨true, .ints .u8 l⟩] => match decide (k' = k) with
    | true => some (bsl 1 (l ++ f n).length (l ++ f n).length, [⟨true, .dead⟩, ⟨true, .ints .u8 (l ++ f n)⟩], [pre n, a = l.length, l.length + 10 ≤ 140737488355328])
    | false => none
  | _, _ => none
theorem putL_ok {g : FuncId} {k : IntKind} {f : Int → List Int} {pre : Int → Prop}
    (h1 : ∀ n, pre n → Works Try.prog g [.v (.one .nils), si k n] [] (bsl 0 (f n).length (f n).length) [⟨true, .ints .u8 (f n)⟩])
    (h2 : ∀ n (l : List Int) (c : Nat), pre n → l.length + 10 ≤ 140737488355328 → Works Try.prog g [bsl 0 l.length c, si k n] [⟨true, .ints .u8 l⟩] (bsl 1 (l ++ f n).length (l ++ f n).length) [⟨true, .dead⟩, ⟨true, .ints .u8 (l ++ f n)⟩]) :
    TabOk Try.prog g (loc ownB1 (putL k f pre)) := loc_ok fun xs bs v bs' ob hg hob hok => by
  clear hok
  unfold putL at hg
  split at hg
  · rename_i k' n
    split at hg
    · rename_i hk
      have hk := of_decide_eq_true hk; subst hk
      injection hg with hg; injection hg with e1 e2; injection e2 with e2 e3
      subst e1; subst e2; subst e3
      exact h1 n (hob _ (by simp))
    · cases hg
  · rename_i a c k' n l
    split at hg
    · rename_i hk
      have hk := of_decide_eq_true hk; subst hk
      injection hg with hg; injection hg with e1 e2; injection e2 with e2 e3
      subst e1; subst e2; subst e3
      have ha : a = l.length := hob _ (by simp)
      subst ha
      exact h2 n l c (hob _ (by simp)) (hob _ (by simp))
    · cases hg
  · cases hg
theorem sints_le (sel : List Nat) : ∀ l : List Int, leL sel (sints l) (l.map (C.sint .u8))
  | [] => trivial
  | _ :: r => ⟨⟨rfl, rfl⟩, sints_le sel r⟩
theorem uint_nil (n : Int) (h : u64 n) : Works Try.prog 11 [.v (.one .nils), si .u64 n] [] (bsl 0 (vint n).length (vint n).length) [⟨true, .ints .u8 (vint n)⟩] := by
  obtain ⟨i, hi, h1, h2, h3⟩ := way_of h.1 h.2
  refine works_of (v := bsl 0 (vint n).length (vint n).length) (bs' := [⟨true, .ints .u8 (vint n)⟩]) (r := [1]) no_tabs (uN_all n i hi) h2 (by decide) ⟨rfl, rfl, rfl, ?_, ?_, ?_⟩ ⟨⟨fun h => h, ?_⟩, trivial⟩
  · simp [N.v, h3]
  · simp [N.v, h3]
  · simp [N.v, h3]
  · show leL _ (sints (vb i n)) ((vint n).map (C.sint .u8))
    rw [h1]; exact sints_le _ _
theorem uint_own (n : Int) (l : List Int) (c : Nat) (h : u64 n) (hl : l.length + 10 ≤ 140737488355328) :
    Works Try.prog 11 [bsl 0 l.length c, si .u64 n] [⟨true, .ints .u8 l⟩] (bsl 1 (l ++ vint n).length (l ++ vint n).length) [⟨true, .dead⟩, ⟨true, .ints .u8 (l ++ vint n)⟩] := by
  obtain ⟨i, hi, h1, h2, h3⟩ := way_of h.1 h.2
  refine works_of (v := bsl 1 (l ++ vint n).length (l ++ vint n).length) (bs' := [⟨true, .dead⟩, ⟨true, .ints .u8 (l ++ vint n)⟩]) (r := [2]) no_tabs (uS_all n l l.length c i hi) ?_ (show (List.range 1 ++ [2]).Nodup by decide) ⟨rfl, rfl, rfl, ?_, ?_, ?_⟩ ⟨⟨fun h => h, trivial⟩, ⟨fun h => h, ?_⟩, trivial⟩
  · exact allP_app ⟨rfl, rfl, by omega, by omega, trivial⟩ h2
  · simp [N.v, h3]
  · simp [N.v, h3]
  · simp [N.v, h3]
  · exact ⟨rfl, by rw [h1]⟩
theorem uint_tab : TabOk Try.prog 11 (loc ownB1 (putL .u64 vint u64)) := putL_ok uint_nil uint_own

/-! ### numbers that may be below 0 -/
def zz (n : Int) : Int := if n < 0 then -1 - 2 * n else 2 * n
def i64 (n : Int) : Prop := -9223372036854775808 ≤ n ∧ n ≤ 9223372036854775807
theorem xor_ones {m : Int} (h0 : 0 ≤ m) (h1 : m ≤ 18446744073709551615) : bits .xor .u64 (IntKind.max .u64) m = 18446744073709551615 - m := by
  have hm : ∃ k : Nat, m = k ∧ k < 2 ^ 64 := ⟨m.toNat, by omega, by omega⟩
  obtain ⟨k, rfl, hk⟩ := hm
  have e1 : BitVec.ofInt 64 (IntKind.max .u64) = BitVec.allOnes 64 := by decide
  have e2 : BitVec.ofInt 64 ((k : Nat) : Int) = BitVec.ofNat 64 k := by simp
  have e3 : (BitVec.allOnes 64 ^^^ BitVec.ofNat 64 k).toNat = 2 ^ 64 - 1 - k := by
    rw [BitVec.allOnes_xor, BitVec.toNat_not, BitVec.toNat_ofNat, Nat.mod_eq_of_lt hk]
  show IntKind.wrap .u64 (((BitVec.ofInt 64 (IntKind.max .u64) ^^^ BitVec.ofInt 64 (k : Int)).toNat : Nat) : Int) = _
  rw [e1, e2, e3, w64 (by omega) (by omega)]
  omega
noncomputable def plc (h : List Bool) (n : Int) := retV [] (call0 3 35 [si .i64 n] [] h)
theorem place_neg : (fun n => plc [true] n) = fun n => some (si .u64 (bits .xor .u64 (IntKind.max .u64) (IntKind.wrap .u64 (IntKind.wrap .u64 n * 2))), [], [decide (n < 0) = true]) := by kernel_rfl
theorem place_pos : (fun n => plc [false] n) = fun n => some (si .u64 (IntKind.wrap .u64 (IntKind.wrap .u64 n * 2)), [], [decide (n < 0) = false]) := by kernel_rfl
theorem zz_u64 {n : Int} (h : i64 n) : u64 (zz n) := by unfold i64 at h; unfold u64 zz; split <;> omega
theorem wrap_u64 (n : Int) : IntKind.wrap .u64 n = n % 18446744073709551616 := by
  simp [IntKind.wrap, IntKind.signed, IntKind.bits]
theorem place_val {n : Int} (h : i64 n) : (if n < 0 then bits .xor .u64 (IntKind.max .u64) (IntKind.wrap .u64 (IntKind.wrap .u64 n * 2)) else IntKind.wrap .u64 (IntKind.wrap .u64 n * 2)) = zz n := by
  unfold i64 at h
  have e : IntKind.wrap .u64 (IntKind.wrap .u64 n * 2) = if n < 0 then 18446744073709551616 + 2 * n else 2 * n := by
    rw [wrap_u64, wrap_u64]; split <;> omega
  rw [e]
  unfold zz
  split
  · rw [xor_ones (by omega) (by omega)]; omega
  · rfl
def gPlace : List Int → V × List SB × List Prop
  | [n] => (si .u64 (zz n), [], [i64 n])
  | _ => (.tup [], [], [False])
theorem place_tab : TabOk Try.prog 35 (numTab [.i64] gPlace) := numTab_ok fun ns hl hp => by
  match ns, hl with
  | [n], _ =>
    have h : i64 n := hp _ (by simp [gPlace])
    have hv := place_val h
    refine ⟨rfl, ?_⟩
    by_cases hn : n < 0
    · rw [if_pos hn] at hv
      exact makes_of (v := si .u64 (zz n)) (bs := []) no_tabs (congrFun place_neg n) (by simp [allP, hn]) (by simp) ⟨rfl, hv⟩ trivial ⟨_, _, rfl, ⟨rfl, rfl⟩, rfl⟩
    · rw [if_neg hn] at hv
      exact makes_of (v := si .u64 (zz n)) (bs := []) no_tabs (congrFun place_pos n) (by simp [allP, hn]) (by simp) ⟨rfl, hv⟩ trivial ⟨_, _, rfl, ⟨rfl, rfl⟩, rfl⟩
def tabU := tabs [(11, loc ownB1 (putL .u64 vint u64)), (35, numTab [.i64] gPlace)]
noncomputable def callU (d : Nat) := callN Try.prog tabU (fun f => Nat.beq f 11) 100000 d
theorem tabU_ok : ∀ f g, tabU f = some g → TabOk Try.prog f g := tabs_ok fun x hx => by
  simp only [List.mem_cons, List.not_mem_nil, or_false] at hx
  rcases hx with rfl | rfl
  · exact uint_tab
  · exact place_tab
def svint (n : Int) : List Int := vint (zz n)
theorem iN : (fun n => retV [0] (callU 3 13 [.v (.one .nils), si .i64 n] [] [])) = fun n => some (bsl 0 (svint n).length (svint n).length, [⟨true, .ints .u8 (svint n)⟩], [u64 (zz n), i64 n]) := by kernel_rfl
theorem iS : (fun (n : Int) (l : List Int) (a c : Nat) => retV [0, 1] (callU 3 13 [bsl 0 a c, si .i64 n] [⟨true, .ints .u8 l⟩] [])) = fun n l a _ => some (bsl 1 (l ++ svint n).length (l ++ svint n).length, [⟨true, .dead⟩, ⟨true, .ints .u8 (l ++ svint n)⟩],
  [u64 (zz n), a = l.length, l.length + 10 ≤ 140737488355328, i64 n]) := by kernel_rfl
theorem int_tab : TabOk Try.prog 13 (loc ownB1 (putL .i64 svint i64)) := putL_ok
  (fun n h => works_of (v := bsl 0 (svint n).length (svint n).length) (bs' := [⟨true, .ints .u8 (svint n)⟩]) (r := [0]) tabU_ok (congrFun iN n) ⟨zz_u64 h, h, trivial⟩ (by decide)
    ⟨rfl, rfl, rfl, rfl, Nat.le_refl _, Nat.le_refl _⟩ ⟨⟨fun h => h, rfl, rfl⟩, trivial⟩)
  (fun n l c h hl => works_of (v := bsl 1 (l ++ svint n).length (l ++ svint n).length) (bs' := [⟨true, .dead⟩, ⟨true, .ints .u8 (l ++ svint n)⟩]) (r := [1]) tabU_ok (congrFun (congrFun (congrFun (congrFun iS n) l) l.length) c) ⟨zz_u64 h, rfl, hl, h, trivial⟩ (show (List.range 1 ++ [1]).Nodup by decide)
    ⟨rfl, rfl, rfl, rfl, Nat.le_refl _, Nat.le_refl _⟩ ⟨⟨fun h => h, trivial⟩, ⟨fun h => h, rfl, rfl⟩, trivial⟩)
end
section
theorem vintN_small {n : Nat} (h : n < 128) : vintN n = [(n : Int)] := by unfold vintN; rw [if_pos h]
theorem vintN_big {n : Nat} (h : ¬ n < 128) : vintN n = ((128 + n % 128 : Nat) : Int) :: vintN (n / 128) := by rw [vintN]; rw [if_neg h]
theorem vintN_pos (n : Nat) : 0 < (vintN n).length := by
  by_cases h : n < 128
  · rw [vintN_small h]; simp
  · rw [vintN_big h]; simp
/-- what bytes say -/
def valL : List Int → Nat
  | [] => 0
  | x :: r => x.toNat % 128 + 128 * valL r
theorem val_vint : ∀ n : Nat, valL (vintN n) = n := fun n => by
  induction n using Nat.strongRecOn with
  | _ n ih =>
    by_cases h : n < 128
    · rw [vintN_small h]; simp [valL]; omega
    · rw [vintN_big h]
      simp only [valL]
      rw [ih (n / 128) (by omega)]
      omega
theorem vintN_inj {n m : Nat} (h : vintN n = vintN m) : n = m := by rw [← val_vint n, h, val_vint]
theorem vintN_byte : ∀ n : Nat, ∀ x ∈ vintN n, 0 ≤ x ∧ x < 256 := fun n => by
  induction n using Nat.strongRecOn with
  | _ n ih =>
    intro x hx
    by_cases h : n < 128
    · rw [vintN_small h] at hx; simp at hx; omega
    · rw [vintN_big h] at hx
      rcases List.mem_cons.1 hx with rfl | hx
      · omega
      · exact ih (n / 128) (by omega) x hx
theorem vintN_mono : ∀ n m : Nat, n ≤ m → (vintN n).length ≤ (vintN m).length := fun n => by
  induction n using Nat.strongRecOn with
  | _ n ih =>
    intro m h
    by_cases hn : n < 128
    · rw [vintN_small hn]; exact vintN_pos m
    · have hm : ¬ m < 128 := by omega
      rw [vintN_big hn, vintN_big hm]
      have := ih (n / 128) (by omega) (m / 128) (by omega)
      simp; omega
/-- of two numbers with as many bytes: where they differ highest, the lower one is less -/
theorem vintN_top : ∀ (n m : Nat) (i : Nat), n ≤ m → (vintN n).length = (vintN m).length → (∀ j, i < j → (vintN n)[j]? = (vintN m)[j]?) → (vintN n).getD i 0 ≠ (vintN m).getD i 0 → (vintN n).getD i 0 < (vintN m).getD i 0 := fun n => by
  induction n using Nat.strongRecOn with
  | _ n ih =>
    intro m i h hl ht hne
    by_cases hn : n < 128
    · have hm : m < 128 := by
        rcases Nat.lt_or_ge m 128 with hm | hm
        · exact hm
        · rw [vintN_small hn, vintN_big (by omega)] at hl
          have := vintN_pos (m / 128)
          simp only [List.length_cons, List.length_nil] at hl; omega
      rw [vintN_small hn, vintN_small hm] at hne ⊢
      cases i with
      | zero => simp at hne ⊢; omega
      | succ i => simp at hne
    · have hm : ¬ m < 128 := by
        intro hm
        rw [vintN_big hn, vintN_small hm] at hl
        have := vintN_pos (n / 128)
        simp only [List.length_cons, List.length_nil] at hl; omega
      rw [vintN_big hn, vintN_big hm] at hne ht hl ⊢
      cases i with
      | zero =>
        have htl : vintN (n / 128) = vintN (m / 128) := by
          apply List.ext_getElem?
          intro j
          have := ht (j + 1) (by omega)
          simpa using this
        have := vintN_inj htl
        simp at hne ⊢
        omega
      | succ i =>
        have := ih (n / 128) (by omega) (m / 128) i (by omega) (by simpa using hl) (fun j hj => by simpa using ht (j + 1) (by omega)) (by simpa using hne)
        simpa using this
theorem vint_ladder {n d : Int} (hn : 0 < n) (hd : 0 ≤ d ∧ d < 128) : vint (n * 128 + d) = (d + 128) :: vint n := by
  unfold vint
  rw [vintN_big (by omega)]
  congr 1
  · omega
  · congr 1; omega
theorem vint_small {d : Int} (hd : 0 ≤ d ∧ d < 128) : vint d = [d] := by
  unfold vint
  rw [vintN_small (by omega)]
  congr 1; omega
theorem vint_pos (n : Int) : 0 < (vint n).length := vintN_pos _
theorem vint_le {n : Int} (h : u64 n) : (vint n).length ≤ 10 := by
  obtain ⟨i, hi, _, _, h3⟩ := way_of h.1 h.2
  omega
end
section
open Go.ChangeShapes Go.WideShapes Go.ChangeAt Go.RowKit Go.Sx
def roB (l : List Int) : SB := ⟨false, .ints .u8 l⟩
def mnG (n : Nat) (a : Int) : Int := if (n : Int) < a + 10 then (n : Int) else a + 10
def rlG (n : Nat) (a : Int) : Int := ((Int.toNat (if (n : Int) < a + 10 then (n : Int) else a + 10) - Int.toNat a : Nat) : Int)
def ixG (a : Int) : Nat → Nat
  | 0 => Int.toNat a
  | j + 1 => Nat.add (Int.toNat a) (j + 1)
def gxG (l : List Int) (a : Int) (j : Nat) : Int := List.getD l (ixG a j) 0
def tailG (n c : Nat) (a : Int) : List Prop := [0 ≤ mnG n a, mnG n a ≤ (c : Int), 0 ≤ a, a ≤ ((Int.toNat (mnG n a) : Nat) : Int), -9223372036854775808 ≤ a + 10 ∧ a + 10 ≤ 9223372036854775807, decide ((n : Int) < a) = false, decide (a < 0) = false]
def scanG (l : List Int) (n c : Nat) (a : Int) : Nat → List Prop
  | 0 => tailG n c a
  | j + 1 => [decide (gxG l a j < 128) = false, ixG a j < l.length, (j : Int) < rlG n a, decide ((j : Int) < rlG n a) = true] ++ scanG l n c a j
def shortG (l : List Int) (n c : Nat) (a : Int) (j : Nat) : List Prop := [decide (rlG n a < 10) = true, decide ((j : Int) < rlG n a) = false] ++ scanG l n c a j
def longG (l : List Int) (n c : Nat) (a : Int) : List Prop := [decide (rlG n a < 10) = false, decide (((10 : Nat) : Int) < rlG n a) = false] ++ scanG l n c a 10
def hitG (l : List Int) (n c : Nat) (a : Int) (j : Nat) : List Prop := [decide (gxG l a j < 128) = true, ixG a j < l.length, (j : Int) < rlG n a, decide ((j : Int) < rlG n a) = true] ++ scanG l n c a j
def noughtG (l : List Int) (n c : Nat) (a : Int) (j : Nat) : List Prop := [decide (gxG l a j = 0) = true, ixG a j < l.length, (j : Int) < rlG n a] ++ hitG l n c a j
def overG (l : List Int) (n c : Nat) (a : Int) : List Prop := [decide (1 < gxG l a 9) = true, ixG a 9 < l.length, ((9 : Nat) : Int) < rlG n a, decide (gxG l a 9 = 0) = false, ixG a 9 < l.length, ((9 : Nat) : Int) < rlG n a] ++ hitG l n c a 9
def extraG (l : List Int) (n c : Nat) (a : Int) : Nat → List Prop
  | 0 => hitG l n c a 0
  | 9 => [decide (1 < gxG l a 9) = false, ixG a 9 < l.length, ((9 : Nat) : Int) < rlG n a, decide (gxG l a 9 = 0) = false, ixG a 9 < l.length, ((9 : Nat) : Int) < rlG n a] ++ hitG l n c a 9
  | j + 1 => [decide (gxG l a (j + 1) = 0) = false, ixG a (j + 1) < l.length, ((j + 1 : Nat) : Int) < rlG n a] ++ hitG l n c a (j + 1)
def loopG (l : List Int) (n c : Nat) (a : Int) (j : Nat) : Nat → List Prop
  | 0 => extraG l n c a j
  | m + 1 => [0 ≤ Int.tmod (gxG l a (j - m)) 128 ∧ Int.tmod (gxG l a (j - m)) 128 ≤ 18446744073709551615, ixG a (j - m) < l.length, ((j - m : Nat) : Int) < rlG n a] ++ loopG l n c a j m
def okG (l : List Int) (n c : Nat) (a : Int) (j : Nat) : List Prop := [-9223372036854775808 ≤ a + (j : Int) + 1 ∧ a + (j : Int) + 1 ≤ 9223372036854775807, -9223372036854775808 ≤ a + (j : Int) ∧ a + (j : Int) ≤ 9223372036854775807] ++ loopG l n c a j (j + 1)
def vdG (l : List Int) (a : Int) (j : Nat) : Nat → Int
  | 0 => IntKind.wrap .u64 (0 + Int.tmod (gxG l a j) 128)
  | i + 1 => IntKind.wrap .u64 (IntKind.wrap .u64 (vdG l a j i * 128) + Int.tmod (gxG l a (j - (i + 1))) 128)
def tupG (v t e : Int) : V := .tup [.one (.sint .u64 v), .one (.sint .i64 t), .one (.sint .i64 e)]
def tupI (v t e : Int) : V := .tup [.one (.int .u64 v), .one (.int .i64 t), .one (.int .i64 e)]
def tupK (v t : Int) : V := .tup [.one (.sint .u64 v), .one (.sint .i64 t), .one (.int .i64 0)]
def scanH (j : Nat) : List Bool := (List.replicate j [true, false]).flatten
noncomputable def guG (l : List Int) (a : Int) (n c : Nat) (h : List Bool) := retV [0] (call0 6 20 [bsl 0 n c, si .i64 a] [roB l] h)
theorem gNeg : (fun l a n c => guG l a n c [true]) = fun l a _ _ => some (tupI 0 0 2, [roB l], [decide (a < 0) = true]) := by kernel_rfl
theorem gFar : (fun l a n c => guG l a n c [false, true]) = fun (l : List Int) (a : Int) (n : Nat) (_ : Nat) => some (tupI 0 0 2, [roB l], [decide ((n : Int) < a) = true, decide (a < 0) = false]) := by kernel_rfl
theorem gLong : (fun l a n c => guG l a n c ([false, false] ++ scanH 10 ++ [false, false])) = fun l a n c => some (tupI 0 0 10, [roB l], longG l n c a) := by kernel_rfl
theorem gOver : (fun l a n c => guG l a n c ([false, false] ++ scanH 9 ++ [true, true, false, true])) = fun l a n c => some (tupI 0 0 10, [roB l], overG l n c a) := by kernel_rfl
theorem gShort0 : (fun l a n c => guG l a n c ([false, false] ++ scanH 0 ++ [false, true])) = fun l a n c => some (tupI 0 0 11, [roB l], shortG l n c a 0) := by kernel_rfl
theorem gShort1 : (fun l a n c => guG l a n c ([false, false] ++ scanH 1 ++ [false, true])) = fun l a n c => some (tupI 0 0 11, [roB l], shortG l n c a 1) := by kernel_rfl
theorem gShort2 : (fun l a n c => guG l a n c ([false, false] ++ scanH 2 ++ [false, true])) = fun l a n c => some (tupI 0 0 11, [roB l], shortG l n c a 2) := by kernel_rfl
theorem gShort3 : (fun l a n c => guG l a n c ([false, false] ++ scanH 3 ++ [false, true])) = fun l a n c => some (tupI 0 0 11, [roB l], shortG l n c a 3) := by kernel_rfl
theorem gShort4 : (fun l a n c => guG l a n c ([false, false] ++ scanH 4 ++ [false, true])) = fun l a n c => some (tupI 0 0 11, [roB l], shortG l n c a 4) := by kernel_rfl
theorem gShort5 : (fun l a n c => guG l a n c ([false, false] ++ scanH 5 ++ [false, true])) = fun l a n c => some (tupI 0 0 11, [roB l], shortG l n c a 5) := by kernel_rfl
theorem gShort6 : (fun l a n c => guG l a n c ([false, false] ++ scanH 6 ++ [false, true])) = fun l a n c => some (tupI 0 0 11, [roB l], shortG l n c a 6) := by kernel_rfl
theorem gShort7 : (fun l a n c => guG l a n c ([false, false] ++ scanH 7 ++ [false, true])) = fun l a n c => some (tupI 0 0 11, [roB l], shortG l n c a 7) := by kernel_rfl
theorem gShort8 : (fun l a n c => guG l a n c ([false, false] ++ scanH 8 ++ [false, true])) = fun l a n c => some (tupI 0 0 11, [roB l], shortG l n c a 8) := by kernel_rfl
theorem gShort9 : (fun l a n c => guG l a n c ([false, false] ++ scanH 9 ++ [false, true])) = fun l a n c => some (tupI 0 0 11, [roB l], shortG l n c a 9) := by kernel_rfl
theorem gNought1 : (fun l a n c => guG l a n c ([false, false] ++ scanH 1 ++ [true, true, true])) = fun l a n c => some (tupI 0 0 10, [roB l], noughtG l n c a 1) := by kernel_rfl
theorem gNought2 : (fun l a n c => guG l a n c ([false, false] ++ scanH 2 ++ [true, true, true])) = fun l a n c => some (tupI 0 0 10, [roB l], noughtG l n c a 2) := by kernel_rfl
theorem gNought3 : (fun l a n c => guG l a n c ([false, false] ++ scanH 3 ++ [true, true, true])) = fun l a n c => some (tupI 0 0 10, [roB l], noughtG l n c a 3) := by kernel_rfl
theorem gNought4 : (fun l a n c => guG l a n c ([false, false] ++ scanH 4 ++ [true, true, true])) = fun l a n c => some (tupI 0 0 10, [roB l], noughtG l n c a 4) := by kernel_rfl
theorem gNought5 : (fun l a n c => guG l a n c ([false, false] ++ scanH 5 ++ [true, true, true])) = fun l a n c => some (tupI 0 0 10, [roB l], noughtG l n c a 5) := by kernel_rfl
theorem gNought6 : (fun l a n c => guG l a n c ([false, false] ++ scanH 6 ++ [true, true, true])) = fun l a n c => some (tupI 0 0 10, [roB l], noughtG l n c a 6) := by kernel_rfl
theorem gNought7 : (fun l a n c => guG l a n c ([false, false] ++ scanH 7 ++ [true, true, true])) = fun l a n c => some (tupI 0 0 10, [roB l], noughtG l n c a 7) := by kernel_rfl
theorem gNought8 : (fun l a n c => guG l a n c ([false, false] ++ scanH 8 ++ [true, true, true])) = fun l a n c => some (tupI 0 0 10, [roB l], noughtG l n c a 8) := by kernel_rfl
theorem gNought9 : (fun l a n c => guG l a n c ([false, false] ++ scanH 9 ++ [true, true, true])) = fun l a n c => some (tupI 0 0 10, [roB l], noughtG l n c a 9) := by kernel_rfl
theorem gOk0 : (fun l a n c => guG l a n c ([false, false] ++ scanH 0 ++ [true, true])) = fun l a n c => some (tupK (vdG l a 0 0) (a + (0 : Nat) + 1), [roB l], okG l n c a 0) := by kernel_rfl
theorem gOk1 : (fun l a n c => guG l a n c ([false, false] ++ scanH 1 ++ [true, true, false])) = fun l a n c => some (tupK (vdG l a 1 1) (a + (1 : Nat) + 1), [roB l], okG l n c a 1) := by kernel_rfl
theorem gOk2 : (fun l a n c => guG l a n c ([false, false] ++ scanH 2 ++ [true, true, false])) = fun l a n c => some (tupK (vdG l a 2 2) (a + (2 : Nat) + 1), [roB l], okG l n c a 2) := by kernel_rfl
theorem gOk3 : (fun l a n c => guG l a n c ([false, false] ++ scanH 3 ++ [true, true, false])) = fun l a n c => some (tupK (vdG l a 3 3) (a + (3 : Nat) + 1), [roB l], okG l n c a 3) := by kernel_rfl
theorem gOk4 : (fun l a n c => guG l a n c ([false, false] ++ scanH 4 ++ [true, true, false])) = fun l a n c => some (tupK (vdG l a 4 4) (a + (4 : Nat) + 1), [roB l], okG l n c a 4) := by kernel_rfl
theorem gOk5 : (fun l a n c => guG l a n c ([false, false] ++ scanH 5 ++ [true, true, false])) = fun l a n c => some (tupK (vdG l a 5 5) (a + (5 : Nat) + 1), [roB l], okG l n c a 5) := by kernel_rfl
theorem gOk6 : (fun l a n c => guG l a n c ([false, false] ++ scanH 6 ++ [true, true, false])) = fun l a n c => some (tupK (vdG l a 6 6) (a + (6 : Nat) + 1), [roB l], okG l n c a 6) := by kernel_rfl
theorem gOk7 : (fun l a n c => guG l a n c ([false, false] ++ scanH 7 ++ [true, true, false])) = fun l a n c => some (tupK (vdG l a 7 7) (a + (7 : Nat) + 1), [roB l], okG l n c a 7) := by kernel_rfl
theorem gOk8 : (fun l a n c => guG l a n c ([false, false] ++ scanH 8 ++ [true, true, false])) = fun l a n c => some (tupK (vdG l a 8 8) (a + (8 : Nat) + 1), [roB l], okG l n c a 8) := by kernel_rfl
theorem gOk9 : (fun l a n c => guG l a n c ([false, false] ++ scanH 9 ++ [true, true, false, false])) = fun l a n c => some (tupK (vdG l a 9 9) (a + (9 : Nat) + 1), [roB l], okG l n c a 9) := by kernel_rfl
end
section
open Go.ChangeShapes Go.WideShapes Go.ChangeAt Go.RowKit Go.Sx
def wfB (l : List Int) : Prop := ∀ x ∈ l, 0 ≤ x ∧ x < 256
theorem wfB_get {l : List Int} (h : wfB l) (i : Nat) : 0 ≤ l.getD i 0 ∧ l.getD i 0 < 256 := by
  rw [List.getD_eq_getElem?_getD]
  cases hi : l[i]? with
  | none => simp
  | some x => exact h x (List.mem_of_getElem? hi)
/-- where the first byte below 128 is, from a place on, among so many -/
def scanU (l : List Int) (n k : Nat) : Nat → Nat → Option Nat
  | 0, _ => none
  | m + 1, i => if k + i < n then (if l.getD (k + i) 0 < 128 then some i else scanU l n k m (i + 1)) else none
/-- what the bytes from a place on say, so many behind the first -/
def valU (l : List Int) : Nat → Nat → Int
  | k, 0 => l.getD k 0 % 128
  | k, j + 1 => l.getD k 0 % 128 + 128 * valU l (k + 1) j
/-- a number, the place behind it, an error: of the first n bytes -/
def getU (l : List Int) (n : Nat) (a : Int) : Int × Int × Int :=
  if a < 0 ∨ (n : Int) < a then (0, 0, 2) else match scanU l n a.toNat 10 0 with
    | none => if n < a.toNat + 10 then (0, 0, 11) else (0, 0, 10)
    | some j => if (0 < j ∧ l.getD (a.toNat + j) 0 = 0) ∨ (j = 9 ∧ 1 < l.getD (a.toNat + 9) 0) then (0, 0, 10) else (valU l a.toNat j, a + (j : Int) + 1, 0)
theorem scanU_none : ∀ {l : List Int} {n k m i : Nat}, scanU l n k m i = none → ∃ j, i ≤ j ∧ j ≤ i + m ∧ (∀ t, i ≤ t → t < j → k + t < n ∧ 128 ≤ l.getD (k + t) 0) ∧ (j = i + m ∨ n ≤ k + j)
  | l, n, k, 0, i, _ => ⟨i, by omega, by omega, fun t h1 h2 => by omega, .inl rfl⟩
  | l, n, k, m + 1, i, h => by
    unfold scanU at h
    by_cases h1 : k + i < n
    · rw [if_pos h1] at h
      by_cases h2 : l.getD (k + i) 0 < 128
      · rw [if_pos h2] at h; cases h
      · rw [if_neg h2] at h
        obtain ⟨j, j1, j2, j3, j4⟩ := scanU_none h
        refine ⟨j, by omega, by omega, fun t t1 t2 => ?_, by omega⟩
        by_cases ht : t = i
        · subst ht; exact ⟨h1, by omega⟩
        · exact j3 t (by omega) t2
    · exact ⟨i, by omega, by omega, fun t t1 t2 => by omega, .inr (by omega)⟩
theorem scanU_some : ∀ {l : List Int} {n k m i j : Nat}, scanU l n k m i = some j → i ≤ j ∧ j < i + m ∧ (∀ t, i ≤ t → t < j → k + t < n ∧ 128 ≤ l.getD (k + t) 0) ∧ k + j < n ∧ l.getD (k + j) 0 < 128
  | l, n, k, 0, i, j, h => by cases h
  | l, n, k, m + 1, i, j, h => by
    unfold scanU at h
    by_cases h1 : k + i < n
    · rw [if_pos h1] at h
      by_cases h2 : l.getD (k + i) 0 < 128
      · rw [if_pos h2] at h
        injection h with h; subst h
        exact ⟨Nat.le_refl _, by omega, fun t t1 t2 => by omega, h1, h2⟩
      · rw [if_neg h2] at h
        obtain ⟨j1, j2, j3, j4, j5⟩ := scanU_some h
        refine ⟨by omega, by omega, fun t t1 t2 => ?_, j4, j5⟩
        by_cases ht : t = i
        · subst ht; exact ⟨h1, by omega⟩
        · exact j3 t (by omega) t2
    · rw [if_neg h1] at h; cases h
section
variable {l : List Int} {n c : Nat} {a : Int}
theorem ixG_eq (ha : 0 ≤ a) (j : Nat) : ixG a j = a.toNat + j := by cases j <;> rfl
theorem gxG_eq (j : Nat) : gxG l a j = l.getD (a.toNat + j) 0 := by cases j <;> rfl
theorem rl_min (ha : 0 ≤ a) (hn : a ≤ n) (j : Nat) (hj : j ≤ 10) : (j : Int) < rlG n a ↔ (a.toNat + j < n ∧ j < 10) := by
  unfold rlG
  split <;> omega
theorem rl_10 (ha : 0 ≤ a) (hn : a ≤ n) : rlG n a < 10 ↔ n < a.toNat + 10 := by
  unfold rlG
  split <;> omega
theorem tailG_ok (ha : 0 ≤ a) (hn : a ≤ n) (hc : n ≤ c) (hm : n ≤ 1000000000) : allP (tailG n c a) := by
  unfold tailG mnG
  refine ⟨?_, ?_, ha, ?_, ?_, decide_eq_false (by omega), decide_eq_false (by omega), trivial⟩
  · split <;> omega
  · split <;> omega
  · split <;> omega
  · omega
theorem scanG_ok (ha : 0 ≤ a) (hn : a ≤ n) (hc : n ≤ c) (hm : n ≤ 1000000000) (hl : n ≤ l.length) : ∀ {j : Nat}, j ≤ 10 → (∀ t, 0 ≤ t → t < j → a.toNat + t < n ∧ 128 ≤ l.getD (a.toNat + t) 0) → allP (scanG l n c a j)
  | 0, _, _ => tailG_ok ha hn hc hm
  | j + 1, hj, h => by
    obtain ⟨h1, h2⟩ := h j (by omega) (by omega)
    have hr := (rl_min ha hn j (by omega)).2 ⟨h1, by omega⟩
    refine ⟨?_, ?_, hr, decide_eq_true hr, scanG_ok ha hn hc hm hl (by omega) fun t t1 t2 => h t t1 (by omega)⟩
    · rw [gxG_eq]; exact decide_eq_false (by omega)
    · rw [ixG_eq ha]; omega
theorem hitG_ok (ha : 0 ≤ a) (hn : a ≤ n) (hc : n ≤ c) (hm : n ≤ 1000000000) (hl : n ≤ l.length) {j : Nat} (hj : j < 10) (h : ∀ t, 0 ≤ t → t < j → a.toNat + t < n ∧ 128 ≤ l.getD (a.toNat + t) 0) (h1 : a.toNat + j < n) (h2 : l.getD (a.toNat + j) 0 < 128) : allP (hitG l n c a j) := by
  have hr := (rl_min ha hn j (by omega)).2 ⟨h1, hj⟩
  refine ⟨?_, ?_, hr, decide_eq_true hr, scanG_ok ha hn hc hm hl (by omega) h⟩
  · rw [gxG_eq]; exact decide_eq_true h2
  · rw [ixG_eq ha]; omega
theorem extraG_ok (ha : 0 ≤ a) (hn : a ≤ n) (hl : n ≤ l.length) {j : Nat} (hj : j < 10) (h1 : a.toNat + j < n) (hh : allP (hitG l n c a j)) (h0 : 0 < j → l.getD (a.toNat + j) 0 ≠ 0) (h9 : j = 9 → l.getD (a.toNat + 9) 0 ≤ 1) : allP (extraG l n c a j) := by
  have hr := (rl_min ha hn j (by omega)).2 ⟨h1, hj⟩
  have hix : ixG a j < l.length := by rw [ixG_eq ha]; omega
  unfold extraG
  split
  · exact hh
  · refine ⟨?_, hix, hr, ?_, hix, hr, hh⟩
    · rw [gxG_eq]; exact decide_eq_false (by have := h9 rfl; omega)
    · rw [gxG_eq]; exact decide_eq_false (h0 (by omega))
  · refine ⟨?_, hix, hr, hh⟩
    rw [gxG_eq]; exact decide_eq_false (h0 (by omega))
theorem loopG_ok (ha : 0 ≤ a) (hn : a ≤ n) (hl : n ≤ l.length) (hw : wfB l) {j : Nat} (hj : j < 10) (h1 : a.toNat + j < n) (he : allP (extraG l n c a j)) : ∀ m, m ≤ j + 1 → allP (loopG l n c a j m)
  | 0, _ => he
  | m + 1, hm => by
    have hr := (rl_min ha hn (j - m) (by omega)).2 ⟨by omega, by omega⟩
    refine ⟨?_, ?_, hr, loopG_ok ha hn hl hw hj h1 he m (by omega)⟩
    · rw [gxG_eq]
      have := wfB_get hw (a.toNat + (j - m))
      rw [Int.tmod_eq_emod_of_nonneg this.1]
      omega
    · rw [ixG_eq ha]; omega
theorem valU_nn (hw : wfB l) : ∀ (i k : Nat), 0 ≤ valU l k i
  | 0, k => by have := wfB_get hw k; unfold valU; omega
  | i + 1, k => by have := wfB_get hw k; have := valU_nn hw i (k + 1); unfold valU; omega
theorem valU_lt (hw : wfB l) {M : Int} : ∀ (i k : Nat), l.getD (k + i) 0 % 128 < M → valU l k i < M * 128 ^ i
  | 0, k, h => by unfold valU; simpa using h
  | i + 1, k, h => by
    have ih := valU_lt hw i (k + 1) (by rw [show k + 1 + i = k + (i + 1) by omega]; exact h)
    have h1 : M * 128 ^ (i + 1) = M * 128 ^ i * 128 := by rw [Int.pow_succ, Int.mul_assoc]
    unfold valU
    rw [h1]
    generalize M * 128 ^ i = X at *
    omega
theorem vdG_eq (hw : wfB l) {j : Nat} (hj : j < 10) {M : Int} (hM : l.getD (a.toNat + j) 0 % 128 < M) (hb : ∀ i, i ≤ j → M * 128 ^ i ≤ 18446744073709551616) : ∀ i, i ≤ j → vdG l a j i = valU l (a.toNat + (j - i)) i
  | 0, _ => by
    unfold vdG valU
    rw [gxG_eq]
    have := wfB_get hw (a.toNat + j)
    rw [Int.tmod_eq_emod_of_nonneg this.1, Int.zero_add, Nat.sub_zero, w64 (by omega) (by omega)]
  | i + 1, hi => by
    have ih := vdG_eq hw hj hM hb i (by omega)
    have h0 := valU_nn hw i (a.toNat + (j - i))
    have h1 := valU_lt hw (M := M) (i + 1) (a.toNat + (j - (i + 1))) (by rw [show a.toNat + (j - (i + 1)) + (i + 1) = a.toNat + j by omega]; exact hM)
    have h2 := hb (i + 1) hi
    have hg := wfB_get hw (a.toNat + (j - (i + 1)))
    have e : valU l (a.toNat + (j - (i + 1))) (i + 1) = l.getD (a.toNat + (j - (i + 1))) 0 % 128 + 128 * valU l (a.toNat + (j - i)) i := by
      conv => lhs; unfold valU
      rw [show a.toNat + (j - (i + 1)) + 1 = a.toNat + (j - i) by omega]
    unfold vdG
    rw [ih, gxG_eq, Int.tmod_eq_emod_of_nonneg hg.1]
    rw [e] at h1 ⊢
    rw [w64 (n := valU l (a.toNat + (j - i)) i * 128) (by omega) (by omega), w64 (by omega) (by omega)]
    omega
end
end
section
open Go.ChangeShapes Go.WideShapes Go.ChangeAt Go.RowKit Go.Sx
theorem capG_works {f : FuncId} {b n c : Nat} {args : List V} {bs bs' : List SB} {v : V} (h : n ≤ c → Works Try.prog f (bsl b n c :: args) bs v bs') : Works Try.prog f (bsl b n c :: args) bs v bs' := by
  intro ρ K w us hm hu
  have hc : n ≤ c := by
    obtain ⟨u, s, _, ⟨⟨e, _, hu⟩, _⟩, _⟩ := hu
    rcases hu with ⟨h0, _⟩ | ⟨_, _, _, _, h1, _⟩
    · simp only [N.v] at h0; omega
    · exact h1
  exact h hc ρ K w us hm hu
theorem gShort_all (l : List Int) (a : Int) (n c : Nat) : ∀ j, j < 10 → guG l a n c ([false, false] ++ scanH j ++ [false, true]) = some (tupI 0 0 11, [roB l], shortG l n c a j)
  | 0, _ => congrFun (congrFun (congrFun (congrFun gShort0 l) a) n) c
  | 1, _ => congrFun (congrFun (congrFun (congrFun gShort1 l) a) n) c
  | 2, _ => congrFun (congrFun (congrFun (congrFun gShort2 l) a) n) c
  | 3, _ => congrFun (congrFun (congrFun (congrFun gShort3 l) a) n) c
  | 4, _ => congrFun (congrFun (congrFun (congrFun gShort4 l) a) n) c
  | 5, _ => congrFun (congrFun (congrFun (congrFun gShort5 l) a) n) c
  | 6, _ => congrFun (congrFun (congrFun (congrFun gShort6 l) a) n) c
  | 7, _ => congrFun (congrFun (congrFun (congrFun gShort7 l) a) n) c
  | 8, _ => congrFun (congrFun (congrFun (congrFun gShort8 l) a) n) c
  | 9, _ => congrFun (congrFun (congrFun (congrFun gShort9 l) a) n) c
  | _ + 10, h => absurd h (by omega)
theorem gNought_all (l : List Int) (a : Int) (n c : Nat) : ∀ j, 1 ≤ j → j < 10 → guG l a n c ([false, false] ++ scanH j ++ [true, true, true]) = some (tupI 0 0 10, [roB l], noughtG l n c a j)
  | 0, h, _ => absurd h (by omega)
  | 1, _, _ => congrFun (congrFun (congrFun (congrFun gNought1 l) a) n) c
  | 2, _, _ => congrFun (congrFun (congrFun (congrFun gNought2 l) a) n) c
  | 3, _, _ => congrFun (congrFun (congrFun (congrFun gNought3 l) a) n) c
  | 4, _, _ => congrFun (congrFun (congrFun (congrFun gNought4 l) a) n) c
  | 5, _, _ => congrFun (congrFun (congrFun (congrFun gNought5 l) a) n) c
  | 6, _, _ => congrFun (congrFun (congrFun (congrFun gNought6 l) a) n) c
  | 7, _, _ => congrFun (congrFun (congrFun (congrFun gNought7 l) a) n) c
  | 8, _, _ => congrFun (congrFun (congrFun (congrFun gNought8 l) a) n) c
  | 9, _, _ => congrFun (congrFun (congrFun (congrFun gNought9 l) a) n) c
  | _ + 10, _, h => absurd h (by omega)
def okH : Nat → List Bool
  | 0 => [true, true]
  | 9 => [true, true, false, false]
  | _ => [true, true, false]
theorem gOk_all (l : List Int) (a : Int) (n c : Nat) : ∀ j, j < 10 → guG l a n c ([false, false] ++ scanH j ++ okH j) = some (tupK (vdG l a j j) (a + (j : Int) + 1), [roB l], okG l n c a j)
  | 0, _ => congrFun (congrFun (congrFun (congrFun gOk0 l) a) n) c
  | 1, _ => congrFun (congrFun (congrFun (congrFun gOk1 l) a) n) c
  | 2, _ => congrFun (congrFun (congrFun (congrFun gOk2 l) a) n) c
  | 3, _ => congrFun (congrFun (congrFun (congrFun gOk3 l) a) n) c
  | 4, _ => congrFun (congrFun (congrFun (congrFun gOk4 l) a) n) c
  | 5, _ => congrFun (congrFun (congrFun (congrFun gOk5 l) a) n) c
  | 6, _ => congrFun (congrFun (congrFun (congrFun gOk6 l) a) n) c
  | 7, _ => congrFun (congrFun (congrFun (congrFun gOk7 l) a) n) c
  | 8, _ => congrFun (congrFun (congrFun (congrFun gOk8 l) a) n) c
  | 9, _ => congrFun (congrFun (congrFun (congrFun gOk9 l) a) n) c
  | _ + 10, h => absurd h (by omega)
theorem ndG : (List.range 1 ++ ([] : List Nat)).Nodup := by decide
theorem leG (l : List Int) : leBs (List.range 1 ++ []) [roB l] [roB l] := ⟨⟨fun h => h, rfl, rfl⟩, trivial⟩
theorem get_works (l : List Int) (n c : Nat) (a : Int) (hn : n ≤ l.length) (hm : n ≤ 1000000000) (hw : wfB l) : Works Try.prog 20 [bsl 0 n c, si .i64 a] [roB l] (tupG (getU l n a).1 (getU l n a).2.1 (getU l n a).2.2) [roB l] := capG_works fun hc => by
  have err : ∀ (e : Int) (h : List Bool) (ob : List Prop), getU l n a = (0, 0, e) → guG l a n c h = some (tupI 0 0 e, [roB l], ob) → allP ob → Works Try.prog 20 [bsl 0 n c, si .i64 a] [roB l] (tupG (getU l n a).1 (getU l n a).2.1 (getU l n a).2.2) [roB l] := by
    intro e h ob he hr hob
    rw [he]
    exact works_of (r := []) (bs := [roB l]) no_tabs hr hob ndG (by simp [tupI, tupG, leV, leL1, leV1, leC]) (leG l)
  by_cases h0 : a < 0
  · exact err 2 [true] _ (by unfold getU; rw [if_pos (.inl h0)]) (congrFun (congrFun (congrFun (congrFun gNeg l) a) n) c) ⟨decide_eq_true h0, trivial⟩
  by_cases h1 : (n : Int) < a
  · exact err 2 [false, true] _ (by unfold getU; rw [if_pos (.inr h1)]) (congrFun (congrFun (congrFun (congrFun gFar l) a) n) c) ⟨decide_eq_true h1, decide_eq_false h0, trivial⟩
  have ha : 0 ≤ a := by omega
  have han : a ≤ n := by omega
  cases hs : scanU l n a.toNat 10 0 with
  | none =>
    obtain ⟨j, j1, j2, j3, j4⟩ := scanU_none hs
    by_cases h10 : n < a.toNat + 10
    · have hj : j < 10 ∧ n ≤ a.toNat + j := by
        rcases Nat.lt_or_ge j 10 with h | h
        · exact ⟨h, by omega⟩
        · have := (j3 9 (by omega) (by omega)).1; omega
      have hr : ¬ (j : Int) < rlG n a := fun h => by have := ((rl_min ha han j (by omega)).1 h).1; omega
      exact err 11 _ _ (by unfold getU; rw [if_neg (by omega), hs]; simp only; rw [if_pos h10]) (gShort_all l a n c j hj.1)
        ⟨decide_eq_true ((rl_10 ha han).2 h10), decide_eq_false hr, scanG_ok ha han hc hm hn (by omega) j3⟩
    · have hj : j = 10 := by omega
      subst hj
      have hr : ¬ ((10 : Nat) : Int) < rlG n a := fun h => by have := ((rl_min ha han 10 (by omega)).1 h).2; omega
      exact err 10 _ _ (by unfold getU; rw [if_neg (by omega), hs]; simp only; rw [if_neg h10]) (congrFun (congrFun (congrFun (congrFun gLong l) a) n) c)
        ⟨decide_eq_false fun h => h10 ((rl_10 ha han).1 h), decide_eq_false hr, scanG_ok ha han hc hm hn (by omega) j3⟩
  | some j =>
    obtain ⟨j1, j2, j3, j4, j5⟩ := scanU_some hs
    have hj : j < 10 := by omega
    have hh := hitG_ok ha han hc hm hn hj j3 j4 j5
    have hr := (rl_min ha han j (by omega)).2 ⟨j4, hj⟩
    have hix : ixG a j < l.length := by rw [ixG_eq ha]; omega
    by_cases hb : (0 < j ∧ l.getD (a.toNat + j) 0 = 0)
    · exact err 10 _ _ (by unfold getU; rw [if_neg (by omega), hs]; simp only; rw [if_pos (.inl hb)]) (gNought_all l a n c j hb.1 hj)
        ⟨by rw [gxG_eq]; exact decide_eq_true hb.2, hix, hr, hh⟩
    · by_cases hb9 : j = 9 ∧ 1 < l.getD (a.toNat + 9) 0
      · obtain ⟨rfl, h9⟩ := hb9
        exact err 10 _ _ (by unfold getU; rw [if_neg (by omega), hs]; simp only; rw [if_pos (.inr ⟨trivial, h9⟩)]) (congrFun (congrFun (congrFun (congrFun gOver l) a) n) c)
          ⟨by rw [gxG_eq]; exact decide_eq_true h9, hix, hr, by rw [gxG_eq]; exact decide_eq_false fun h => hb ⟨by omega, h⟩, hix, hr, hh⟩
      · have e : getU l n a = (valU l a.toNat j, a + (j : Int) + 1, 0) := by
          unfold getU
          rw [if_neg (by omega), hs]; simp only
          rw [if_neg (fun h => by rcases h with h | h; exact hb h; exact hb9 h)]
        rw [e]
        have hx := extraG_ok ha han hn hj j4 hh (fun hp h => hb ⟨hp, h⟩) (fun h => by
          subst h
          refine Classical.byContradiction fun hne => hb9 ⟨rfl, by omega⟩)
        have hv : vdG l a j j = valU l a.toNat j := by
          have hp : ∀ i, i ≤ 9 → (128 : Int) ^ i * 2 ≤ 18446744073709551616 := by
            intro i hi
            have : ∀ i : Nat, i < 10 → (128 : Int) ^ i * 2 ≤ 18446744073709551616 := by decide
            exact this i (by omega)
          have hp8 : ∀ i, i ≤ 8 → (128 : Int) ^ i * 128 ≤ 18446744073709551616 := by
            intro i hi
            have : ∀ i : Nat, i < 9 → (128 : Int) ^ i * 128 ≤ 18446744073709551616 := by decide
            exact this i (by omega)
          have hg := wfB_get hw (a.toNat + j)
          by_cases h9 : j = 9
          · have hle : l.getD (a.toNat + j) 0 ≤ 1 := by
              subst h9
              refine Classical.byContradiction fun hne => hb9 ⟨rfl, by omega⟩
            have := vdG_eq (a := a) hw hj (M := 2) (by omega) (fun i hi => by rw [Int.mul_comm]; exact hp i (by omega)) j (Nat.le_refl _)
            rw [this, Nat.sub_self, Nat.add_zero]
          · have := vdG_eq (a := a) hw hj (M := 128) (by omega) (fun i hi => by rw [Int.mul_comm]; exact hp8 i (by omega)) j (Nat.le_refl _)
            rw [this, Nat.sub_self, Nat.add_zero]
        refine works_of (r := []) (bs := [roB l]) no_tabs (gOk_all l a n c j hj) ⟨by omega, by omega, loopG_ok ha han hn hw hj j4 hx (j + 1) (Nat.le_refl _)⟩ ndG ?_ (leG l)
        simp [tupK, tupG, leV, leL1, leV1, leC, hv]
def gGet : Sx.Loc := fun args bs => match args, bs with
  | [.v (.one (.slice 0 (.c 0) 1 (.s n) (.s _))), .v (.one (.sint .i64 a))], [⟨false, .ints k l⟩] => match decide (k = .u8) with
    | true => some (tupG (getU l n a).1 (getU l n a).2.1 (getU l n a).2.2, [roB l], [n ≤ l.length, n ≤ 1000000000, wfB l])
    | false => none
  | _, _ => none
def wantRo : List V → List Want
  | .v (.one (.slice _ _ _ _ _)) :: _ => [(false, .ints .u8)]
  | _ => []
theorem get_tab : TabOk Try.prog 20 (loc wantRo gGet) := loc_ok fun xs bs v bs' ob hg hob hokb => by
  unfold gGet at hg
  split at hg
  · rename_i n c a k l
    split at hg
    · rename_i hk
      injection hg with hg; injection hg with e1 e2; injection e2 with e2 e3
      subst e1; subst e2; subst e3
      have hk' : k = .u8 := of_decide_eq_true hk
      subst hk'
      exact get_works l n c a (hob _ (by simp)) (hob (n ≤ 1000000000) (by simp)) (hob (wfB l) (by simp))
    · cases hg
  · cases hg
end
section
open Go.Sx
def tabGI := tabs [(20, loc wantRo gGet)]
noncomputable def callGI (d : Nat) := callN Try.prog tabGI (fun _ => false) 100000 d
def osl (b o n c : Nat) : V := .v (.one (.slice b (.s o) 1 (.s n) (.s c)))
def owB (l : List Int) : SB := ⟨true, .ints .u8 l⟩
def gCloneO : Sx.Loc := fun args bs => match args, bs with
  | [.v (.one (.slice 0 (.s o) 1 (.s n) (.s _)))], [⟨false, .ints k l⟩] => match decide (k = .u8) with
    | true => some (bsl 1 n n, [roB l, owB ((l.drop o).take n)], [o + n ≤ l.length, n ≤ 1000000000])
    | false => none
  | _, _ => none
def tabGB := tabs [(20, loc wantRo gGet), (38, loc wantRo gCloneO)]
noncomputable def callGB (d : Nat) := callN Try.prog tabGB (fun _ => false) 100000 d
theorem gi1 : (fun (l : List Int) (a : Int) (n c : Nat) => retV [0] (callGI 4 21 [bsl 0 n c, si .i64 a] [roB l] [true])) = fun (l : List Int) (a : Int) (n : Nat) (c : Nat) => some (((V.tup [(V1.one (C.sint (IntKind.i64) (Go.bits Go.BinOp.xor IntKind.i64 (-1 : Int) (IntKind.wrap IntKind.i64 (Int.tdiv (Prod.fst (getU l n a)) (2 : Int)))))), (V1.one (C.sint (IntKind.i64) (Prod.fst (Prod.snd (getU l n a))))), (V1.one (C.sint (IntKind.i64) (Prod.snd (Prod.snd (getU l n a)))))]), ([(SB.mk (false) (Cells.ints (IntKind.u8) (l)))], [(0 : Int) ≤ Int.tdiv (Prod.fst (getU l n a)) (2 : Int) ∧ Int.tdiv (Prod.fst (getU l n a)) (2 : Int) ≤ (18446744073709551615 : Int), decide (Int.tmod (Prod.fst (getU l n a)) (2 : Int) = (1 : Int)) = true, n ≤ List.length l, n ≤ (1000000000 : Nat), wfB l]))) := by kernel_rfl
theorem gi0 : (fun (l : List Int) (a : Int) (n c : Nat) => retV [0] (callGI 4 21 [bsl 0 n c, si .i64 a] [roB l] [false])) = fun (l : List Int) (a : Int) (n : Nat) (c : Nat) => some (((V.tup [(V1.one (C.sint (IntKind.i64) (IntKind.wrap IntKind.i64 (Int.tdiv (Prod.fst (getU l n a)) (2 : Int))))), (V1.one (C.sint (IntKind.i64) (Prod.fst (Prod.snd (getU l n a))))), (V1.one (C.sint (IntKind.i64) (Prod.snd (Prod.snd (getU l n a)))))]), ([(SB.mk (false) (Cells.ints (IntKind.u8) (l)))], [(0 : Int) ≤ Int.tdiv (Prod.fst (getU l n a)) (2 : Int) ∧ Int.tdiv (Prod.fst (getU l n a)) (2 : Int) ≤ (18446744073709551615 : Int), decide (Int.tmod (Prod.fst (getU l n a)) (2 : Int) = (1 : Int)) = false, n ≤ List.length l, n ≤ (1000000000 : Nat), wfB l]))) := by kernel_rfl
theorem cO1 : (fun (l : List Int) (o n c : Nat) => retV [0, 2] (call0 4 38 [osl 0 o n c] [roB l] [false])) = fun (l : List Int) (o : Nat) (n : Nat) (c : Nat) => some (((V.v (V1.one (C.slice ((2 : Nat)) (N.c ((0 : Nat))) ((1 : Nat)) (N.s (n)) (N.s (n))))), ([(SB.mk (false) (Cells.ints (IntKind.u8) (l))), (SB.mk (true) (Cells.ints (IntKind.u8) ([] ++ List.take n (List.drop o l))))], [o + n ≤ List.length l, n * (1 : Nat) ≤ (140737488355328 : Nat), n ≤ (9223372036854775807 : Nat), (0 : Nat) < n]))) := by kernel_rfl
theorem cO2 : (fun (l : List Int) => retV [0] (call0 4 38 [.v (.one .nils)] [roB l] [])) = fun (l : List Int) => some (((V.v (V1.one (C.nils))), ([(SB.mk (false) (Cells.ints (IntKind.u8) (l)))], []))) := by kernel_rfl
theorem cO3 : (fun (l : List Int) (a : Addr) (c : Nat) => retV [0, 2] (call0 4 38 [.v (.one (.raw (.slice (some a) 0 c)))] [roB l] [])) = fun (l : List Int) (a : Go.Addr) (c : Nat) => some (((V.v (V1.one (C.slice ((2 : Nat)) (N.c ((0 : Nat))) ((1 : Nat)) (N.c ((0 : Nat))) (N.c ((0 : Nat)))))), ([(SB.mk (false) (Cells.ints (IntKind.u8) (l))), (SB.mk (true) (Cells.exp []))], []))) := by kernel_rfl
theorem gb0 : (fun (l : List Int) (a m : Int) (n c : Nat) => retV [0] (callGB 4 22 [bsl 0 n c, si .i64 a, si .i64 m] [roB l] [true])) = fun (l : List Int) (a : Int) (m : Int) (n : Nat) (c : Nat) => some (((V.tup [(V1.one (C.nils)), (V1.one (C.int (IntKind.i64) ((0 : Int)))), (V1.one (C.sint (IntKind.i64) (Prod.snd (Prod.snd (getU l n a)))))]), ([(SB.mk (false) (Cells.ints (IntKind.u8) (l)))], [(!decide (Prod.snd (Prod.snd (getU l n a)) = (0 : Int))) = true, n ≤ List.length l, n ≤ (1000000000 : Nat), wfB l]))) := by kernel_rfl
theorem gb1 : (fun (l : List Int) (a m : Int) (n c : Nat) => retV [0] (callGB 4 22 [bsl 0 n c, si .i64 a, si .i64 m] [roB l] [false, true])) = fun (l : List Int) (a : Int) (m : Int) (n : Nat) (c : Nat) => some (((V.tup [(V1.one (C.nils)), (V1.one (C.int (IntKind.i64) ((0 : Int)))), (V1.one (C.int (IntKind.i64) ((3 : Int))))]), ([(SB.mk (false) (Cells.ints (IntKind.u8) (l)))], [decide (m < (0 : Int)) = true, (!decide (Prod.snd (Prod.snd (getU l n a)) = (0 : Int))) = false, n ≤ List.length l, n ≤ (1000000000 : Nat), wfB l]))) := by kernel_rfl
theorem gb2 : (fun (l : List Int) (a m : Int) (n c : Nat) => retV [0] (callGB 4 22 [bsl 0 n c, si .i64 a, si .i64 m] [roB l] [false, false, true])) = fun (l : List Int) (a : Int) (m : Int) (n : Nat) (c : Nat) => some (((V.tup [(V1.one (C.nils)), (V1.one (C.int (IntKind.i64) ((0 : Int)))), (V1.one (C.int (IntKind.i64) ((3 : Int))))]), ([(SB.mk (false) (Cells.ints (IntKind.u8) (l)))], [decide (IntKind.wrap IntKind.u64 m < Prod.fst (getU l n a)) = true, decide (m < (0 : Int)) = false, (!decide (Prod.snd (Prod.snd (getU l n a)) = (0 : Int))) = false, n ≤ List.length l, n ≤ (1000000000 : Nat), wfB l]))) := by kernel_rfl
theorem gb3 : (fun (l : List Int) (a m : Int) (n c : Nat) => retV [0] (callGB 4 22 [bsl 0 n c, si .i64 a, si .i64 m] [roB l] [false, false, false, true])) = fun (l : List Int) (a : Int) (m : Int) (n : Nat) (c : Nat) => some (((V.tup [(V1.one (C.nils)), (V1.one (C.int (IntKind.i64) ((0 : Int)))), (V1.one (C.int (IntKind.i64) ((11 : Int))))]), ([(SB.mk (false) (Cells.ints (IntKind.u8) (l)))], [decide (IntKind.wrap IntKind.u64 ((↑n : Int) - Prod.fst (Prod.snd (getU l n a))) < Prod.fst (getU l n a)) = true, (-9223372036854775808 : Int) ≤ (↑n : Int) - Prod.fst (Prod.snd (getU l n a)) ∧ (↑n : Int) - Prod.fst (Prod.snd (getU l n a)) ≤ (9223372036854775807 : Int), decide (IntKind.wrap IntKind.u64 m < Prod.fst (getU l n a)) = false, decide (m < (0 : Int)) = false, (!decide (Prod.snd (Prod.snd (getU l n a)) = (0 : Int))) = false, n ≤ List.length l, n ≤ (1000000000 : Nat), wfB l]))) := by kernel_rfl
theorem gb4 : (fun (l : List Int) (a m : Int) (n c : Nat) => retV [0, 1] (callGB 4 22 [bsl 0 n c, si .i64 a, si .i64 m] [roB l] [false, false, false, false])) = fun (l : List Int) (a : Int) (m : Int) (n : Nat) (c : Nat) => some (((V.tup [(V1.one (C.slice ((1 : Nat)) (N.c ((0 : Nat))) ((1 : Nat)) (N.s (Nat.sub (Int.toNat (Prod.fst (Prod.snd (getU l n a)) + IntKind.wrap IntKind.i64 (Prod.fst (getU l n a)))) (Int.toNat (Prod.fst (Prod.snd (getU l n a)))))) (N.s (Nat.sub (Int.toNat (Prod.fst (Prod.snd (getU l n a)) + IntKind.wrap IntKind.i64 (Prod.fst (getU l n a)))) (Int.toNat (Prod.fst (Prod.snd (getU l n a)))))))), (V1.one (C.sint (IntKind.i64) (Prod.fst (Prod.snd (getU l n a)) + IntKind.wrap IntKind.i64 (Prod.fst (getU l n a))))), (V1.one (C.int (IntKind.i64) ((0 : Int))))]), ([(SB.mk (false) (Cells.ints (IntKind.u8) (l))), (SB.mk (true) (Cells.ints (IntKind.u8) (List.take (Nat.sub (Int.toNat (Prod.fst (Prod.snd (getU l n a)) + IntKind.wrap IntKind.i64 (Prod.fst (getU l n a)))) (Int.toNat (Prod.fst (Prod.snd (getU l n a))))) (List.drop (Int.toNat (Prod.fst (Prod.snd (getU l n a)))) l))))], [Int.toNat (Prod.fst (Prod.snd (getU l n a))) + Nat.sub (Int.toNat (Prod.fst (Prod.snd (getU l n a)) + IntKind.wrap IntKind.i64 (Prod.fst (getU l n a)))) (Int.toNat (Prod.fst (Prod.snd (getU l n a)))) ≤ List.length l, Nat.sub (Int.toNat (Prod.fst (Prod.snd (getU l n a)) + IntKind.wrap IntKind.i64 (Prod.fst (getU l n a)))) (Int.toNat (Prod.fst (Prod.snd (getU l n a)))) ≤ (1000000000 : Nat), (0 : Int) ≤ Prod.fst (Prod.snd (getU l n a)) + IntKind.wrap IntKind.i64 (Prod.fst (getU l n a)), Prod.fst (Prod.snd (getU l n a)) + IntKind.wrap IntKind.i64 (Prod.fst (getU l n a)) ≤ (↑c : Int), (0 : Int) ≤ Prod.fst (Prod.snd (getU l n a)), Prod.fst (Prod.snd (getU l n a)) ≤ (↑(Int.toNat (Prod.fst (Prod.snd (getU l n a)) + IntKind.wrap IntKind.i64 (Prod.fst (getU l n a)))) : Int), (-9223372036854775808 : Int) ≤ Prod.fst (Prod.snd (getU l n a)) + IntKind.wrap IntKind.i64 (Prod.fst (getU l n a)) ∧ Prod.fst (Prod.snd (getU l n a)) + IntKind.wrap IntKind.i64 (Prod.fst (getU l n a)) ≤ (9223372036854775807 : Int), decide (IntKind.wrap IntKind.u64 ((↑n : Int) - Prod.fst (Prod.snd (getU l n a))) < Prod.fst (getU l n a)) = false, (-9223372036854775808 : Int) ≤ (↑n : Int) - Prod.fst (Prod.snd (getU l n a)) ∧ (↑n : Int) - Prod.fst (Prod.snd (getU l n a)) ≤ (9223372036854775807 : Int), decide (IntKind.wrap IntKind.u64 m < Prod.fst (getU l n a)) = false, decide (m < (0 : Int)) = false, (!decide (Prod.snd (Prod.snd (getU l n a)) = (0 : Int))) = false, n ≤ List.length l, n ≤ (1000000000 : Nat), wfB l]))) := by kernel_rfl
end
section
open Go.ChangeShapes Go.WideShapes Go.ChangeAt Go.RowKit Go.Sx
/-- what is known of what was got -/
structure GotU (l : List Int) (n : Nat) (a : Int) (j : Nat) : Prop where
  lt : j < 10
  a0 : 0 ≤ a
  e : getU l n a = (valU l a.toNat j, a + (j : Int) + 1, 0)
  more : ∀ t, t < j → 128 ≤ l.getD (a.toNat + t) 0
  last : l.getD (a.toNat + j) 0 < 128
  inn : a.toNat + j < n
  nn : 0 < j → l.getD (a.toNat + j) 0 ≠ 0
  top : j = 9 → l.getD (a.toNat + 9) 0 ≤ 1
theorem got_cases (l : List Int) (n : Nat) (a : Int) : (∃ j, GotU l n a j) ∨ ∃ e, getU l n a = (0, 0, e) ∧ (e = 2 ∨ e = 10 ∨ e = 11) := by
  by_cases h0 : a < 0 ∨ (n : Int) < a
  · exact .inr ⟨2, by unfold getU; rw [if_pos h0], .inl rfl⟩
  cases hs : scanU l n a.toNat 10 0 with
  | none =>
    by_cases h : n < a.toNat + 10
    · exact .inr ⟨11, by unfold getU; rw [if_neg h0, hs]; simp only; rw [if_pos h], .inr (.inr rfl)⟩
    · exact .inr ⟨10, by unfold getU; rw [if_neg h0, hs]; simp only; rw [if_neg h], .inr (.inl rfl)⟩
  | some j =>
    obtain ⟨j1, j2, j3, j4, j5⟩ := scanU_some hs
    by_cases hb : (0 < j ∧ l.getD (a.toNat + j) 0 = 0) ∨ (j = 9 ∧ 1 < l.getD (a.toNat + 9) 0)
    · exact .inr ⟨10, by unfold getU; rw [if_neg h0, hs]; simp only; rw [if_pos hb], .inr (.inl rfl)⟩
    · refine .inl ⟨j, by omega, by omega, ?_, fun t ht => (j3 t (by omega) ht).2, j5, j4, fun hp h => hb (.inl ⟨hp, h⟩), fun h => ?_⟩
      · unfold getU; rw [if_neg h0, hs]; simp only; rw [if_neg hb]
      · refine Classical.byContradiction fun hne => hb (.inr ⟨h, by omega⟩)
theorem pow128 : ∀ i : Nat, i < 10 → (128 : Int) ^ i * (if i = 9 then 2 else 128) ≤ 18446744073709551616 := by decide
theorem GotU.range {l : List Int} {n : Nat} {a : Int} {j : Nat} (h : GotU l n a j) (hw : wfB l) : 0 ≤ valU l a.toNat j ∧ valU l a.toNat j ≤ 18446744073709551615 := by
  refine ⟨valU_nn hw j _, ?_⟩
  have hg := wfB_get hw (a.toNat + j)
  have hp := pow128 j h.lt
  by_cases h9 : j = 9
  · rw [if_pos h9] at hp
    have hle : l.getD (a.toNat + j) 0 ≤ 1 := by rw [h9]; exact h.top h9
    have := valU_lt hw (M := 2) j a.toNat (by omega)
    rw [Int.mul_comm] at this
    omega
  · rw [if_neg h9] at hp
    have := valU_lt hw (M := 128) j a.toNat (by omega)
    rw [Int.mul_comm] at this
    omega
theorem getU_range {l : List Int} (hw : wfB l) (n : Nat) (a : Int) : 0 ≤ (getU l n a).1 ∧ (getU l n a).1 ≤ 18446744073709551615 := by
  rcases got_cases l n a with ⟨j, h⟩ | ⟨e, h, _⟩
  · rw [h.e]; exact h.range hw
  · rw [h]; show (0 : Int) ≤ 0 ∧ (0 : Int) ≤ 18446744073709551615; decide
theorem getU_place {l : List Int} {n : Nat} {a : Int} (h0 : (getU l n a).2.2 = 0) : 0 ≤ a ∧ a < (getU l n a).2.1 ∧ (getU l n a).2.1 ≤ n := by
  rcases got_cases l n a with ⟨j, h⟩ | ⟨e, h, he⟩
  · rw [h.e]
    have := h.inn; have := h.a0
    refine ⟨h.a0, ?_, ?_⟩
    · show a < a + (j : Int) + 1; omega
    · show a + (j : Int) + 1 ≤ n; omega
  · rw [h] at h0
    simp only at h0
    omega
/-- a number that may be below 0 -/
def unzz (v : Int) : Int := if v % 2 = 1 then -1 - v / 2 else v / 2
def getI (l : List Int) (n : Nat) (a : Int) : Int × Int × Int := (unzz (getU l n a).1, (getU l n a).2.1, (getU l n a).2.2)
/-- a blob of bytes -/
def getB (l : List Int) (n : Nat) (a m : Int) : List Int × Int × Int :=
  if (getU l n a).2.2 ≠ 0 then ([], 0, (getU l n a).2.2) else if m < 0 ∨ m < (getU l n a).1 then ([], 0, 3) else if (n : Int) - (getU l n a).2.1 < (getU l n a).1 then ([], 0, 11)
  else ((l.drop (getU l n a).2.1.toNat).take (getU l n a).1.toNat, (getU l n a).2.1 + (getU l n a).1, 0)
theorem tabGI_ok : ∀ f g, tabGI f = some g → TabOk Try.prog f g := tabs_ok fun x hx => by
  simp only [List.mem_cons, List.not_mem_nil, or_false] at hx
  rcases hx with rfl
  exact get_tab
def tupS (v t e : Int) : V := .tup [.one (.sint .i64 v), .one (.sint .i64 t), .one (.sint .i64 e)]
theorem wi64 {n : Int} (h0 : -9223372036854775808 ≤ n) (h1 : n ≤ 9223372036854775807) : IntKind.wrap .i64 n = n := by
  refine wrap_in ⟨?_, ?_⟩ <;> simp [IntKind.min, IntKind.max, IntKind.signed, IntKind.bits] <;> omega
theorem geti_works (l : List Int) (n c : Nat) (a : Int) (hn : n ≤ l.length) (hm : n ≤ 1000000000) (hw : wfB l) : Works Try.prog 21 [bsl 0 n c, si .i64 a] [roB l] (tupS (getI l n a).1 (getI l n a).2.1 (getI l n a).2.2) [roB l] := by
  have hr := getU_range hw n a
  have ed : Int.tdiv (getU l n a).1 2 = (getU l n a).1 / 2 := Int.tdiv_eq_ediv_of_nonneg hr.1
  have em : Int.tmod (getU l n a).1 2 = (getU l n a).1 % 2 := Int.tmod_eq_emod_of_nonneg hr.1
  have ew : IntKind.wrap .i64 ((getU l n a).1 / 2) = (getU l n a).1 / 2 := wi64 (by omega) (by omega)
  by_cases h : (getU l n a).1 % 2 = 1
  · have q := congrFun (congrFun (congrFun (congrFun gi1 l) a) n) c
    rw [ed, em, ew] at q
    refine works_of (r := []) tabGI_ok q ⟨by omega, decide_eq_true h, hn, hm, hw, trivial⟩ ndG ?_ (leG l)
    have en : bits .xor .i64 (-1) ((getU l n a).1 / 2) = -1 - (getU l n a).1 / 2 := by
      have := i64_not ((getU l n a).1 / 2).toNat (by omega)
      rwa [show ((((getU l n a).1 / 2).toNat : Nat) : Int) = (getU l n a).1 / 2 by omega] at this
    rw [en]
    simp [tupS, getI, unzz, h, leV, leL1, leV1, leC]
  · have q := congrFun (congrFun (congrFun (congrFun gi0 l) a) n) c
    rw [ed, em, ew] at q
    refine works_of (r := []) tabGI_ok q ⟨by omega, decide_eq_false h, hn, hm, hw, trivial⟩ ndG ?_ (leG l)
    simp [tupS, getI, unzz, h, leV, leL1, leV1, leC]
def gGetI : Sx.Loc := fun args bs => match args, bs with
  | [.v (.one (.slice 0 (.c 0) 1 (.s n) (.s _))), .v (.one (.sint .i64 a))], [⟨false, .ints k l⟩] => match decide (k = .u8) with
    | true => some (tupS (getI l n a).1 (getI l n a).2.1 (getI l n a).2.2, [roB l], [n ≤ l.length, n ≤ 1000000000, wfB l])
    | false => none
  | _, _ => none
theorem geti_tab : TabOk Try.prog 21 (loc wantRo gGetI) := loc_ok fun xs bs v bs' ob hg hob hokb => by
  unfold gGetI at hg
  split at hg
  · rename_i n c a k l
    split at hg
    · rename_i hk
      injection hg with hg; injection hg with e1 e2; injection e2 with e2 e3
      subst e1; subst e2; subst e3
      have hk' : k = .u8 := of_decide_eq_true hk
      subst hk'
      exact geti_works l n c a (hob _ (by simp)) (hob (n ≤ 1000000000) (by simp)) (hob (wfB l) (by simp))
    · cases hg
  · cases hg
/-! ### a copy of a part -/
theorem ndG2 : (List.range 1 ++ [2]).Nodup := by decide
theorem ndG1 : (List.range 1 ++ [1]).Nodup := by decide
theorem cloneO_works (l : List Int) (o n c : Nat) (hn : o + n ≤ l.length) (hx : n ≤ 1000000000) : Works Try.prog 38 [osl 0 o n c] [roB l] (bsl 1 n n) [roB l, owB ((l.drop o).take n)] := by
  by_cases h0 : n = 0
  · subst h0
    intro ρ K w us hm hu
    obtain ⟨u, s, rfl, ⟨⟨e, he, hu⟩, h1c⟩, hs⟩ := hu
    simp only [relVs] at hs; subst hs
    rcases hu with ⟨_, _, rfl⟩ | ⟨o', sp, cap, rfl, _⟩
    · refine (works_of (r := []) (bs := [roB l]) (args := [.v (.one .nils)]) (v := .v (.one .nils)) (bs' := [roB l]) no_tabs (congrFun cO2 l) trivial ndG trivial (leG l) ρ K w [.slice none 0 0] hm ⟨_, _, rfl, ⟨rfl, rfl⟩, rfl⟩).mono fun e w' ⟨u, ρ', he, hv, hm'⟩ => ?_
      have hg := hm'.beside (ghost_rel w' (.ints .u8 []) (fun ρ g i r h => by simp at h) rfl) rfl
      have hl := hm'.len
      refine ⟨u, ρ' ++ [⟨0, 0, 0⟩], he, ?_, ?_⟩
      · obtain ⟨hv1, hv2⟩ := hv
        simp only [C.rel] at hv1
        refine ⟨⟨⟨0, 0, 0⟩, ?_, .inl ⟨rfl, rfl, hv1⟩⟩, hv2⟩
        rw [← List.append_assoc, List.getElem?_append_right (by rw [hl]; simp)]
        rw [hl]; rfl
      · rw [← List.append_assoc]; exact hg
    · refine (works_of (r := [2]) (bs := [roB l]) (v := bsl 1 0 0) (bs' := [roB l, owB []]) no_tabs (congrFun (congrFun (congrFun cO3 l) ⟨e.blk, o', sp⟩) cap) trivial ndG2 ⟨rfl, rfl, rfl, rfl, Nat.le_refl _, Nat.le_refl _⟩ ⟨⟨fun h => h, rfl, rfl⟩, ⟨fun h => h, trivial⟩, trivial⟩ ρ K w _ hm ⟨_, _, rfl, ⟨rfl, h1c⟩, rfl⟩)
  · refine works_of (r := [2]) no_tabs (congrFun (congrFun (congrFun (congrFun cO1 l) o) n) c) ⟨hn, by omega, by omega, by omega, trivial⟩ ndG2 ⟨rfl, rfl, rfl, rfl, Nat.le_refl _, Nat.le_refl _⟩ ⟨⟨fun h => h, rfl, rfl⟩, ⟨fun h => h, rfl, rfl⟩, trivial⟩
theorem cloneO_tab : TabOk Try.prog 38 (loc wantRo gCloneO) := loc_ok fun xs bs v bs' ob hg hob hokb => by
  unfold gCloneO at hg
  split at hg
  · rename_i o n c k l
    split at hg
    · rename_i hk
      injection hg with hg; injection hg with e1 e2; injection e2 with e2 e3
      subst e1; subst e2; subst e3
      have hk' : k = .u8 := of_decide_eq_true hk
      subst hk'
      exact cloneO_works l o n c (hob _ (by simp)) (hob (n ≤ 1000000000) (by simp))
    · cases hg
  · cases hg
theorem tabGB_ok : ∀ f g, tabGB f = some g → TabOk Try.prog f g := tabs_ok fun x hx => by
  simp only [List.mem_cons, List.not_mem_nil, or_false] at hx
  rcases hx with rfl | rfl
  · exact get_tab
  · exact cloneO_tab
/-! ### a blob -/
def tup3 (b n : Nat) (t e : Int) : V := .tup [.one (.slice b (.c 0) 1 (.s n) (.s n)), .one (.sint .i64 t), .one (.sint .i64 e)]
theorem ghost_tup3 {f : FuncId} {args : List V} {l : List Int} {t e : Int} (h : Works Try.prog f args [roB l] (.tup [.one .nils, .one (.sint .i64 t), .one (.sint .i64 e)]) [roB l]) : Works Try.prog f args [roB l] (tup3 1 0 t e) [roB l, owB []] := by
  intro ρ K w us hm hu
  refine (h ρ K w us hm hu).mono fun en w' ⟨u, ρ', he, hv, hm'⟩ => ?_
  have hg := hm'.beside (ghost_rel w' (.ints .u8 []) (fun ρ g i r h => by simp at h) rfl) rfl
  have hl := hm'.len
  refine ⟨u, ρ' ++ [⟨0, 0, 0⟩], he, ?_, ?_⟩
  · obtain ⟨vs, hv1, hv2⟩ := hv
    refine ⟨vs, hv1, ?_⟩
    obtain ⟨v1, s1, rfl, ⟨h1, h1'⟩, h2⟩ := hv2
    simp only [C.rel] at h1
    refine ⟨v1, s1, rfl, ⟨⟨⟨0, 0, 0⟩, ?_, .inl ⟨rfl, rfl, h1⟩⟩, h1'⟩, ?_⟩
    · rw [← List.append_assoc, List.getElem?_append_right (by rw [hl]; simp)]
      rw [hl]; rfl
    · obtain ⟨v2, s2, rfl, ⟨h3, h3'⟩, v3, s3, rfl, ⟨h4, h4'⟩, h5⟩ := h2
      exact ⟨v2, _, rfl, ⟨h3, h3'⟩, v3, _, rfl, ⟨h4, h4'⟩, h5⟩
  · rw [← List.append_assoc]; exact hg
theorem getb_works (l : List Int) (n c : Nat) (a m : Int) (hn : n ≤ l.length) (hm : n ≤ 1000000000) (hw : wfB l) (hi : i64 m) : Works Try.prog 22 [bsl 0 n c, si .i64 a, si .i64 m] [roB l] (tup3 1 (getB l n a m).1.length (getB l n a m).2.1 (getB l n a m).2.2) [roB l, owB (getB l n a m).1] := capG_works fun hc => by
  have hr := getU_range hw n a
  have hp := getU_place (l := l) (n := n) (a := a)
  have app : ∀ {A : Type} {f g : List Int → Int → Int → Nat → Nat → A}, f = g → f l a m n c = g l a m n c := fun hh => by rw [hh]
  have err : ∀ (t e : Int), getB l n a m = ([], t, e) → Works Try.prog 22 [bsl 0 n c, si .i64 a, si .i64 m] [roB l] (.tup [.one .nils, .one (.sint .i64 t), .one (.sint .i64 e)]) [roB l] → Works Try.prog 22 [bsl 0 n c, si .i64 a, si .i64 m] [roB l] (tup3 1 (getB l n a m).1.length (getB l n a m).2.1 (getB l n a m).2.2) [roB l, owB (getB l n a m).1] := by
    intro t e he h
    rw [he]
    exact ghost_tup3 h
  by_cases h0 : (getU l n a).2.2 = 0
  · obtain ⟨p1, p2, p3⟩ := hp h0
    have q1 := app gb1
    have q2 := app gb2
    have q3 := app gb3
    have q4 := app gb4
    have hd : (!decide ((getU l n a).2.2 = 0)) = false := by rw [decide_eq_true h0]; rfl
    by_cases hm0 : m < 0
    · refine err 0 3 (by unfold getB; rw [if_neg (fun h => h h0), if_pos (.inl hm0)]) (works_of (r := []) tabGB_ok q1 ⟨decide_eq_true hm0, hd, hn, hm, hw, trivial⟩ ndG ?_ (leG l))
      simp [leV, leL1, leV1, leC]
    · have em : IntKind.wrap .u64 m = m := w64 (by omega) (by unfold i64 at hi; omega)
      by_cases hv : m < (getU l n a).1
      · refine err 0 3 (by unfold getB; rw [if_neg (fun h => h h0), if_pos (.inr hv)]) (works_of (r := []) tabGB_ok q2 ⟨by rw [em]; exact decide_eq_true hv, decide_eq_false hm0, hd, hn, hm, hw, trivial⟩ ndG ?_ (leG l))
        simp [leV, leL1, leV1, leC]
      · have en : IntKind.wrap .u64 ((n : Int) - (getU l n a).2.1) = (n : Int) - (getU l n a).2.1 := w64 (by omega) (by omega)
        by_cases hs : (n : Int) - (getU l n a).2.1 < (getU l n a).1
        · refine err 0 11 (by unfold getB; rw [if_neg (fun h => h h0), if_neg (by omega), if_pos hs]) (works_of (r := []) tabGB_ok q3 ⟨by rw [en]; exact decide_eq_true hs, by omega, by rw [em]; exact decide_eq_false hv, decide_eq_false hm0, hd, hn, hm, hw, trivial⟩ ndG ?_ (leG l))
          simp [leV, leL1, leV1, leC]
        · have e : getB l n a m = ((l.drop (getU l n a).2.1.toNat).take (getU l n a).1.toNat, (getU l n a).2.1 + (getU l n a).1, 0) := by
            unfold getB; rw [if_neg (fun h => h h0), if_neg (by omega), if_neg hs]
          have ew : IntKind.wrap .i64 (getU l n a).1 = (getU l n a).1 := wi64 (by omega) (by omega)
          have es : Nat.sub (Int.toNat ((getU l n a).2.1 + (getU l n a).1)) (Int.toNat (getU l n a).2.1) = (getU l n a).1.toNat := by
            show Int.toNat ((getU l n a).2.1 + (getU l n a).1) - Int.toNat (getU l n a).2.1 = _
            omega
          have el : ((l.drop (getU l n a).2.1.toNat).take (getU l n a).1.toNat).length = (getU l n a).1.toNat := by
            rw [List.length_take, List.length_drop]; omega
          rw [ew, es] at q4
          rw [e]
          refine works_of (r := [1]) tabGB_ok q4 ⟨by omega, by omega, by omega, by omega, by omega, by omega, by omega, by rw [en]; exact decide_eq_false hs, by omega, by rw [em]; exact decide_eq_false hv, decide_eq_false hm0, hd, hn, hm, hw, trivial⟩ ndG1 ?_ ⟨⟨fun h => h, rfl, rfl⟩, ⟨fun h => h, rfl, rfl⟩, trivial⟩
          simp [tup3, leV, leL1, leV1, leC, N.v, List.range, List.range.loop, el]
  · have hd : (!decide ((getU l n a).2.2 = 0)) = true := by rw [decide_eq_false h0]; rfl
    refine err 0 (getU l n a).2.2 (by unfold getB; rw [if_pos h0]) (works_of (r := []) tabGB_ok (app gb0) ⟨hd, hn, hm, hw, trivial⟩ ndG ?_ (leG l))
    simp [leV, leL1, leV1, leC]
def gGetB : Sx.Loc := fun args bs => match args, bs with
  | [.v (.one (.slice 0 (.c 0) 1 (.s n) (.s _))), .v (.one (.sint .i64 a)), .v (.one (.sint .i64 m))], [⟨false, .ints k l⟩] => match decide (k = .u8) with
    | true => some (tup3 1 (getB l n a m).1.length (getB l n a m).2.1 (getB l n a m).2.2, [roB l, owB (getB l n a m).1], [n ≤ l.length, n ≤ 1000000000, wfB l, i64 m])
    | false => none
  | _, _ => none
theorem getb_tab : TabOk Try.prog 22 (loc wantRo gGetB) := loc_ok fun xs bs v bs' ob hg hob hokb => by
  unfold gGetB at hg
  split at hg
  · rename_i n c a m k l
    split at hg
    · rename_i hk
      injection hg with hg; injection hg with e1 e2; injection e2 with e2 e3
      subst e1; subst e2; subst e3
      have hk' : k = .u8 := of_decide_eq_true hk
      subst hk'
      exact getb_works l n c a m (hob _ (by simp)) (hob (n ≤ 1000000000) (by simp)) (hob (wfB l) (by simp)) (hob (i64 m) (by simp))
    · cases hg
  · cases hg
end
section
open Go.ChangeShapes Go.WideShapes Go.ChangeAt Go.RowKit Go.Sx
theorem scanU_eq {l : List Int} {n k j : Nat} (h1 : ∀ t, t < j → k + t < n ∧ 128 ≤ l.getD (k + t) 0) (h2 : k + j < n) (h3 : l.getD (k + j) 0 < 128) : ∀ (m i : Nat), i ≤ j → j < i + m → scanU l n k m i = some j
  | 0, i, h, h' => by omega
  | m + 1, i, h, h' => by
    unfold scanU
    by_cases hij : i = j
    · subst hij
      rw [if_pos h2, if_pos h3]
    · obtain ⟨a, b⟩ := h1 i (by omega)
      rw [if_pos a, if_neg (by omega)]
      exact scanU_eq h1 h2 h3 m (i + 1) (by omega) (by omega)
theorem drop_cons {l : List Int} {k : Nat} {x : Int} {r : List Int} (h : l.drop k = x :: r) : l.getD k 0 = x ∧ l.drop (k + 1) = r ∧ k < l.length := by
  have hk : k < l.length := by
    rcases Nat.lt_or_ge k l.length with h' | h'
    · exact h'
    · rw [List.drop_eq_nil_of_le h'] at h; cases h
  refine ⟨?_, ?_, hk⟩
  · rw [List.getD_eq_getElem?_getD, ← Nat.add_zero k, ← List.getElem?_drop, h]; rfl
  · rw [← List.drop_drop, h]; rfl
theorem drop_get {l : List Int} {k : Nat} (h : k < l.length) : l.drop k = l.getD k 0 :: l.drop (k + 1) := by
  rw [List.drop_eq_getElem_cons h, List.getD_eq_getElem?_getD, List.getElem?_eq_getElem h]; rfl
/-- a varint's bytes, where they lie -/
theorem vint_at : ∀ (m : Nat) {l : List Int} {k : Nat} {r : List Int}, l.drop k = vintN m ++ r → ∃ j, (vintN m).length = j + 1 ∧ (∀ t, t < j → 128 ≤ l.getD (k + t) 0) ∧ l.getD (k + j) 0 = ((m / 128 ^ j : Nat) : Int) ∧ m / 128 ^ j < 128 ∧ (0 < j → 128 ^ j ≤ m) ∧ valU l k j = m ∧ l.drop (k + j + 1) = r ∧ k + j < l.length := fun m => by
  induction m using Nat.strongRecOn with
  | _ m ih =>
    intro l k r h
    by_cases hm : m < 128
    · rw [vintN_small hm] at h ⊢
      obtain ⟨h1, h2, h3⟩ := drop_cons h
      refine ⟨0, rfl, fun t ht => by omega, by rw [Nat.add_zero, h1]; simp, by simpa using hm, fun h => by omega, ?_, h2, h3⟩
      unfold valU; rw [h1]; omega
    · rw [vintN_big hm] at h ⊢
      obtain ⟨h1, h2, h3⟩ := drop_cons h
      obtain ⟨j, j1, j2, j3, j4, j5, j6, j7, j8⟩ := ih (m / 128) (by omega) (l := l) (k := k + 1) (r := r) h2
      have hp : m / 128 ^ (j + 1) = m / 128 / 128 ^ j := by rw [Nat.pow_succ, Nat.mul_comm, Nat.div_div_eq_div_mul]
      refine ⟨j + 1, by rw [List.length_cons, j1], fun t ht => ?_, ?_, ?_, fun _ => ?_, ?_, ?_, ?_⟩
      · cases t with
        | zero => rw [Nat.add_zero, h1]; omega
        | succ t => have := j2 t (by omega); rwa [show k + (t + 1) = k + 1 + t by omega]
      · rw [show k + (j + 1) = k + 1 + j by omega, j3, hp]
      · rw [hp]; exact j4
      · cases j with
        | zero => simpa using (by omega : 128 ≤ m)
        | succ j =>
          have := j5 (by omega)
          rw [Nat.pow_succ]
          have h3 := Nat.mul_le_mul_right 128 this
          have h4 : m / 128 * 128 ≤ m := Nat.div_mul_le_self m 128
          omega
      · show l.getD k 0 % 128 + 128 * valU l (k + 1) j = m
        rw [h1, j6]; omega
      · rw [show k + (j + 1) + 1 = k + 1 + j + 1 by omega]; exact j7
      · omega
theorem pow_u64 : ∀ j : Nat, j < 20 → 10 ≤ j → 18446744073709551615 < 128 ^ j := by decide
/-- what was put is got -/
theorem getU_put {l : List Int} {n k : Nat} {m : Int} {r : List Int} (h : l.drop k = vint m ++ r) (hm : u64 m) (hn : k + (vint m).length ≤ n) : getU l n (k : Int) = (m, ((k + (vint m).length : Nat) : Int), 0) := by
  have hle := vint_le hm
  unfold vint at h hn hle ⊢
  obtain ⟨j, j1, j2, j3, j4, j5, j6, j7, j8⟩ := vint_at m.toNat h
  have hs : scanU l n k 10 0 = some j := scanU_eq (fun t ht => ⟨by omega, j2 t ht⟩) (by omega) (by rw [j3]; omega) 10 0 (by omega) (by omega)
  have hbad : ¬ ((0 < j ∧ l.getD (k + j) 0 = 0) ∨ (j = 9 ∧ 1 < l.getD (k + 9) 0)) := by
    rintro (⟨h1, h2⟩ | ⟨h1, h2⟩)
    · have := j5 h1
      rw [j3] at h2
      have hp : 0 < m.toNat / 128 ^ j := Nat.div_pos this (Nat.pow_pos (by decide))
      omega
    · subst h1
      rw [j3] at h2
      have : m.toNat / 128 ^ 9 ≤ 1 := by
        have h3 : m.toNat ≤ 18446744073709551615 := by unfold u64 at hm; omega
        omega
      omega
  unfold getU
  rw [if_neg (by omega), show ((k : Nat) : Int).toNat = k by omega, hs]
  simp only
  rw [if_neg hbad, j6, j1]
  unfold u64 at hm
  refine Prod.ext ?_ (Prod.ext ?_ rfl)
  · show ((m.toNat : Nat) : Int) = m; omega
  · show (k : Int) + (j : Int) + 1 = ((k + (j + 1) : Nat) : Int); omega
/-- what is got was put -/
theorem val_put {l : List Int} (hw : wfB l) : ∀ (j : Nat) {k : Nat}, k + j < l.length → (∀ t, t < j → 128 ≤ l.getD (k + t) 0) → l.getD (k + j) 0 < 128 → (0 < j → l.getD (k + j) 0 ≠ 0) → l.drop k = vintN (valU l k j).toNat ++ l.drop (k + j + 1) ∧ (0 < j → 128 ≤ valU l k j)
  | 0, k, hk, h1, h2, h3 => by
    have hb := wfB_get hw k
    rw [Nat.add_zero] at hk h2
    refine ⟨?_, fun h => by omega⟩
    unfold valU
    rw [vintN_small (by omega), drop_get hk, Nat.add_zero]
    show _ = _ :: ([] ++ _)
    rw [List.nil_append]
    congr 1; omega
  | j + 1, k, hk, h1, h2, h3 => by
    have hb := wfB_get hw k
    have hb2 := wfB_get hw (k + (j + 1))
    have h0 := h1 0 (by omega)
    rw [Nat.add_zero] at h0
    obtain ⟨i1, i2⟩ := val_put hw j (k := k + 1) (by omega) (fun t ht => by have := h1 (t + 1) (by omega); rwa [show k + 1 + t = k + (t + 1) by omega]) (by rwa [show k + 1 + j = k + (j + 1) by omega]) (fun _ => by rw [show k + 1 + j = k + (j + 1) by omega]; exact h3 (by omega))
    have hv : 1 ≤ valU l (k + 1) j := by
      cases j with
      | zero =>
        have := h3 (by omega)
        unfold valU
        rw [Nat.zero_add] at this h2 hb2
        omega
      | succ j => have := i2 (by omega); omega
    have e : valU l k (j + 1) = l.getD k 0 % 128 + 128 * valU l (k + 1) j := by conv => lhs; unfold valU
    refine ⟨?_, fun _ => by rw [e]; omega⟩
    rw [e, vintN_big (by omega), drop_get (by omega : k < l.length)]
    show _ = _ :: (_ ++ _)
    rw [show (l.getD k 0 % 128 + 128 * valU l (k + 1) j).toNat / 128 = (valU l (k + 1) j).toNat by omega, show k + (j + 1) + 1 = k + 1 + j + 1 by omega, ← i1]
    congr 1; omega
theorem getU_inv {l : List Int} (hw : wfB l) {n : Nat} (hn : n ≤ l.length) {k : Nat} (h : (getU l n (k : Int)).2.2 = 0) : ∃ m : Int, u64 m ∧ getU l n (k : Int) = (m, ((k + (vint m).length : Nat) : Int), 0) ∧ l.drop k = vint m ++ l.drop (k + (vint m).length) ∧ k + (vint m).length ≤ n := by
  rcases got_cases l n (k : Int) with ⟨j, g⟩ | ⟨e, he, hne⟩
  · have hr := g.range hw
    have gi := g.inn; have gm := g.more; have gl := g.last; have gn := g.nn
    rw [show ((k : Nat) : Int).toNat = k by omega] at hr gi gm gl gn
    obtain ⟨v1, _⟩ := val_put hw j (by omega) gm gl gn
    have hlen : (vint (valU l k j)).length = j + 1 := by
      obtain ⟨j', j1, _, _, _, _, _, j7, j8⟩ := vint_at (valU l k j).toNat v1
      have h1 := congrArg List.length j7
      rw [List.length_drop, List.length_drop] at h1
      unfold vint
      rw [j1]; omega
    refine ⟨valU l k j, hr, ?_, ?_, by rw [hlen]; omega⟩
    · rw [g.e, show ((k : Nat) : Int).toNat = k by omega, hlen]
      refine Prod.ext rfl (Prod.ext ?_ rfl)
      show (k : Int) + (j : Int) + 1 = ((k + (j + 1) : Nat) : Int); omega
    · rw [hlen, show k + (j + 1) = k + j + 1 by omega]; exact v1
  · rw [he] at h
    simp only at h
    omega
/-! ### numbers that may be below 0 -/
theorem unzz_zz (m : Int) : unzz (zz m) = m := by
  unfold unzz zz
  split <;> split <;> omega
theorem zz_unzz {w : Int} (h : 0 ≤ w) : zz (unzz w) = w := by
  unfold unzz zz
  split <;> split <;> omega
theorem unzz_i64 {w : Int} (h : u64 w) : i64 (unzz w) := by
  unfold unzz i64; unfold u64 at h
  split <;> omega
theorem getI_put {l : List Int} {n k : Nat} {m : Int} {r : List Int} (h : l.drop k = svint m ++ r) (hm : i64 m) (hn : k + (svint m).length ≤ n) : getI l n (k : Int) = (m, ((k + (svint m).length : Nat) : Int), 0) := by
  have := getU_put (m := zz m) h (zz_u64 hm) hn
  unfold getI
  rw [this, unzz_zz]
  rfl
theorem getI_inv {l : List Int} (hw : wfB l) {n : Nat} (hn : n ≤ l.length) {k : Nat} (h : (getI l n (k : Int)).2.2 = 0) : ∃ m : Int, i64 m ∧ getI l n (k : Int) = (m, ((k + (svint m).length : Nat) : Int), 0) ∧ l.drop k = svint m ++ l.drop (k + (svint m).length) ∧ k + (svint m).length ≤ n := by
  obtain ⟨w, w1, w2, w3, w4⟩ := getU_inv hw hn h
  have e : svint (unzz w) = vint w := by unfold svint; rw [zz_unzz w1.1]
  refine ⟨unzz w, unzz_i64 w1, ?_, ?_, ?_⟩
  · unfold getI; rw [w2, e]
  · rw [e]; exact w3
  · rw [e]; exact w4
/-! ### blobs -/
theorem getB_put {l : List Int} {n k : Nat} {b r : List Int} {m : Int} (h : l.drop k = vint ((b.length : Nat) : Int) ++ (b ++ r)) (hb : (b.length : Int) ≤ m) (hb2 : b.length ≤ 1000000000) (hn : k + (vint ((b.length : Nat) : Int)).length + b.length ≤ n) : getB l n (k : Int) m = (b, ((k + (vint ((b.length : Nat) : Int)).length + b.length : Nat) : Int), 0) := by
  have hu : u64 ((b.length : Nat) : Int) := ⟨by omega, by omega⟩
  have g := getU_put h hu (by omega : k + (vint ((b.length : Nat) : Int)).length ≤ n)
  have hd : l.drop (k + (vint ((b.length : Nat) : Int)).length) = b ++ r := by rw [← List.drop_drop, h, List.drop_left]
  unfold getB
  rw [g]
  simp only
  rw [if_neg (fun h => h rfl), if_neg (by omega), if_neg (by omega)]
  refine Prod.ext ?_ (Prod.ext ?_ rfl)
  · show List.take (((b.length : Nat) : Int)).toNat (List.drop (((k + (vint ((b.length : Nat) : Int)).length : Nat) : Int)).toNat l) = b
    rw [show (((k + (vint ((b.length : Nat) : Int)).length : Nat) : Int)).toNat = k + (vint ((b.length : Nat) : Int)).length by omega, hd, show (((b.length : Nat) : Int)).toNat = b.length by omega, List.take_left]
  · show ((k + (vint ((b.length : Nat) : Int)).length : Nat) : Int) + ((b.length : Nat) : Int) = ((k + (vint ((b.length : Nat) : Int)).length + b.length : Nat) : Int)
    omega
theorem getB_inv {l : List Int} (hw : wfB l) {n : Nat} (hn : n ≤ l.length) {k : Nat} {m : Int} (h : (getB l n (k : Int) m).2.2 = 0) : ∃ b : List Int, (b.length : Int) ≤ m ∧ getB l n (k : Int) m = (b, ((k + (vint ((b.length : Nat) : Int)).length + b.length : Nat) : Int), 0) ∧ l.drop k = vint ((b.length : Nat) : Int) ++ (b ++ l.drop (k + (vint ((b.length : Nat) : Int)).length + b.length)) ∧ k + (vint ((b.length : Nat) : Int)).length + b.length ≤ n := by
  unfold getB at h ⊢
  by_cases h0 : (getU l n (k : Int)).2.2 = 0
  · obtain ⟨w, w1, w2, w3, w4⟩ := getU_inv hw hn h0
    rw [w2] at h ⊢
    simp only at h ⊢
    rw [if_neg (fun h => h rfl)] at h ⊢
    unfold u64 at w1
    by_cases h1 : m < 0 ∨ m < w
    · rw [if_pos h1] at h; cases h
    · rw [if_neg h1] at h ⊢
      by_cases h2 : (n : Int) - ((k + (vint w).length : Nat) : Int) < w
      · rw [if_pos h2] at h; cases h
      · rw [if_neg h2] at h ⊢
        have hk : (((k + (vint w).length : Nat) : Int)).toNat = k + (vint w).length := by omega
        have hl : ((l.drop (k + (vint w).length)).take w.toNat).length = w.toNat := by rw [List.length_take, List.length_drop]; omega
        have hw2 : (((w.toNat : Nat)) : Int) = w := by omega
        rw [hk]
        refine ⟨(l.drop (k + (vint w).length)).take w.toNat, by rw [hl]; omega, ?_, ?_, ?_⟩
        · rw [hl, hw2]
          refine Prod.ext rfl (Prod.ext ?_ rfl)
          show ((k + (vint w).length : Nat) : Int) + w = ((k + (vint w).length + w.toNat : Nat) : Int)
          omega
        · rw [hl, hw2, w3]
          congr 1
          have ht := (List.take_append_drop w.toNat (l.drop (k + (vint w).length))).symm
          rwa [List.drop_drop] at ht
        · rw [hl, hw2]; omega
  · rw [if_pos h0] at h; exact absurd h h0
end
section
open Go.Sx
def vbR : Nat → Int → List Int
  | 0, n => [IntKind.wrap .u8 n]
  | j + 1, n => IntKind.wrap .u8 (IntKind.wrap .u64 (128 + Int.tmod n 128)) :: vbR j (Int.tdiv n 128)
def voR : Nat → Int → List Prop
  | 0, n => [decide (n < 128) = true]
  | j + 1, n => voR j (Int.tdiv n 128) ++ [0 ≤ Int.tdiv n 128 ∧ Int.tdiv n 128 ≤ 18446744073709551615, decide (n < 128) = false]
noncomputable def rv (j : Nat) (n : Int) := retV [2 * j] (call0 14 42 [si .u64 n] [] (List.replicate j false ++ [true]))
def rvr (j : Nat) (n : Int) : Option (V × List SB × List Prop) := some (lenB j (2 * j), [⟨true, .exp (sints (vbR j n))⟩], voR j n)
theorem rv0 : (fun n => rv 0 n) = fun n => rvr 0 n := by kernel_rfl
theorem rv1 : (fun n => rv 1 n) = fun n => rvr 1 n := by kernel_rfl
theorem rv2 : (fun n => rv 2 n) = fun n => rvr 2 n := by kernel_rfl
theorem rv3 : (fun n => rv 3 n) = fun n => rvr 3 n := by kernel_rfl
theorem rv4 : (fun n => rv 4 n) = fun n => rvr 4 n := by kernel_rfl
theorem rv5 : (fun n => rv 5 n) = fun n => rvr 5 n := by kernel_rfl
theorem rv6 : (fun n => rv 6 n) = fun n => rvr 6 n := by kernel_rfl
theorem rv7 : (fun n => rv 7 n) = fun n => rvr 7 n := by kernel_rfl
theorem rv8 : (fun n => rv 8 n) = fun n => rvr 8 n := by kernel_rfl
theorem rv9 : (fun n => rv 9 n) = fun n => rvr 9 n := by kernel_rfl
theorem rv_all (n : Int) : ∀ j, j < 10 → rv j n = rvr j n
  | 0, _ => congrFun rv0 n
  | 1, _ => congrFun rv1 n
  | 2, _ => congrFun rv2 n
  | 3, _ => congrFun rv3 n
  | 4, _ => congrFun rv4 n
  | 5, _ => congrFun rv5 n
  | 6, _ => congrFun rv6 n
  | 7, _ => congrFun rv7 n
  | 8, _ => congrFun rv8 n
  | 9, _ => congrFun rv9 n
  | _ + 10, h => absurd h (by omega)
def gVar : List V → List Bool → Option Made := fun args h => match ivs [.u64] args with
  | some [n] => some (bsl 0 (vint n).length (vint n).length, [⟨true, .ints .u8 (vint n)⟩], h, [u64 n])
  | _ => none
def tabV := tabs [(42, fresh gVar)]
noncomputable def callV (d : Nat) := callN Try.prog tabV (fun _ => false) 100000 d
def inI (x : Int) : Prop := -9223372036854775808 ≤ x ∧ x ≤ 9223372036854775807
def eR (a : Int) : Nat → Int
  | 0 => a
  | i + 1 => eR a i + 1
def fR (a : Int) (j : Nat) : Nat → Int
  | 0 => eR a j
  | i + 1 => fR a j i - 1
def atR (l : List Int) (x : Int) : Int := List.getD l (Int.toNat x) 0
def hR (l : List Int) (a : Int) (j : Nat) : Nat → Int
  | 0 => IntKind.wrap .u64 (0 + Int.tmod (atR l (fR a j 0)) 128)
  | m + 1 => IntKind.wrap .u64 (IntKind.wrap .u64 (hR l a j m * 128) + Int.tmod (atR l (fR a j (m + 1))) 128)
def scR (l : List Int) (n : Nat) (a : Int) : Nat → List Prop
  | 0 => [decide ((n : Int) < a) = false, decide (a < 0) = false]
  | j + 1 => [inI (eR a (j + 1)), decide (eR a j < a + 10) = true, inI (a + 10), decide (128 ≤ atR l (eR a j)) = true, Int.toNat (eR a j) < l.length, 0 ≤ eR a j, eR a j < (n : Int), decide (eR a j < (n : Int)) = true] ++ scR l n a j
def shR (l : List Int) (n : Nat) (a : Int) (j : Nat) : List Prop := [decide (eR a j = (n : Int)) = true, decide (eR a j = a + 10) = false, inI (a + 10), decide (eR a j < (n : Int)) = false] ++ scR l n a j
def lgR1 (l : List Int) (n : Nat) (a : Int) : List Prop := [decide (eR a 10 = a + 10) = true, inI (a + 10), decide (eR a 10 < (n : Int)) = false] ++ scR l n a 10
def lgR2 (l : List Int) (n : Nat) (a : Int) : List Prop := [decide (eR a 10 = a + 10) = true, inI (a + 10), decide (128 ≤ atR l (eR a 10)) = false, Int.toNat (eR a 10) < l.length, 0 ≤ eR a 10, eR a 10 < (n : Int), decide (eR a 10 < (n : Int)) = true] ++ scR l n a 10
def lgR3 (l : List Int) (n : Nat) (a : Int) : List Prop := [decide (eR a 10 = a + 10) = true, inI (a + 10), decide (eR a 10 < a + 10) = false, inI (a + 10), decide (128 ≤ atR l (eR a 10)) = true, Int.toNat (eR a 10) < l.length, 0 ≤ eR a 10, eR a 10 < (n : Int), decide (eR a 10 < (n : Int)) = true] ++ scR l n a 10
def rrR (l : List Int) (n : Nat) (a : Int) (j : Nat) : Nat → List Prop
  | 0 => [decide (eR a j = (n : Int)) = false, decide (eR a j = a + 10) = false, inI (a + 10), decide (128 ≤ atR l (eR a j)) = false, Int.toNat (eR a j) < l.length, 0 ≤ eR a j, eR a j < (n : Int), decide (eR a j < (n : Int)) = true] ++ scR l n a j
  | m + 1 => [inI (fR a j (m + 1)), 0 ≤ Int.tmod (atR l (fR a j m)) 128 ∧ Int.tmod (atR l (fR a j m)) 128 ≤ 18446744073709551615, Int.toNat (fR a j m) < l.length, 0 ≤ fR a j m, fR a j m < (n : Int), decide (a ≤ fR a j m) = true] ++ rrR l n a j m
def mapU (l : List Int) : List UInt8 := l.map fun n => UInt8.ofNat (Int.toNat n)
def nR (a : Int) (j : Nat) : Nat := Nat.sub (Int.toNat (eR a (j + 1))) (Int.toNat a)
def cmR (l : List Int) (n c : Nat) (a : Int) (j : Nat) : List Prop := [Int.toNat a + nR a j ≤ l.length, (0 : Nat) = 0, (vint (hR l a j j)).length = (vint (hR l a j j)).length, u64 (hR l a j j), 0 ≤ eR a (j + 1), eR a (j + 1) ≤ (c : Int), 0 ≤ a, a ≤ ((Int.toNat (eR a (j + 1)) : Nat) : Int), inI (eR a (j + 1)), decide (a ≤ fR a j (j + 1)) = false] ++ rrR l n a j (j + 1)
def yesG (l : List Int) (n c : Nat) (a : Int) (j : Nat) : List Prop := [inI (eR a (j + 1)), (!mapU (vint (hR l a j j)) == mapU (List.take (nR a j) (List.drop (Int.toNat a) l))) = false] ++ cmR l n c a j
def nayG (l : List Int) (n c : Nat) (a : Int) (j : Nat) : List Prop := [(!mapU (vint (hR l a j j)) == mapU (List.take (nR a j) (List.drop (Int.toNat a) l))) = true] ++ cmR l n c a j
noncomputable def gr (l : List Int) (a : Int) (n c : Nat) (h : List Bool) := retV [0] (callV 6 29 [bsl 0 n c, si .i64 a] [roB l] h)
def hitH (j : Nat) : List Bool := [false, false] ++ List.replicate (3 * j) true ++ [true, false, false, false] ++ List.replicate (j + 1) true ++ [false, true, false]
theorem grNeg : (fun l a n c => gr l a n c [true]) = fun l a _ _ => some (tupI 0 0 2, [roB l], [decide (a < 0) = true]) := by kernel_rfl
theorem grFar : (fun l a n c => gr l a n c [false, true]) = fun (l : List Int) (a : Int) (n : Nat) (_ : Nat) => some (tupI 0 0 2, [roB l], [decide ((n : Int) < a) = true, decide (a < 0) = false]) := by kernel_rfl
theorem grL1 : (fun l a n c => gr l a n c ([false, false] ++ List.replicate 30 true ++ [false, true])) = fun l a n _ => some (tupI 0 0 10, [roB l], lgR1 l n a) := by kernel_rfl
theorem grL2 : (fun l a n c => gr l a n c ([false, false] ++ List.replicate 30 true ++ [true, false, true])) = fun l a n _ => some (tupI 0 0 10, [roB l], lgR2 l n a) := by kernel_rfl
theorem grL3 : (fun l a n c => gr l a n c ([false, false] ++ List.replicate 30 true ++ [true, true, false, true])) = fun l a n _ => some (tupI 0 0 10, [roB l], lgR3 l n a) := by kernel_rfl
theorem grS0 : (fun l a n c => gr l a n c ([false, false] ++ List.replicate (3 * 0) true ++ [false, false, true])) = fun l a n _ => some (tupI 0 0 11, [roB l], shR l n a 0) := by kernel_rfl
theorem grS1 : (fun l a n c => gr l a n c ([false, false] ++ List.replicate (3 * 1) true ++ [false, false, true])) = fun l a n _ => some (tupI 0 0 11, [roB l], shR l n a 1) := by kernel_rfl
theorem grS2 : (fun l a n c => gr l a n c ([false, false] ++ List.replicate (3 * 2) true ++ [false, false, true])) = fun l a n _ => some (tupI 0 0 11, [roB l], shR l n a 2) := by kernel_rfl
theorem grS3 : (fun l a n c => gr l a n c ([false, false] ++ List.replicate (3 * 3) true ++ [false, false, true])) = fun l a n _ => some (tupI 0 0 11, [roB l], shR l n a 3) := by kernel_rfl
theorem grS4 : (fun l a n c => gr l a n c ([false, false] ++ List.replicate (3 * 4) true ++ [false, false, true])) = fun l a n _ => some (tupI 0 0 11, [roB l], shR l n a 4) := by kernel_rfl
theorem grS5 : (fun l a n c => gr l a n c ([false, false] ++ List.replicate (3 * 5) true ++ [false, false, true])) = fun l a n _ => some (tupI 0 0 11, [roB l], shR l n a 5) := by kernel_rfl
theorem grS6 : (fun l a n c => gr l a n c ([false, false] ++ List.replicate (3 * 6) true ++ [false, false, true])) = fun l a n _ => some (tupI 0 0 11, [roB l], shR l n a 6) := by kernel_rfl
theorem grS7 : (fun l a n c => gr l a n c ([false, false] ++ List.replicate (3 * 7) true ++ [false, false, true])) = fun l a n _ => some (tupI 0 0 11, [roB l], shR l n a 7) := by kernel_rfl
theorem grS8 : (fun l a n c => gr l a n c ([false, false] ++ List.replicate (3 * 8) true ++ [false, false, true])) = fun l a n _ => some (tupI 0 0 11, [roB l], shR l n a 8) := by kernel_rfl
theorem grS9 : (fun l a n c => gr l a n c ([false, false] ++ List.replicate (3 * 9) true ++ [false, false, true])) = fun l a n _ => some (tupI 0 0 11, [roB l], shR l n a 9) := by kernel_rfl
theorem grN0 : (fun l a n c => gr l a n c (hitH 0 ++ [true])) = fun l a n c => some (tupI 0 0 10, [roB l], nayG l n c a 0) := by kernel_rfl
theorem grN1 : (fun l a n c => gr l a n c (hitH 1 ++ [true])) = fun l a n c => some (tupI 0 0 10, [roB l], nayG l n c a 1) := by kernel_rfl
theorem grN2 : (fun l a n c => gr l a n c (hitH 2 ++ [true])) = fun l a n c => some (tupI 0 0 10, [roB l], nayG l n c a 2) := by kernel_rfl
theorem grN3 : (fun l a n c => gr l a n c (hitH 3 ++ [true])) = fun l a n c => some (tupI 0 0 10, [roB l], nayG l n c a 3) := by kernel_rfl
theorem grN4 : (fun l a n c => gr l a n c (hitH 4 ++ [true])) = fun l a n c => some (tupI 0 0 10, [roB l], nayG l n c a 4) := by kernel_rfl
theorem grN5 : (fun l a n c => gr l a n c (hitH 5 ++ [true])) = fun l a n c => some (tupI 0 0 10, [roB l], nayG l n c a 5) := by kernel_rfl
theorem grN6 : (fun l a n c => gr l a n c (hitH 6 ++ [true])) = fun l a n c => some (tupI 0 0 10, [roB l], nayG l n c a 6) := by kernel_rfl
theorem grN7 : (fun l a n c => gr l a n c (hitH 7 ++ [true])) = fun l a n c => some (tupI 0 0 10, [roB l], nayG l n c a 7) := by kernel_rfl
theorem grN8 : (fun l a n c => gr l a n c (hitH 8 ++ [true])) = fun l a n c => some (tupI 0 0 10, [roB l], nayG l n c a 8) := by kernel_rfl
theorem grN9 : (fun l a n c => gr l a n c (hitH 9 ++ [true])) = fun l a n c => some (tupI 0 0 10, [roB l], nayG l n c a 9) := by kernel_rfl
theorem grY0 : (fun l a n c => gr l a n c (hitH 0 ++ [false])) = fun l a n c => some (tupK (hR l a 0 0) (eR a (0 + 1)), [roB l], yesG l n c a 0) := by kernel_rfl
theorem grY1 : (fun l a n c => gr l a n c (hitH 1 ++ [false])) = fun l a n c => some (tupK (hR l a 1 1) (eR a (1 + 1)), [roB l], yesG l n c a 1) := by kernel_rfl
theorem grY2 : (fun l a n c => gr l a n c (hitH 2 ++ [false])) = fun l a n c => some (tupK (hR l a 2 2) (eR a (2 + 1)), [roB l], yesG l n c a 2) := by kernel_rfl
theorem grY3 : (fun l a n c => gr l a n c (hitH 3 ++ [false])) = fun l a n c => some (tupK (hR l a 3 3) (eR a (3 + 1)), [roB l], yesG l n c a 3) := by kernel_rfl
theorem grY4 : (fun l a n c => gr l a n c (hitH 4 ++ [false])) = fun l a n c => some (tupK (hR l a 4 4) (eR a (4 + 1)), [roB l], yesG l n c a 4) := by kernel_rfl
theorem grY5 : (fun l a n c => gr l a n c (hitH 5 ++ [false])) = fun l a n c => some (tupK (hR l a 5 5) (eR a (5 + 1)), [roB l], yesG l n c a 5) := by kernel_rfl
theorem grY6 : (fun l a n c => gr l a n c (hitH 6 ++ [false])) = fun l a n c => some (tupK (hR l a 6 6) (eR a (6 + 1)), [roB l], yesG l n c a 6) := by kernel_rfl
theorem grY7 : (fun l a n c => gr l a n c (hitH 7 ++ [false])) = fun l a n c => some (tupK (hR l a 7 7) (eR a (7 + 1)), [roB l], yesG l n c a 7) := by kernel_rfl
theorem grY8 : (fun l a n c => gr l a n c (hitH 8 ++ [false])) = fun l a n c => some (tupK (hR l a 8 8) (eR a (8 + 1)), [roB l], yesG l n c a 8) := by kernel_rfl
theorem grY9 : (fun l a n c => gr l a n c (hitH 9 ++ [false])) = fun l a n c => some (tupK (hR l a 9 9) (eR a (9 + 1)), [roB l], yesG l n c a 9) := by kernel_rfl
theorem grS_all (l : List Int) (a : Int) (n c : Nat) : ∀ j, j < 10 → gr l a n c ([false, false] ++ List.replicate (3 * j) true ++ [false, false, true]) = some (tupI 0 0 11, [roB l], shR l n a j)
  | 0, _ => congrFun (congrFun (congrFun (congrFun grS0 l) a) n) c
  | 1, _ => congrFun (congrFun (congrFun (congrFun grS1 l) a) n) c
  | 2, _ => congrFun (congrFun (congrFun (congrFun grS2 l) a) n) c
  | 3, _ => congrFun (congrFun (congrFun (congrFun grS3 l) a) n) c
  | 4, _ => congrFun (congrFun (congrFun (congrFun grS4 l) a) n) c
  | 5, _ => congrFun (congrFun (congrFun (congrFun grS5 l) a) n) c
  | 6, _ => congrFun (congrFun (congrFun (congrFun grS6 l) a) n) c
  | 7, _ => congrFun (congrFun (congrFun (congrFun grS7 l) a) n) c
  | 8, _ => congrFun (congrFun (congrFun (congrFun grS8 l) a) n) c
  | 9, _ => congrFun (congrFun (congrFun (congrFun grS9 l) a) n) c
  | _ + 10, h => absurd h (by omega)
theorem grN_all (l : List Int) (a : Int) (n c : Nat) : ∀ j, j < 10 → gr l a n c (hitH j ++ [true]) = some (tupI 0 0 10, [roB l], nayG l n c a j)
  | 0, _ => congrFun (congrFun (congrFun (congrFun grN0 l) a) n) c
  | 1, _ => congrFun (congrFun (congrFun (congrFun grN1 l) a) n) c
  | 2, _ => congrFun (congrFun (congrFun (congrFun grN2 l) a) n) c
  | 3, _ => congrFun (congrFun (congrFun (congrFun grN3 l) a) n) c
  | 4, _ => congrFun (congrFun (congrFun (congrFun grN4 l) a) n) c
  | 5, _ => congrFun (congrFun (congrFun (congrFun grN5 l) a) n) c
  | 6, _ => congrFun (congrFun (congrFun (congrFun grN6 l) a) n) c
  | 7, _ => congrFun (congrFun (congrFun (congrFun grN7 l) a) n) c
  | 8, _ => congrFun (congrFun (congrFun (congrFun grN8 l) a) n) c
  | 9, _ => congrFun (congrFun (congrFun (congrFun grN9 l) a) n) c
  | _ + 10, h => absurd h (by omega)
theorem grY_all (l : List Int) (a : Int) (n c : Nat) : ∀ j, j < 10 → gr l a n c (hitH j ++ [false]) = some (tupK (hR l a j j) (eR a (j + 1)), [roB l], yesG l n c a j)
  | 0, _ => congrFun (congrFun (congrFun (congrFun grY0 l) a) n) c
  | 1, _ => congrFun (congrFun (congrFun (congrFun grY1 l) a) n) c
  | 2, _ => congrFun (congrFun (congrFun (congrFun grY2 l) a) n) c
  | 3, _ => congrFun (congrFun (congrFun (congrFun grY3 l) a) n) c
  | 4, _ => congrFun (congrFun (congrFun (congrFun grY4 l) a) n) c
  | 5, _ => congrFun (congrFun (congrFun (congrFun grY5 l) a) n) c
  | 6, _ => congrFun (congrFun (congrFun (congrFun grY6 l) a) n) c
  | 7, _ => congrFun (congrFun (congrFun (congrFun grY7 l) a) n) c
  | 8, _ => congrFun (congrFun (congrFun (congrFun grY8 l) a) n) c
  | 9, _ => congrFun (congrFun (congrFun (congrFun grY9 l) a) n) c
  | _ + 10, h => absurd h (by omega)
end
section
open Go.ChangeShapes Go.WideShapes Go.ChangeAt Go.RowKit Go.Sx
theorem vbR_way : ∀ (j : Nat) (n : Int), 0 ≤ n → n ≤ 18446744073709551615 → n < 128 ^ (j + 1) → ∃ i, i ≤ j ∧ vbR i n = vint n ∧ allP (voR i n)
  | 0, n, h0, _, h => by
    have : n < 128 := by simpa using h
    refine ⟨0, Nat.le_refl _, ?_, decide_eq_true this, trivial⟩
    unfold vbR vint vintN
    rw [if_pos (by omega), w8 h0 (by omega)]
    congr 1; omega
  | j + 1, n, h0, h1, h => by
    by_cases hs : n < 128
    · refine ⟨0, Nat.zero_le _, ?_, decide_eq_true hs, trivial⟩
      unfold vbR vint vintN
      rw [if_pos (by omega), w8 h0 (by omega)]
      congr 1; omega
    · have hd : n.tdiv 128 = n / 128 := Int.tdiv_eq_ediv_of_nonneg h0
      have hm : n.tmod 128 = n % 128 := Int.tmod_eq_emod_of_nonneg h0
      have hlt : n / 128 < 128 ^ (j + 1) := by
        rw [Int.pow_succ] at h
        exact Int.ediv_lt_of_lt_mul (by omega) h
      obtain ⟨i, hi, h2, h3⟩ := vbR_way j (n / 128) (by omega) (by omega) hlt
      refine ⟨i + 1, by omega, ?_, ?_⟩
      · unfold vbR vint vintN
        rw [if_neg (by omega), hd, h2, hm, w64 (n := 128 + n % 128) (by omega) (by omega), w8 (by omega) (by omega)]
        congr 1
        · omega
        · unfold vint; congr 1; omega
      · simp only [voR]
        rw [hd]
        exact allP_app h3 ⟨⟨by omega, by omega⟩, decide_eq_false hs, trivial⟩
theorem varint_makes (n : Int) (h : u64 n) : Makes Try.prog 42 [.int .u64 n] (bsl 0 (vint n).length (vint n).length) [⟨true, .ints .u8 (vint n)⟩] := by
  obtain ⟨i, hi, h1, h2⟩ := vbR_way 9 n h.1 h.2 (by have := h.2; omega)
  have h3 : (vint n).length = i + 1 := by
    rw [← h1]
    have : ∀ (j : Nat) (n : Int), (vbR j n).length = j + 1 := by
      intro j
      induction j with
      | zero => intro n; rfl
      | succ j ih => intro n; simp [vbR, ih]
    exact this i n
  refine makes_of (v := bsl 0 (vint n).length (vint n).length) (bs := [⟨true, .ints .u8 (vint n)⟩]) no_tabs (rv_all n i (by omega)) h2 (by simp) ⟨?_, rfl, rfl, ?_, ?_, ?_⟩ ⟨⟨fun h => h, ?_⟩, trivial⟩ ⟨_, _, rfl, ⟨rfl, rfl⟩, rfl⟩
  · simp
  · simp [N.v, h3]
  · simp [N.v, h3]
  · simp [N.v, h3]
  · show leL _ (sints (vbR i n)) ((vint n).map (C.sint .u8))
    rw [h1]; exact sints_le _ _
theorem varint_tab : TabOk Try.prog 42 (fresh gVar) := fresh_ok fun args h v bs h' ob hg hob => by
  unfold gVar at hg
  split at hg
  · rename_i n hn
    injection hg with hg; injection hg with e1 e2; injection e2 with e2 e3; injection e3 with e3 e4
    subst e1; subst e2; subst e3; subst e4
    refine ⟨rfl, fun ρ us hu => ?_⟩
    rw [(ivs_rel hn hu).1]
    exact varint_makes n (hob _ (by simp))
  · cases hg
theorem tabV_ok : ∀ f g, tabV f = some g → TabOk Try.prog f g := tabs_ok fun x hx => by
  simp only [List.mem_cons, List.not_mem_nil, or_false] at hx
  subst hx
  exact varint_tab
theorem vintN_wf : ∀ n : Nat, wfB (vintN n) := fun n => by
  induction n using Nat.strongRecOn with
  | _ n ih =>
    intro x hx
    by_cases h : n < 128
    · rw [vintN_small h] at hx
      rw [List.mem_singleton.1 hx]; omega
    · rw [vintN_big h] at hx
      rcases List.mem_cons.1 hx with rfl | hx
      · omega
      · exact ih (n / 128) (by omega) x hx
theorem vint_wf (n : Int) : wfB (vint n) := vintN_wf _
theorem mapU_inj : ∀ {a b : List Int}, wfB a → wfB b → mapU a = mapU b → a = b
  | [], [], _, _, _ => rfl
  | [], _ :: _, _, _, h => by cases h
  | _ :: _, [], _, _, h => by cases h
  | x :: a, y :: b, ha, hb, h => by
    have hx := ha x (by simp)
    have hy := hb y (by simp)
    injection h with h1 h2
    have h3 := congrArg UInt8.toNat h1
    rw [UInt8.toNat_ofNat', UInt8.toNat_ofNat', Nat.mod_eq_of_lt (by omega), Nat.mod_eq_of_lt (by omega)] at h3
    rw [mapU_inj (fun z hz => ha z (by simp [hz])) (fun z hz => hb z (by simp [hz])) h2]
    congr 1; omega
theorem wfB_part {l : List Int} (h : wfB l) (o n : Nat) : wfB ((l.drop o).take n) := fun x hx => h x (List.mem_of_mem_drop (List.mem_of_mem_take hx))
theorem eR_eq (a : Int) : ∀ j, eR a j = a + j
  | 0 => by simp [eR]
  | j + 1 => by simp only [eR, eR_eq a j]; omega
theorem fR_eq (a : Int) (j : Nat) : ∀ m, fR a j m = a + j - m
  | 0 => by simp only [fR, eR_eq]; omega
  | m + 1 => by simp only [fR, fR_eq a j m]; omega
section
variable {l : List Int} {n c : Nat} {a : Int}
theorem atR_eq (ha : 0 ≤ a) (j : Nat) : atR l (a + j) = l.getD (a.toNat + j) 0 := by
  unfold atR
  rw [show (a + (j : Int)).toNat = a.toNat + j by omega]
theorem inI_of {x : Int} (h0 : -1000000000000 ≤ x) (h1 : x ≤ 1000000000000) : inI x := ⟨by omega, by omega⟩
theorem scR_ok (ha : 0 ≤ a) (hn : a ≤ n) (hm : n ≤ 1000000000) (hl : n ≤ l.length) : ∀ {j : Nat}, j ≤ 10 → (∀ t, 0 ≤ t → t < j → a.toNat + t < n ∧ 128 ≤ l.getD (a.toNat + t) 0) → allP (scR l n a j)
  | 0, _, _ => ⟨decide_eq_false (by omega), decide_eq_false (by omega), trivial⟩
  | j + 1, hj, h => by
    obtain ⟨h1, h2⟩ := h j (by omega) (by omega)
    have ih := scR_ok ha hn hm hl (j := j) (by omega) fun t t1 t2 => h t t1 (by omega)
    rw [← atR_eq ha] at h2
    simp only [scR, eR_eq]
    exact ⟨inI_of (by omega) (by omega), decide_eq_true (by omega), inI_of (by omega) (by omega), decide_eq_true h2, by omega, by omega, by omega, decide_eq_true (by omega), ih⟩
theorem rrR_ok (ha : 0 ≤ a) (hm : n ≤ 1000000000) (hl : n ≤ l.length) (hw : wfB l) {j : Nat} (hj : j < 10) (h1 : a.toNat + j < n) (h2 : l.getD (a.toNat + j) 0 < 128) (hs : allP (scR l n a j)) : ∀ m, m ≤ j + 1 → allP (rrR l n a j m)
  | 0, _ => by
    rw [← atR_eq ha] at h2
    simp only [rrR, eR_eq]
    exact ⟨decide_eq_false (by omega), decide_eq_false (by omega), inI_of (by omega) (by omega), decide_eq_false (by omega), by omega, by omega, by omega, decide_eq_true (by omega), hs⟩
  | m + 1, hm' => by
    have ih := rrR_ok ha hm hl hw hj h1 h2 hs m (by omega)
    have hg := wfB_get hw (a + (j : Int) - (m : Int)).toNat
    simp only [rrR, fR_eq]
    refine ⟨inI_of (by omega) (by omega), ?_, by omega, by omega, by omega, decide_eq_true (by omega), ih⟩
    unfold atR
    rw [Int.tmod_eq_emod_of_nonneg hg.1]
    omega
theorem hR_eq (ha : 0 ≤ a) (hw : wfB l) {j : Nat} : ∀ m, m ≤ j → hR l a j m = valU l (a.toNat + (j - m)) m % 18446744073709551616
  | 0, _ => by
    have hg := wfB_get hw (a.toNat + j)
    unfold hR valU
    rw [fR_eq, show a + (j : Int) - ((0 : Nat) : Int) = a + (j : Int) by omega, atR_eq ha, Nat.sub_zero, Int.tmod_eq_emod_of_nonneg hg.1, wrap_u64, Int.zero_add]
  | m + 1, h => by
    have ih := hR_eq ha hw (j := j) m (by omega)
    have hg := wfB_get hw (a.toNat + (j - (m + 1)))
    unfold hR
    rw [ih, fR_eq, show a + (j : Int) - ((m + 1 : Nat) : Int) = a + ((j - (m + 1) : Nat) : Int) by omega, atR_eq ha, Int.tmod_eq_emod_of_nonneg hg.1, wrap_u64, wrap_u64]
    conv => rhs; unfold valU
    rw [show a.toNat + (j - (m + 1)) + 1 = a.toNat + (j - m) by omega]
    omega
theorem nR_eq (ha : 0 ≤ a) (j : Nat) : nR a j = j + 1 := by
  unfold nR
  rw [eR_eq]
  show Int.toNat (a + ((j + 1 : Nat) : Int)) - Int.toNat a = j + 1
  omega
theorem cmR_ok (ha : 0 ≤ a) (hc : n ≤ c) (hm : n ≤ 1000000000) (hl : n ≤ l.length) (hw : wfB l) {j : Nat} (hj : j < 10) (h1 : a.toNat + j < n) (h2 : l.getD (a.toNat + j) 0 < 128) (hs : allP (scR l n a j)) : allP (cmR l n c a j) := by
  have hr := rrR_ok ha hm hl hw hj h1 h2 hs (j + 1) (Nat.le_refl _)
  have hv : u64 (hR l a j j) := by
    rw [hR_eq ha hw j (Nat.le_refl _)]
    unfold u64; omega
  unfold cmR
  rw [nR_eq ha, eR_eq, fR_eq]
  exact ⟨by omega, rfl, rfl, hv, by omega, by omega, ha, by omega, inI_of (by omega) (by omega), decide_eq_false (by omega), hr⟩
end
theorem getref_works (l : List Int) (n c : Nat) (a : Int) (hn : n ≤ l.length) (hm : n ≤ 1000000000) (hw : wfB l) : Works Try.prog 29 [bsl 0 n c, si .i64 a] [roB l] (tupG (getU l n a).1 (getU l n a).2.1 (getU l n a).2.2) [roB l] := capG_works fun hc => by
  have err : ∀ (e : Int) (h : List Bool) (ob : List Prop), getU l n a = (0, 0, e) → gr l a n c h = some (tupI 0 0 e, [roB l], ob) → allP ob → Works Try.prog 29 [bsl 0 n c, si .i64 a] [roB l] (tupG (getU l n a).1 (getU l n a).2.1 (getU l n a).2.2) [roB l] := by
    intro e h ob he hr hob
    rw [he]
    exact works_of (r := []) (bs := [roB l]) tabV_ok hr hob ndG (by simp [tupI, tupG, leV, leL1, leV1, leC]) (leG l)
  by_cases h0 : a < 0
  · exact err 2 [true] _ (by unfold getU; rw [if_pos (.inl h0)]) (congrFun (congrFun (congrFun (congrFun grNeg l) a) n) c) ⟨decide_eq_true h0, trivial⟩
  by_cases h1 : (n : Int) < a
  · exact err 2 [false, true] _ (by unfold getU; rw [if_pos (.inr h1)]) (congrFun (congrFun (congrFun (congrFun grFar l) a) n) c) ⟨decide_eq_true h1, decide_eq_false h0, trivial⟩
  have ha : 0 ≤ a := by omega
  have han : a ≤ n := by omega
  cases hs : scanU l n a.toNat 10 0 with
  | none =>
    obtain ⟨j, j1, j2, j3, j4⟩ := scanU_none hs
    by_cases h10 : n < a.toNat + 10
    · have hj : j < 10 ∧ n ≤ a.toNat + j := by
        rcases Nat.lt_or_ge j 10 with h | h
        · exact ⟨h, by omega⟩
        · have := (j3 9 (by omega) (by omega)).1; omega
      have hjn : a.toNat + j = n := by
        rcases Nat.eq_zero_or_pos j with h | h
        · omega
        · have := (j3 (j - 1) (by omega) (by omega)).1; omega
      refine err 11 _ _ (by unfold getU; rw [if_neg (by omega), hs]; simp only; rw [if_pos h10]) (grS_all l a n c j hj.1) ?_
      simp only [shR, eR_eq]
      exact ⟨decide_eq_true (by omega), decide_eq_false (by omega), inI_of (by omega) (by omega), decide_eq_false (by omega), scR_ok ha han hm hn (by omega) j3⟩
    · have hj : j = 10 := by omega
      subst hj
      have he : getU l n a = (0, 0, 10) := by unfold getU; rw [if_neg (by omega), hs]; simp only; rw [if_neg h10]
      have hsc := scR_ok ha han hm hn (by omega) j3
      by_cases k1 : a.toNat + 10 < n
      · by_cases k2 : 128 ≤ l.getD (a.toNat + 10) 0
        · refine err 10 _ _ he (congrFun (congrFun (congrFun (congrFun grL3 l) a) n) c) ?_
          rw [← atR_eq ha] at k2
          simp only [lgR3, eR_eq]
          exact ⟨decide_eq_true (by omega), inI_of (by omega) (by omega), decide_eq_false (by omega), inI_of (by omega) (by omega), decide_eq_true k2, by omega, by omega, by omega, decide_eq_true (by omega), hsc⟩
        · refine err 10 _ _ he (congrFun (congrFun (congrFun (congrFun grL2 l) a) n) c) ?_
          rw [← atR_eq ha] at k2
          simp only [lgR2, eR_eq]
          exact ⟨decide_eq_true (by omega), inI_of (by omega) (by omega), decide_eq_false k2, by omega, by omega, by omega, decide_eq_true (by omega), hsc⟩
      · refine err 10 _ _ he (congrFun (congrFun (congrFun (congrFun grL1 l) a) n) c) ?_
        simp only [lgR1, eR_eq]
        exact ⟨decide_eq_true (by omega), inI_of (by omega) (by omega), decide_eq_false (by omega), hsc⟩
  | some j =>
    obtain ⟨j1, j2, j3, j4, j5⟩ := scanU_some hs
    have hj : j < 10 := by omega
    have hsc := scR_ok ha han hm hn (by omega) j3
    have hcm := cmR_ok ha hc hm hn hw hj j4 j5 hsc
    have hseg : wfB ((l.drop a.toNat).take (j + 1)) := wfB_part hw _ _
    have hsl : ((l.drop a.toNat).take (j + 1)).length = j + 1 := by rw [List.length_take, List.length_drop]; omega
    have hv : u64 (hR l a j j) := by
      rw [hR_eq ha hw j (Nat.le_refl _)]
      unfold u64; omega
    have hgot : mapU (vint (hR l a j j)) = mapU ((l.drop a.toNat).take (j + 1)) → getU l n a = (hR l a j j, a + (j : Int) + 1, 0) := by
      intro h
      have h1 := mapU_inj (vint_wf _) hseg h
      have h2 : l.drop a.toNat = vint (hR l a j j) ++ (l.drop a.toNat).drop (j + 1) := by rw [h1, List.take_append_drop]
      have h3 : (vint (hR l a j j)).length = j + 1 := by rw [h1, hsl]
      have h4 := getU_put h2 hv (n := n) (by rw [h3]; omega)
      rw [show ((a.toNat : Nat) : Int) = a by omega, h3] at h4
      rw [h4]
      refine Prod.ext rfl (Prod.ext ?_ rfl)
      show ((a.toNat + (j + 1) : Nat) : Int) = a + (j : Int) + 1
      omega
    by_cases hb : (0 < j ∧ l.getD (a.toNat + j) 0 = 0) ∨ (j = 9 ∧ 1 < l.getD (a.toNat + 9) 0)
    · have he : getU l n a = (0, 0, 10) := by unfold getU; rw [if_neg (by omega), hs]; simp only; rw [if_pos hb]
      refine err 10 _ _ he (grN_all l a n c j hj) ⟨?_, hcm⟩
      rw [nR_eq ha]
      have hne : ¬ mapU (vint (hR l a j j)) = mapU ((l.drop a.toNat).take (j + 1)) := fun h => by
        have h9 : (10 : Int) = 0 := congrArg (fun (p : Int × Int × Int) => p.2.2) (he.symm.trans (hgot h))
        omega
      rw [beq_eq_false_iff_ne.2 hne]; rfl
    · have he : getU l n a = (valU l a.toNat j, a + (j : Int) + 1, 0) := by unfold getU; rw [if_neg (by omega), hs]; simp only; rw [if_neg hb]
      have g : GotU l n a j := ⟨hj, ha, he, fun t ht => (j3 t (by omega) ht).2, j5, j4, fun hp h => hb (.inl ⟨hp, h⟩), fun h => by
        refine Classical.byContradiction fun hne => hb (.inr ⟨h, by omega⟩)⟩
      have hr := g.range hw
      have hval : hR l a j j = valU l a.toNat j := by
        rw [hR_eq ha hw j (Nat.le_refl _), Nat.sub_self, Nat.add_zero]
        omega
      have hpt := (val_put hw j (k := a.toNat) (by omega) (fun t ht => (j3 t (by omega) ht).2) j5 (fun hp h => hb (.inl ⟨hp, h⟩))).1
      have hvs : (vint (hR l a j j)) = (l.drop a.toNat).take (j + 1) := by
        rw [hval]
        unfold vint
        have hlen : (vintN (valU l a.toNat j).toNat).length = j + 1 := by
          have h1 := congrArg List.length hpt
          rw [List.length_append, List.length_drop, List.length_drop] at h1
          omega
        rw [hpt, ← hlen, List.take_left]
      have q := grY_all l a n c j hj
      rw [he, ← hval]
      refine works_of (r := []) (bs := [roB l]) tabV_ok q ⟨?_, ?_, hcm⟩ ndG ?_ (leG l)
      · rw [eR_eq]; exact inI_of (by omega) (by omega)
      · rw [nR_eq ha, hvs]; simp
      · rw [eR_eq]
        simp [tupK, tupG, leV, leL1, leV1, leC]
        omega
theorem getref_tab : TabOk Try.prog 29 (loc wantRo gGet) := loc_ok fun xs bs v bs' ob hg hob hokb => by
  unfold gGet at hg
  split at hg
  · rename_i n c a k l
    split at hg
    · rename_i hk
      injection hg with hg; injection hg with e1 e2; injection e2 with e2 e3
      subst e1; subst e2; subst e3
      have hk' : k = .u8 := of_decide_eq_true hk
      subst hk'
      exact getref_works l n c a (hob _ (by simp)) (hob (n ≤ 1000000000) (by simp)) (hob (wfB l) (by simp))
    · cases hg
  · cases hg
end
section
open Go.Sx
def tabW := tabs [(29, loc wantRo gGet)]
noncomputable def callW (d : Nat) := callN Try.prog tabW (fun _ => false) 100000 d
theorem ri1 : (fun (l : List Int) (a : Int) (n c : Nat) => retV [0] (callW 4 30 [bsl 0 n c, si .i64 a] [roB l] [true])) = fun (l : List Int) (a : Int) (n : Nat) (c : Nat) => some (((V.tup [(V1.one (C.sint (IntKind.i64) (IntKind.wrap IntKind.i64 (Int.tdiv (Prod.fst (getU l n a)) (2 : Int))))), (V1.one (C.sint (IntKind.i64) (Prod.fst (Prod.snd (getU l n a))))), (V1.one (C.sint (IntKind.i64) (Prod.snd (Prod.snd (getU l n a)))))]), ([(SB.mk (false) (Cells.ints (IntKind.u8) (l)))], [(0 : Int) ≤ Int.tdiv (Prod.fst (getU l n a)) (2 : Int) ∧ Int.tdiv (Prod.fst (getU l n a)) (2 : Int) ≤ (18446744073709551615 : Int), decide (Int.tmod (Prod.fst (getU l n a)) (2 : Int) = (0 : Int)) = true, n ≤ List.length l, n ≤ (1000000000 : Nat), wfB l]))) := by kernel_rfl
theorem ri0 : (fun (l : List Int) (a : Int) (n c : Nat) => retV [0] (callW 4 30 [bsl 0 n c, si .i64 a] [roB l] [false])) = fun (l : List Int) (a : Int) (n : Nat) (c : Nat) => some (((V.tup [(V1.one (C.sint (IntKind.i64) ((-1 : Int) - IntKind.wrap IntKind.i64 (Int.tdiv (Prod.fst (getU l n a)) (2 : Int))))), (V1.one (C.sint (IntKind.i64) (Prod.fst (Prod.snd (getU l n a))))), (V1.one (C.sint (IntKind.i64) (Prod.snd (Prod.snd (getU l n a)))))]), ([(SB.mk (false) (Cells.ints (IntKind.u8) (l)))], [(-9223372036854775808 : Int) ≤ (-1 : Int) - IntKind.wrap IntKind.i64 (Int.tdiv (Prod.fst (getU l n a)) (2 : Int)) ∧ (-1 : Int) - IntKind.wrap IntKind.i64 (Int.tdiv (Prod.fst (getU l n a)) (2 : Int)) ≤ (9223372036854775807 : Int), (0 : Int) ≤ Int.tdiv (Prod.fst (getU l n a)) (2 : Int) ∧ Int.tdiv (Prod.fst (getU l n a)) (2 : Int) ≤ (18446744073709551615 : Int), decide (Int.tmod (Prod.fst (getU l n a)) (2 : Int) = (0 : Int)) = false, n ≤ List.length l, n ≤ (1000000000 : Nat), wfB l]))) := by kernel_rfl
theorem rb0 : (fun (l : List Int) (a m : Int) (n c : Nat) => retV [0] (callW 4 31 [bsl 0 n c, si .i64 a, si .i64 m] [roB l] [true])) = fun (l : List Int) (a : Int) (m : Int) (n : Nat) (c : Nat) => some (((V.tup [(V1.one (C.nils)), (V1.one (C.int (IntKind.i64) ((0 : Int)))), (V1.one (C.sint (IntKind.i64) (Prod.snd (Prod.snd (getU l n a)))))]), ([(SB.mk (false) (Cells.ints (IntKind.u8) (l)))], [(!decide (Prod.snd (Prod.snd (getU l n a)) = (0 : Int))) = true, n ≤ List.length l, n ≤ (1000000000 : Nat), wfB l]))) := by kernel_rfl
theorem rb1 : (fun (l : List Int) (a m : Int) (n c : Nat) => retV [0] (callW 4 31 [bsl 0 n c, si .i64 a, si .i64 m] [roB l] [false, true])) = fun (l : List Int) (a : Int) (m : Int) (n : Nat) (c : Nat) => some (((V.tup [(V1.one (C.nils)), (V1.one (C.int (IntKind.i64) ((0 : Int)))), (V1.one (C.int (IntKind.i64) ((3 : Int))))]), ([(SB.mk (false) (Cells.ints (IntKind.u8) (l)))], [decide (m < (0 : Int)) = true, (!decide (Prod.snd (Prod.snd (getU l n a)) = (0 : Int))) = false, n ≤ List.length l, n ≤ (1000000000 : Nat), wfB l]))) := by kernel_rfl
theorem rb2 : (fun (l : List Int) (a m : Int) (n c : Nat) => retV [0] (callW 4 31 [bsl 0 n c, si .i64 a, si .i64 m] [roB l] [false, false, true])) = fun (l : List Int) (a : Int) (m : Int) (n : Nat) (c : Nat) => some (((V.tup [(V1.one (C.nils)), (V1.one (C.int (IntKind.i64) ((0 : Int)))), (V1.one (C.int (IntKind.i64) ((3 : Int))))]), ([(SB.mk (false) (Cells.ints (IntKind.u8) (l)))], [decide (IntKind.wrap IntKind.u64 m < Prod.fst (getU l n a)) = true, decide (m < (0 : Int)) = false, (!decide (Prod.snd (Prod.snd (getU l n a)) = (0 : Int))) = false, n ≤ List.length l, n ≤ (1000000000 : Nat), wfB l]))) := by kernel_rfl
theorem rb3 : (fun (l : List Int) (a m : Int) (n c : Nat) => retV [0] (callW 4 31 [bsl 0 n c, si .i64 a, si .i64 m] [roB l] [false, false, false, true])) = fun (l : List Int) (a : Int) (m : Int) (n : Nat) (c : Nat) => some (((V.tup [(V1.one (C.nils)), (V1.one (C.int (IntKind.i64) ((0 : Int)))), (V1.one (C.int (IntKind.i64) ((11 : Int))))]), ([(SB.mk (false) (Cells.ints (IntKind.u8) (l)))], [decide (IntKind.wrap IntKind.u64 (↑n : Int) < Prod.fst (getU l n a)) = true, decide (IntKind.wrap IntKind.u64 m < Prod.fst (getU l n a)) = false, decide (m < (0 : Int)) = false, (!decide (Prod.snd (Prod.snd (getU l n a)) = (0 : Int))) = false, n ≤ List.length l, n ≤ (1000000000 : Nat), wfB l]))) := by kernel_rfl
theorem rb4 : (fun (l : List Int) (a m : Int) (n c : Nat) => retV [0] (callW 4 31 [bsl 0 n c, si .i64 a, si .i64 m] [roB l] [false, false, false, false, true])) = fun (l : List Int) (a : Int) (m : Int) (n : Nat) (c : Nat) => some (((V.tup [(V1.one (C.nils)), (V1.one (C.int (IntKind.i64) ((0 : Int)))), (V1.one (C.int (IntKind.i64) ((11 : Int))))]), ([(SB.mk (false) (Cells.ints (IntKind.u8) (l)))], [decide ((↑n : Int) < Prod.fst (Prod.snd (getU l n a)) + IntKind.wrap IntKind.i64 (Prod.fst (getU l n a))) = true, (-9223372036854775808 : Int) ≤ Prod.fst (Prod.snd (getU l n a)) + IntKind.wrap IntKind.i64 (Prod.fst (getU l n a)) ∧ Prod.fst (Prod.snd (getU l n a)) + IntKind.wrap IntKind.i64 (Prod.fst (getU l n a)) ≤ (9223372036854775807 : Int), decide (IntKind.wrap IntKind.u64 (↑n : Int) < Prod.fst (getU l n a)) = false, decide (IntKind.wrap IntKind.u64 m < Prod.fst (getU l n a)) = false, decide (m < (0 : Int)) = false, (!decide (Prod.snd (Prod.snd (getU l n a)) = (0 : Int))) = false, n ≤ List.length l, n ≤ (1000000000 : Nat), wfB l]))) := by kernel_rfl
theorem rb5 : (fun (l : List Int) (a m : Int) (n c : Nat) => retV [0, 3] (callW 4 31 [bsl 0 n c, si .i64 a, si .i64 m] [roB l] [false, false, false, false, false, false])) = fun (l : List Int) (a : Int) (m : Int) (n : Nat) (c : Nat) => some (((V.tup [(V1.one (C.slice ((3 : Nat)) (N.c ((0 : Nat))) ((1 : Nat)) (N.s (Int.toNat (Prod.fst (Prod.snd (getU l n a)) + IntKind.wrap IntKind.i64 (Prod.fst (getU l n a))) - Int.toNat (Prod.fst (Prod.snd (getU l n a))))) (N.s (Int.toNat (Prod.fst (Prod.snd (getU l n a)) + IntKind.wrap IntKind.i64 (Prod.fst (getU l n a))) - Int.toNat (Prod.fst (Prod.snd (getU l n a))))))), (V1.one (C.sint (IntKind.i64) (Prod.fst (Prod.snd (getU l n a)) + IntKind.wrap IntKind.i64 (Prod.fst (getU l n a))))), (V1.one (C.int (IntKind.i64) ((0 : Int))))]), ([(SB.mk (false) (Cells.ints (IntKind.u8) (l))), (SB.mk (true) (Cells.ints (IntKind.u8) ([] ++ List.take (Nat.sub (Int.toNat (Prod.fst (Prod.snd (getU l n a)) + IntKind.wrap IntKind.i64 (Prod.fst (getU l n a)))) (Int.toNat (Prod.fst (Prod.snd (getU l n a))))) (List.drop (Int.toNat (Prod.fst (Prod.snd (getU l n a)))) l))))], [(-9223372036854775808 : Int) ≤ Prod.fst (Prod.snd (getU l n a)) + IntKind.wrap IntKind.i64 (Prod.fst (getU l n a)) ∧ Prod.fst (Prod.snd (getU l n a)) + IntKind.wrap IntKind.i64 (Prod.fst (getU l n a)) ≤ (9223372036854775807 : Int), Int.toNat (Prod.fst (Prod.snd (getU l n a))) + Nat.sub (Int.toNat (Prod.fst (Prod.snd (getU l n a)) + IntKind.wrap IntKind.i64 (Prod.fst (getU l n a)))) (Int.toNat (Prod.fst (Prod.snd (getU l n a)))) ≤ List.length l, (Int.toNat (Prod.fst (Prod.snd (getU l n a)) + IntKind.wrap IntKind.i64 (Prod.fst (getU l n a))) - Int.toNat (Prod.fst (Prod.snd (getU l n a)))) * (1 : Nat) ≤ (140737488355328 : Nat), Int.toNat (Prod.fst (Prod.snd (getU l n a)) + IntKind.wrap IntKind.i64 (Prod.fst (getU l n a))) - Int.toNat (Prod.fst (Prod.snd (getU l n a))) ≤ (9223372036854775807 : Nat), (0 : Int) ≤ (0 : Int) + (↑(Int.toNat (Prod.fst (Prod.snd (getU l n a)) + IntKind.wrap IntKind.i64 (Prod.fst (getU l n a))) - Int.toNat (Prod.fst (Prod.snd (getU l n a)))) : Int), Int.toNat ((0 : Int) + (↑(Int.toNat (Prod.fst (Prod.snd (getU l n a)) + IntKind.wrap IntKind.i64 (Prod.fst (getU l n a))) - Int.toNat (Prod.fst (Prod.snd (getU l n a)))) : Int)) * (1 : Nat) ≤ (140737488355328 : Nat), Int.toNat ((0 : Int) + (↑(Int.toNat (Prod.fst (Prod.snd (getU l n a)) + IntKind.wrap IntKind.i64 (Prod.fst (getU l n a))) - Int.toNat (Prod.fst (Prod.snd (getU l n a)))) : Int)) ≤ (9223372036854775807 : Nat), (-9223372036854775808 : Int) ≤ (0 : Int) + (↑(Int.toNat (Prod.fst (Prod.snd (getU l n a)) + IntKind.wrap IntKind.i64 (Prod.fst (getU l n a))) - Int.toNat (Prod.fst (Prod.snd (getU l n a)))) : Int) ∧ (0 : Int) + (↑(Int.toNat (Prod.fst (Prod.snd (getU l n a)) + IntKind.wrap IntKind.i64 (Prod.fst (getU l n a))) - Int.toNat (Prod.fst (Prod.snd (getU l n a)))) : Int) ≤ (9223372036854775807 : Int), (0 : Int) ≤ Prod.fst (Prod.snd (getU l n a)) + IntKind.wrap IntKind.i64 (Prod.fst (getU l n a)), Prod.fst (Prod.snd (getU l n a)) + IntKind.wrap IntKind.i64 (Prod.fst (getU l n a)) ≤ (↑c : Int), (0 : Int) ≤ Prod.fst (Prod.snd (getU l n a)), Prod.fst (Prod.snd (getU l n a)) ≤ (↑(Int.toNat (Prod.fst (Prod.snd (getU l n a)) + IntKind.wrap IntKind.i64 (Prod.fst (getU l n a)))) : Int), (-9223372036854775808 : Int) ≤ Prod.fst (Prod.snd (getU l n a)) + IntKind.wrap IntKind.i64 (Prod.fst (getU l n a)) ∧ Prod.fst (Prod.snd (getU l n a)) + IntKind.wrap IntKind.i64 (Prod.fst (getU l n a)) ≤ (9223372036854775807 : Int), decide ((↑n : Int) < Prod.fst (Prod.snd (getU l n a)) + IntKind.wrap IntKind.i64 (Prod.fst (getU l n a))) = false, (-9223372036854775808 : Int) ≤ Prod.fst (Prod.snd (getU l n a)) + IntKind.wrap IntKind.i64 (Prod.fst (getU l n a)) ∧ Prod.fst (Prod.snd (getU l n a)) + IntKind.wrap IntKind.i64 (Prod.fst (getU l n a)) ≤ (9223372036854775807 : Int), decide (IntKind.wrap IntKind.u64 (↑n : Int) < Prod.fst (getU l n a)) = false, decide (IntKind.wrap IntKind.u64 m < Prod.fst (getU l n a)) = false, decide (m < (0 : Int)) = false, (!decide (Prod.snd (Prod.snd (getU l n a)) = (0 : Int))) = false, n ≤ List.length l, n ≤ (1000000000 : Nat), wfB l]))) := by kernel_rfl
end
section
open Go.ChangeShapes Go.WideShapes Go.ChangeAt Go.RowKit Go.Sx
theorem tabW_ok : ∀ f g, tabW f = some g → TabOk Try.prog f g := tabs_ok fun x hx => by
  simp only [List.mem_cons, List.not_mem_nil, or_false] at hx
  subst hx
  exact getref_tab
theorem getrefi_works (l : List Int) (n c : Nat) (a : Int) (hn : n ≤ l.length) (hm : n ≤ 1000000000) (hw : wfB l) : Works Try.prog 30 [bsl 0 n c, si .i64 a] [roB l] (tupS (getI l n a).1 (getI l n a).2.1 (getI l n a).2.2) [roB l] := by
  have hr := getU_range hw n a
  have ed : Int.tdiv (getU l n a).1 2 = (getU l n a).1 / 2 := Int.tdiv_eq_ediv_of_nonneg hr.1
  have em : Int.tmod (getU l n a).1 2 = (getU l n a).1 % 2 := Int.tmod_eq_emod_of_nonneg hr.1
  have ew : IntKind.wrap .i64 ((getU l n a).1 / 2) = (getU l n a).1 / 2 := wi64 (by omega) (by omega)
  by_cases h : (getU l n a).1 % 2 = 0
  · have q := congrFun (congrFun (congrFun (congrFun ri1 l) a) n) c
    rw [ed, em, ew] at q
    refine works_of (r := []) tabW_ok q ⟨by omega, decide_eq_true h, hn, hm, hw, trivial⟩ ndG ?_ (leG l)
    simp [tupS, getI, unzz, h, leV, leL1, leV1, leC]
  · have q := congrFun (congrFun (congrFun (congrFun ri0 l) a) n) c
    rw [ed, em, ew] at q
    refine works_of (r := []) tabW_ok q ⟨by omega, by omega, decide_eq_false h, hn, hm, hw, trivial⟩ ndG ?_ (leG l)
    have h1 : (getU l n a).1 % 2 = 1 := by omega
    simp [tupS, getI, unzz, h1, leV, leL1, leV1, leC]
theorem getrefi_tab : TabOk Try.prog 30 (loc wantRo gGetI) := loc_ok fun xs bs v bs' ob hg hob hokb => by
  unfold gGetI at hg
  split at hg
  · rename_i n c a k l
    split at hg
    · rename_i hk
      injection hg with hg; injection hg with e1 e2; injection e2 with e2 e3
      subst e1; subst e2; subst e3
      have hk' : k = .u8 := of_decide_eq_true hk
      subst hk'
      exact getrefi_works l n c a (hob _ (by simp)) (hob (n ≤ 1000000000) (by simp)) (hob (wfB l) (by simp))
    · cases hg
  · cases hg
theorem ndG3 : (List.range 1 ++ [3]).Nodup := by decide
theorem getrefb_works (l : List Int) (n c : Nat) (a m : Int) (hn : n ≤ l.length) (hm : n ≤ 1000000000) (hw : wfB l) (hi : i64 m) : Works Try.prog 31 [bsl 0 n c, si .i64 a, si .i64 m] [roB l] (tup3 1 (getB l n a m).1.length (getB l n a m).2.1 (getB l n a m).2.2) [roB l, owB (getB l n a m).1] := capG_works fun hc => by
  have hr := getU_range hw n a
  have hp := getU_place (l := l) (n := n) (a := a)
  have app : ∀ {A : Type} {f g : List Int → Int → Int → Nat → Nat → A}, f = g → f l a m n c = g l a m n c := fun hh => by rw [hh]
  have err : ∀ (t e : Int), getB l n a m = ([], t, e) → Works Try.prog 31 [bsl 0 n c, si .i64 a, si .i64 m] [roB l] (.tup [.one .nils, .one (.sint .i64 t), .one (.sint .i64 e)]) [roB l] → Works Try.prog 31 [bsl 0 n c, si .i64 a, si .i64 m] [roB l] (tup3 1 (getB l n a m).1.length (getB l n a m).2.1 (getB l n a m).2.2) [roB l, owB (getB l n a m).1] := by
    intro t e he h
    rw [he]
    exact ghost_tup3 h
  by_cases h0 : (getU l n a).2.2 = 0
  · obtain ⟨p1, p2, p3⟩ := hp h0
    have q1 := app rb1
    have q2 := app rb2
    have q3 := app rb3
    have q4 := app rb4
    have q5 := app rb5
    have hd : (!decide ((getU l n a).2.2 = 0)) = false := by rw [decide_eq_true h0]; rfl
    by_cases hm0 : m < 0
    · refine err 0 3 (by unfold getB; rw [if_neg (fun h => h h0), if_pos (.inl hm0)]) (works_of (r := []) tabW_ok q1 ⟨decide_eq_true hm0, hd, hn, hm, hw, trivial⟩ ndG ?_ (leG l))
      simp [leV, leL1, leV1, leC]
    · have em : IntKind.wrap .u64 m = m := w64 (by omega) (by unfold i64 at hi; omega)
      by_cases hv : m < (getU l n a).1
      · refine err 0 3 (by unfold getB; rw [if_neg (fun h => h h0), if_pos (.inr hv)]) (works_of (r := []) tabW_ok q2 ⟨by rw [em]; exact decide_eq_true hv, decide_eq_false hm0, hd, hn, hm, hw, trivial⟩ ndG ?_ (leG l))
        simp [leV, leL1, leV1, leC]
      · have en : IntKind.wrap .u64 (n : Int) = (n : Int) := w64 (by omega) (by omega)
        have ew : IntKind.wrap .i64 (getU l n a).1 = (getU l n a).1 := wi64 (by omega) (by unfold i64 at hi; omega)
        by_cases hs0 : (n : Int) < (getU l n a).1
        · refine err 0 11 (by unfold getB; rw [if_neg (fun h => h h0), if_neg (by omega), if_pos (by omega)]) (works_of (r := []) tabW_ok q3 ⟨by rw [en]; exact decide_eq_true hs0, by rw [em]; exact decide_eq_false hv, decide_eq_false hm0, hd, hn, hm, hw, trivial⟩ ndG ?_ (leG l))
          simp [leV, leL1, leV1, leC]
        by_cases hs : (n : Int) - (getU l n a).2.1 < (getU l n a).1
        · rw [ew] at q4
          refine err 0 11 (by unfold getB; rw [if_neg (fun h => h h0), if_neg (by omega), if_pos hs]) (works_of (r := []) tabW_ok q4 ⟨decide_eq_true (by omega), ⟨by omega, by omega⟩, by rw [en]; exact decide_eq_false hs0, by rw [em]; exact decide_eq_false hv, decide_eq_false hm0, hd, hn, hm, hw, trivial⟩ ndG ?_ (leG l))
          simp [leV, leL1, leV1, leC]
        · have e : getB l n a m = ((l.drop (getU l n a).2.1.toNat).take (getU l n a).1.toNat, (getU l n a).2.1 + (getU l n a).1, 0) := by
            unfold getB; rw [if_neg (fun h => h h0), if_neg (by omega), if_neg hs]
          have es : Nat.sub (Int.toNat ((getU l n a).2.1 + (getU l n a).1)) (Int.toNat (getU l n a).2.1) = (getU l n a).1.toNat := by
            show Int.toNat ((getU l n a).2.1 + (getU l n a).1) - Int.toNat (getU l n a).2.1 = _
            omega
          have es2 : Int.toNat ((getU l n a).2.1 + (getU l n a).1) - Int.toNat (getU l n a).2.1 = (getU l n a).1.toNat := es
          have el : ((l.drop (getU l n a).2.1.toNat).take (getU l n a).1.toNat).length = (getU l n a).1.toNat := by
            rw [List.length_take, List.length_drop]; omega
          rw [ew, es, es2, List.nil_append] at q5
          rw [e]
          have d1 : decide (IntKind.wrap .u64 (n : Int) < (getU l n a).1) = false := by rw [en]; exact decide_eq_false hs0
          have d2 : decide (IntKind.wrap .u64 m < (getU l n a).1) = false := by rw [em]; exact decide_eq_false hv
          have d3 := decide_eq_false (p := (n : Int) < (getU l n a).2.1 + (getU l n a).1) (by omega)
          refine works_of (r := [3]) tabW_ok q5 ?_ ndG3 ?_ ⟨⟨fun h => h, rfl, rfl⟩, ⟨fun h => h, rfl, rfl⟩, trivial⟩
          · simp only [allP]
            repeat' (first | exact trivial | exact hd | exact hw | exact d1 | exact d2 | exact d3 | exact decide_eq_false hm0 | refine And.intro ?_ ?_)
            all_goals omega
          · simp [tup3, leV, leL1, leV1, leC, N.v, List.range, List.range.loop, el]
  · have hd : (!decide ((getU l n a).2.2 = 0)) = true := by rw [decide_eq_false h0]; rfl
    refine err 0 (getU l n a).2.2 (by unfold getB; rw [if_pos h0]) (works_of (r := []) tabW_ok (app rb0) ⟨hd, hn, hm, hw, trivial⟩ ndG ?_ (leG l))
    simp [leV, leL1, leV1, leC]
theorem getrefb_tab : TabOk Try.prog 31 (loc wantRo gGetB) := loc_ok fun xs bs v bs' ob hg hob hokb => by
  unfold gGetB at hg
  split at hg
  · rename_i n c a m k l
    split at hg
    · rename_i hk
      injection hg with hg; injection hg with e1 e2; injection e2 with e2 e3
      subst e1; subst e2; subst e3
      have hk' : k = .u8 := of_decide_eq_true hk
      subst hk'
      exact getrefb_works l n c a m (hob _ (by simp)) (hob (n ≤ 1000000000) (by simp)) (hob (wfB l) (by simp)) (hob (i64 m) (by simp))
    · cases hg
  · cases hg
end
section
open Go.Sx
/-- a function that puts bytes behind bytes, in memory of its own -/
def putR (k : IntKind) (f : Int → List Int) (pre : Int → Prop) : Sx.Loc := fun args bs => match args, bs with
  | [.v (.one .nils), .v (.one (.sint k' x))], [] => match decide (k' = k) with
    | true => some (bsl 0 (f x).length (f x).length, [owB (f x)], [pre x])
    | false => none
  | [.v (.one (.slice 0 (.c 0) 1 (.s n) (.s _))), .v (.one (.sint k' x))], [⟨false, .ints k2 l⟩] => match decide (k' = k) && decide (k2 = .u8) with
    | true => some (bsl 1 (l ++ f x).length (l ++ f x).length, [roB l, owB (l ++ f x)], [pre x, n = l.length, l.length + 10 ≤ 140737488355328])
    | false => none
  | _, _ => none
theorem ruN : (fun (x : Int) => retV [3] (callV 4 23 [.v (.one .nils), si .u64 x] [] [true])) = fun (x : Int) => some (((V.v (V1.one (C.slice ((3 : Nat)) (N.c ((0 : Nat))) ((1 : Nat)) (N.s (List.length (vint x))) (N.s (List.length (vint x)))))), ([(SB.mk (true) (Cells.ints (IntKind.u8) ([] ++ vint x)))], [(0 : Nat) = (0 : Nat), List.length (vint x) = List.length (vint x), List.length (vint x) * (1 : Nat) ≤ (140737488355328 : Nat), List.length (vint x) ≤ (9223372036854775807 : Nat), (0 : Int) ≤ (0 : Int) + (↑(List.length (vint x)) : Int), Int.toNat ((0 : Int) + (↑(List.length (vint x)) : Int)) * (1 : Nat) ≤ (140737488355328 : Nat), Int.toNat ((0 : Int) + (↑(List.length (vint x)) : Int)) ≤ (9223372036854775807 : Nat), (-9223372036854775808 : Int) ≤ (0 : Int) + (↑(List.length (vint x)) : Int) ∧ (0 : Int) + (↑(List.length (vint x)) : Int) ≤ (9223372036854775807 : Int), u64 x]))) := by kernel_rfl
theorem ruS : (fun (l : List Int) (x : Int) (n c : Nat) => retV [0, 4] (callV 4 23 [bsl 0 n c, si .u64 x] [roB l] [true, true, true])) = fun (l : List Int) (x : Int) (n : Nat) (c : Nat) => some (((V.v (V1.one (C.slice ((4 : Nat)) (N.c ((0 : Nat))) ((1 : Nat)) (N.s (n + List.length (vint x))) (N.s (n + List.length (vint x)))))), ([(SB.mk (false) (Cells.ints (IntKind.u8) (l))), (SB.mk (true) (Cells.ints (IntKind.u8) ([] ++ l ++ vint x)))], [(0 : Nat) = (0 : Nat), n = List.length ([] ++ l), (0 : Nat) = (0 : Nat), List.length (vint x) = List.length (vint x), (n + List.length (vint x)) * (1 : Nat) ≤ (140737488355328 : Nat), n + List.length (vint x) ≤ (9223372036854775807 : Nat), (0 : Nat) = (0 : Nat), n = List.length l, n * (1 : Nat) ≤ (140737488355328 : Nat), n ≤ (9223372036854775807 : Nat), (0 : Int) ≤ (↑n : Int) + (↑(List.length (vint x)) : Int), Int.toNat ((↑n : Int) + (↑(List.length (vint x)) : Int)) * (1 : Nat) ≤ (140737488355328 : Nat), Int.toNat ((↑n : Int) + (↑(List.length (vint x)) : Int)) ≤ (9223372036854775807 : Nat), (-9223372036854775808 : Int) ≤ (↑n : Int) + (↑(List.length (vint x)) : Int) ∧ (↑n : Int) + (↑(List.length (vint x)) : Int) ≤ (9223372036854775807 : Int), u64 x]))) := by kernel_rfl
def tabI2 := tabs [(23, loc wantRo (putR .u64 vint u64))]
noncomputable def callI2 (d : Nat) := callN Try.prog tabI2 (fun _ => false) 100000 d
theorem rnP : (fun (x : Int) => retV [0] (callI2 4 24 [.v (.one .nils), si .i64 x] [] [true])) = fun (x : Int) => some (((V.v (V1.one (C.slice ((0 : Nat)) (N.c ((0 : Nat))) ((1 : Nat)) (N.s (List.length (vint (IntKind.wrap IntKind.u64 (IntKind.wrap IntKind.u64 x * (2 : Int)))))) (N.s (List.length (vint (IntKind.wrap IntKind.u64 (IntKind.wrap IntKind.u64 x * (2 : Int))))))))), ([(SB.mk (true) (Cells.ints (IntKind.u8) (vint (IntKind.wrap IntKind.u64 (IntKind.wrap IntKind.u64 x * (2 : Int))))))], [u64 (IntKind.wrap IntKind.u64 (IntKind.wrap IntKind.u64 x * (2 : Int))), decide ((0 : Int) ≤ x) = true]))) := by kernel_rfl
theorem rnM : (fun (x : Int) => retV [0] (callI2 4 24 [.v (.one .nils), si .i64 x] [] [false])) = fun (x : Int) => some (((V.v (V1.one (C.slice ((0 : Nat)) (N.c ((0 : Nat))) ((1 : Nat)) (N.s (List.length (vint (IntKind.wrap IntKind.u64 (IntKind.wrap IntKind.u64 (IntKind.wrap IntKind.u64 ((-1 : Int) - x) * (2 : Int)) + (1 : Int)))))) (N.s (List.length (vint (IntKind.wrap IntKind.u64 (IntKind.wrap IntKind.u64 (IntKind.wrap IntKind.u64 ((-1 : Int) - x) * (2 : Int)) + (1 : Int))))))))), ([(SB.mk (true) (Cells.ints (IntKind.u8) (vint (IntKind.wrap IntKind.u64 (IntKind.wrap IntKind.u64 (IntKind.wrap IntKind.u64 ((-1 : Int) - x) * (2 : Int)) + (1 : Int))))))], [u64 (IntKind.wrap IntKind.u64 (IntKind.wrap IntKind.u64 (IntKind.wrap IntKind.u64 ((-1 : Int) - x) * (2 : Int)) + (1 : Int))), (-9223372036854775808 : Int) ≤ (-1 : Int) - x ∧ (-1 : Int) - x ≤ (9223372036854775807 : Int), decide ((0 : Int) ≤ x) = false]))) := by kernel_rfl
theorem rsP : (fun (l : List Int) (x : Int) (n c : Nat) => retV [0, 1] (callI2 4 24 [bsl 0 n c, si .i64 x] [roB l] [true])) = fun (l : List Int) (x : Int) (n : Nat) (c : Nat) => some (((V.v (V1.one (C.slice ((1 : Nat)) (N.c ((0 : Nat))) ((1 : Nat)) (N.s (List.length (l ++ vint (IntKind.wrap IntKind.u64 (IntKind.wrap IntKind.u64 x * (2 : Int)))))) (N.s (List.length (l ++ vint (IntKind.wrap IntKind.u64 (IntKind.wrap IntKind.u64 x * (2 : Int))))))))), ([(SB.mk (false) (Cells.ints (IntKind.u8) (l))), (SB.mk (true) (Cells.ints (IntKind.u8) (l ++ vint (IntKind.wrap IntKind.u64 (IntKind.wrap IntKind.u64 x * (2 : Int))))))], [u64 (IntKind.wrap IntKind.u64 (IntKind.wrap IntKind.u64 x * (2 : Int))), n = List.length l, List.length l + (10 : Nat) ≤ (140737488355328 : Nat), decide ((0 : Int) ≤ x) = true]))) := by kernel_rfl
theorem rsM : (fun (l : List Int) (x : Int) (n c : Nat) => retV [0, 1] (callI2 4 24 [bsl 0 n c, si .i64 x] [roB l] [false])) = fun (l : List Int) (x : Int) (n : Nat) (c : Nat) => some (((V.v (V1.one (C.slice ((1 : Nat)) (N.c ((0 : Nat))) ((1 : Nat)) (N.s (List.length (l ++ vint (IntKind.wrap IntKind.u64 (IntKind.wrap IntKind.u64 (IntKind.wrap IntKind.u64 ((-1 : Int) - x) * (2 : Int)) + (1 : Int)))))) (N.s (List.length (l ++ vint (IntKind.wrap IntKind.u64 (IntKind.wrap IntKind.u64 (IntKind.wrap IntKind.u64 ((-1 : Int) - x) * (2 : Int)) + (1 : Int))))))))), ([(SB.mk (false) (Cells.ints (IntKind.u8) (l))), (SB.mk (true) (Cells.ints (IntKind.u8) (l ++ vint (IntKind.wrap IntKind.u64 (IntKind.wrap IntKind.u64 (IntKind.wrap IntKind.u64 ((-1 : Int) - x) * (2 : Int)) + (1 : Int))))))], [u64 (IntKind.wrap IntKind.u64 (IntKind.wrap IntKind.u64 (IntKind.wrap IntKind.u64 ((-1 : Int) - x) * (2 : Int)) + (1 : Int))), n = List.length l, List.length l + (10 : Nat) ≤ (140737488355328 : Nat), (-9223372036854775808 : Int) ≤ (-1 : Int) - x ∧ (-1 : Int) - x ≤ (9223372036854775807 : Int), decide ((0 : Int) ≤ x) = false]))) := by kernel_rfl
end
section
open Go.ChangeShapes Go.WideShapes Go.ChangeAt Go.RowKit Go.Sx
theorem putR_ok {g : FuncId} {k : IntKind} {f : Int → List Int} {pre : Int → Prop}
    (h1 : ∀ n, pre n → Works Try.prog g [.v (.one .nils), si k n] [] (bsl 0 (f n).length (f n).length) [owB (f n)])
    (h2 : ∀ n (l : List Int) (c : Nat), pre n → l.length + 10 ≤ 140737488355328 → Works Try.prog g [bsl 0 l.length c, si k n] [roB l] (bsl 1 (l ++ f n).length (l ++ f n).length) [roB l, owB (l ++ f n)]) :
    TabOk Try.prog g (loc wantRo (putR k f pre)) := loc_ok fun xs bs v bs' ob hg hob hok => by
  clear hok
  unfold putR at hg
  split at hg
  · rename_i k' n
    split at hg
    · rename_i hk
      have hk := of_decide_eq_true hk; subst hk
      injection hg with hg; injection hg with e1 e2; injection e2 with e2 e3
      subst e1; subst e2; subst e3
      exact h1 n (hob _ (by simp))
    · cases hg
  · rename_i a c k' n k2 l
    split at hg
    · rename_i hk
      rw [Bool.and_eq_true] at hk
      have hk1 := of_decide_eq_true hk.1; subst hk1
      have hk2 := of_decide_eq_true hk.2; subst hk2
      injection hg with hg; injection hg with e1 e2; injection e2 with e2 e3
      subst e1; subst e2; subst e3
      have ha : a = l.length := hob _ (by simp)
      subst ha
      exact h2 n l c (hob _ (by simp)) (hob _ (by simp))
    · cases hg
  · cases hg
theorem ndR4 : (List.range 1 ++ [4]).Nodup := by decide
theorem ru_nil (x : Int) (h : u64 x) : Works Try.prog 23 [.v (.one .nils), si .u64 x] [] (bsl 0 (vint x).length (vint x).length) [owB (vint x)] := by
  have hl := vint_le h
  have q := congrFun ruN x
  rw [List.nil_append] at q
  refine works_of (v := bsl 0 (vint x).length (vint x).length) (bs' := [owB (vint x)]) (bs := []) (r := [3]) tabV_ok q ?_ (by decide) ⟨rfl, rfl, rfl, rfl, Nat.le_refl _, Nat.le_refl _⟩ ⟨⟨fun h => h, rfl, rfl⟩, trivial⟩
  simp only [allP]
  repeat' (first | exact trivial | exact h | refine And.intro ?_ ?_)
  all_goals omega
theorem ru_ro (x : Int) (l : List Int) (c : Nat) (h : u64 x) (hl2 : l.length + 10 ≤ 140737488355328) : Works Try.prog 23 [bsl 0 l.length c, si .u64 x] [roB l] (bsl 1 (l ++ vint x).length (l ++ vint x).length) [roB l, owB (l ++ vint x)] := by
  have hl := vint_le h
  have q := congrFun (congrFun (congrFun (congrFun ruS l) x) l.length) c
  rw [List.nil_append] at q
  refine works_of (r := [4]) tabV_ok q ?_ ndR4 ?_ ⟨⟨fun h => h, rfl, rfl⟩, ⟨fun h => h, rfl, rfl⟩, trivial⟩
  · simp only [allP]
    repeat' (first | exact trivial | exact h | refine And.intro ?_ ?_)
    all_goals omega
  · simp [bsl, leV, leV1, leC, N.v, List.range, List.range.loop]
theorem ru_tab : TabOk Try.prog 23 (loc wantRo (putR .u64 vint u64)) := putR_ok ru_nil ru_ro
theorem tabI2_ok : ∀ f g, tabI2 f = some g → TabOk Try.prog f g := tabs_ok fun x hx => by
  simp only [List.mem_cons, List.not_mem_nil, or_false] at hx
  subst hx
  exact ru_tab
theorem zzP {x : Int} (h : i64 x) (h0 : 0 ≤ x) : IntKind.wrap .u64 (IntKind.wrap .u64 x * 2) = zz x := by
  unfold i64 at h
  rw [w64 (n := x) (by omega) (by omega), w64 (by omega) (by omega)]
  unfold zz; rw [if_neg (by omega)]; omega
theorem zzM {x : Int} (h : i64 x) (h0 : ¬ 0 ≤ x) : IntKind.wrap .u64 (IntKind.wrap .u64 (IntKind.wrap .u64 (-1 - x) * 2) + 1) = zz x := by
  unfold i64 at h
  rw [w64 (n := -1 - x) (by omega) (by omega), w64 (n := (-1 - x) * 2) (by omega) (by omega), w64 (by omega) (by omega)]
  unfold zz; rw [if_pos (by omega)]; omega
theorem ri_nil (x : Int) (h : i64 x) : Works Try.prog 24 [.v (.one .nils), si .i64 x] [] (bsl 0 (svint x).length (svint x).length) [owB (svint x)] := by
  have hu := zz_u64 h
  by_cases h0 : 0 ≤ x
  · have q := congrFun rnP x
    rw [zzP h h0] at q
    exact works_of (v := bsl 0 (svint x).length (svint x).length) (bs' := [owB (svint x)]) (bs := []) (r := [0]) tabI2_ok q ⟨hu, decide_eq_true h0, trivial⟩ (by decide) ⟨rfl, rfl, rfl, rfl, Nat.le_refl _, Nat.le_refl _⟩ ⟨⟨fun h => h, rfl, rfl⟩, trivial⟩
  · have q := congrFun rnM x
    rw [zzM h h0] at q
    unfold i64 at h
    exact works_of (v := bsl 0 (svint x).length (svint x).length) (bs' := [owB (svint x)]) (bs := []) (r := [0]) tabI2_ok q ⟨hu, ⟨by omega, by omega⟩, decide_eq_false h0, trivial⟩ (by decide) ⟨rfl, rfl, rfl, rfl, Nat.le_refl _, Nat.le_refl _⟩ ⟨⟨fun h => h, rfl, rfl⟩, trivial⟩
theorem ri_ro (x : Int) (l : List Int) (c : Nat) (h : i64 x) (hl2 : l.length + 10 ≤ 140737488355328) : Works Try.prog 24 [bsl 0 l.length c, si .i64 x] [roB l] (bsl 1 (l ++ svint x).length (l ++ svint x).length) [roB l, owB (l ++ svint x)] := by
  have hu := zz_u64 h
  have hnd : (List.range 1 ++ [1]).Nodup := by decide
  by_cases h0 : 0 ≤ x
  · have q := congrFun (congrFun (congrFun (congrFun rsP l) x) l.length) c
    rw [zzP h h0] at q
    exact works_of (r := [1]) tabI2_ok q ⟨hu, rfl, hl2, decide_eq_true h0, trivial⟩ hnd ⟨rfl, rfl, rfl, rfl, Nat.le_refl _, Nat.le_refl _⟩ ⟨⟨fun h => h, rfl, rfl⟩, ⟨fun h => h, rfl, rfl⟩, trivial⟩
  · have q := congrFun (congrFun (congrFun (congrFun rsM l) x) l.length) c
    rw [zzM h h0] at q
    unfold i64 at h
    exact works_of (r := [1]) tabI2_ok q ⟨hu, rfl, hl2, ⟨by omega, by omega⟩, decide_eq_false h0, trivial⟩ hnd ⟨rfl, rfl, rfl, rfl, Nat.le_refl _, Nat.le_refl _⟩ ⟨⟨fun h => h, rfl, rfl⟩, ⟨fun h => h, rfl, rfl⟩, trivial⟩
theorem ri_tab : TabOk Try.prog 24 (loc wantRo (putR .i64 svint i64)) := putR_ok ri_nil ri_ro
end
end Go.Proofs.Ytjjjpflnhagfcaa
