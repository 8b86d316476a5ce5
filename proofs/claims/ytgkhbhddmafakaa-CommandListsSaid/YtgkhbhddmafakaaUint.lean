/- What Uint and Int come to: bytes behind bytes. -/
import Derived.Test.YtgkhbhddmafakaaRows
import Derived.Test.YtgkhbhddmafakaaSxAE
namespace Go.Proofs.Ytgkhbhddmafakaa
open Go.ChangeShapes Go.WideShapes Go.ChangeAt Go.RowKit Go.Sx
theorem own : ownKnob Try.prog.godebug = none := by kernel_rfl
theorem laidOut : laidOutB Try.prog = true := by kernel_rfl
noncomputable def call0 (d : Nat) := callN Try.prog (fun _ => none) (fun _ => false) 100000 d
def si (k : IntKind) (n : Int) : V := .v (.one (.sint k n))
def rep (b : Bool) (n : Nat) : List Bool := List.replicate n b
/-- bytes, all of a block, as a value -/
def bsl (b n c : Nat) : V := .v (.one (.slice b (.c 0) 1 (.s n) (.s c)))
/-- a varint's bytes -/
def vintN (n : Nat) : List Int := if n < 128 then [(n : Int)] else ((128 + n % 128 : Nat) : Int) :: vintN (n / 128)
termination_by n
decreasing_by omega
def vint (n : Int) : List Int := vintN n.toNat
def vb : Nat → Int → List Int
  | 0, n => [IntKind.wrap .u8 n]
  | j + 1, n => IntKind.wrap .u8 (IntKind.wrap .u8 (n.tmod 128) + 128) :: vb j (n.tdiv 128)
def vo : Nat → Int → List Prop
  | 0, n => [decide (128 ≤ n) = false]
  | j + 1, n => vo j (n.tdiv 128) ++ [inK .u64 (n.tdiv 128), decide (128 ≤ n) = true]
def lenB (j b : Nat) : V := .v (.one (.slice b (.c 0) 1 (.c (j + 1)) (.c (j + 1))))
def lenS (j b a : Nat) : V := .v (.one (.slice b (.c 0) 1 (.s (a + (j + 1))) (.s (a + (j + 1)))))
def sints (l : List Int) : List C := l.map (C.sint .u8)
noncomputable def uN (j : Nat) (n : Int) := retV [1] (call0 3 27 [.v (.one .nils), si .u64 n] [] (rep true j ++ [false]))
noncomputable def uS (j : Nat) (n : Int) (l : List Int) (a c : Nat) := retV [0, 2] (call0 3 27 [bsl 0 a c, si .u64 n] [⟨true, .ints .u8 l⟩] (rep true j ++ [false, true]))
def uNr (j : Nat) (n : Int) : Option (V × List SB × List Prop) := some (lenB j 1, [⟨true, .exp (sints (vb j n))⟩], vo j n)
def uSr (j : Nat) (n : Int) (l : List Int) (a : Nat) : Option (V × List SB × List Prop) := some (lenS j 2 a, [⟨true, .dead⟩, ⟨true, .ints .u8 (l ++ vb j n)⟩], [(0 : Nat) = 0, a = l.length, (a + (j + 1)) * 1 ≤ 140737488355328, a + (j + 1) ≤ 9223372036854775807] ++ vo j n)
theorem uN0 : (fun n => uN 0 n) = fun n => uNr 0 n := by kernel_rfl
theorem uS0 : (fun n l a c => uS 0 n l a c) = fun n l a _ => uSr 0 n l a := by kernel_rfl
theorem uN1 : (fun n => uN 1 n) = fun n => uNr 1 n := by kernel_rfl
theorem uS1 : (fun n l a c => uS 1 n l a c) = fun n l a _ => uSr 1 n l a := by kernel_rfl
theorem uN2 : (fun n => uN 2 n) = fun n => uNr 2 n := by kernel_rfl
theorem uS2 : (fun n l a c => uS 2 n l a c) = fun n l a _ => uSr 2 n l a := by kernel_rfl
theorem uN3 : (fun n => uN 3 n) = fun n => uNr 3 n := by kernel_rfl
theorem uS3 : (fun n l a c => uS 3 n l a c) = fun n l a _ => uSr 3 n l a := by kernel_rfl
theorem uN4 : (fun n => uN 4 n) = fun n => uNr 4 n := by kernel_rfl
theorem uS4 : (fun n l a c => uS 4 n l a c) = fun n l a _ => uSr 4 n l a := by kernel_rfl
theorem uN5 : (fun n => uN 5 n) = fun n => uNr 5 n := by kernel_rfl
theorem uS5 : (fun n l a c => uS 5 n l a c) = fun n l a _ => uSr 5 n l a := by kernel_rfl
theorem uN6 : (fun n => uN 6 n) = fun n => uNr 6 n := by kernel_rfl
theorem uS6 : (fun n l a c => uS 6 n l a c) = fun n l a _ => uSr 6 n l a := by kernel_rfl
theorem uN7 : (fun n => uN 7 n) = fun n => uNr 7 n := by kernel_rfl
theorem uS7 : (fun n l a c => uS 7 n l a c) = fun n l a _ => uSr 7 n l a := by kernel_rfl
theorem uN8 : (fun n => uN 8 n) = fun n => uNr 8 n := by kernel_rfl
theorem uS8 : (fun n l a c => uS 8 n l a c) = fun n l a _ => uSr 8 n l a := by kernel_rfl
theorem uN9 : (fun n => uN 9 n) = fun n => uNr 9 n := by kernel_rfl
theorem uS9 : (fun n l a c => uS 9 n l a c) = fun n l a _ => uSr 9 n l a := by kernel_rfl
theorem uN_all (n : Int) : ∀ j, j < 10 → uN j n = uNr j n
  | 0, _ => congrFun uN0 n | 1, _ => congrFun uN1 n | 2, _ => congrFun uN2 n | 3, _ => congrFun uN3 n | 4, _ => congrFun uN4 n
  | 5, _ => congrFun uN5 n | 6, _ => congrFun uN6 n | 7, _ => congrFun uN7 n | 8, _ => congrFun uN8 n | 9, _ => congrFun uN9 n
  | _ + 10, h => absurd h (by omega)
theorem uS_all (n : Int) (l : List Int) (a c : Nat) : ∀ j, j < 10 → uS j n l a c = uSr j n l a
  | 0, _ => congrFun (congrFun (congrFun (congrFun uS0 n) l) a) c | 1, _ => congrFun (congrFun (congrFun (congrFun uS1 n) l) a) c
  | 2, _ => congrFun (congrFun (congrFun (congrFun uS2 n) l) a) c | 3, _ => congrFun (congrFun (congrFun (congrFun uS3 n) l) a) c
  | 4, _ => congrFun (congrFun (congrFun (congrFun uS4 n) l) a) c | 5, _ => congrFun (congrFun (congrFun (congrFun uS5 n) l) a) c
  | 6, _ => congrFun (congrFun (congrFun (congrFun uS6 n) l) a) c | 7, _ => congrFun (congrFun (congrFun (congrFun uS7 n) l) a) c
  | 8, _ => congrFun (congrFun (congrFun (congrFun uS8 n) l) a) c | 9, _ => congrFun (congrFun (congrFun (congrFun uS9 n) l) a) c
  | _ + 10, h => absurd h (by omega)
theorem allP_app : ∀ {l r : List Prop}, allP l → allP r → allP (l ++ r)
  | [], _, _, h => h
  | _ :: _, _, h, h' => ⟨h.1, allP_app h.2 h'⟩
theorem vb_length : ∀ (j : Nat) (n : Int), (vb j n).length = j + 1
  | 0, _ => rfl
  | j + 1, n => by simp [vb, vb_length j]
theorem w8 {n : Int} (h0 : 0 ≤ n) (h1 : n < 256) : IntKind.wrap .u8 n = n := by
  refine wrap_in ⟨?_, ?_⟩ <;> simp [IntKind.min, IntKind.max, IntKind.signed, IntKind.bits] <;> omega
theorem w64 {n : Int} (h0 : 0 ≤ n) (h1 : n ≤ 18446744073709551615) : IntKind.wrap .u64 n = n := by
  refine wrap_in ⟨?_, ?_⟩ <;> simp [IntKind.min, IntKind.max, IntKind.signed, IntKind.bits] <;> omega
/-- one way is the way of a number, and yields its bytes -/
theorem vb_way : ∀ (j : Nat) (n : Int), 0 ≤ n → n ≤ 18446744073709551615 → n < 128 ^ (j + 1) → ∃ i, i ≤ j ∧ vb i n = vint n ∧ allP (vo i n)
  | 0, n, h0, _, h => by
    refine ⟨0, Nat.le_refl _, ?_, ?_⟩
    · have : n < 128 := by simpa using h
      unfold vb vint vintN
      rw [if_pos (by omega), w8 h0 (by omega)]
      congr 1; omega
    · have : n < 128 := by simpa using h
      simp [vo, allP]; omega
  | j + 1, n, h0, h1, h => by
    by_cases hs : n < 128
    · refine ⟨0, Nat.zero_le _, ?_, ?_⟩
      · unfold vb vint vintN
        rw [if_pos (by omega), w8 h0 (by omega)]
        congr 1; omega
      · simp [vo, allP]; omega
    · have hd : n.tdiv 128 = n / 128 := Int.tdiv_eq_ediv_of_nonneg h0
      have hm : n.tmod 128 = n % 128 := Int.tmod_eq_emod_of_nonneg h0
      have hlt : n / 128 < 128 ^ (j + 1) := by
        rw [Int.pow_succ] at h
        exact Int.ediv_lt_of_lt_mul (by omega) h
      obtain ⟨i, hi, h2, h3⟩ := vb_way j (n / 128) (by omega) (by omega) hlt
      refine ⟨i + 1, by omega, ?_, ?_⟩
      · unfold vb vint vintN
        rw [if_neg (by omega), hd, h2, hm, w8 (n := n % 128) (by omega) (by omega), w8 (by omega) (by omega)]
        congr 1
        · omega
        · unfold vint; congr 1; omega
      · simp only [vo]
        rw [hd]
        refine allP_app h3 ⟨⟨?_, ?_⟩, ?_, trivial⟩
        · simp [IntKind.min, IntKind.signed]; omega
        · simp [IntKind.max, IntKind.signed, IntKind.bits]; omega
        · simp; omega
theorem way_of {n : Int} (h0 : 0 ≤ n) (h1 : n ≤ 18446744073709551615) : ∃ i, i < 10 ∧ vb i n = vint n ∧ allP (vo i n) ∧ (vint n).length = i + 1 := by
  obtain ⟨i, h2, h3, h4⟩ := vb_way 9 n h0 h1 (by omega)
  exact ⟨i, by omega, h3, h4, by rw [← h3]; exact vb_length i n⟩
def u64 (n : Int) : Prop := 0 ≤ n ∧ n ≤ 18446744073709551615
/-- bytes that are asked for as own ones -/
def ownB1 : List V → List Want
  | .v (.one (.slice _ _ _ _ _)) :: _ => [(true, .ints .u8)]
  | _ => []
/-- a function that puts so many bytes behind bytes -/
def putL (k : IntKind) (f : Int → List Int) (pre : Int → Prop) : Sx.Loc := fun args bs => match args, bs with
  | [.v (.one .nils), .v (.one (.sint k' n))], [] => match decide (k' = k) with
    | true => some (bsl 0 (f n).length (f n).length, [⟨true, .ints .u8 (f n)⟩], [pre n])
    | false => none
  | [.v (.one (.slice 0 (.c 0) 1 (.s a) (.s _))), .v (.one (.sint k' n))], [⟨true, .ints .u8 l⟩] => match decide (k' = k) with
    | true => some (bsl 1 (l ++ f n).length (l ++ f n).length, [⟨true, .dead⟩, ⟨true, .ints .u8 (l ++ f n)⟩], [pre n, a = l.length, l.length + 10 ≤ 140737488355328])
    | false => none
  | _, _ => none
theorem putL_ok {g : FuncId} {k : IntKind} {f : Int → List Int} {pre : Int → Prop}
    (h1 : ∀ n, pre n → Works Try.prog g [.v (.one .nils), si k n] [] (bsl 0 (f n).length (f n).length) [⟨true, .ints .u8 (f n)⟩])
    (h2 : ∀ n (l : List Int) (c : Nat), pre n → l.length + 10 ≤ 140737488355328 → Works Try.prog g [bsl 0 l.length c, si k n] [⟨true, .ints .u8 l⟩] (bsl 1 (l ++ f n).length (l ++ f n).length) [⟨true, .dead⟩, ⟨true, .ints .u8 (l ++ f n)⟩]) :
    TabOk Try.prog g (loc ownB1 (putL k f pre)) := loc_ok fun xs bs v bs' ob hg hob hok => by
  clear hok
  unfold putL at hg
  split at hg
  · rename_i k' n
    split at hg
    · rename_i hk
      have hk := of_decide_eq_true hk; subst hk
      injection hg with hg; injection hg with e1 e2; injection e2 with e2 e3
      subst e1; subst e2; subst e3
      exact h1 n (hob _ (by simp))
    · cases hg
  · rename_i a c k' n l
    split at hg
    · rename_i hk
      have hk := of_decide_eq_true hk; subst hk
      injection hg with hg; injection hg with e1 e2; injection e2 with e2 e3
      subst e1; subst e2; subst e3
      have ha : a = l.length := hob _ (by simp)
      subst ha
      exact h2 n l c (hob _ (by simp)) (hob _ (by simp))
    · cases hg
  · cases hg
theorem sints_le (sel : List Nat) : ∀ l : List Int, leL sel (sints l) (l.map (C.sint .u8))
  | [] => trivial
  | _ :: r => ⟨⟨rfl, rfl⟩, sints_le sel r⟩
theorem uint_nil (n : Int) (h : u64 n) : Works Try.prog 27 [.v (.one .nils), si .u64 n] [] (bsl 0 (vint n).length (vint n).length) [⟨true, .ints .u8 (vint n)⟩] := by
  obtain ⟨i, hi, h1, h2, h3⟩ := way_of h.1 h.2
  refine works_of (v := bsl 0 (vint n).length (vint n).length) (bs' := [⟨true, .ints .u8 (vint n)⟩]) (r := [1]) no_tabs (uN_all n i hi) h2 (by decide) ⟨rfl, rfl, rfl, ?_, ?_, ?_⟩ ⟨⟨fun h => h, ?_⟩, trivial⟩
  · simp [N.v, h3]
  · simp [N.v, h3]
  · simp [N.v, h3]
  · show leL _ (sints (vb i n)) ((vint n).map (C.sint .u8))
    rw [h1]; exact sints_le _ _
theorem uint_own (n : Int) (l : List Int) (c : Nat) (h : u64 n) (hl : l.length + 10 ≤ 140737488355328) :
    Works Try.prog 27 [bsl 0 l.length c, si .u64 n] [⟨true, .ints .u8 l⟩] (bsl 1 (l ++ vint n).length (l ++ vint n).length) [⟨true, .dead⟩, ⟨true, .ints .u8 (l ++ vint n)⟩] := by
  obtain ⟨i, hi, h1, h2, h3⟩ := way_of h.1 h.2
  refine works_of (v := bsl 1 (l ++ vint n).length (l ++ vint n).length) (bs' := [⟨true, .dead⟩, ⟨true, .ints .u8 (l ++ vint n)⟩]) (r := [2]) no_tabs (uS_all n l l.length c i hi) ?_ (show (List.range 1 ++ [2]).Nodup by decide) ⟨rfl, rfl, rfl, ?_, ?_, ?_⟩ ⟨⟨fun h => h, trivial⟩, ⟨fun h => h, ?_⟩, trivial⟩
  · exact allP_app ⟨rfl, rfl, by omega, by omega, trivial⟩ h2
  · simp [N.v, h3]
  · simp [N.v, h3]
  · simp [N.v, h3]
  · exact ⟨rfl, by rw [h1]⟩
theorem uint_tab : TabOk Try.prog 27 (loc ownB1 (putL .u64 vint u64)) := putL_ok uint_nil uint_own

/-! ### numbers that may be below 0 -/
def zz (n : Int) : Int := if n < 0 then -1 - 2 * n else 2 * n
def i64 (n : Int) : Prop := -9223372036854775808 ≤ n ∧ n ≤ 9223372036854775807
theorem xor_ones {m : Int} (h0 : 0 ≤ m) (h1 : m ≤ 18446744073709551615) : bits .xor .u64 (IntKind.max .u64) m = 18446744073709551615 - m := by
  have hm : ∃ k : Nat, m = k ∧ k < 2 ^ 64 := ⟨m.toNat, by omega, by omega⟩
  obtain ⟨k, rfl, hk⟩ := hm
  have e1 : BitVec.ofInt 64 (IntKind.max .u64) = BitVec.allOnes 64 := by decide
  have e2 : BitVec.ofInt 64 ((k : Nat) : Int) = BitVec.ofNat 64 k := by simp
  have e3 : (BitVec.allOnes 64 ^^^ BitVec.ofNat 64 k).toNat = 2 ^ 64 - 1 - k := by
    rw [BitVec.allOnes_xor, BitVec.toNat_not, BitVec.toNat_ofNat, Nat.mod_eq_of_lt hk]
  show IntKind.wrap .u64 (((BitVec.ofInt 64 (IntKind.max .u64) ^^^ BitVec.ofInt 64 (k : Int)).toNat : Nat) : Int) = _
  rw [e1, e2, e3, w64 (by omega) (by omega)]
  omega
noncomputable def plc (h : List Bool) (n : Int) := retV [] (call0 3 36 [si .i64 n] [] h)
theorem place_neg : (fun n => plc [true] n) = fun n => some (si .u64 (bits .xor .u64 (IntKind.max .u64) (IntKind.wrap .u64 (IntKind.wrap .u64 n * 2))), [], [decide (n < 0) = true]) := by kernel_rfl
theorem place_pos : (fun n => plc [false] n) = fun n => some (si .u64 (IntKind.wrap .u64 (IntKind.wrap .u64 n * 2)), [], [decide (n < 0) = false]) := by kernel_rfl
theorem zz_u64 {n : Int} (h : i64 n) : u64 (zz n) := by unfold i64 at h; unfold u64 zz; split <;> omega
theorem wrap_u64 (n : Int) : IntKind.wrap .u64 n = n % 18446744073709551616 := by
  simp [IntKind.wrap, IntKind.signed, IntKind.bits]
theorem place_val {n : Int} (h : i64 n) : (if n < 0 then bits .xor .u64 (IntKind.max .u64) (IntKind.wrap .u64 (IntKind.wrap .u64 n * 2)) else IntKind.wrap .u64 (IntKind.wrap .u64 n * 2)) = zz n := by
  unfold i64 at h
  have e : IntKind.wrap .u64 (IntKind.wrap .u64 n * 2) = if n < 0 then 18446744073709551616 + 2 * n else 2 * n := by
    rw [wrap_u64, wrap_u64]; split <;> omega
  rw [e]
  unfold zz
  split
  · rw [xor_ones (by omega) (by omega)]; omega
  · rfl
def gPlace : List Int → V × List SB × List Prop
  | [n] => (si .u64 (zz n), [], [i64 n])
  | _ => (.tup [], [], [False])
theorem place_tab : TabOk Try.prog 36 (numTab [.i64] gPlace) := numTab_ok fun ns hl hp => by
  match ns, hl with
  | [n], _ =>
    have h : i64 n := hp _ (by simp [gPlace])
    have hv := place_val h
    refine ⟨rfl, ?_⟩
    by_cases hn : n < 0
    · rw [if_pos hn] at hv
      exact makes_of (v := si .u64 (zz n)) (bs := []) no_tabs (congrFun place_neg n) (by simp [allP, hn]) (by simp) ⟨rfl, hv⟩ trivial ⟨_, _, rfl, ⟨rfl, rfl⟩, rfl⟩
    · rw [if_neg hn] at hv
      exact makes_of (v := si .u64 (zz n)) (bs := []) no_tabs (congrFun place_pos n) (by simp [allP, hn]) (by simp) ⟨rfl, hv⟩ trivial ⟨_, _, rfl, ⟨rfl, rfl⟩, rfl⟩
def tabU := tabs [(27, loc ownB1 (putL .u64 vint u64)), (36, numTab [.i64] gPlace)]
noncomputable def callU (d : Nat) := callN Try.prog tabU (fun f => Nat.beq f 27) 100000 d
theorem tabU_ok : ∀ f g, tabU f = some g → TabOk Try.prog f g := tabs_ok fun x hx => by
  simp only [List.mem_cons, List.not_mem_nil, or_false] at hx
  rcases hx with rfl | rfl
  · exact uint_tab
  · exact place_tab
def svint (n : Int) : List Int := vint (zz n)
theorem iN : (fun n => retV [0] (callU 3 21 [.v (.one .nils), si .i64 n] [] [])) = fun n => some (bsl 0 (svint n).length (svint n).length, [⟨true, .ints .u8 (svint n)⟩], [u64 (zz n), i64 n]) := by kernel_rfl
theorem iS : (fun (n : Int) (l : List Int) (a c : Nat) => retV [0, 1] (callU 3 21 [bsl 0 a c, si .i64 n] [⟨true, .ints .u8 l⟩] [])) = fun n l a _ => some (bsl 1 (l ++ svint n).length (l ++ svint n).length, [⟨true, .dead⟩, ⟨true, .ints .u8 (l ++ svint n)⟩],
  [u64 (zz n), a = l.length, l.length + 10 ≤ 140737488355328, i64 n]) := by kernel_rfl
theorem int_tab : TabOk Try.prog 21 (loc ownB1 (putL .i64 svint i64)) := putL_ok
  (fun n h => works_of (v := bsl 0 (svint n).length (svint n).length) (bs' := [⟨true, .ints .u8 (svint n)⟩]) (r := [0]) tabU_ok (congrFun iN n) ⟨zz_u64 h, h, trivial⟩ (by decide)
    ⟨rfl, rfl, rfl, rfl, Nat.le_refl _, Nat.le_refl _⟩ ⟨⟨fun h => h, rfl, rfl⟩, trivial⟩)
  (fun n l c h hl => works_of (v := bsl 1 (l ++ svint n).length (l ++ svint n).length) (bs' := [⟨true, .dead⟩, ⟨true, .ints .u8 (l ++ svint n)⟩]) (r := [1]) tabU_ok (congrFun (congrFun (congrFun (congrFun iS n) l) l.length) c) ⟨zz_u64 h, rfl, hl, h, trivial⟩ (show (List.range 1 ++ [1]).Nodup by decide)
    ⟨rfl, rfl, rfl, rfl, Nat.le_refl _, Nat.le_refl _⟩ ⟨⟨fun h => h, trivial⟩, ⟨fun h => h, rfl, rfl⟩, trivial⟩)
end Go.Proofs.Ytgkhbhddmafakaa
