/- The sum's code: the way to its loop, a round, the end. The sum of bytes: what it comes to, as a function of numbers; the contract. Ladder, Compare, Mirror: their runs. BytesResidue's runs. BytesResidue is true of any bytes, and leaves its argument as it was. The sum finds one bit that is turned, and two: in plain numbers. Seal's, Equal's, Clone's, Unseal's code: their runs. Seal, Equal, Clone: the contracts. Unseal's code: its runs. Unseal: the contract. The sum, bit by bit and from the other end: plain. The reference's sum: its runs. The reference's sum: the contract. The reference's Seal and Unseal: their runs. The reference's Seal and Unseal: the contracts. -/
import Derived.Test.YtjjjpflnhagfcaaTa
import Derived.Test.YtjjjpflnhagfcaaSxAG
import Derived.Laws.BitsAllLaws
import Derived.Test.YtjjjpflnhagfcaaSxAI
namespace Go.Proofs.Ytjjjpflnhagfcaa
section
open Go.Sx
noncomputable def bodyF (f : Go.FuncId) : Go.Code := match Try.prog.funcs[f]? with | some fn => (match fn.body with | some c => c | none => .skip) | none => .skip
def ri (l : List Int) : SB := ⟨false, .ints .u8 l⟩
def tabT : List Int := [0, 498536548, 997073096, 651767980, 1994146192, 1802195444, 1303535960, 1342533948, 3988292384, 4027552580, 3604390888, 3412177804, 2607071920, 2262029012, 2685067896, 3183342108]
noncomputable def LCr := loopN Try.prog 14 0
noncomputable def ECr : List Item := .code (.loop LCr.1) :: LCr.2
noncomputable def KCr : List Item := .inLoop LCr.1 :: LCr.2
noncomputable def FCr : Go.Func := match Try.prog.funcs[14]? with | some fn => fn | none => default
def TCr (l : List Int) (n : Nat) (p : Nat) (c : Int) (i : Nat) (h : List Bool) : St := ⟨[(3, .v (.one (.ptr 1 (.c 0) 1 0))), (4, si .u32 c), (8, .v (.one (.slice 0 (.c 0) 1 (.s n) (.s p)))), (9, si .i64 n), (10, si .i64 i)], [ri l, ⟨true, .ints .u32 tabT⟩], h, []⟩
noncomputable def rndCr (lim : Nat) (h : List Bool) (l : List Int) (n p : Nat) (c : Int) (i : Nat) := run Try.prog (call0 4) (fun _ => false) FCr lim 100000 [] (.code LCr.1 :: .inLoop LCr.1 :: LCr.2) (TCr l n p c i h)
theorem crE : (fun (l : List Int) (n p : Nat) => stopV [3, 4, 8, 9, 10] [0, 1] (run Try.prog (call0 4) (fun _ => false) FCr 0 100000 [false] [.code (bodyF 14)] ⟨argSlots 0 [bsl 0 n p], [ri l], [], []⟩)) = fun (l : List Int) (n : Nat) (p : Nat) => some ((ECr, ([(((3 : Nat)), (V.v (V1.one (C.ptr ((1 : Nat)) (N.c ((0 : Nat))) ((1 : Nat)) ((0 : Nat)))))), (((4 : Nat)), (V.v (V1.one (C.int (IntKind.u32) ((4294967295 : Int)))))), (((8 : Nat)), (V.v (V1.one (C.slice ((0 : Nat)) (N.c ((0 : Nat))) ((1 : Nat)) (N.s (n)) (N.s (p)))))), (((9 : Nat)), (V.v (V1.one (C.sint (IntKind.i64) ((↑n : Int)))))), (((10 : Nat)), (V.v (V1.one (C.int (IntKind.i64) ((0 : Int))))))], ([(SB.mk (false) (Cells.ints (IntKind.u8) (l))), (SB.mk (true) (Cells.exp [(C.int (IntKind.u32) ((0 : Int))), (C.int (IntKind.u32) ((498536548 : Int))), (C.int (IntKind.u32) ((997073096 : Int))), (C.int (IntKind.u32) ((651767980 : Int))), (C.int (IntKind.u32) ((1994146192 : Int))), (C.int (IntKind.u32) ((1802195444 : Int))), (C.int (IntKind.u32) ((1303535960 : Int))), (C.int (IntKind.u32) ((1342533948 : Int))), (C.int (IntKind.u32) ((3988292384 : Int))), (C.int (IntKind.u32) ((4027552580 : Int))), (C.int (IntKind.u32) ((3604390888 : Int))), (C.int (IntKind.u32) ((3412177804 : Int))), (C.int (IntKind.u32) ((2607071920 : Int))), (C.int (IntKind.u32) ((2262029012 : Int))), (C.int (IntKind.u32) ((2685067896 : Int))), (C.int (IntKind.u32) ((3183342108 : Int)))]))], [])))) := by kernel_rfl
theorem crR : (fun (l : List Int) (n p : Nat) (c : Int) (i : Nat) => stopV [3, 4, 8, 9, 10] [0, 1] (rndCr (LCr.2.length + 1) [true] l n p c i)) = fun (l : List Int) (n : Nat) (p : Nat) (c : Int) (i : Nat) => some ((KCr, ([(((3 : Nat)), (V.v (V1.one (C.ptr ((1 : Nat)) (N.c ((0 : Nat))) ((1 : Nat)) ((0 : Nat)))))), (((4 : Nat)), (V.v (V1.one (C.sint (IntKind.u32) (Go.bits Go.BinOp.xor IntKind.u32 (Int.tdiv (Go.bits Go.BinOp.xor IntKind.u32 (Int.tdiv (Go.bits Go.BinOp.xor IntKind.u32 c (List.getD l (i) (0 : Int))) (16 : Int)) (List.getD tabT (Int.toNat (Int.tmod (Go.bits Go.BinOp.xor IntKind.u32 c (List.getD l (i) (0 : Int))) (16 : Int))) (0 : Int))) (16 : Int)) (List.getD tabT (Int.toNat (Int.tmod (Go.bits Go.BinOp.xor IntKind.u32 (Int.tdiv (Go.bits Go.BinOp.xor IntKind.u32 c (List.getD l (i) (0 : Int))) (16 : Int)) (List.getD tabT (Int.toNat (Int.tmod (Go.bits Go.BinOp.xor IntKind.u32 c (List.getD l (i) (0 : Int))) (16 : Int))) (0 : Int))) (16 : Int))) (0 : Int))))))), (((8 : Nat)), (V.v (V1.one (C.slice ((0 : Nat)) (N.c ((0 : Nat))) ((1 : Nat)) (N.s (n)) (N.s (p)))))), (((9 : Nat)), (V.v (V1.one (C.sint (IntKind.i64) ((↑n : Int)))))), (((10 : Nat)), (V.v (V1.one (C.sint (IntKind.i64) ((↑i : Int) + (1 : Int))))))], ([(SB.mk (false) (Cells.ints (IntKind.u8) (l))), (SB.mk (true) (Cells.ints (IntKind.u32) (tabT)))], [(-9223372036854775808 : Int) ≤ (↑i : Int) + (1 : Int) ∧ (↑i : Int) + (1 : Int) ≤ (9223372036854775807 : Int), Int.toNat (Int.tmod (Go.bits Go.BinOp.xor IntKind.u32 (Int.tdiv (Go.bits Go.BinOp.xor IntKind.u32 c (List.getD l (i) (0 : Int))) (16 : Int)) (List.getD tabT (Int.toNat (Int.tmod (Go.bits Go.BinOp.xor IntKind.u32 c (List.getD l (i) (0 : Int))) (16 : Int))) (0 : Int))) (16 : Int)) < (16 : Nat), (0 : Int) ≤ Int.tmod (Go.bits Go.BinOp.xor IntKind.u32 (Int.tdiv (Go.bits Go.BinOp.xor IntKind.u32 c (List.getD l (i) (0 : Int))) (16 : Int)) (List.getD tabT (Int.toNat (Int.tmod (Go.bits Go.BinOp.xor IntKind.u32 c (List.getD l (i) (0 : Int))) (16 : Int))) (0 : Int))) (16 : Int), Int.tmod (Go.bits Go.BinOp.xor IntKind.u32 (Int.tdiv (Go.bits Go.BinOp.xor IntKind.u32 c (List.getD l (i) (0 : Int))) (16 : Int)) (List.getD tabT (Int.toNat (Int.tmod (Go.bits Go.BinOp.xor IntKind.u32 c (List.getD l (i) (0 : Int))) (16 : Int))) (0 : Int))) (16 : Int) < (16 : Int), (0 : Int) ≤ Int.tdiv (Go.bits Go.BinOp.xor IntKind.u32 (Int.tdiv (Go.bits Go.BinOp.xor IntKind.u32 c (List.getD l (i) (0 : Int))) (16 : Int)) (List.getD tabT (Int.toNat (Int.tmod (Go.bits Go.BinOp.xor IntKind.u32 c (List.getD l (i) (0 : Int))) (16 : Int))) (0 : Int))) (16 : Int) ∧ Int.tdiv (Go.bits Go.BinOp.xor IntKind.u32 (Int.tdiv (Go.bits Go.BinOp.xor IntKind.u32 c (List.getD l (i) (0 : Int))) (16 : Int)) (List.getD tabT (Int.toNat (Int.tmod (Go.bits Go.BinOp.xor IntKind.u32 c (List.getD l (i) (0 : Int))) (16 : Int))) (0 : Int))) (16 : Int) ≤ (4294967295 : Int), Int.toNat (Int.tmod (Go.bits Go.BinOp.xor IntKind.u32 c (List.getD l (i) (0 : Int))) (16 : Int)) < (16 : Nat), (0 : Int) ≤ Int.tmod (Go.bits Go.BinOp.xor IntKind.u32 c (List.getD l (i) (0 : Int))) (16 : Int), Int.tmod (Go.bits Go.BinOp.xor IntKind.u32 c (List.getD l (i) (0 : Int))) (16 : Int) < (16 : Int), (0 : Int) ≤ Int.tdiv (Go.bits Go.BinOp.xor IntKind.u32 c (List.getD l (i) (0 : Int))) (16 : Int) ∧ Int.tdiv (Go.bits Go.BinOp.xor IntKind.u32 c (List.getD l (i) (0 : Int))) (16 : Int) ≤ (4294967295 : Int), (0 : Int) ≤ List.getD l (i) (0 : Int) ∧ List.getD l (i) (0 : Int) ≤ (4294967295 : Int), i < List.length l, (0 : Int) ≤ (↑i : Int), (↑i : Int) < (↑n : Int), decide ((↑i : Int) < (↑n : Int)) = true])))) := by kernel_rfl
theorem crX : (fun (l : List Int) (n p : Nat) (c : Int) (i : Nat) => endV [0] (rndCr 0 [false] l n p c i)) = fun (l : List Int) (n : Nat) (p : Nat) (c : Int) (i : Nat) => some (((V.v (V1.one (C.sint (IntKind.u32) (Go.bits Go.BinOp.xor IntKind.u32 (4294967295 : Int) c)))), ([(SB.mk (false) (Cells.ints (IntKind.u8) (l)))], [decide ((↑i : Int) < (↑n : Int)) = false]))) := by kernel_rfl
end
section
open Go.ChangeShapes Go.WideShapes Go.ChangeAt Go.RowKit Go.Sx
def tabN : List Nat := [0, 498536548, 997073096, 651767980, 1994146192, 1802195444, 1303535960, 1342533948, 3988292384, 4027552580, 3604390888, 3412177804, 2607071920, 2262029012, 2685067896, 3183342108]
/-- half a byte's step -/
def nib (z : Nat) : Nat := z / 16 ^^^ tabN.getD (z % 16) 0
def byteStep (c x : Nat) : Nat := nib (nib (c ^^^ x))
def crcN (c : Nat) : List Int → Nat
  | [] => c
  | x :: r => crcN (byteStep c x.toNat) r
def crcS (l : List Int) : Int := ((4294967295 ^^^ crcN 4294967295 l : Nat) : Int)
def wf8 (l : List Int) : Prop := ∀ x ∈ l, 0 ≤ x ∧ x < 256
theorem tab_lt : ∀ k : Nat, k < 16 → tabN.getD k 0 < 4294967296 ∧ tabT.getD k 0 = ((tabN.getD k 0 : Nat) : Int) := by decide
theorem nib_lt {z : Nat} (h : z < 4294967296) : nib z < 4294967296 := by
  unfold nib
  exact Nat.xor_lt_two_pow (n := 32) (by omega) (tab_lt _ (Nat.mod_lt _ (by omega))).1
theorem nibI {z : Nat} (h : z < 4294967296) : bits .xor .u32 (Int.tdiv (z : Int) 16) (List.getD tabT (Int.toNat (Int.tmod (z : Int) 16)) 0) = ((nib z : Nat) : Int) := by
  have e1 : Int.tdiv (z : Int) 16 = ((z / 16 : Nat) : Int) := by rw [Int.tdiv_eq_ediv_of_nonneg (by omega)]; omega
  have e2 : Int.toNat (Int.tmod (z : Int) 16) = z % 16 := by rw [Int.tmod_eq_emod_of_nonneg (by omega)]; omega
  have t := tab_lt (z % 16) (Nat.mod_lt _ (by omega))
  rw [e1, e2, t.2, u32_xor_nat _ _ (by omega) t.1]
  rfl
theorem xor_lt32 {a b : Nat} (h : a < 4294967296) (h' : b < 4294967296) : a ^^^ b < 4294967296 := Nat.xor_lt_two_pow (n := 32) h h'
theorem byteStep_lt {c x : Nat} (hc : c < 4294967296) (hx : x < 4294967296) : byteStep c x < 4294967296 := nib_lt (nib_lt (xor_lt32 hc hx))
theorem crcN_lt : ∀ {l : List Int} {c : Nat}, c < 4294967296 → wf8 l → crcN c l < 4294967296
  | [], _, h, _ => h
  | x :: r, c, h, hw => by
    show crcN (byteStep c x.toNat) r < _
    exact crcN_lt (byteStep_lt h (by have := hw x (by simp); omega)) (fun y hy => hw y (by simp [hy]))
theorem crcN_app : ∀ (a b : List Int) (c : Nat), crcN c (a ++ b) = crcN (crcN c a) b
  | [], _, _ => rfl
  | _ :: r, b, _ => crcN_app r b _
theorem take_get {l : List Int} {i : Nat} (h : i < l.length) : l.take (i + 1) = l.take i ++ [l.getD i 0] := by
  rw [List.take_add_one, List.getD_eq_getElem?_getD, List.getElem?_eq_getElem h]; rfl
theorem wf8_take {l : List Int} (h : wf8 l) (i : Nat) : wf8 (l.take i) := fun x hx => h x (List.mem_of_mem_take hx)
theorem wf8_get {l : List Int} (h : wf8 l) (i : Nat) : 0 ≤ l.getD i 0 ∧ l.getD i 0 < 256 := by
  rw [List.getD_eq_getElem?_getD]
  cases hi : l[i]? with
  | none => simp
  | some x => exact h x (List.mem_of_getElem? hi)
theorem cap_works {f : FuncId} {b n c : Nat} {args : List V} {bs bs' : List SB} {v : V} (h : n ≤ c → Works Try.prog f (bsl b n c :: args) bs v bs') : Works Try.prog f (bsl b n c :: args) bs v bs' := by
  intro ρ K w us hm hu
  have hc : n ≤ c := by
    obtain ⟨u, s, _, ⟨⟨e, _, hu⟩, _⟩, _⟩ := hu
    rcases hu with ⟨h0, _⟩ | ⟨_, _, _, _, h1, _⟩
    · simp only [N.v] at h0; omega
    · exact h1
  exact h hc ρ K w us hm hu
theorem call0_ok (d : Nat) : CallOk Try.prog (call0 d) := callN_sound no_tabs d
theorem funCr : Try.prog.funcs[14]? = some FCr := by kernel_rfl
theorem bodCr : FCr.body = some (bodyF 14) := by kernel_rfl
theorem tmpCr : 1 ≤ FCr.ntmps := Nat.le_of_ble_eq_true (by kernel_rfl)
theorem nd1C : (List.range 1 ++ [1]).Nodup := by decide
theorem nd0C : (List.range 1 ++ ([] : List Nat)).Nodup := by decide
theorem crc_rnd (l : List Int) (n p c i x : Nat) (hb : c < 4294967296) (e : l.getD i 0 = (x : Int)) (hx : x < 256) (hi : i < n) (hn : n ≤ l.length) (hm : n ≤ 1000000) : ∃ ob, allP ob ∧
    stopV [3, 4, 8, 9, 10] [0, 1] (rndCr (LCr.2.length + 1) [true] l n p (c : Int) i) = some (KCr, [(3, .v (.one (.ptr 1 (.c 0) 1 0))), (4, si .u32 ((byteStep c x : Nat) : Int)), (8, .v (.one (.slice 0 (.c 0) 1 (.s n) (.s p)))), (9, si .i64 n), (10, si .i64 ((i : Int) + 1))], [ri l, ⟨true, .ints .u32 tabT⟩], ob) := by
  have q := congrFun (congrFun (congrFun (congrFun (congrFun crR l) n) p) (c : Int)) i
  have h1 : c ^^^ x < 4294967296 := xor_lt32 hb (by omega)
  have h2 := nib_lt h1
  have e0 := u32_xor_nat c x hb (by omega)
  simp only [e, e0, nibI h1, nibI h2] at q
  refine ⟨_, ?_, q⟩
  have t : ∀ z : Nat, z < 4294967296 → Int.toNat (Int.tmod (z : Int) 16) < 16 ∧ 0 ≤ Int.tmod (z : Int) 16 ∧ Int.tmod (z : Int) 16 < 16 ∧ 0 ≤ Int.tdiv (z : Int) 16 ∧ Int.tdiv (z : Int) 16 ≤ 4294967295 := by
    intro z hz
    rw [Int.tdiv_eq_ediv_of_nonneg (by omega), Int.tmod_eq_emod_of_nonneg (by omega)]
    omega
  obtain ⟨a1, a2, a3, a4, a5⟩ := t _ h1
  obtain ⟨b1, b2, b3, b4, b5⟩ := t _ h2
  refine ⟨?_, b1, b2, b3, ⟨b4, b5⟩, a1, a2, a3, ⟨a4, a5⟩, ?_, ?_, ?_, ?_, ?_, trivial⟩
  · omega
  · omega
  · omega
  · omega
  · omega
  · exact decide_eq_true (by omega)
theorem crc_works (l : List Int) (n p : Nat) (hn : n ≤ l.length) (hm : n ≤ 1000000) (hw : wf8 l) : Works Try.prog 14 [bsl 0 n p] [ri l] (si .u32 (crcS (l.take n))) [ri l] := cap_works fun hc => by
  refine works_loop (I := Nat) (Inv := fun i h => TCr l n p ((crcN 4294967295 (l.take i) : Nat) : Int) i h) (good := fun i => i ≤ n) (μ := fun i => n - i) (i := 0) (r := [1]) (call0_ok 4) funCr bodCr (by exact tmpCr) (fun _ _ => ⟨rfl, rfl⟩)
    (congrFun (congrFun (congrFun crE l) n) p) trivial ⟨nd1C, ?_, ?_⟩ (Nat.zero_le _) ?_
  · simp [TCr, leSlots, leV, leV1, leC, si, List.range, List.range.loop, N.v, crcN, hc]
  · refine ⟨⟨fun h => h, rfl, rfl⟩, ⟨fun h => h, ?_⟩, trivial⟩
    simp [leCells, leL, leC, tabT]
  · intro i hi
    by_cases hlt : i < n
    · have hb := crcN_lt (c := 4294967295) (by omega) (wf8_take hw i)
      have hg := wf8_get hw i
      have hs : crcN 4294967295 (l.take (i + 1)) = byteStep (crcN 4294967295 (l.take i)) (l.getD i 0).toNat := by rw [take_get (by omega), crcN_app]; rfl
      obtain ⟨ob, hob, q⟩ := crc_rnd l n p (crcN 4294967295 (l.take i)) i (l.getD i 0).toNat hb (by omega) (by omega) hlt hn hm
      refine .round [true] [] _ _ [3, 4, 8, 9, 10] [1] _ _ _ (i + 1) q hob ⟨nd1C, ?_, ?_⟩ hlt (by omega)
      · rw [hs]
        simp [TCr, leSlots, leV, leV1, leC, si, List.range, List.range.loop, N.v, hc]
      · simp [TCr, leBs, leB, leCells, ri]
    · have hin : i = n := by omega
      subst hin
      have q := congrFun (congrFun (congrFun (congrFun (congrFun crX l) i) p) ((crcN 4294967295 (l.take i) : Nat) : Int)) i
      have hb := crcN_lt (c := 4294967295) (by omega) (wf8_take hw i)
      have e0 := u32_xor_nat 4294967295 (crcN 4294967295 (l.take i)) (by omega) hb
      refine .stop [false] [] _ _ [] _ _ _ q ?_ nd0C ?_ ?_
      · simp [allP]
      · simp only [leV, leV1, leC, si, true_and]
        exact e0
      · simp [leBs, leB, leCells, ri]
/-- the sum of bytes that lie at a block's front -/
def gCrc : Sx.Loc := fun args bs => match args, bs with
  | [.v (.one (.slice 0 (.c 0) 1 (.s n) (.s _)))], [⟨false, .ints k l⟩] => match decide (k = .u8) with
    | true => some (si .u32 (crcS (l.take n)), [ri l], [n ≤ l.length, n ≤ 1000000, wf8 l])
    | false => none
  | [.v (.one .nils)], [] => some (si .u32 0, [], [False])
  | _, _ => none
def frozen8 : List V → List Want
  | .v (.one (.slice _ _ _ _ _)) :: _ => [(false, .ints .u8)]
  | _ => []
theorem crc_tab : TabOk Try.prog 14 (loc frozen8 gCrc) := loc_ok fun xs bs v bs' ob hg hob hokb => by
  unfold gCrc at hg
  split at hg
  · rename_i n c k l
    split at hg
    · rename_i hk
      injection hg with hg; injection hg with e1 e2; injection e2 with e2 e3
      subst e1; subst e2; subst e3
      have hk' : k = .u8 := of_decide_eq_true hk
      subst hk'
      exact crc_works l n c (hob _ (by simp)) (hob (n ≤ 1000000) (by simp)) (hob (wf8 l) (by simp))
    · cases hg
  · injection hg with hg; injection hg with e1 e2; injection e2 with e2 e3
    subst e3
    exact (hob False (by simp)).elim
  · cases hg
/-! ### the residue -/
theorem nib_shift (h m : Nat) : nib ((h * 16) ^^^ m) = h ^^^ nib m := by
  unfold nib
  have e1 : ((h * 16) ^^^ m) % 16 = m % 16 := by
    rw [show (16 : Nat) = 2 ^ 4 from rfl, Nat.xor_mod_two_pow, Nat.mul_mod_left, Nat.zero_xor]
  have e2 : ((h * 16) ^^^ m) / 16 = h ^^^ (m / 16) := by
    rw [show (16 : Nat) = 2 ^ 4 from rfl, ← Nat.shiftRight_eq_div_pow, Nat.shiftRight_xor_distrib, Nat.shiftRight_eq_div_pow, Nat.shiftRight_eq_div_pow, Nat.mul_div_cancel _ (by decide)]
  rw [e1, e2, Nat.xor_assoc]
theorem step_shift (h m : Nat) : nib (nib ((h * 256) ^^^ m)) = h ^^^ nib (nib m) := by
  rw [show h * 256 = (h * 16) * 16 by omega, nib_shift, nib_shift]
end
section
open Go.Sx
def effU : FuncId → Bool := fun f => Nat.beq f 11 || Nat.beq f 13 || Nat.beq f 25
theorem awake_run : isT (callN Try.prog (fun _ => none) effU 100000 9 12 [] [] []) = true := by kernel_rfl
def tabL := tabs [(12, yes), (11, loc ownB1 (putL .u64 vint u64)), (13, loc ownB1 (putL .i64 svint i64))]
noncomputable def callL (d : Nat) := callN Try.prog tabL (fun _ => false) 100000 d
theorem ladder0 : (fun n d : Int => obsOf (callL 4 3 [si .u64 n, si .u8 d] [] [true, true, true])) = fun (n : Int) (d : Int) => some ([(List.map (fun (n : Int) ↦ UInt8.ofNat (Int.toNat n)) (vint (IntKind.wrap IntKind.u64 (IntKind.wrap IntKind.u64 (Int.tmod n (144115188075855872 : Int) * (128 : Int)) + Int.tmod d (128 : Int)))) == List.map (fun (n : Int) ↦ UInt8.ofNat (Int.toNat n)) [Int.tmod d (128 : Int)]) = true, (0 : Nat) = (0 : Nat), List.length (vint (IntKind.wrap IntKind.u64 (IntKind.wrap IntKind.u64 (Int.tmod n (144115188075855872 : Int) * (128 : Int)) + Int.tmod d (128 : Int)))) = List.length (vint (IntKind.wrap IntKind.u64 (IntKind.wrap IntKind.u64 (Int.tmod n (144115188075855872 : Int) * (128 : Int)) + Int.tmod d (128 : Int)))), decide (Int.tmod n (144115188075855872 : Int) = (0 : Int)) = true, u64 (IntKind.wrap IntKind.u64 (IntKind.wrap IntKind.u64 (Int.tmod n (144115188075855872 : Int) * (128 : Int)) + Int.tmod d (128 : Int))), (0 : Int) ≤ Int.tmod d (128 : Int) ∧ Int.tmod d (128 : Int) ≤ (18446744073709551615 : Int), u64 (Int.tmod n (144115188075855872 : Int))]) := by kernel_rfl
theorem ladder1 : (fun n d : Int => obsOf (callL 4 3 [si .u64 n, si .u8 d] [] [false, true, true, false, true, true])) = fun (n : Int) (d : Int) => some ([(List.map (fun (n : Int) ↦ UInt8.ofNat (Int.toNat n)) (List.take (Nat.sub (List.length (vint (IntKind.wrap IntKind.u64 (IntKind.wrap IntKind.u64 (Int.tmod n (144115188075855872 : Int) * (128 : Int)) + Int.tmod d (128 : Int))))) (1 : Nat)) (List.drop (1 : Nat) (vint (IntKind.wrap IntKind.u64 (IntKind.wrap IntKind.u64 (Int.tmod n (144115188075855872 : Int) * (128 : Int)) + Int.tmod d (128 : Int)))))) == List.map (fun (n : Int) ↦ UInt8.ofNat (Int.toNat n)) (vint (Int.tmod n (144115188075855872 : Int)))) = true, (0 : Nat) = (0 : Nat), List.length (vint (Int.tmod n (144115188075855872 : Int))) = List.length (vint (Int.tmod n (144115188075855872 : Int))), (1 : Nat) + Nat.sub (List.length (vint (IntKind.wrap IntKind.u64 (IntKind.wrap IntKind.u64 (Int.tmod n (144115188075855872 : Int) * (128 : Int)) + Int.tmod d (128 : Int))))) (1 : Nat) ≤ List.length (vint (IntKind.wrap IntKind.u64 (IntKind.wrap IntKind.u64 (Int.tmod n (144115188075855872 : Int) * (128 : Int)) + Int.tmod d (128 : Int)))), (1 : Int) ≤ (↑(List.length (vint (IntKind.wrap IntKind.u64 (IntKind.wrap IntKind.u64 (Int.tmod n (144115188075855872 : Int) * (128 : Int)) + Int.tmod d (128 : Int))))) : Int), decide (List.getD (vint (IntKind.wrap IntKind.u64 (IntKind.wrap IntKind.u64 (Int.tmod n (144115188075855872 : Int) * (128 : Int)) + Int.tmod d (128 : Int)))) (0 : Nat) (0 : Int) = IntKind.wrap IntKind.u8 (Int.tmod d (128 : Int) + (128 : Int))) = true, (0 : Nat) < List.length (vint (IntKind.wrap IntKind.u64 (IntKind.wrap IntKind.u64 (Int.tmod n (144115188075855872 : Int) * (128 : Int)) + Int.tmod d (128 : Int)))), (0 : Int) < (↑(List.length (vint (IntKind.wrap IntKind.u64 (IntKind.wrap IntKind.u64 (Int.tmod n (144115188075855872 : Int) * (128 : Int)) + Int.tmod d (128 : Int))))) : Int), decide ((↑(List.length (vint (IntKind.wrap IntKind.u64 (IntKind.wrap IntKind.u64 (Int.tmod n (144115188075855872 : Int) * (128 : Int)) + Int.tmod d (128 : Int))))) : Int) = (↑(List.length (vint (Int.tmod n (144115188075855872 : Int)))) : Int) + (1 : Int)) = true, (-9223372036854775808 : Int) ≤ (↑(List.length (vint (Int.tmod n (144115188075855872 : Int)))) : Int) + (1 : Int) ∧ (↑(List.length (vint (Int.tmod n (144115188075855872 : Int)))) : Int) + (1 : Int) ≤ (9223372036854775807 : Int), decide (Int.tmod n (144115188075855872 : Int) = (0 : Int)) = false, u64 (IntKind.wrap IntKind.u64 (IntKind.wrap IntKind.u64 (Int.tmod n (144115188075855872 : Int) * (128 : Int)) + Int.tmod d (128 : Int))), (0 : Int) ≤ Int.tmod d (128 : Int) ∧ Int.tmod d (128 : Int) ≤ (18446744073709551615 : Int), u64 (Int.tmod n (144115188075855872 : Int))]) := by kernel_rfl
theorem mirror0 : (fun n : Int => obsOf (callL 4 5 [si .i64 n] [] [false, false, false, false, false, false, false, true, true, true])) = fun (n : Int) => some ([(List.map (fun (n : Int) ↦ UInt8.ofNat (Int.toNat n)) (svint n) == List.map (fun (n : Int) ↦ UInt8.ofNat (Int.toNat n)) (vint (IntKind.wrap IntKind.u64 ((2 : Int) * IntKind.wrap IntKind.u64 n)))) = true, (0 : Nat) = (0 : Nat), List.length (vint (IntKind.wrap IntKind.u64 ((2 : Int) * IntKind.wrap IntKind.u64 n))) = List.length (vint (IntKind.wrap IntKind.u64 ((2 : Int) * IntKind.wrap IntKind.u64 n))), u64 (IntKind.wrap IntKind.u64 ((2 : Int) * IntKind.wrap IntKind.u64 n)), (0 : Nat) = (0 : Nat), List.length (svint n) = List.length (svint n), (!List.map (fun (n : Int) ↦ UInt8.ofNat (Int.toNat n)) (List.take (Nat.sub (List.length (svint n)) (1 : Nat)) (List.drop (1 : Nat) (svint n))) == List.map (fun (n : Int) ↦ UInt8.ofNat (Int.toNat n)) (List.take (Nat.sub (List.length (svint ((-1 : Int) - n))) (1 : Nat)) (List.drop (1 : Nat) (svint ((-1 : Int) - n))))) = false, (1 : Nat) + Nat.sub (List.length (svint ((-1 : Int) - n))) (1 : Nat) ≤ List.length (svint ((-1 : Int) - n)), (1 : Int) ≤ (↑(List.length (svint ((-1 : Int) - n))) : Int), (1 : Nat) + Nat.sub (List.length (svint n)) (1 : Nat) ≤ List.length (svint n), (1 : Int) ≤ (↑(List.length (svint n)) : Int), (!decide (Go.bits Go.BinOp.xor IntKind.u8 (List.getD (svint n) (0 : Nat) (0 : Int)) (List.getD (svint ((-1 : Int) - n)) (0 : Nat) (0 : Int)) = (1 : Int))) = false, (0 : Nat) < List.length (svint ((-1 : Int) - n)), (0 : Int) < (↑(List.length (svint ((-1 : Int) - n))) : Int), (0 : Nat) < List.length (svint n), (0 : Int) < (↑(List.length (svint n)) : Int), (!decide ((↑(List.length (svint n)) : Int) = (↑(List.length (svint ((-1 : Int) - n))) : Int))) = false, decide ((↑(List.length (svint n)) : Int) = (0 : Int)) = false, i64 ((-1 : Int) - n), (-9223372036854775808 : Int) ≤ (-1 : Int) - n ∧ (-1 : Int) - n ≤ (9223372036854775807 : Int), i64 n, decide (n < (0 : Int)) = false]) := by kernel_rfl
theorem mirror1 : (fun n : Int => obsOf (callL 4 5 [si .i64 n] [] [true, false, false, false, false, false, false, true, true, true])) = fun (n : Int) => some ([(List.map (fun (n : Int) ↦ UInt8.ofNat (Int.toNat n)) (svint ((-1 : Int) - n)) == List.map (fun (n : Int) ↦ UInt8.ofNat (Int.toNat n)) (vint (IntKind.wrap IntKind.u64 ((2 : Int) * IntKind.wrap IntKind.u64 ((-1 : Int) - n))))) = true, (0 : Nat) = (0 : Nat), List.length (vint (IntKind.wrap IntKind.u64 ((2 : Int) * IntKind.wrap IntKind.u64 ((-1 : Int) - n)))) = List.length (vint (IntKind.wrap IntKind.u64 ((2 : Int) * IntKind.wrap IntKind.u64 ((-1 : Int) - n)))), u64 (IntKind.wrap IntKind.u64 ((2 : Int) * IntKind.wrap IntKind.u64 ((-1 : Int) - n))), (0 : Nat) = (0 : Nat), List.length (svint ((-1 : Int) - n)) = List.length (svint ((-1 : Int) - n)), (!List.map (fun (n : Int) ↦ UInt8.ofNat (Int.toNat n)) (List.take (Nat.sub (List.length (svint ((-1 : Int) - n))) (1 : Nat)) (List.drop (1 : Nat) (svint ((-1 : Int) - n)))) == List.map (fun (n : Int) ↦ UInt8.ofNat (Int.toNat n)) (List.take (Nat.sub (List.length (svint ((-1 : Int) - ((-1 : Int) - n)))) (1 : Nat)) (List.drop (1 : Nat) (svint ((-1 : Int) - ((-1 : Int) - n)))))) = false, (1 : Nat) + Nat.sub (List.length (svint ((-1 : Int) - ((-1 : Int) - n)))) (1 : Nat) ≤ List.length (svint ((-1 : Int) - ((-1 : Int) - n))), (1 : Int) ≤ (↑(List.length (svint ((-1 : Int) - ((-1 : Int) - n)))) : Int), (1 : Nat) + Nat.sub (List.length (svint ((-1 : Int) - n))) (1 : Nat) ≤ List.length (svint ((-1 : Int) - n)), (1 : Int) ≤ (↑(List.length (svint ((-1 : Int) - n))) : Int), (!decide (Go.bits Go.BinOp.xor IntKind.u8 (List.getD (svint ((-1 : Int) - n)) (0 : Nat) (0 : Int)) (List.getD (svint ((-1 : Int) - ((-1 : Int) - n))) (0 : Nat) (0 : Int)) = (1 : Int))) = false, (0 : Nat) < List.length (svint ((-1 : Int) - ((-1 : Int) - n))), (0 : Int) < (↑(List.length (svint ((-1 : Int) - ((-1 : Int) - n)))) : Int), (0 : Nat) < List.length (svint ((-1 : Int) - n)), (0 : Int) < (↑(List.length (svint ((-1 : Int) - n))) : Int), (!decide ((↑(List.length (svint ((-1 : Int) - n))) : Int) = (↑(List.length (svint ((-1 : Int) - ((-1 : Int) - n)))) : Int))) = false, decide ((↑(List.length (svint ((-1 : Int) - n))) : Int) = (0 : Int)) = false, i64 ((-1 : Int) - ((-1 : Int) - n)), (-9223372036854775808 : Int) ≤ (-1 : Int) - ((-1 : Int) - n) ∧ (-1 : Int) - ((-1 : Int) - n) ≤ (9223372036854775807 : Int), i64 ((-1 : Int) - n), (-9223372036854775808 : Int) ≤ (-1 : Int) - n ∧ (-1 : Int) - n ≤ (9223372036854775807 : Int), decide (n < (0 : Int)) = true]) := by kernel_rfl
noncomputable def bodyC : Code := match Try.f4.body with | some c => c | none => .skip
noncomputable def runC (ls h : List Bool) (n m : Int) := run Try.prog (callL 4) (fun _ => false) Try.f4 0 100000 ls [.code bodyC] ⟨argSlots 0 [si .u64 n, si .u64 m], [], h, []⟩
noncomputable def LC := loopN Try.prog 4 0
noncomputable def KC : List Item := .code (.loop LC.1) :: LC.2
noncomputable def RC : List Item := .inLoop LC.1 :: LC.2
def TC (n m : Int) (b c : List Int) (i : Int) (h : List Bool) : St := ⟨[(0, si .u64 n), (1, si .u64 m), (5, bsl 0 b.length b.length), (6, bsl 1 c.length c.length), (7, si .i64 i)], [⟨true, .ints .u8 b⟩, ⟨true, .ints .u8 c⟩], h, []⟩
noncomputable def roundC (h : List Bool) (n m : Int) (b c : List Int) (i : Int) := run Try.prog (callL 4) (fun _ => false) Try.f4 (LC.2.length + 1) 100000 [] (.code LC.1 :: .inLoop LC.1 :: LC.2) (TC n m b c i h)
theorem cmpNe : (fun n m : Int => obsO (runC [] [true, true, true] n m)) = fun (n : Int) (m : Int) => some ([(!decide (n = m)) = true, decide ((↑(List.length (vint (if m < n then m else n))) : Int) < (↑(List.length (vint (if n < m then m else n))) : Int)) = true, (!decide ((↑(List.length (vint (if m < n then m else n))) : Int) = (↑(List.length (vint (if n < m then m else n))) : Int))) = true, u64 (if n < m then m else n), u64 (if m < n then m else n)]) := by kernel_rfl
theorem cmpEq : (fun n m : Int => stopV [0, 1, 5, 6, 7] [0, 1] (runC [false] [false] n m)) = fun (n : Int) (m : Int) => some ((KC, ([(((0 : Nat)), (V.v (V1.one (C.sint (IntKind.u64) (n))))), (((1 : Nat)), (V.v (V1.one (C.sint (IntKind.u64) (m))))), (((5 : Nat)), (V.v (V1.one (C.slice ((0 : Nat)) (N.c ((0 : Nat))) ((1 : Nat)) (N.s (List.length (vint (if m < n then m else n)))) (N.s (List.length (vint (if m < n then m else n)))))))), (((6 : Nat)), (V.v (V1.one (C.slice ((1 : Nat)) (N.c ((0 : Nat))) ((1 : Nat)) (N.s (List.length (vint (if n < m then m else n)))) (N.s (List.length (vint (if n < m then m else n)))))))), (((7 : Nat)), (V.v (V1.one (C.sint (IntKind.i64) ((↑(List.length (vint (if m < n then m else n))) : Int) - (1 : Int))))))], ([(SB.mk (true) (Cells.ints (IntKind.u8) (vint (if m < n then m else n)))), (SB.mk (true) (Cells.ints (IntKind.u8) (vint (if n < m then m else n))))], [(-9223372036854775808 : Int) ≤ (↑(List.length (vint (if m < n then m else n))) : Int) - (1 : Int) ∧ (↑(List.length (vint (if m < n then m else n))) : Int) - (1 : Int) ≤ (9223372036854775807 : Int), (!decide ((↑(List.length (vint (if m < n then m else n))) : Int) = (↑(List.length (vint (if n < m then m else n))) : Int))) = false, u64 (if n < m then m else n), u64 (if m < n then m else n)])))) := by kernel_rfl
theorem cmpGo : (fun (n m : Int) (b c : List Int) (i : Int) => stopV [0, 1, 5, 6, 7] [0, 1] (roundC [true, false] n m b c i)) = fun (n : Int) (m : Int) (b : List Int) (c : List Int) (i : Int) => some ((RC, ([(((0 : Nat)), (V.v (V1.one (C.sint (IntKind.u64) (n))))), (((1 : Nat)), (V.v (V1.one (C.sint (IntKind.u64) (m))))), (((5 : Nat)), (V.v (V1.one (C.slice ((0 : Nat)) (N.c ((0 : Nat))) ((1 : Nat)) (N.s (List.length b)) (N.s (List.length b)))))), (((6 : Nat)), (V.v (V1.one (C.slice ((1 : Nat)) (N.c ((0 : Nat))) ((1 : Nat)) (N.s (List.length c)) (N.s (List.length c)))))), (((7 : Nat)), (V.v (V1.one (C.sint (IntKind.i64) (i - (1 : Int))))))], ([(SB.mk (true) (Cells.ints (IntKind.u8) (b))), (SB.mk (true) (Cells.ints (IntKind.u8) (c)))], [(-9223372036854775808 : Int) ≤ i - (1 : Int) ∧ i - (1 : Int) ≤ (9223372036854775807 : Int), (!decide (List.getD b (Int.toNat i) (0 : Int) = List.getD c (Int.toNat i) (0 : Int))) = false, Int.toNat i < List.length c, (0 : Int) ≤ i, i < (↑(List.length c) : Int), Int.toNat i < List.length b, (0 : Int) ≤ i, i < (↑(List.length b) : Int), decide ((0 : Int) ≤ i) = true])))) := by kernel_rfl
theorem cmpEnd : (fun (n m : Int) (b c : List Int) (i : Int) => obsO (roundC [false, true] n m b c i)) = fun (n : Int) (m : Int) (b : List Int) (c : List Int) (i : Int) => some ([decide (n = m) = true, decide ((0 : Int) ≤ i) = false]) := by kernel_rfl
theorem cmpHit : (fun (n m : Int) (b c : List Int) (i : Int) => obsO (roundC [true, true, true, true] n m b c i)) = fun (n : Int) (m : Int) (b : List Int) (c : List Int) (i : Int) => some ([(!decide (n = m)) = true, decide (List.getD b (Int.toNat i) (0 : Int) < List.getD c (Int.toNat i) (0 : Int)) = true, Int.toNat i < List.length c, (0 : Int) ≤ i, i < (↑(List.length c) : Int), Int.toNat i < List.length b, (0 : Int) ≤ i, i < (↑(List.length b) : Int), (!decide (List.getD b (Int.toNat i) (0 : Int) = List.getD c (Int.toNat i) (0 : Int))) = true, Int.toNat i < List.length c, (0 : Int) ≤ i, i < (↑(List.length c) : Int), Int.toNat i < List.length b, (0 : Int) ≤ i, i < (↑(List.length b) : Int), decide ((0 : Int) ≤ i) = true]) := by kernel_rfl
end
section
open Go.Sx
def tabS := tabs [(12, yes), (14, loc frozen8 gCrc)]
noncomputable def lwS (f : FuncId) (args : List V) (m : List SB) (h : List Bool) := obsOf (callN Try.prog tabS (fun _ => false) 100000 6 f args m h)
theorem rs0 : (fun (l : List Int) => lwS 6 [bsl 0 l.length l.length] [ri l] [true]) = fun (l : List Int) => some ([decide ((600 : Int) < (↑(List.length l) : Int)) = true]) := by kernel_rfl
theorem rs1 : (fun (l : List Int) => lwS 6 [bsl 0 l.length l.length] [ri l] [false, true, true, true]) = fun (l : List Int) => some ([decide (crcS (List.take (Nat.add (List.length l) (4 : Nat)) ([] ++ l ++ [IntKind.wrap IntKind.u8 (crcS (List.take (List.length l) l)), IntKind.wrap IntKind.u8 (Int.fdiv (crcS (List.take (List.length l) l)) (256 : Int)), IntKind.wrap IntKind.u8 (Int.fdiv (crcS (List.take (List.length l) l)) (65536 : Int)), IntKind.wrap IntKind.u8 (Int.fdiv (crcS (List.take (List.length l) l)) (16777216 : Int))])) = (558161692 : Int)) = true, Nat.add (List.length l) (4 : Nat) ≤ List.length ([] ++ l ++ [IntKind.wrap IntKind.u8 (crcS (List.take (List.length l) l)), IntKind.wrap IntKind.u8 (Int.fdiv (crcS (List.take (List.length l) l)) (256 : Int)), IntKind.wrap IntKind.u8 (Int.fdiv (crcS (List.take (List.length l) l)) (65536 : Int)), IntKind.wrap IntKind.u8 (Int.fdiv (crcS (List.take (List.length l) l)) (16777216 : Int))]), Nat.add (List.length l) (4 : Nat) ≤ (1000000 : Nat), wf8 ([] ++ l ++ [IntKind.wrap IntKind.u8 (crcS (List.take (List.length l) l)), IntKind.wrap IntKind.u8 (Int.fdiv (crcS (List.take (List.length l) l)) (256 : Int)), IntKind.wrap IntKind.u8 (Int.fdiv (crcS (List.take (List.length l) l)) (65536 : Int)), IntKind.wrap IntKind.u8 (Int.fdiv (crcS (List.take (List.length l) l)) (16777216 : Int))]), (0 : Nat) = (0 : Nat), List.length l = List.length ([] ++ l), (List.length l + (4 : Nat)) * (1 : Nat) ≤ (140737488355328 : Nat), List.length l + (4 : Nat) ≤ (9223372036854775807 : Nat), (0 : Nat) = (0 : Nat), List.length l = List.length l, List.length l * (1 : Nat) ≤ (140737488355328 : Nat), List.length l ≤ (9223372036854775807 : Nat), List.length l ≤ List.length l, List.length l ≤ (1000000 : Nat), wf8 l, decide ((600 : Int) < (↑(List.length l) : Int)) = false]) := by kernel_rfl
end
section
open Go.ChangeShapes Go.WideShapes Go.ChangeAt Go.RowKit Go.Sx
theorem tabS_ok : ∀ f g, tabS f = some g → TabOk Try.prog f g := tabs_ok fun x hx => by
  simp only [List.mem_cons, List.not_mem_nil, or_false] at hx
  rcases hx with rfl | rfl
  · exact yes_ok no_tabs awake_run
  · exact crc_tab
theorem low_xor (h : Nat) : h ^^^ h % 256 = h / 256 * 256 := by
  apply Nat.eq_of_testBit_eq
  intro i
  rw [show (256 : Nat) = 2 ^ 8 from rfl, Nat.testBit_xor, Nat.testBit_mod_two_pow, Nat.testBit_mul_two_pow, Nat.testBit_div_two_pow]
  by_cases hi : i < 8
  · simp [hi]; intro h8; omega
  · simp [hi, show 8 ≤ i by omega, show i - 8 + 8 = i by omega]
theorem res_step (h k : Nat) : byteStep (h ^^^ k) (255 ^^^ h % 256) = h / 256 ^^^ nib (nib (255 ^^^ k)) := by
  unfold byteStep
  rw [show h ^^^ k ^^^ (255 ^^^ h % 256) = (h ^^^ h % 256) ^^^ (255 ^^^ k) by
    rw [Nat.xor_assoc, Nat.xor_assoc]; congr 1
    rw [Nat.xor_comm 255 (h % 256), ← Nat.xor_assoc, Nat.xor_comm k, Nat.xor_assoc, Nat.xor_comm k 255], low_xor, step_shift]
theorem byte_of {c k : Nat} (hk : k ≤ 24) : (4294967295 ^^^ c) / 2 ^ k % 256 = 255 ^^^ c / 2 ^ k % 256 := by
  rw [← Nat.shiftRight_eq_div_pow, Nat.shiftRight_xor_distrib, show (256 : Nat) = 2 ^ 8 from rfl, Nat.xor_mod_two_pow, Nat.shiftRight_eq_div_pow, Nat.shiftRight_eq_div_pow]
  have : ∀ k : Nat, k < 25 → 4294967295 / 2 ^ k % 2 ^ 8 = 255 := by decide
  rw [this k (by omega)]
theorem residue (c : Nat) (hc : c < 4294967296) : crcN c [(((4294967295 ^^^ c) % 256 : Nat) : Int), (((4294967295 ^^^ c) / 256 % 256 : Nat) : Int), (((4294967295 ^^^ c) / 65536 % 256 : Nat) : Int), (((4294967295 ^^^ c) / 16777216 % 256 : Nat) : Int)] = 3736805603 := by
  have b0 := byte_of (c := c) (k := 0) (by omega)
  have b1 := byte_of (c := c) (k := 8) (by omega)
  have b2 := byte_of (c := c) (k := 16) (by omega)
  have b3 := byte_of (c := c) (k := 24) (by omega)
  simp only [Nat.reducePow, Nat.div_one] at b0 b1 b2 b3
  have s0 := res_step c 0
  have s1 := res_step (c / 256) (nib (nib (255 ^^^ 0)))
  have s2 := res_step (c / 256 / 256) (nib (nib (255 ^^^ nib (nib (255 ^^^ 0)))))
  have s3 := res_step (c / 256 / 256 / 256) (nib (nib (255 ^^^ nib (nib (255 ^^^ nib (nib (255 ^^^ 0)))))))
  rw [Nat.xor_zero] at s0
  rw [Nat.div_div_eq_div_mul] at s2 s3
  rw [Nat.div_div_eq_div_mul] at s3
  rw [show c / (256 * 256 * 256) / 256 = 0 by omega, Nat.zero_xor] at s3
  simp only [crcN, Int.toNat_natCast, b0, b1, b2, b3]
  rw [s0, s1, Nat.div_div_eq_div_mul, s2, Nat.div_div_eq_div_mul, s3]
  decide
theorem bytes_ok (c : Nat) : wf8 [((c % 256 : Nat) : Int), ((c / 256 % 256 : Nat) : Int), ((c / 65536 % 256 : Nat) : Int), ((c / 16777216 % 256 : Nat) : Int)] := by
  intro x hx
  simp only [List.mem_cons, List.not_mem_nil, or_false] at hx
  rcases hx with rfl | rfl | rfl | rfl <;> omega
theorem wf8_of {l : List Int} (h : ∀ n ∈ l, (Lit.int .u8 n).wf = true) : wf8 l := fun x hx => by
  have := h x hx
  simp [Lit.wf, IntKind.min, IntKind.max, IntKind.signed, IntKind.bits] at this
  omega
theorem wf8_app {a b : List Int} (ha : wf8 a) (hb : wf8 b) : wf8 (a ++ b) := fun x hx => by
  rcases List.mem_append.1 hx with h | h
  · exact ha x h
  · exact hb x h
/-- the sum's bytes, the lowest one first -/
def sumB (c : Nat) : List Int := [((c % 256 : Nat) : Int), ((c / 256 % 256 : Nat) : Int), ((c / 65536 % 256 : Nat) : Int), ((c / 16777216 % 256 : Nat) : Int)]
theorem sum_bytes (c : Nat) : [IntKind.wrap .u8 (c : Int), IntKind.wrap .u8 (Int.fdiv (c : Int) 256), IntKind.wrap .u8 (Int.fdiv (c : Int) 65536), IntKind.wrap .u8 (Int.fdiv (c : Int) 16777216)] = sumB c := by
  have w : ∀ n : Int, IntKind.wrap .u8 n = n % 256 := fun n => by simp [IntKind.wrap, IntKind.bits, IntKind.signed]
  simp only [w, sumB, Int.fdiv_eq_ediv_of_nonneg _ (show (0 : Int) ≤ 256 by decide), Int.fdiv_eq_ediv_of_nonneg _ (show (0 : Int) ≤ 65536 by decide), Int.fdiv_eq_ediv_of_nonneg _ (show (0 : Int) ≤ 16777216 by decide)]
  congr 1
theorem bytesResidue_calls (l : List Int) (e : E) (v : Value) {W0 : World} (r : readOnly W0 (e, ri l)) (w : ∀ n ∈ l, (Lit.int .u8 n).wf = true) (_m : l.length ≤ maxLen)
    (u : ∀ (ρ : Env) (b : Nat), ρ[b]? = some e → (V.v (.one (.slice b (.c 0) 1 (.s l.length) (.s l.length)))).rel ρ v) (W : World) (hW : W0 = W := by rfl) : Calls Try.prog 6 #[v] W fun e w' => e = .returned (.bool true) ∧ Below W.heap.size W w' := by
  subst hW
  have hm := mem_args (W := W0) [(e, ri l)] (by intro y hy; simp at hy; subst hy; exact r)
  have hu : relVs ([(e, ri l)].map (·.1)) [bsl 0 l.length l.length] [v] := ⟨_, _, rfl, u _ 0 rfl, rfl⟩
  by_cases h0 : (600 : Int) < l.length
  · refine law_obs tabS_ok (congrFun rs0 l) ?_ hm hu
    exact ⟨decide_eq_true h0, trivial⟩
  · refine law_obs tabS_ok (congrFun rs1 l) ?_ hm hu
    have hw := wf8_of w
    have hc := crcN_lt (c := 4294967295) (by omega) hw
    rw [List.take_length]
    have e1 : crcS l = ((4294967295 ^^^ crcN 4294967295 l : Nat) : Int) := rfl
    rw [e1, sum_bytes, List.nil_append]
    have hl : (l ++ sumB (4294967295 ^^^ crcN 4294967295 l)).length = l.length + 4 := by simp [sumB]
    have ht : List.take (Nat.add l.length 4) (l ++ sumB (4294967295 ^^^ crcN 4294967295 l)) = l ++ sumB (4294967295 ^^^ crcN 4294967295 l) := List.take_of_length_le (by rw [hl]; exact Nat.le_refl _)
    have hr : crcS (l ++ sumB (4294967295 ^^^ crcN 4294967295 l)) = 558161692 := by
      unfold crcS
      rw [crcN_app, show sumB (4294967295 ^^^ crcN 4294967295 l) = _ from rfl]
      unfold sumB
      rw [residue _ hc]
      decide
    rw [ht, hr, hl]
    refine ⟨by decide, Nat.le_refl _, ?_, wf8_app hw (bytes_ok _), rfl, rfl, ?_, ?_, rfl, rfl, ?_, ?_, Nat.le_refl _, ?_, hw, decide_eq_false h0, trivial⟩
    · show l.length + 4 ≤ _; omega
    · omega
    · omega
    · omega
    · omega
    · omega

set_option maxRecDepth 100000 in
theorem bytesResidue_lifted (os : Os) (started : os.Started) (H : Type) (enc : TypeId × Value → H) :
    ReturnsInHanded {} Try.checked os 6 .any (Rows.bytesResidueSpec.pre6 enc Try.prog Try.f6 Rows.bytesResidueRow.domain false) (Rows.bytesResidueSpec.post enc Try.prog Try.f6 false true false false) := by
  refine returnsInHanded_of_change (C := Try.checked) own started (by kernel_rfl) Try.func6
    (ChangeSpec.witness6 (enc := enc) (C := Try.checked) false ⟨#[], #[.slice none 0 0], []⟩ 8 (by kernel_rfl) (by kernel_rfl) (by kernel_rfl) (by kernel_rfl)) ?_
  intro W base args ds gs before hval0 hW hcnd _
  have hval : ∀ (j : Nat) t v, Try.f6.params[j]? = some t → args[j]? = some v → Value.okWide Try.prog W .any base t v := hval0
  have hW' := hW
  obtain ⟨p, q, hA0, hV, hbef, hfz, hnd⟩ := hW
  have hA : DataW.TrodAll enc Try.prog W 0 (fun _ => true) true Try.f6.params.toList args.toList ds p := hA0
  rw [Try.params6] at hA hval
  obtain ⟨v0, d0, rfl, rfl, h0⟩ := trodAll_one hA
  obtain ⟨a0, e0, r0, w0, m0, u0⟩ := one_ints (k := .u8) (d := 20) (by kernel_rfl) (hval 0 23 v0 rfl rfl) h0
  refine (bytesResidue_calls a0 e0 v0 r0 w0 m0 u0 W).mono fun e W' ⟨he, hb⟩ => ?_
  subst he
  exact ⟨_, rfl, post_law laidOut (by rw [Try.params6]; decide +kernel) rfl rfl (by kernel_rfl) Try.underlying4 hW' hb⟩

theorem bytesResidue_holds : Rows.BytesResidueSaid :=
  OpenClaim.holds_of_wide 6 Try.f6 rfl rfl rfl rfl rfl rfl rfl ⟨rfl, rfl, rfl, rfl, rfl⟩ rfl rfl rfl rfl rfl (by kernel_rfl) Try.func6 (by kernel_rfl)
    (of_decide_eq_true (by kernel_rfl)) (by unfold Func.isWrapper; first | (rw [if_pos (by decide +kernel)]; kernel_rfl) | (rw [if_neg (by decide +kernel)]; exact ⟨rfl, rfl⟩))
    (fun os started H enc _ => bytesResidue_lifted os started H enc)
#print axioms bytesResidue_holds
end
section
open Go.ChangeShapes Go.WideShapes Go.ChangeAt Go.RowKit Go.Sx
/-- a bit's step -/
def step1 (z : Nat) : Nat := z / 2 ^^^ z % 2 * 3988292384
def it : Nat → Nat → Nat
  | 0, z => z
  | m + 1, z => it m (step1 z)
theorem xor_swap (a b c d : Nat) : (a ^^^ b) ^^^ (c ^^^ d) = (a ^^^ c) ^^^ (b ^^^ d) := by
  rw [Nat.xor_assoc, Nat.xor_assoc, ← Nat.xor_assoc b c d, Nat.xor_comm b c, Nat.xor_assoc c b d]
theorem mul_xor_bit {a b : Nat} (p : Nat) (ha : a < 2) (hb : b < 2) : (a ^^^ b) * p = a * p ^^^ b * p := by
  have h : (a = 0 ∨ a = 1) ∧ (b = 0 ∨ b = 1) := by omega
  obtain ⟨rfl | rfl, rfl | rfl⟩ := h <;> simp
theorem step1_xor (a b : Nat) : step1 (a ^^^ b) = step1 a ^^^ step1 b := by
  unfold step1
  have e1 : (a ^^^ b) / 2 = a / 2 ^^^ b / 2 := by
    have := Nat.shiftRight_xor_distrib (a := a) (b := b) (i := 1)
    simpa only [Nat.shiftRight_eq_div_pow, Nat.pow_one] using this
  have e2 : (a ^^^ b) % 2 = a % 2 ^^^ b % 2 := by
    have := Nat.xor_mod_two_pow (a := a) (b := b) (n := 1)
    simpa only [Nat.pow_one] using this
  rw [e1, e2, mul_xor_bit _ (Nat.mod_lt _ (by omega)) (Nat.mod_lt _ (by omega)), xor_swap]
theorem it_xor : ∀ (m a b : Nat), it m (a ^^^ b) = it m a ^^^ it m b
  | 0, _, _ => rfl
  | m + 1, a, b => by
    show it m (step1 (a ^^^ b)) = it m (step1 a) ^^^ it m (step1 b)
    rw [step1_xor, it_xor m]
theorem it_add : ∀ (m k z : Nat), it k (it m z) = it (m + k) z
  | 0, k, z => by rw [Nat.zero_add]; rfl
  | m + 1, k, z => by
    rw [show m + 1 + k = (m + k) + 1 by omega]
    exact it_add m k (step1 z)
theorem step1_two (h : Nat) : step1 (h * 2) = h := by
  unfold step1
  rw [Nat.mul_mod_left, Nat.zero_mul, Nat.xor_zero, Nat.mul_div_cancel _ (by decide)]
theorem it4_shift (h : Nat) : it 4 (h * 16) = h := by
  show step1 (step1 (step1 (step1 (h * 16)))) = h
  rw [show h * 16 = h * 8 * 2 by omega, step1_two, show h * 8 = h * 4 * 2 by omega, step1_two, show h * 4 = h * 2 * 2 by omega, step1_two, step1_two]
theorem nib_small : ∀ m : Nat, m < 16 → nib m = it 4 m := by decide
theorem split16 (h : Nat) : h = h / 16 * 16 ^^^ h % 16 := by
  apply Nat.eq_of_testBit_eq
  intro i
  rw [show (16 : Nat) = 2 ^ 4 from rfl, Nat.testBit_xor, Nat.testBit_mod_two_pow, Nat.testBit_mul_two_pow, Nat.testBit_div_two_pow]
  by_cases hi : i < 4
  · simp [hi, show ¬ 4 ≤ i by omega]
  · simp [hi, show 4 ≤ i by omega, show i - 4 + 4 = i by omega]
theorem nib_it (z : Nat) : nib z = it 4 z := by
  have e := split16 z
  have h1 := nib_shift (z / 16) (z % 16)
  have h2 := it_xor 4 (z / 16 * 16) (z % 16)
  rw [it4_shift] at h2
  rw [← e] at h1 h2
  rw [h1, h2, nib_small _ (Nat.mod_lt _ (by omega))]
theorem byteStep_it (c x : Nat) : byteStep c x = it 8 (c ^^^ x) := by
  unfold byteStep
  rw [nib_it, nib_it, it_add]
theorem crcN_xor : ∀ (l : List Int) (c d : Nat), crcN (c ^^^ d) l = crcN c l ^^^ it (8 * l.length) d
  | [], c, d => rfl
  | x :: r, c, d => by
    show crcN (byteStep (c ^^^ d) x.toNat) r = crcN (byteStep c x.toNat) r ^^^ _
    rw [byteStep_it, byteStep_it, show c ^^^ d ^^^ x.toNat = (c ^^^ x.toNat) ^^^ d by rw [Nat.xor_assoc, Nat.xor_comm d, Nat.xor_assoc], it_xor, crcN_xor r, it_add,
      show 8 * (x :: r).length = 8 + 8 * r.length by rw [List.length_cons]; omega]
theorem crcN_set : ∀ (l : List Int) (c j v : Nat), j < l.length → crcN c (l.set j (((l.getD j 0).toNat ^^^ v : Nat) : Int)) = crcN c l ^^^ it (8 * (l.length - j)) v
  | [], _, _, _, h => by simp at h
  | x :: r, c, 0, v, _ => by
    show crcN (byteStep c (Int.toNat (((x.toNat ^^^ v : Nat) : Int)))) r = crcN (byteStep c x.toNat) r ^^^ _
    rw [Int.toNat_natCast, byteStep_it, byteStep_it, ← Nat.xor_assoc, it_xor, crcN_xor, it_add]
    congr 2
    rw [List.length_cons]; omega
  | x :: r, c, j + 1, v, h => by
    have := crcN_set r (byteStep c x.toNat) j v (by simpa using h)
    show crcN (byteStep c x.toNat) (r.set j _) = crcN (byteStep c x.toNat) r ^^^ _
    rw [show ((x :: r).length - (j + 1)) = r.length - j by rw [List.length_cons]; omega]
    exact this
/-! ### no bit's sum is another one's -/
abbrev g31 : Nat := 2147483648
theorem pow_it : ∀ t : Nat, t < 32 → it (31 - t) g31 = 2 ^ t := by decide
theorem it_pow (m t : Nat) (h : t < 32) : it m (2 ^ t) = it (31 - t + m) g31 := by rw [← pow_it t h, it_add]
theorem step1_lt {z : Nat} (h : z < 4294967296) : step1 z < 4294967296 := by
  unfold step1
  exact xor_lt32 (by omega) (by omega)
theorem xor_zero_eq {a b : Nat} (h : a ^^^ b = 0) : a = b := by
  have := congrArg (· ^^^ b) h
  simpa [Nat.xor_assoc] using this
theorem it_lt : ∀ {m z : Nat}, z < 4294967296 → it m z < 4294967296
  | 0, _, h => h
  | m + 1, _, h => it_lt (m := m) (step1_lt h)
theorem step1_zero {z : Nat} (h : z < 4294967296) (h0 : step1 z = 0) : z = 0 := by
  unfold step1 at h0
  have h1 := xor_zero_eq h0
  omega
theorem it_zero : ∀ {m z : Nat}, z < 4294967296 → it m z = 0 → z = 0
  | 0, _, _, h0 => h0
  | m + 1, _, h, h0 => step1_zero h (it_zero (m := m) (step1_lt h) h0)
def chk : Nat → Nat → Bool
  | 0, _ => true
  | k + 1, z => match step1 z with
    | 0 => false
    | y + 1 => !Nat.beq (y + 1) 2147483648 && chk k (y + 1)
theorem chk_run : chk 2431 2147483648 = true := by kernel_rfl
theorem chk_spec : ∀ {k z d : Nat}, chk k z = true → 0 < d → d ≤ k → it d z ≠ g31
  | 0, _, d, _, h0, h1 => by omega
  | k + 1, z, d, h, h0, h1 => by
    unfold chk at h
    split at h
    · cases h
    · rename_i y hy
      rw [Bool.and_eq_true] at h
      cases d with
      | zero => omega
      | succ d =>
        show it d (step1 z) ≠ g31
        rw [hy]
        cases d with
        | zero =>
          intro e
          change y + 1 = 2147483648 at e
          have := h.1
          rw [e] at this
          exact absurd this (by decide)
        | succ d => exact chk_spec h.2 (by omega) (by omega)
theorem hq_ne0 (m : Nat) : it m g31 ≠ 0 := fun h => absurd (it_zero (by decide) h) (by decide)
theorem hq_lt_ne {a b : Nat} (h : a < b) (hb : b ≤ 2431) : it a g31 ^^^ it b g31 ≠ 0 := by
  rw [show b = (b - a) + a by omega, ← it_add, ← it_xor]
  intro e
  have := it_zero (xor_lt32 (by decide) (it_lt (by decide))) e
  exact chk_spec chk_run (show 0 < b - a by omega) (by omega) (xor_zero_eq this).symm
theorem hq_ne {a b : Nat} (h : a ≠ b) (ha : a ≤ 2431) (hb : b ≤ 2431) : it a g31 ^^^ it b g31 ≠ 0 := by
  rcases Nat.lt_or_gt_of_ne h with h | h
  · exact hq_lt_ne h hb
  · rw [Nat.xor_comm]; exact hq_lt_ne h ha
/-! ### sealed bytes -/
/-- four bytes, the highest one first -/
def sumH (c : Nat) : List Int := [((c / 16777216 % 256 : Nat) : Int), ((c / 65536 % 256 : Nat) : Int), ((c / 256 % 256 : Nat) : Int), ((c % 256 : Nat) : Int)]
def sealS (l : List Int) : List Int := l ++ sumH (4294967295 ^^^ crcN 4294967295 l)
def unsealS (x : List Int) : List Int × Int := if x.length < 4 then ([], 11) else if sealS (x.take (x.length - 4)) = x then (x.take (x.length - 4), 0) else ([], 12)
def be (l : List Int) : Nat := (l.getD 0 0).toNat * 2 ^ 24 ^^^ (l.getD 1 0).toNat * 2 ^ 16 ^^^ (l.getD 2 0).toNat * 2 ^ 8 ^^^ (l.getD 3 0).toNat
theorem mul_xor_pow (a b k : Nat) : (a ^^^ b) * 2 ^ k = a * 2 ^ k ^^^ b * 2 ^ k := by
  have := Nat.shiftLeft_xor_distrib (a := a) (b := b) (i := k)
  simpa only [Nat.shiftLeft_eq] using this
theorem split256 (h : Nat) : h / 256 * 256 ^^^ h % 256 = h := by
  have := low_xor h
  rw [← this, Nat.xor_assoc, Nat.xor_self, Nat.xor_zero]
theorem be_sum {c : Nat} (hc : c < 4294967296) : be (sumH c) = c := by
  show c / 16777216 % 256 * 2 ^ 24 ^^^ c / 65536 % 256 * 2 ^ 16 ^^^ c / 256 % 256 * 2 ^ 8 ^^^ c % 256 = c
  have h3 : c / 16777216 % 256 = c / 65536 / 256 := by omega
  have e1 : c / 65536 / 256 * 2 ^ 24 ^^^ c / 65536 % 256 * 2 ^ 16 = c / 65536 * 2 ^ 16 := by
    rw [show c / 65536 / 256 * 2 ^ 24 = c / 65536 / 256 * 256 * 2 ^ 16 by omega, ← mul_xor_pow, split256]
  have e2 : c / 65536 * 2 ^ 16 ^^^ c / 256 % 256 * 2 ^ 8 = c / 256 * 2 ^ 8 := by
    rw [show c / 65536 * 2 ^ 16 = c / 256 / 256 * 256 * 2 ^ 8 by omega, ← mul_xor_pow, split256]
  rw [h3, e1, e2, show (2 : Nat) ^ 8 = 256 from rfl, split256]
theorem be_set {l : List Int} {j v : Nat} (hl : l.length = 4) (hj : j < 4) : be (l.set j (((l.getD j 0).toNat ^^^ v : Nat) : Int)) = be l ^^^ v * 2 ^ (8 * (3 - j)) := by
  match l, hl with
  | [a, b, c, d], _ =>
    have h : j = 0 ∨ j = 1 ∨ j = 2 ∨ j = 3 := by omega
    obtain rfl | rfl | rfl | rfl := h
    · show (Int.toNat ((a.toNat ^^^ v : Nat) : Int)) * 2 ^ 24 ^^^ b.toNat * 2 ^ 16 ^^^ c.toNat * 2 ^ 8 ^^^ d.toNat = a.toNat * 2 ^ 24 ^^^ b.toNat * 2 ^ 16 ^^^ c.toNat * 2 ^ 8 ^^^ d.toNat ^^^ v * 2 ^ 24
      rw [Int.toNat_natCast, mul_xor_pow]
      ac_rfl
    · show a.toNat * 2 ^ 24 ^^^ (Int.toNat ((b.toNat ^^^ v : Nat) : Int)) * 2 ^ 16 ^^^ c.toNat * 2 ^ 8 ^^^ d.toNat = a.toNat * 2 ^ 24 ^^^ b.toNat * 2 ^ 16 ^^^ c.toNat * 2 ^ 8 ^^^ d.toNat ^^^ v * 2 ^ 16
      rw [Int.toNat_natCast, mul_xor_pow]
      ac_rfl
    · show a.toNat * 2 ^ 24 ^^^ b.toNat * 2 ^ 16 ^^^ (Int.toNat ((c.toNat ^^^ v : Nat) : Int)) * 2 ^ 8 ^^^ d.toNat = a.toNat * 2 ^ 24 ^^^ b.toNat * 2 ^ 16 ^^^ c.toNat * 2 ^ 8 ^^^ d.toNat ^^^ v * 2 ^ 8
      rw [Int.toNat_natCast, mul_xor_pow]
      ac_rfl
    · show a.toNat * 2 ^ 24 ^^^ b.toNat * 2 ^ 16 ^^^ c.toNat * 2 ^ 8 ^^^ (Int.toNat ((d.toNat ^^^ v : Nat) : Int)) = a.toNat * 2 ^ 24 ^^^ b.toNat * 2 ^ 16 ^^^ c.toNat * 2 ^ 8 ^^^ d.toNat ^^^ v * 2 ^ 0
      rw [Int.toNat_natCast, Nat.pow_zero, Nat.mul_one]
      ac_rfl
def syn (n : Nat) (x : List Int) : Nat := crcN 4294967295 (x.take n) ^^^ 4294967295 ^^^ be (x.drop n)
/-- a bit is turned -/
def flip (x : List Int) (p : Nat) : List Int := x.set (p / 8) (((x.getD (p / 8) 0).toNat ^^^ 2 ^ (p % 8) : Nat) : Int)
def ex (n p : Nat) : Nat := if p / 8 < n then 31 + 8 * (n - p / 8) - p % 8 else 7 + 8 * (p / 8 - n) - p % 8
theorem getD_take {l : List Int} {n j : Nat} (h : j < n) : (l.take n).getD j 0 = l.getD j 0 := by
  simp [List.getD_eq_getElem?_getD, List.getElem?_take, h]
theorem getD_drop {l : List Int} {n j : Nat} : (l.drop n).getD j 0 = l.getD (n + j) 0 := by
  simp [List.getD_eq_getElem?_getD, List.getElem?_drop]
theorem syn_flip {n : Nat} {x : List Int} (hl : x.length = n + 4) {p : Nat} (hp : p < 8 * (n + 4)) : syn n (flip x p) = syn n x ^^^ it (ex n p) g31 := by
  unfold syn flip ex
  have ht : p % 8 < 8 := Nat.mod_lt _ (by omega)
  by_cases hj : p / 8 < n
  · rw [if_pos hj, List.drop_set_of_lt hj, List.take_set]
    have hs := crcN_set (x.take n) 4294967295 (p / 8) (2 ^ (p % 8)) (by rw [List.length_take]; omega)
    rw [getD_take hj] at hs
    rw [hs, it_pow _ _ (by omega), List.length_take, Nat.min_eq_left (by omega), show 31 - p % 8 + 8 * (n - p / 8) = 31 + 8 * (n - p / 8) - p % 8 by omega]
    ac_rfl
  · rw [if_neg hj]
    have hd : (x.set (p / 8) (((x.getD (p / 8) 0).toNat ^^^ 2 ^ (p % 8) : Nat) : Int)).drop n = (x.drop n).set (p / 8 - n) (((x.getD (p / 8) 0).toNat ^^^ 2 ^ (p % 8) : Nat) : Int) := by
      rw [List.drop_set, if_neg hj]
    have htk : (x.set (p / 8) (((x.getD (p / 8) 0).toNat ^^^ 2 ^ (p % 8) : Nat) : Int)).take n = x.take n := by
      rw [List.take_set_of_le (by omega)]
    rw [hd, htk]
    have hs := be_set (l := x.drop n) (j := p / 8 - n) (v := 2 ^ (p % 8)) (by rw [List.length_drop]; omega) (by omega)
    rw [getD_drop, show n + (p / 8 - n) = p / 8 by omega] at hs
    rw [hs, ← Nat.pow_add]
    have he := pow_it (p % 8 + 8 * (3 - (p / 8 - n))) (by omega)
    rw [show 31 - (p % 8 + 8 * (3 - (p / 8 - n))) = 7 + 8 * (p / 8 - n) - p % 8 by omega] at he
    rw [he]
    ac_rfl
theorem seal_len (l : List Int) : (sealS l).length = l.length + 4 := by simp [sealS, sumH]
theorem syn_seal {l : List Int} (hw : wf8 l) : syn l.length (sealS l) = 0 := by
  unfold syn sealS
  rw [List.take_left, List.drop_left, be_sum (xor_lt32 (by decide) (crcN_lt (by decide) hw)), Nat.xor_assoc, ← Nat.xor_assoc 4294967295 4294967295, Nat.xor_self, Nat.zero_xor, Nat.xor_self]
theorem wf8_seal {l : List Int} (hw : wf8 l) : wf8 (sealS l) := wf8_app hw fun x hx => by
  unfold sumH at hx
  simp only [List.mem_cons, List.not_mem_nil, or_false] at hx
  rcases hx with rfl | rfl | rfl | rfl <;> omega
theorem flip_len (x : List Int) (p : Nat) : (flip x p).length = x.length := by simp [flip]
theorem wf8_flip {x : List Int} (hw : wf8 x) (p : Nat) : wf8 (flip x p) := by
  intro y hy
  unfold flip at hy
  rcases List.mem_or_eq_of_mem_set hy with h | h
  · exact hw y h
  · have hg := wf8_get hw (p / 8)
    have hx : (x.getD (p / 8) 0).toNat ^^^ 2 ^ (p % 8) < 2 ^ 8 := Nat.xor_lt_two_pow (by omega) (Nat.pow_lt_pow_right (by omega) (Nat.mod_lt _ (by omega)))
    rw [h]; omega
theorem flip_twice {x : List Int} (hw : wf8 x) {p : Nat} (hp : p / 8 < x.length) : flip (flip x p) p = x := by
  unfold flip
  rw [List.set_set, List.getD_eq_getElem?_getD, List.getElem?_set_self (by simpa using hp)]
  simp only [Option.getD_some, Int.toNat_natCast]
  rw [Nat.xor_assoc, Nat.xor_self, Nat.xor_zero]
  have hg := wf8_get hw (p / 8)
  rw [show (((x.getD (p / 8) 0).toNat : Nat) : Int) = x.getD (p / 8) 0 by omega, List.getD_eq_getElem?_getD, List.getElem?_eq_getElem hp]
  simp
theorem unseal_bad {n : Nat} {x : List Int} (hl : x.length = n + 4) (hw : wf8 x) (hs : syn n x ≠ 0) : unsealS x = ([], 12) := by
  unfold unsealS
  rw [if_neg (by omega), show x.length - 4 = n by omega, if_neg]
  intro e
  refine hs ?_
  have h := syn_seal (wf8_take hw n)
  rw [e, List.length_take, Nat.min_eq_left (by omega)] at h
  exact h
theorem unseal_seal (l : List Int) : unsealS (sealS l) = (l, 0) := by
  unfold unsealS
  have := seal_len l
  rw [if_neg (by omega), show (sealS l).length - 4 = l.length by omega, show (sealS l).take l.length = l from List.take_left, if_pos rfl]
theorem unseal_one {l : List Int} (hw : wf8 l) {p : Nat} (hp : p < 8 * (l.length + 4)) : unsealS (flip (sealS l) p) = ([], 12) := by
  refine unseal_bad (n := l.length) (by rw [flip_len, seal_len]) (wf8_flip (wf8_seal hw) p) ?_
  rw [syn_flip (seal_len l) hp, syn_seal hw, Nat.zero_xor]
  exact hq_ne0 _
theorem unseal_two {l : List Int} (hw : wf8 l) (h3 : l.length ≤ 300) {p q : Nat} (hp : p < 8 * (l.length + 4)) (hq : q < 8 * (l.length + 4)) (hne : p ≠ q) : unsealS (flip (flip (sealS l) p) q) = ([], 12) := by
  refine unseal_bad (n := l.length) (by rw [flip_len, flip_len, seal_len]) (wf8_flip (wf8_flip (wf8_seal hw) p) q) ?_
  rw [syn_flip (by rw [flip_len, seal_len]) hq, syn_flip (seal_len l) hp, syn_seal hw, Nat.zero_xor]
  have hb : ∀ r, r < 8 * (l.length + 4) → ex l.length r ≤ 2431 := by
    intro r hr; unfold ex; split <;> omega
  refine hq_ne ?_ (hb p hp) (hb q hq)
  unfold ex
  split <;> split <;> omega
end
section
open Go.Sx
def tabC := tabs [(14, loc frozen8 gCrc)]
noncomputable def callC (d : Nat) := callN Try.prog tabC (fun _ => false) 100000 d
def oi (l : List Int) : SB := ⟨true, .ints .u8 l⟩
theorem saS : (fun (l : List Int) (n c : Nat) => retV [0, 9] (callC 4 16 [bsl 0 n c] [ri l] [false, false, true, true, true])) = fun (l : List Int) (n : Nat) (c : Nat) => some (((V.v (V1.one (C.slice ((9 : Nat)) (N.c ((0 : Nat))) ((1 : Nat)) (N.s (n + (1 : Nat) + (1 : Nat) + (1 : Nat) + (1 : Nat))) (N.s (n + (1 : Nat) + (1 : Nat) + (1 : Nat) + (1 : Nat)))))), ([(SB.mk (false) (Cells.ints (IntKind.u8) (l))), (SB.mk (true) (Cells.ints (IntKind.u8) (List.take (n) (List.drop (0 : Nat) (List.take (if n ≤ n then n else n) (List.take n (List.drop (0 : Nat) l)) ++ List.drop (if n ≤ n then n else n) (List.replicate (Int.toNat ((↑n : Int) + (4 : Int))) (0 : Int)))) ++ [IntKind.wrap IntKind.u8 (Int.fdiv (crcS (List.take n l)) (16777216 : Int))] ++ [IntKind.wrap IntKind.u8 (Int.fdiv (crcS (List.take n l)) (65536 : Int))] ++ [IntKind.wrap IntKind.u8 (Int.fdiv (crcS (List.take n l)) (256 : Int))] ++ [IntKind.wrap IntKind.u8 (Int.fdiv (crcS (List.take n l)) (1 : Int))])))], [(0 : Nat) = (0 : Nat), Nat.add (n + (1 : Nat) + (1 : Nat)) (1 : Nat) = List.length (List.take (n) (List.drop (0 : Nat) (List.take (if n ≤ n then n else n) (List.take n (List.drop (0 : Nat) l)) ++ List.drop (if n ≤ n then n else n) (List.replicate (Int.toNat ((↑n : Int) + (4 : Int))) (0 : Int)))) ++ [IntKind.wrap IntKind.u8 (Int.fdiv (crcS (List.take n l)) (16777216 : Int))] ++ [IntKind.wrap IntKind.u8 (Int.fdiv (crcS (List.take n l)) (65536 : Int))] ++ [IntKind.wrap IntKind.u8 (Int.fdiv (crcS (List.take n l)) (256 : Int))]), (n + (1 : Nat) + (1 : Nat) + (1 : Nat) + (1 : Nat)) * (1 : Nat) ≤ (140737488355328 : Nat), n + (1 : Nat) + (1 : Nat) + (1 : Nat) + (1 : Nat) ≤ (9223372036854775807 : Nat), (0 : Nat) = (0 : Nat), Nat.add (n + (1 : Nat)) (1 : Nat) = List.length (List.take (n) (List.drop (0 : Nat) (List.take (if n ≤ n then n else n) (List.take n (List.drop (0 : Nat) l)) ++ List.drop (if n ≤ n then n else n) (List.replicate (Int.toNat ((↑n : Int) + (4 : Int))) (0 : Int)))) ++ [IntKind.wrap IntKind.u8 (Int.fdiv (crcS (List.take n l)) (16777216 : Int))] ++ [IntKind.wrap IntKind.u8 (Int.fdiv (crcS (List.take n l)) (65536 : Int))]), (n + (1 : Nat) + (1 : Nat) + (1 : Nat)) * (1 : Nat) ≤ (140737488355328 : Nat), n + (1 : Nat) + (1 : Nat) + (1 : Nat) ≤ (9223372036854775807 : Nat), (0 : Nat) = (0 : Nat), Nat.add (n) (1 : Nat) = List.length (List.take (n) (List.drop (0 : Nat) (List.take (if n ≤ n then n else n) (List.take n (List.drop (0 : Nat) l)) ++ List.drop (if n ≤ n then n else n) (List.replicate (Int.toNat ((↑n : Int) + (4 : Int))) (0 : Int)))) ++ [IntKind.wrap IntKind.u8 (Int.fdiv (crcS (List.take n l)) (16777216 : Int))]), (n + (1 : Nat) + (1 : Nat)) * (1 : Nat) ≤ (140737488355328 : Nat), n + (1 : Nat) + (1 : Nat) ≤ (9223372036854775807 : Nat), (0 : Nat) + n ≤ List.length (List.take (if n ≤ n then n else n) (List.take n (List.drop (0 : Nat) l)) ++ List.drop (if n ≤ n then n else n) (List.replicate (Int.toNat ((↑n : Int) + (4 : Int))) (0 : Int))), (n + (1 : Nat)) * (1 : Nat) ≤ (140737488355328 : Nat), n + (1 : Nat) ≤ (9223372036854775807 : Nat), n ≤ List.length l, n ≤ (1000000 : Nat), wf8 l, (0 : Nat) + n ≤ List.length l, n ≤ List.length (List.replicate (Int.toNat ((↑n : Int) + (4 : Int))) (0 : Int)), (0 : Int) ≤ (↑n : Int), (↑n : Int) ≤ (↑n : Int) + (4 : Int), Int.toNat ((↑n : Int) + (4 : Int)) * (1 : Nat) ≤ (140737488355328 : Nat), Int.toNat ((↑n : Int) + (4 : Int)) ≤ (9223372036854775807 : Nat), (-9223372036854775808 : Int) ≤ (↑n : Int) + (4 : Int) ∧ (↑n : Int) + (4 : Int) ≤ (9223372036854775807 : Int)]))) := by kernel_rfl
noncomputable def LE := loopN Try.prog 37 0
noncomputable def EE : List Item := .code (.loop LE.1) :: LE.2
noncomputable def KE : List Item := .inLoop LE.1 :: LE.2
noncomputable def FE : Go.Func := match Try.prog.funcs[37]? with | some fn => fn | none => default
def TE (l k : List Int) (n c d : Nat) (i : Nat) (h : List Bool) : St := ⟨[(0, bsl 0 n c), (1, bsl 1 n d), (12, si .i64 n), (13, si .i64 i)], [ri l, ri k], h, []⟩
noncomputable def rndE (lim : Nat) (h : List Bool) (l k : List Int) (n c d : Nat) (i : Nat) := run Try.prog (call0 4) (fun _ => false) FE lim 100000 [] (.code LE.1 :: .inLoop LE.1 :: LE.2) (TE l k n c d i h)
theorem eqN : (fun (l k : List Int) (n c m d : Nat) => retV [0, 1] (call0 4 37 [bsl 0 n c, bsl 1 m d] [ri l, ri k] [true])) = fun (l : List Int) (k : List Int) (n : Nat) (c : Nat) (m : Nat) (d : Nat) => some (((V.v (V1.one (C.bool (false)))), ([(SB.mk (false) (Cells.ints (IntKind.u8) (l))), (SB.mk (false) (Cells.ints (IntKind.u8) (k)))], [(!decide ((↑n : Int) = (↑m : Int))) = true]))) := by kernel_rfl
theorem eqE : (fun (l k : List Int) (n c m d : Nat) => stopV [0, 1, 12, 13] [0, 1] (run Try.prog (call0 4) (fun _ => false) FE 0 100000 [false] [.code (bodyF 37)] ⟨argSlots 0 [bsl 0 n c, bsl 1 m d], [ri l, ri k], [false], []⟩)) = fun (l : List Int) (k : List Int) (n : Nat) (c : Nat) (m : Nat) (d : Nat) => some ((EE, ([(((0 : Nat)), (V.v (V1.one (C.slice ((0 : Nat)) (N.c ((0 : Nat))) ((1 : Nat)) (N.s (n)) (N.s (c)))))), (((1 : Nat)), (V.v (V1.one (C.slice ((1 : Nat)) (N.c ((0 : Nat))) ((1 : Nat)) (N.s (m)) (N.s (d)))))), (((12 : Nat)), (V.v (V1.one (C.sint (IntKind.i64) ((↑n : Int)))))), (((13 : Nat)), (V.v (V1.one (C.int (IntKind.i64) ((0 : Int))))))], ([(SB.mk (false) (Cells.ints (IntKind.u8) (l))), (SB.mk (false) (Cells.ints (IntKind.u8) (k)))], [(!decide ((↑n : Int) = (↑m : Int))) = false])))) := by kernel_rfl
theorem eqR : (fun (l k : List Int) (n c d : Nat) (i : Nat) => stopV [0, 1, 12, 13] [0, 1] (rndE (LE.2.length + 1) [true, false] l k n c d i)) = fun (l : List Int) (k : List Int) (n : Nat) (c : Nat) (d : Nat) (i : Nat) => some ((KE, ([(((0 : Nat)), (V.v (V1.one (C.slice ((0 : Nat)) (N.c ((0 : Nat))) ((1 : Nat)) (N.s (n)) (N.s (c)))))), (((1 : Nat)), (V.v (V1.one (C.slice ((1 : Nat)) (N.c ((0 : Nat))) ((1 : Nat)) (N.s (n)) (N.s (d)))))), (((12 : Nat)), (V.v (V1.one (C.sint (IntKind.i64) ((↑n : Int)))))), (((13 : Nat)), (V.v (V1.one (C.sint (IntKind.i64) ((↑i : Int) + (1 : Int))))))], ([(SB.mk (false) (Cells.ints (IntKind.u8) (l))), (SB.mk (false) (Cells.ints (IntKind.u8) (k)))], [(-9223372036854775808 : Int) ≤ (↑i : Int) + (1 : Int) ∧ (↑i : Int) + (1 : Int) ≤ (9223372036854775807 : Int), (!decide (List.getD l (i) (0 : Int) = List.getD k (i) (0 : Int))) = false, i < List.length k, (0 : Int) ≤ (↑i : Int), (↑i : Int) < (↑n : Int), i < List.length l, (0 : Int) ≤ (↑i : Int), (↑i : Int) < (↑n : Int), decide ((↑i : Int) < (↑n : Int)) = true])))) := by kernel_rfl
theorem eqX0 : (fun (l k : List Int) (n c d : Nat) (i : Nat) => endV [0, 1] (rndE 0 [true, true] l k n c d i)) = fun (l : List Int) (k : List Int) (n : Nat) (c : Nat) (d : Nat) (i : Nat) => some (((V.v (V1.one (C.bool (false)))), ([(SB.mk (false) (Cells.ints (IntKind.u8) (l))), (SB.mk (false) (Cells.ints (IntKind.u8) (k)))], [(!decide (List.getD l (i) (0 : Int) = List.getD k (i) (0 : Int))) = true, i < List.length k, (0 : Int) ≤ (↑i : Int), (↑i : Int) < (↑n : Int), i < List.length l, (0 : Int) ≤ (↑i : Int), (↑i : Int) < (↑n : Int), decide ((↑i : Int) < (↑n : Int)) = true]))) := by kernel_rfl
theorem eqX1 : (fun (l k : List Int) (n c d : Nat) (i : Nat) => endV [0, 1] (rndE 0 [false] l k n c d i)) = fun (l : List Int) (k : List Int) (n : Nat) (c : Nat) (d : Nat) (i : Nat) => some (((V.v (V1.one (C.bool (true)))), ([(SB.mk (false) (Cells.ints (IntKind.u8) (l))), (SB.mk (false) (Cells.ints (IntKind.u8) (k)))], [decide ((↑i : Int) < (↑n : Int)) = false]))) := by kernel_rfl
theorem cl1 : (fun (l : List Int) (n c : Nat) => retV [0, 2] (call0 4 38 [bsl 0 n c] [ri l] [false])) = fun (l : List Int) (n : Nat) (c : Nat) => some (((V.v (V1.one (C.slice ((2 : Nat)) (N.c ((0 : Nat))) ((1 : Nat)) (N.s (n)) (N.s (n))))), ([(SB.mk (false) (Cells.ints (IntKind.u8) (l))), (SB.mk (true) (Cells.ints (IntKind.u8) ([] ++ List.take n (List.drop (0 : Nat) l))))], [(0 : Nat) + n ≤ List.length l, n * (1 : Nat) ≤ (140737488355328 : Nat), n ≤ (9223372036854775807 : Nat), (0 : Nat) < n]))) := by kernel_rfl
theorem cl2 : (fun (l : List Int) => retV [0] (call0 4 38 [.v (.one .nils)] [ri l] [])) = fun (l : List Int) => some (((V.v (V1.one (C.nils))), ([(SB.mk (false) (Cells.ints (IntKind.u8) (l)))], []))) := by kernel_rfl
theorem cl3 : (fun (l : List Int) (a : Addr) (c : Nat) => retV [0, 2] (call0 4 38 [.v (.one (.raw (.slice (some a) 0 c)))] [ri l] [])) = fun (l : List Int) (a : Go.Addr) (c : Nat) => some (((V.v (V1.one (C.slice ((2 : Nat)) (N.c ((0 : Nat))) ((1 : Nat)) (N.c ((0 : Nat))) (N.c ((0 : Nat)))))), ([(SB.mk (false) (Cells.ints (IntKind.u8) (l))), (SB.mk (true) (Cells.exp []))], []))) := by kernel_rfl
end
section
open Go.ChangeShapes Go.WideShapes Go.ChangeAt Go.RowKit Go.Sx
theorem tabC_ok : ∀ f g, tabC f = some g → TabOk Try.prog f g := tabs_ok fun x hx => by
  simp only [List.mem_cons, List.not_mem_nil, or_false] at hx
  rcases hx with rfl
  exact crc_tab
theorem sum_high (a : List Int) (c : Nat) : a ++ [IntKind.wrap .u8 (Int.fdiv (c : Int) 16777216)] ++ [IntKind.wrap .u8 (Int.fdiv (c : Int) 65536)] ++ [IntKind.wrap .u8 (Int.fdiv (c : Int) 256)] ++ [IntKind.wrap .u8 (Int.fdiv (c : Int) 1)] = a ++ sumH c := by
  have w : ∀ n : Int, IntKind.wrap .u8 n = n % 256 := fun n => by simp [IntKind.wrap, IntKind.bits, IntKind.signed]
  simp only [w, sumH, Int.fdiv_eq_ediv_of_nonneg _ (show (0 : Int) ≤ 256 by decide), Int.fdiv_eq_ediv_of_nonneg _ (show (0 : Int) ≤ 65536 by decide), Int.fdiv_eq_ediv_of_nonneg _ (show (0 : Int) ≤ 16777216 by decide), Int.fdiv_eq_ediv_of_nonneg _ (show (0 : Int) ≤ 1 by decide), List.append_assoc, List.cons_append, List.nil_append]
  congr 1
  simp
theorem nd9 : (List.range 1 ++ [9]).Nodup := by decide
theorem seal_works (l : List Int) (n c : Nat) (hn : n ≤ l.length) (hm : n ≤ 1000000) (hw : wf8 l) : Works Try.prog 16 [bsl 0 n c] [ri l] (bsl 1 (n + 4) (n + 4)) [ri l, oi (sealS (l.take n))] := by
  have q := congrFun (congrFun (congrFun saS l) n) c
  have hbig : List.take n (List.drop 0 (List.take (if n ≤ n then n else n) (List.take n (List.drop 0 l)) ++ List.drop (if n ≤ n then n else n) (List.replicate (Int.toNat ((n : Int) + 4)) (0 : Int)))) = l.take n := by
    rw [if_pos (Nat.le_refl n), List.drop_zero, List.drop_zero, List.take_take, Nat.min_self]
    exact List.take_left' (by rw [List.length_take]; omega)
  have hl : (l.take n).length = n := by rw [List.length_take]; omega
  have hs : crcS (l.take n) = ((4294967295 ^^^ crcN 4294967295 (l.take n) : Nat) : Int) := rfl
  have hlen : ∀ a b : List Int, (List.take n l ++ a).length = n + a.length := fun a _ => by rw [List.length_append, hl]
  rw [hbig, hs, sum_high] at q
  refine works_of (r := [9]) tabC_ok q ?_ nd9 ?_ ?_
  · have hr : (List.take (if n ≤ n then n else n) (List.take n (List.drop 0 l)) ++ List.drop (if n ≤ n then n else n) (List.replicate (Int.toNat ((n : Int) + 4)) (0 : Int))).length = n + 4 := by
      rw [if_pos (Nat.le_refl n), List.drop_zero, List.take_take, Nat.min_self, List.length_append, hl, List.length_drop, List.length_replicate]; omega
    refine ⟨rfl, ?_, ?_, ?_, rfl, ?_, ?_, ?_, rfl, ?_, ?_, ?_, ?_, ?_, ?_, hn, hm, hw, ?_, ?_, ?_, ?_, ?_, ?_, ?_, trivial⟩
    · simp [hl]
    · omega
    · omega
    · simp [hl]
    · omega
    · omega
    · simp [hl]
    · omega
    · omega
    · rw [hr]; omega
    · omega
    · omega
    · omega
    · rw [List.length_replicate]; omega
    · omega
    · omega
    · omega
    · omega
    · omega
  · simp [bsl, leV, leV1, leC, N.v, List.range, List.range.loop]
  · simp [leBs, leB, leCells, ri, oi, sealS]
def gSeal : Sx.Loc := fun args bs => match args, bs with
  | [.v (.one (.slice 0 (.c 0) 1 (.s n) (.s _)))], [⟨false, .ints k l⟩] => match decide (k = .u8) with
    | true => some (bsl 1 (n + 4) (n + 4), [ri l, oi (sealS (l.take n))], [n ≤ l.length, n ≤ 1000000, wf8 l])
    | false => none
  | _, _ => none
theorem seal_tab : TabOk Try.prog 16 (loc frozen8 gSeal) := loc_ok fun xs bs v bs' ob hg hob hokb => by
  unfold gSeal at hg
  split at hg
  · rename_i n c k l
    split at hg
    · rename_i hk
      injection hg with hg; injection hg with e1 e2; injection e2 with e2 e3
      subst e1; subst e2; subst e3
      have hk' : k = .u8 := of_decide_eq_true hk
      subst hk'
      exact seal_works l n c (hob _ (by simp)) (hob (n ≤ 1000000) (by simp)) (hob (wf8 l) (by simp))
    · cases hg
  · cases hg
/-! ### two lists of bytes -/
theorem funE : Try.prog.funcs[37]? = some FE := by kernel_rfl
theorem bodE : FE.body = some (bodyF 37) := by kernel_rfl
theorem tmpE : 2 ≤ FE.ntmps := Nat.le_of_ble_eq_true (by kernel_rfl)
theorem nd2 : (List.range 2 ++ ([] : List Nat)).Nodup := by decide
theorem cap2_works {f : FuncId} {b n c b' n' c' : Nat} {args : List V} {bs bs' : List SB} {v : V} (h : n ≤ c → n' ≤ c' → Works Try.prog f (bsl b n c :: bsl b' n' c' :: args) bs v bs') : Works Try.prog f (bsl b n c :: bsl b' n' c' :: args) bs v bs' := cap_works fun hc => by
  intro ρ K w us hm hu
  have hd : n' ≤ c' := by
    obtain ⟨_, s, _, _, u, s', _, ⟨⟨e, _, hu⟩, _⟩, _⟩ := hu
    rcases hu with ⟨h0, _⟩ | ⟨_, _, _, _, h1, _⟩
    · simp only [N.v] at h0; omega
    · exact h1
  exact h hc hd ρ K w us hm hu
theorem take_eq_iff {l k : List Int} {n : Nat} (hl : n ≤ l.length) (hk : n ≤ k.length) : l.take n = k.take n ↔ ∀ i, i < n → l.getD i 0 = k.getD i 0 := by
  constructor
  · intro h i hi
    rw [← getD_take (l := l) hi, ← getD_take (l := k) hi, h]
  · intro h
    refine List.ext_getElem (by rw [List.length_take, List.length_take]; omega) fun i h1 h2 => ?_
    have hi : i < n := by rw [List.length_take] at h1; omega
    have := h i hi
    rw [List.getD_eq_getElem?_getD, List.getD_eq_getElem?_getD, List.getElem?_eq_getElem (by omega), List.getElem?_eq_getElem (by omega)] at this
    simpa using this
theorem equal_works (l k : List Int) (n c m d : Nat) (hn : n ≤ l.length) (hk : m ≤ k.length) (hx : n ≤ 1000000000) : Works Try.prog 37 [bsl 0 n c, bsl 1 m d] [ri l, ri k] (.v (.one (.sbool (decide (l.take n = k.take m))))) [ri l, ri k] := cap2_works fun hc hd => by
  by_cases hnm : n = m
  · subst hnm
    have hiff := take_eq_iff hn hk
    refine works_loop (I := Nat) (Inv := fun i h => TE l k n c d i h) (good := fun i => i ≤ n ∧ ∀ j, j < i → l.getD j 0 = k.getD j 0) (μ := fun i => n - i) (i := 0) (r := []) (call0_ok 4) funE bodE (by exact tmpE) (fun _ _ => ⟨rfl, rfl⟩)
      (congrFun (congrFun (congrFun (congrFun (congrFun (congrFun eqE l) k) n) c) n) d) (by simp [allP]) ⟨nd2, ?_, ?_⟩ ⟨Nat.zero_le _, fun j h => by omega⟩ ?_
    · simp [TE, bsl, leSlots, leV, leV1, leC, si, List.range, List.range.loop, N.v, hc, hd]
    · simp [TE, leBs, leB, leCells, ri]
    · intro i ⟨hi, hall⟩
      by_cases hlt : i < n
      · have q0 := congrFun (congrFun (congrFun (congrFun (congrFun (congrFun eqR l) k) n) c) d) i
        have q1 := congrFun (congrFun (congrFun (congrFun (congrFun (congrFun eqX0 l) k) n) c) d) i
        by_cases he : l.getD i 0 = k.getD i 0
        · refine .round [true, false] [] _ _ [0, 1, 12, 13] [] _ _ _ (i + 1) q0 ?_ ⟨nd2, ?_, ?_⟩ ⟨hlt, fun j hj => ?_⟩ (by omega)
          · refine ⟨by omega, by simp only [he, decide_true, Bool.not_true], by omega, by omega, by omega, by omega, by omega, by omega, decide_eq_true (by omega), trivial⟩
          · simp [TE, bsl, leSlots, leV, leV1, leC, si, List.range, List.range.loop, N.v, hc, hd]
          · simp [TE, leBs, leB, leCells, ri]
          · by_cases hji : j = i
            · subst hji; exact he
            · exact hall j (by omega)
        · refine .stop [true, true] [] _ _ [] _ _ _ q1 ?_ nd2 ?_ ?_
          · refine ⟨by simp only [decide_eq_false he]; rfl, by omega, by omega, by omega, by omega, by omega, by omega, decide_eq_true (by omega), trivial⟩
          · have : ¬ l.take n = k.take n := fun h => he (hiff.1 h i hlt)
            simp [leV, leV1, leC, this]
          · simp [leBs, leB, leCells, ri]
      · have hin : i = n := by omega
        subst hin
        refine .stop [false] [] _ _ [] _ _ _ (congrFun (congrFun (congrFun (congrFun (congrFun (congrFun eqX1 l) k) i) c) d) i) ?_ nd2 ?_ ?_
        · simp [allP]
        · simp only [leV, leV1, leC, decide_eq_true (hiff.2 hall)]
        · simp [leBs, leB, leCells, ri]
  · refine works_of (r := []) no_tabs (congrFun (congrFun (congrFun (congrFun (congrFun (congrFun eqN l) k) n) c) m) d) ?_ nd2 ?_ ?_
    · have : ¬ (n : Int) = m := by omega
      exact ⟨by simp only [decide_eq_false this]; rfl, trivial⟩
    · have : ¬ l.take n = k.take m := fun h => by
        have := congrArg List.length h
        rw [List.length_take, List.length_take] at this
        omega
      simp [leV, leV1, leC, this]
    · simp [leBs, leB, leCells, ri]
def gEq : Sx.Loc := fun args bs => match args, bs with
  | [.v (.one (.slice 0 (.c 0) 1 (.s n) (.s _))), .v (.one (.slice 1 (.c 0) 1 (.s m) (.s _)))], [⟨false, .ints k l⟩, ⟨false, .ints k' l'⟩] => match decide (k = .u8) && decide (k' = .u8) with
    | true => some (.v (.one (.sbool (decide (l.take n = l'.take m)))), [ri l, ri l'], [n ≤ l.length, m ≤ l'.length, n ≤ 1000000000])
    | false => none
  | _, _ => none
def frozen88 : List V → List Want := fun _ => [(false, .ints .u8), (false, .ints .u8)]
theorem equal_tab : TabOk Try.prog 37 (loc frozen88 gEq) := loc_ok fun xs bs v bs' ob hg hob hokb => by
  unfold gEq at hg
  split at hg
  · rename_i n c m d k l k' l'
    split at hg
    · rename_i hk
      rw [Bool.and_eq_true] at hk
      injection hg with hg; injection hg with e1 e2; injection e2 with e2 e3
      subst e1; subst e2; subst e3
      have h1 : k = .u8 := of_decide_eq_true hk.1
      have h2 : k' = .u8 := of_decide_eq_true hk.2
      subst h1; subst h2
      exact equal_works l l' n c m d (hob _ (by simp)) (hob (m ≤ l'.length) (by simp)) (hob (n ≤ 1000000000) (by simp))
    · cases hg
  · cases hg
/-! ### a copy -/
theorem nd12 : (List.range 1 ++ [2]).Nodup := by decide
theorem nd1z : (List.range 1 ++ ([] : List Nat)).Nodup := by decide
theorem cloneB_works (l : List Int) (n c : Nat) (hn : n ≤ l.length) (hx : n ≤ 1000000000) : Works Try.prog 38 [bsl 0 n c] [ri l] (bsl 1 n n) [ri l, oi (l.take n)] := by
  by_cases h0 : n = 0
  · subst h0
    intro ρ K w us hm hu
    obtain ⟨u, s, rfl, ⟨⟨e, he, hu⟩, h1c⟩, hs⟩ := hu
    simp only [relVs] at hs; subst hs
    rcases hu with ⟨_, _, rfl⟩ | ⟨o, sp, cap, rfl, _⟩
    · refine (works_of (r := []) (bs := [ri l]) (args := [.v (.one .nils)]) (v := .v (.one .nils)) (bs' := [ri l]) no_tabs (congrFun cl2 l) trivial nd1z trivial ⟨⟨fun h => h, rfl, rfl⟩, trivial⟩ ρ K w [.slice none 0 0] hm ⟨_, _, rfl, ⟨rfl, rfl⟩, rfl⟩).mono fun e w' ⟨u, ρ', he, hv, hm'⟩ => ?_
      have hg := hm'.beside (ghost_rel w' (.ints .u8 []) (fun ρ g i r h => by simp at h) rfl) rfl
      have hl := hm'.len
      refine ⟨u, ρ' ++ [⟨0, 0, 0⟩], he, ?_, ?_⟩
      · obtain ⟨hv1, hv2⟩ := hv
        simp only [C.rel] at hv1
        refine ⟨⟨⟨0, 0, 0⟩, ?_, .inl ⟨rfl, rfl, hv1⟩⟩, hv2⟩
        rw [← List.append_assoc, List.getElem?_append_right (by rw [hl]; simp)]
        rw [hl]; rfl
      · rw [← List.append_assoc]; exact hg
    · refine (works_of (r := [2]) (bs := [ri l]) (v := bsl 1 0 0) (bs' := [ri l, oi []]) no_tabs (congrFun (congrFun (congrFun cl3 l) ⟨e.blk, o, sp⟩) cap) trivial nd12 ⟨rfl, rfl, rfl, rfl, Nat.le_refl _, Nat.le_refl _⟩ ⟨⟨fun h => h, rfl, rfl⟩, ⟨fun h => h, trivial⟩, trivial⟩ ρ K w _ hm ⟨_, _, rfl, ⟨rfl, h1c⟩, rfl⟩)
  · refine works_of (r := [2]) no_tabs (congrFun (congrFun (congrFun cl1 l) n) c) ⟨by omega, by omega, by omega, by omega, trivial⟩ nd12 ⟨rfl, rfl, rfl, rfl, Nat.le_refl _, Nat.le_refl _⟩ ⟨⟨fun h => h, rfl, rfl⟩, ⟨fun h => h, rfl, rfl⟩, trivial⟩
def gCloneB : Sx.Loc := fun args bs => match args, bs with
  | [.v (.one (.slice 0 (.c 0) 1 (.s n) (.s _)))], [⟨false, .ints k l⟩] => match decide (k = .u8) with
    | true => some (bsl 1 n n, [ri l, oi (l.take n)], [n ≤ l.length, n ≤ 1000000000])
    | false => none
  | _, _ => none
theorem cloneB_tab : TabOk Try.prog 38 (loc frozen8 gCloneB) := loc_ok fun xs bs v bs' ob hg hob hokb => by
  unfold gCloneB at hg
  split at hg
  · rename_i n c k l
    split at hg
    · rename_i hk
      injection hg with hg; injection hg with e1 e2; injection e2 with e2 e3
      subst e1; subst e2; subst e3
      have hk' : k = .u8 := of_decide_eq_true hk
      subst hk'
      exact cloneB_works l n c (hob _ (by simp)) (hob (n ≤ 1000000000) (by simp))
    · cases hg
  · cases hg
end
section
open Go.Sx
def tabUn := tabs [(16, loc frozen8 gSeal), (37, loc frozen88 gEq), (38, loc frozen8 gCloneB)]
noncomputable def callUn (d : Nat) := callN Try.prog tabUn (fun _ => false) 100000 d
theorem un0 : (fun (l : List Int) (n c : Nat) => retV [0] (callUn 4 17 [bsl 0 n c] [ri l] [true])) = fun (l : List Int) (n : Nat) (c : Nat) => some (((V.tup [(V1.one (C.nils)), (V1.one (C.int (IntKind.i64) ((11 : Int))))]), ([(SB.mk (false) (Cells.ints (IntKind.u8) (l)))], [decide ((↑n : Int) - (4 : Int) < (0 : Int)) = true, (-9223372036854775808 : Int) ≤ (↑n : Int) - (4 : Int) ∧ (↑n : Int) - (4 : Int) ≤ (9223372036854775807 : Int)]))) := by kernel_rfl
theorem un1 : (fun (l : List Int) (n c : Nat) => retV [0] (callUn 4 17 [bsl 0 n c] [ri l] [false, true])) = fun (l : List Int) (n : Nat) (c : Nat) => some (((V.tup [(V1.one (C.nils)), (V1.one (C.int (IntKind.i64) ((12 : Int))))]), ([(SB.mk (false) (Cells.ints (IntKind.u8) (l)))], [(!decide (List.take (Nat.add (Int.toNat ((↑n : Int) - (4 : Int))) (4 : Nat)) (sealS (List.take (Int.toNat ((↑n : Int) - (4 : Int))) l)) = List.take n l)) = true, Nat.add (Int.toNat ((↑n : Int) - (4 : Int))) (4 : Nat) ≤ List.length (sealS (List.take (Int.toNat ((↑n : Int) - (4 : Int))) l)), n ≤ List.length l, Nat.add (Int.toNat ((↑n : Int) - (4 : Int))) (4 : Nat) ≤ (1000000000 : Nat), Int.toNat ((↑n : Int) - (4 : Int)) ≤ List.length l, Int.toNat ((↑n : Int) - (4 : Int)) ≤ (1000000 : Nat), wf8 l, (0 : Int) ≤ (↑n : Int) - (4 : Int), (↑n : Int) - (4 : Int) ≤ (↑c : Int), decide ((↑n : Int) - (4 : Int) < (0 : Int)) = false, (-9223372036854775808 : Int) ≤ (↑n : Int) - (4 : Int) ∧ (↑n : Int) - (4 : Int) ≤ (9223372036854775807 : Int)]))) := by kernel_rfl
theorem un2 : (fun (l : List Int) (n c : Nat) => retV [0, 2] (callUn 4 17 [bsl 0 n c] [ri l] [false, false])) = fun (l : List Int) (n : Nat) (c : Nat) => some (((V.tup [(V1.one (C.slice ((2 : Nat)) (N.c ((0 : Nat))) ((1 : Nat)) (N.s (Int.toNat ((↑n : Int) - (4 : Int)))) (N.s (Int.toNat ((↑n : Int) - (4 : Int)))))), (V1.one (C.int (IntKind.i64) ((0 : Int))))]), ([(SB.mk (false) (Cells.ints (IntKind.u8) (l))), (SB.mk (true) (Cells.ints (IntKind.u8) (List.take (Int.toNat ((↑n : Int) - (4 : Int))) l)))], [Int.toNat ((↑n : Int) - (4 : Int)) ≤ List.length l, Int.toNat ((↑n : Int) - (4 : Int)) ≤ (1000000000 : Nat), (0 : Int) ≤ (↑n : Int) - (4 : Int), (↑n : Int) - (4 : Int) ≤ (↑c : Int), (!decide (List.take (Nat.add (Int.toNat ((↑n : Int) - (4 : Int))) (4 : Nat)) (sealS (List.take (Int.toNat ((↑n : Int) - (4 : Int))) l)) = List.take n l)) = false, Nat.add (Int.toNat ((↑n : Int) - (4 : Int))) (4 : Nat) ≤ List.length (sealS (List.take (Int.toNat ((↑n : Int) - (4 : Int))) l)), n ≤ List.length l, Nat.add (Int.toNat ((↑n : Int) - (4 : Int))) (4 : Nat) ≤ (1000000000 : Nat), Int.toNat ((↑n : Int) - (4 : Int)) ≤ List.length l, Int.toNat ((↑n : Int) - (4 : Int)) ≤ (1000000 : Nat), wf8 l, (0 : Int) ≤ (↑n : Int) - (4 : Int), (↑n : Int) - (4 : Int) ≤ (↑c : Int), decide ((↑n : Int) - (4 : Int) < (0 : Int)) = false, (-9223372036854775808 : Int) ≤ (↑n : Int) - (4 : Int) ∧ (↑n : Int) - (4 : Int) ≤ (9223372036854775807 : Int)]))) := by kernel_rfl
end
section
open Go.ChangeShapes Go.WideShapes Go.ChangeAt Go.RowKit Go.Sx
theorem tabUn_ok : ∀ f g, tabUn f = some g → TabOk Try.prog f g := tabs_ok fun x hx => by
  simp only [List.mem_cons, List.not_mem_nil, or_false] at hx
  rcases hx with rfl | rfl | rfl
  · exact seal_tab
  · exact equal_tab
  · exact cloneB_tab
def tupB (b n : Nat) (e : Int) : V := .tup [.one (.slice b (.c 0) 1 (.s n) (.s n)), .one (.sint .i64 e)]
theorem ghost_tup {f : FuncId} {args : List V} {l : List Int} {e : Int} (h : Works Try.prog f args [ri l] (.tup [.one .nils, .one (.sint .i64 e)]) [ri l]) : Works Try.prog f args [ri l] (tupB 1 0 e) [ri l, oi []] := by
  intro ρ K w us hm hu
  refine (h ρ K w us hm hu).mono fun en w' ⟨u, ρ', he, hv, hm'⟩ => ?_
  have hg := hm'.beside (ghost_rel w' (.ints .u8 []) (fun ρ g i r h => by simp at h) rfl) rfl
  have hl := hm'.len
  refine ⟨u, ρ' ++ [⟨0, 0, 0⟩], he, ?_, ?_⟩
  · obtain ⟨vs, hv1, hv2⟩ := hv
    refine ⟨vs, hv1, ?_⟩
    obtain ⟨v1, s1, rfl, ⟨h1, h1'⟩, h2⟩ := hv2
    simp only [C.rel] at h1
    refine ⟨v1, s1, rfl, ⟨⟨⟨0, 0, 0⟩, ?_, .inl ⟨rfl, rfl, h1⟩⟩, h1'⟩, ?_⟩
    · rw [← List.append_assoc, List.getElem?_append_right (by rw [hl]; simp)]
      rw [hl]; rfl
    · obtain ⟨v2, s2, rfl, ⟨h3, h3'⟩, h4⟩ := h2
      exact ⟨v2, s2, rfl, ⟨h3, h3'⟩, h4⟩
  · rw [← List.append_assoc]; exact hg
theorem unseal_works (l : List Int) (n c : Nat) (hn : n ≤ l.length) (hm : n ≤ 1000000) (hw : wf8 l) : Works Try.prog 17 [bsl 0 n c] [ri l] (tupB 1 (unsealS (l.take n)).1.length (unsealS (l.take n)).2) [ri l, oi (unsealS (l.take n)).1] := cap_works fun hc => by
  have hl : (l.take n).length = n := by rw [List.length_take]; omega
  have q0 := congrFun (congrFun (congrFun un0 l) n) c
  have q1 := congrFun (congrFun (congrFun un1 l) n) c
  have q2 := congrFun (congrFun (congrFun un2 l) n) c
  by_cases h4 : n < 4
  · have e : unsealS (l.take n) = ([], 11) := by unfold unsealS; rw [if_pos (by omega)]
    rw [e]
    refine ghost_tup (works_of (r := []) tabUn_ok q0 ⟨decide_eq_true (by omega), by omega, trivial⟩ nd1z ?_ ?_)
    · simp [leV, leL1, leV1, leC]
    · simp [leBs, leB, leCells, ri]
  · have e1 : Int.toNat ((n : Int) - 4) = n - 4 := by omega
    have e2 : (sealS (l.take (n - 4))).length = n := by rw [seal_len, List.length_take]; omega
    have e3 : Nat.add (n - 4) 4 = n := by show n - 4 + 4 = n; omega
    have e4 : List.take n (sealS (l.take (n - 4))) = sealS (l.take (n - 4)) := List.take_of_length_le (by omega)
    have e5 : (l.take n).take ((l.take n).length - 4) = l.take (n - 4) := by rw [hl, List.take_take, Nat.min_eq_left (by omega)]
    rw [e1, e3, e4] at q1 q2
    by_cases hs : sealS (l.take (n - 4)) = l.take n
    · have e : unsealS (l.take n) = (l.take (n - 4), 0) := by unfold unsealS; rw [if_neg (by omega), e5, if_pos hs]
      rw [e]
      have hl4 : (l.take (n - 4)).length = n - 4 := by rw [List.length_take]; omega
      refine works_of (r := [2]) tabUn_ok q2 ⟨by omega, by omega, by omega, by omega, by rw [decide_eq_true hs]; rfl, by omega, hn, by omega, by omega, by omega, hw, by omega, by omega, decide_eq_false (by omega), by omega, trivial⟩ nd12 ?_ ?_
      · simp [tupB, leV, leL1, leV1, leC, N.v, List.range, List.range.loop, hl4]
      · simp [leBs, leB, leCells, ri, oi]
    · have e : unsealS (l.take n) = ([], 12) := by unfold unsealS; rw [if_neg (by omega), e5, if_neg hs]
      rw [e]
      refine ghost_tup (works_of (r := []) tabUn_ok q1 ⟨by rw [decide_eq_false hs]; rfl, by omega, hn, by omega, by omega, by omega, hw, by omega, by omega, decide_eq_false (by omega), by omega, trivial⟩ nd1z ?_ ?_)
      · simp [leV, leL1, leV1, leC]
      · simp [leBs, leB, leCells, ri]
def gUnseal : Sx.Loc := fun args bs => match args, bs with
  | [.v (.one (.slice 0 (.c 0) 1 (.s n) (.s _)))], [⟨false, .ints k l⟩] => match decide (k = .u8) with
    | true => some (tupB 1 (unsealS (l.take n)).1.length (unsealS (l.take n)).2, [ri l, oi (unsealS (l.take n)).1], [n ≤ l.length, n ≤ 1000000, wf8 l])
    | false => none
  | _, _ => none
theorem unseal_tab : TabOk Try.prog 17 (loc frozen8 gUnseal) := loc_ok fun xs bs v bs' ob hg hob hokb => by
  unfold gUnseal at hg
  split at hg
  · rename_i n c k l
    split at hg
    · rename_i hk
      injection hg with hg; injection hg with e1 e2; injection e2 with e2 e3
      subst e1; subst e2; subst e3
      have hk' : k = .u8 := of_decide_eq_true hk
      subst hk'
      exact unseal_works l n c (hob _ (by simp)) (hob (n ≤ 1000000) (by simp)) (hob (wf8 l) (by simp))
    · cases hg
  · cases hg
end
section
open Go.ChangeShapes Go.WideShapes Go.ChangeAt Go.RowKit Go.Sx
/-- so many bits of n, the lowest one first, behind s -/
def revA : Nat → Nat → Nat → Nat
  | 0, _, s => s
  | k + 1, n, s => revA k (n / 2) (s * 2 + n % 2)
theorem revA_bit : ∀ (k n s j : Nat), (revA k n s).testBit j = if j < k then n.testBit (k - 1 - j) else s.testBit (j - k)
  | 0, n, s, j => by simp [revA]
  | k + 1, n, s, j => by
    rw [revA, revA_bit k]
    by_cases h : j < k
    · rw [if_pos h, if_pos (by omega), show k + 1 - 1 - j = (k - 1 - j) + 1 by omega, Nat.testBit_succ]
    · rw [if_neg h]
      by_cases h2 : j = k
      · subst h2
        rw [if_pos (by omega), Nat.sub_self, show j + 1 - 1 - j = 0 by omega, Nat.testBit_zero, Nat.testBit_zero]
        congr 2; omega
      · rw [if_neg (by omega), show j - k = (j - (k + 1)) + 1 by omega, Nat.testBit_succ, show (s * 2 + n % 2) / 2 = s by omega]
def R32 (n : Nat) : Nat := revA 32 n 0
theorem R32_bit (n j : Nat) : (R32 n).testBit j = (decide (j < 32) && n.testBit (31 - j)) := by
  unfold R32
  rw [revA_bit]
  by_cases h : j < 32
  · rw [if_pos h, decide_eq_true h]; simp
  · rw [if_neg h, decide_eq_false h]; simp
theorem R32_lt (n : Nat) : R32 n < 4294967296 := by
  have := Nat.lt_pow_two_of_testBit (n := 32) (R32 n) fun i hi => by rw [R32_bit, decide_eq_false (by omega)]; rfl
  simpa using this
theorem R32_xor (a b : Nat) : R32 (a ^^^ b) = R32 a ^^^ R32 b := Nat.eq_of_testBit_eq fun j => by
  rw [Nat.testBit_xor, R32_bit, R32_bit, R32_bit, Nat.testBit_xor]
  cases decide (j < 32) <;> simp
theorem high_bit {n j : Nat} (h : n < 4294967296) (hj : 32 ≤ j) : n.testBit j = false :=
  Nat.testBit_lt_two_pow (Nat.lt_of_lt_of_le h (Nat.pow_le_pow_right (show 0 < 2 by decide) hj))
theorem R32_half {n : Nat} (h : n < 4294967296) : R32 n * 2 % 4294967296 = R32 (n / 2) := Nat.eq_of_testBit_eq fun j => by
  rw [show (4294967296 : Nat) = 2 ^ 32 from rfl, Nat.testBit_mod_two_pow, R32_bit]
  cases j with
  | zero =>
    rw [Nat.testBit_zero, show R32 n * 2 % 2 = 0 by omega, ← Nat.testBit_succ, high_bit h (by omega)]
    simp
  | succ j =>
    rw [Nat.testBit_succ, show R32 n * 2 / 2 = R32 n by omega, R32_bit, ← Nat.testBit_succ]
    by_cases hj : j + 1 < 32
    · rw [decide_eq_true hj, decide_eq_true (by omega : j < 32), show (31 - (j + 1)).succ = 31 - j by omega]; rfl
    · rw [decide_eq_false hj]; rfl
theorem R32_top (n : Nat) : 2147483648 ≤ R32 n ↔ n % 2 = 1 := by
  have h1 := R32_bit n 31
  rw [Nat.testBit_eq_decide_div_mod_eq] at h1
  have h2 := R32_lt n
  have h3 : n.testBit (31 - 31) = decide (n % 2 = 1) := Nat.testBit_zero n
  rw [h3] at h1
  have h4 : decide (R32 n / 2147483648 % 2 = 1) = decide (n % 2 = 1) := by simpa using h1
  have h5 := decide_eq_decide.1 h4
  omega
/-- a bit's step, from the low end -/
def bstp (c b : Nat) : Nat := c / 2 ^^^ (if (c % 2 = 1) ↔ (b = 1) then 0 else 3988292384)
/-- and from the high end -/
def lstp (c b : Nat) : Nat := if (2147483648 ≤ c) ↔ (b = 1) then c * 2 % 4294967296 else c * 2 % 4294967296 ^^^ 79764919
theorem bstp_lt {c b : Nat} (h : c < 4294967296) : bstp c b < 4294967296 := by
  unfold bstp
  exact Nat.xor_lt_two_pow (n := 32) (by omega) (by split <;> decide)
theorem lstp_eq {c b : Nat} (h : c < 4294967296) : lstp (R32 c) b = R32 (bstp c b) := by
  unfold lstp bstp
  rw [R32_half h, R32_xor]
  simp only [R32_top]
  split
  · rw [show R32 0 = 0 from rfl, Nat.xor_zero]
  · rw [show R32 3988292384 = 79764919 by decide]
def bits8 (c x : Nat) : Nat → Nat
  | 0 => c
  | k + 1 => bstp (bits8 c x k) (x / 2 ^ k % 2)
def lits8 (c x : Nat) : Nat → Nat
  | 0 => c
  | k + 1 => lstp (lits8 c x k) (x / 2 ^ k % 2)
theorem bits8_lt {c x : Nat} (h : c < 4294967296) : ∀ k, bits8 c x k < 4294967296
  | 0 => h
  | k + 1 => bstp_lt (bits8_lt h k)
theorem lits8_eq {c x : Nat} (h : c < 4294967296) : ∀ k, lits8 (R32 c) x k = R32 (bits8 c x k)
  | 0 => rfl
  | k + 1 => by
    show lstp (lits8 (R32 c) x k) _ = R32 (bstp (bits8 c x k) _)
    rw [lits8_eq h k, lstp_eq (bits8_lt h k)]
def zst (z : Nat) : Nat := z / 2 ^^^ (if z % 2 = 1 then 3988292384 else 0)
def zsts : Nat → Nat → Nat
  | 0, z => z
  | k + 1, z => zst (zsts k z)
theorem xor_half (a b : Nat) : (a ^^^ b) / 2 = a / 2 ^^^ b / 2 := by
  have := Nat.shiftRight_xor_distrib (a := a) (b := b) (i := 1)
  simpa [Nat.shiftRight_eq_div_pow] using this
theorem zst_shift (h m : Nat) : zst (h * 2 ^^^ m) = h ^^^ zst m := by
  unfold zst
  have e1 : (h * 2 ^^^ m) % 2 = m % 2 := by
    have := Nat.xor_mod_two_pow (a := h * 2) (b := m) (n := 1)
    rw [Nat.pow_one, Nat.mul_mod_left, Nat.zero_xor] at this
    exact this
  rw [e1, xor_half, Nat.mul_div_cancel _ (by decide), Nat.xor_assoc]
theorem splitN16 (z : Nat) : z / 16 * 16 ^^^ z % 16 = z := Nat.eq_of_testBit_eq fun j => by
  rw [Nat.testBit_xor, show (16 : Nat) = 2 ^ 4 from rfl, Nat.testBit_mul_two_pow, Nat.testBit_div_two_pow, Nat.testBit_mod_two_pow]
  by_cases h : 4 ≤ j
  · rw [decide_eq_true h, decide_eq_false (by omega), show j - 4 + 4 = j by omega]; simp
  · rw [decide_eq_false h, decide_eq_true (by omega)]; simp
theorem zst4 (z : Nat) : zsts 4 z = nib z := by
  have hm : ∀ m : Nat, m < 16 → zst (zst (zst (zst m))) = tabN.getD m 0 := by decide
  show zst (zst (zst (zst z))) = _
  conv => lhs; rw [← splitN16 z]
  rw [show z / 16 * 16 = (z / 16 * 8) * 2 by omega, zst_shift, show z / 16 * 8 = (z / 16 * 4) * 2 by omega, zst_shift, show z / 16 * 4 = (z / 16 * 2) * 2 by omega, zst_shift, zst_shift, hm _ (Nat.mod_lt _ (by decide))]
  rfl
theorem bits8_z (c x : Nat) : ∀ k, bits8 c x k ^^^ x / 2 ^ k = zsts k (c ^^^ x)
  | 0 => by simp [bits8, zsts]
  | k + 1 => by
    show bstp (bits8 c x k) (x / 2 ^ k % 2) ^^^ x / 2 ^ (k + 1) = zst (zsts k (c ^^^ x))
    rw [← bits8_z c x k]
    unfold bstp zst
    have e : x / 2 ^ (k + 1) = x / 2 ^ k / 2 := by rw [Nat.pow_succ, Nat.div_div_eq_div_mul]
    rw [e, xor_half]
    have hp : ((bits8 c x k ^^^ x / 2 ^ k) % 2 = 1) ↔ ¬ ((bits8 c x k % 2 = 1) ↔ (x / 2 ^ k % 2 = 1)) := Nat.xor_mod_two_eq_one
    by_cases h : (bits8 c x k % 2 = 1) ↔ (x / 2 ^ k % 2 = 1)
    · rw [if_pos h, if_neg (fun h' => hp.1 h' h), Nat.xor_zero, Nat.xor_zero]
    · rw [if_neg h, if_pos (hp.2 h)]
      rw [Nat.xor_assoc, Nat.xor_assoc, Nat.xor_comm 3988292384]
theorem bits8_eq {c x : Nat} (hx : x < 256) : bits8 c x 8 = byteStep c x := by
  have h := bits8_z c x 8
  rw [show x / 2 ^ 8 = 0 by omega, Nat.xor_zero] at h
  rw [h]
  show zst (zst (zst (zst (zst (zst (zst (zst (c ^^^ x)))))))) = nib (nib (c ^^^ x))
  rw [← zst4, ← zst4]
  rfl
def lbyte (c x : Nat) : Nat := lits8 c x 8
theorem lbyte_eq {c x : Nat} (h : c < 4294967296) (hx : x < 256) : lbyte (R32 c) x = R32 (byteStep c x) := by
  unfold lbyte
  rw [lits8_eq h, bits8_eq hx]
/-- a list's sum, from the high end -/
def lcrc (c : Nat) (l : List Int) : Nat := l.foldl (fun a x => lbyte a x.toNat) c
theorem lcrc_nil (c : Nat) : lcrc c [] = c := by unfold lcrc; rw [List.foldl_nil]
theorem lcrc_cons (c : Nat) (x : Int) (r : List Int) : lcrc c (x :: r) = lcrc (lbyte c x.toNat) r := by unfold lcrc; rw [List.foldl_cons]
theorem crcN_nil (c : Nat) : crcN c [] = c := by unfold crcN; exact Eq.refl c
theorem crcN_cons (c : Nat) (x : Int) (r : List Int) : crcN c (x :: r) = crcN (byteStep c x.toNat) r := crcN_app [x] r c
theorem lcrc_eq {l : List Int} : ∀ {c : Nat}, c < 4294967296 → wf8 l → lcrc (R32 c) l = R32 (crcN c l) := by
  induction l with
  | nil => intro c _ _; rw [lcrc_nil, crcN_nil]
  | cons x r ih =>
    intro c h hw
    have hx := hw x (by simp)
    rw [lcrc_cons, crcN_cons, lbyte_eq h (by omega), ih (byteStep_lt h (by omega)) fun y hy => hw y (by simp [hy])]
theorem lcrc_app (a b : List Int) : ∀ c : Nat, lcrc c (a ++ b) = lcrc (lcrc c a) b := by
  induction a with
  | nil => intro c; rw [lcrc_nil]; rfl
  | cons x r ih => intro c; rw [List.cons_append, lcrc_cons, lcrc_cons, ih]
theorem R32_not {c : Nat} (h : c < 4294967296) : R32 (4294967295 - R32 c) = 4294967295 ^^^ c := Nat.eq_of_testBit_eq fun j => by
  have hb := Nat.testBit_two_pow_sub_succ (n := 32) (x := R32 c) (by have := R32_lt c; simpa using this)
  rw [R32_bit, show 4294967295 - R32 c = 2 ^ 32 - (R32 c + 1) by omega, hb, R32_bit, Nat.testBit_xor, show (4294967295 : Nat) = 2 ^ 32 - 1 from rfl, Nat.testBit_two_pow_sub_one]
  by_cases hj : j < 32
  · rw [decide_eq_true hj, decide_eq_true (by omega : 31 - j < 32), show 31 - (31 - j) = j by omega]; simp
  · rw [decide_eq_false hj, high_bit (j := j) h (by omega)]; rfl
/-- the sum told from the high end is the sum -/
theorem lcrc_sum {l : List Int} (hw : wf8 l) : ((R32 (4294967295 - lcrc 4294967295 l) : Nat) : Int) = crcS l := by
  have h := lcrc_eq (c := 4294967295) (l := l) (by decide) hw
  rw [show R32 4294967295 = 4294967295 by decide] at h
  rw [h, R32_not (crcN_lt (by decide) hw)]
  rfl
end
section
open Go.Sx
noncomputable def LRc := loopN Try.prog 27 1
noncomputable def ERc : List Item := .code (.loop LRc.1) :: LRc.2
noncomputable def KRc : List Item := .inLoop LRc.1 :: LRc.2
noncomputable def FRc : Go.Func := match Try.prog.funcs[27]? with | some fn => fn | none => default
def TRc (l : List Int) (n p : Nat) (c : Int) (i k : Nat) (h : List Bool) : St := ⟨[(0, bsl 0 n p), (3, si .u32 c), (4, si .i64 i), (5, si .u64 k)], [ri l], h, []⟩
noncomputable def rndRc (lim : Nat) (ls h : List Bool) (l : List Int) (n p : Nat) (c : Int) (i k : Nat) := run Try.prog (call0 4) (fun _ => false) FRc lim 100000 ls (.code LRc.1 :: .inLoop LRc.1 :: LRc.2) (TRc l n p c i k h)
theorem rcE : (fun (l : List Int) (n p : Nat) => stopV [0, 3, 4, 5] [0] (run Try.prog (call0 4) (fun _ => false) FRc 0 100000 [true, false] [.code (bodyF 27)] ⟨argSlots 0 [bsl 0 n p], [ri l], [true], []⟩)) = fun (l : List Int) (n : Nat) (p : Nat) => some ((ERc, ([(((0 : Nat)), (V.v (V1.one (C.slice ((0 : Nat)) (N.c ((0 : Nat))) ((1 : Nat)) (N.s (n)) (N.s (p)))))), (((3 : Nat)), (V.v (V1.one (C.int (IntKind.u32) ((4294967295 : Int)))))), (((4 : Nat)), (V.v (V1.one (C.int (IntKind.i64) ((0 : Int)))))), (((5 : Nat)), (V.v (V1.one (C.int (IntKind.u64) ((0 : Int))))))], ([(SB.mk (false) (Cells.ints (IntKind.u8) (l)))], [decide ((0 : Int) < (↑n : Int)) = true])))) := by kernel_rfl
theorem rcZ : (fun (l : List Int) (n p : Nat) => retV [0] (call0 4 27 [bsl 0 n p] [ri l] [false])) = fun (l : List Int) (n : Nat) (p : Nat) => some (((V.v (V1.one (C.int (IntKind.u32) ((0 : Int))))), ([(SB.mk (false) (Cells.ints (IntKind.u8) (l)))], [decide ((0 : Int) < (↑n : Int)) = false]))) := by kernel_rfl
theorem rcT : (fun (l : List Int) (n p : Nat) (c : Int) (i k : Nat) => stopV [0, 3, 4, 5] [0] (rndRc (LRc.2.length + 1) [] [true, true] l n p c i k)) = fun (l : List Int) (n : Nat) (p : Nat) (c : Int) (i : Nat) (k : Nat) => some ((KRc, ([(((0 : Nat)), (V.v (V1.one (C.slice ((0 : Nat)) (N.c ((0 : Nat))) ((1 : Nat)) (N.s (n)) (N.s (p)))))), (((3 : Nat)), (V.v (V1.one (C.sint (IntKind.u32) (Go.bits Go.BinOp.xor IntKind.u32 (IntKind.wrap IntKind.u32 (c * (2 : Int))) (79764919 : Int)))))), (((4 : Nat)), (V.v (V1.one (C.sint (IntKind.i64) ((↑i : Int)))))), (((5 : Nat)), (V.v (V1.one (C.sint (IntKind.u64) (IntKind.wrap IntKind.u64 ((↑k : Int) + (1 : Int)))))))], ([(SB.mk (false) (Cells.ints (IntKind.u8) (l)))], [(!decide ((2147483648 : Int) ≤ c) == decide (Int.tmod (Int.fdiv (List.getD l (i) (0 : Int)) ((2 : Int) ^ if k ≤ (8 : Nat) then k else (8 : Nat))) (2 : Int) = (1 : Int))) = true, (0 : Int) ≤ (↑k : Int), i < List.length l, (0 : Int) ≤ (↑i : Int), (↑i : Int) < (↑n : Int), decide ((↑k : Int) < (8 : Int)) = true])))) := by kernel_rfl
theorem rcF : (fun (l : List Int) (n p : Nat) (c : Int) (i k : Nat) => stopV [0, 3, 4, 5] [0] (rndRc (LRc.2.length + 1) [] [true, false] l n p c i k)) = fun (l : List Int) (n : Nat) (p : Nat) (c : Int) (i : Nat) (k : Nat) => some ((KRc, ([(((0 : Nat)), (V.v (V1.one (C.slice ((0 : Nat)) (N.c ((0 : Nat))) ((1 : Nat)) (N.s (n)) (N.s (p)))))), (((3 : Nat)), (V.v (V1.one (C.sint (IntKind.u32) (IntKind.wrap IntKind.u32 (c * (2 : Int))))))), (((4 : Nat)), (V.v (V1.one (C.sint (IntKind.i64) ((↑i : Int)))))), (((5 : Nat)), (V.v (V1.one (C.sint (IntKind.u64) (IntKind.wrap IntKind.u64 ((↑k : Int) + (1 : Int)))))))], ([(SB.mk (false) (Cells.ints (IntKind.u8) (l)))], [(!decide ((2147483648 : Int) ≤ c) == decide (Int.tmod (Int.fdiv (List.getD l (i) (0 : Int)) ((2 : Int) ^ if k ≤ (8 : Nat) then k else (8 : Nat))) (2 : Int) = (1 : Int))) = false, (0 : Int) ≤ (↑k : Int), i < List.length l, (0 : Int) ≤ (↑i : Int), (↑i : Int) < (↑n : Int), decide ((↑k : Int) < (8 : Int)) = true])))) := by kernel_rfl
theorem rcN : (fun (l : List Int) (n p : Nat) (c : Int) (i k : Nat) => stopV [0, 3, 4, 5] [0] (rndRc 0 [false] [false, true] l n p c i k)) = fun (l : List Int) (n : Nat) (p : Nat) (c : Int) (i : Nat) (k : Nat) => some ((ERc, ([(((0 : Nat)), (V.v (V1.one (C.slice ((0 : Nat)) (N.c ((0 : Nat))) ((1 : Nat)) (N.s (n)) (N.s (p)))))), (((3 : Nat)), (V.v (V1.one (C.sint (IntKind.u32) (c))))), (((4 : Nat)), (V.v (V1.one (C.sint (IntKind.i64) ((↑i : Int) + (1 : Int)))))), (((5 : Nat)), (V.v (V1.one (C.int (IntKind.u64) ((0 : Int))))))], ([(SB.mk (false) (Cells.ints (IntKind.u8) (l)))], [decide ((↑i : Int) + (1 : Int) < (↑n : Int)) = true, (-9223372036854775808 : Int) ≤ (↑i : Int) + (1 : Int) ∧ (↑i : Int) + (1 : Int) ≤ (9223372036854775807 : Int), decide ((↑k : Int) < (8 : Int)) = false])))) := by kernel_rfl
def rvI : Nat → Int → Int → Int
  | 0, _, s => s
  | k + 1, n, s => rvI k (Int.tdiv n 2) (IntKind.wrap .u32 (IntKind.wrap .u32 (s * 2) + Int.tmod n 2))
def obRv : Nat → Int → List Prop
  | 0, _ => []
  | k + 1, n => obRv k (Int.tdiv n 2) ++ [0 ≤ Int.tdiv n 2 ∧ Int.tdiv n 2 ≤ 4294967295]
theorem rcX : (fun (l : List Int) (n p : Nat) (c : Int) (i k : Nat) => endV [0] (rndRc 0 [] [false, false] l n p c i k)) = fun (l : List Int) (n _ : Nat) (c : Int) (i k : Nat) => some (si .u32 (rvI 32 (IntKind.wrap .u32 (4294967295 - c)) 0), [ri l], obRv 32 (IntKind.wrap .u32 (4294967295 - c)) ++ [decide ((i : Int) + 1 < (n : Int)) = false, -9223372036854775808 ≤ (i : Int) + 1 ∧ (i : Int) + 1 ≤ 9223372036854775807, decide ((k : Int) < 8) = false]) := by kernel_rfl
end
section
open Go.ChangeShapes Go.WideShapes Go.ChangeAt Go.RowKit Go.Sx
theorem funRc : Try.prog.funcs[27]? = some FRc := by kernel_rfl
theorem bodRc : FRc.body = some (bodyF 27) := by kernel_rfl
theorem tmpRc : 1 ≤ FRc.ntmps := Nat.le_of_ble_eq_true (by kernel_rfl)
theorem wu32 (n : Int) : IntKind.wrap .u32 n = n % 4294967296 := by simp [IntKind.wrap, IntKind.signed, IntKind.bits]
theorem rvI_eq : ∀ (k n s : Nat), k ≤ 32 → s < 2 ^ (32 - k) → rvI k (n : Int) (s : Int) = ((revA k n s : Nat) : Int)
  | 0, _, _, _, _ => rfl
  | k + 1, n, s, hk, hs => by
    have hp : 2 ^ (32 - k) = 2 ^ (32 - (k + 1)) * 2 := by rw [← Nat.pow_succ]; congr 1; omega
    have hq : 2 ^ (32 - k) ≤ 2 ^ 32 := Nat.pow_le_pow_right (show 0 < 2 by decide) (by omega)
    have e1 : Int.tdiv (n : Int) 2 = ((n / 2 : Nat) : Int) := by rw [Int.tdiv_eq_ediv_of_nonneg (by omega)]; omega
    have e2 : IntKind.wrap .u32 (IntKind.wrap .u32 ((s : Int) * 2) + Int.tmod (n : Int) 2) = ((s * 2 + n % 2 : Nat) : Int) := by
      rw [Int.tmod_eq_emod_of_nonneg (by omega), wu32, wu32]
      omega
    rw [rvI, e1, e2, rvI_eq k (n / 2) (s * 2 + n % 2) (by omega) (by omega), revA]
theorem obRv_all : ∀ (k n : Nat), n ≤ 4294967295 → allP (obRv k (n : Int))
  | 0, _, _ => trivial
  | k + 1, n, hn => by
    have e1 : Int.tdiv (n : Int) 2 = ((n / 2 : Nat) : Int) := by rw [Int.tdiv_eq_ediv_of_nonneg (by omega)]; omega
    rw [obRv, e1]
    exact allP_app (obRv_all k (n / 2) (by omega)) ⟨⟨by omega, by omega⟩, trivial⟩
def stC (l : List Int) (i k : Nat) : Nat := lits8 (lcrc 4294967295 (l.take i)) (l.getD i 0).toNat k
theorem stC_lt {l : List Int} (hw : wf8 l) (i k : Nat) : stC l i k < 4294967296 := by
  unfold stC
  have h := lcrc_eq (c := 4294967295) (l := l.take i) (by decide) (wf8_take hw i)
  rw [show R32 4294967295 = 4294967295 by decide] at h
  rw [h, lits8_eq (crcN_lt (by decide) (wf8_take hw i))]
  exact R32_lt _
theorem stC_zero (l : List Int) (i : Nat) : stC l i 0 = lcrc 4294967295 (l.take i) := by unfold stC; rw [lits8]
theorem stC_next {l : List Int} {i : Nat} (h : i < l.length) : stC l (i + 1) 0 = stC l i 8 := by
  rw [stC_zero, take_get h, lcrc_app, lcrc_cons, lcrc_nil]
  rfl
theorem stC_step (l : List Int) (i k : Nat) : stC l i (k + 1) = lstp (stC l i k) ((l.getD i 0).toNat / 2 ^ k % 2) := by unfold stC; rw [lits8]
theorem bitI {x : Int} (h0 : 0 ≤ x) (k : Nat) (hk : k < 8) : Int.tmod (Int.fdiv x (2 ^ (if k ≤ 8 then k else 8))) 2 = ((x.toNat / 2 ^ k % 2 : Nat) : Int) := by
  rw [if_pos (by omega)]
  have hp : (0 : Int) ≤ 2 ^ k := Int.le_of_lt (Int.pow_pos (by decide))
  have e : Int.fdiv x (2 ^ k) = ((x.toNat / 2 ^ k : Nat) : Int) := by
    rw [Int.fdiv_eq_ediv_of_nonneg _ hp, Int.natCast_ediv, Int.natCast_pow, show ((x.toNat : Nat) : Int) = x by omega]
    rfl
  rw [e, Int.tmod_eq_emod_of_nonneg (Int.natCast_nonneg _)]
  rfl
theorem rcX_k (k : Nat) (hk : k = 32) (l : List Int) (n p : Nat) (c : Int) (i : Nat) : endV [0] (rndRc 0 [] [false, false] l n p c i 8) = some (si .u32 (rvI k (IntKind.wrap .u32 (4294967295 - c)) 0), [ri l], obRv k (IntKind.wrap .u32 (4294967295 - c)) ++
    [decide ((i : Int) + 1 < (n : Int)) = false, -9223372036854775808 ≤ (i : Int) + 1 ∧ (i : Int) + 1 ≤ 9223372036854775807, decide (((8 : Nat) : Int) < 8) = false]) := by
  rw [hk]
  exact congrFun (congrFun (congrFun (congrFun (congrFun (congrFun rcX l) n) p) c) i) 8
theorem rc_end (k : Nat) (hk : k = 32) (l : List Int) (n p i : Nat) (c : Int) (m : Nat) (hw : IntKind.wrap .u32 (4294967295 - c) = (m : Int)) (hm : m ≤ 4294967295) (hi : i + 1 = n) (hn : n ≤ 1000000) : ∃ ob, allP ob ∧
    endV [0] (rndRc 0 [] [false, false] l n p c i 8) = some (si .u32 ((revA k m 0 : Nat) : Int), [ri l], ob) := by
  have q := rcX_k k hk l n p c i
  have h1 : rvI k (m : Int) ((0 : Nat) : Int) = ((revA k m 0 : Nat) : Int) := rvI_eq k m 0 (by omega) (Nat.pow_pos (by decide))
  rw [show ((0 : Nat) : Int) = 0 from rfl] at h1
  rw [hw, h1] at q
  refine ⟨_, allP_app (obRv_all k m hm) ?_, q⟩
  exact ⟨decide_eq_false (by omega), ⟨by omega, by omega⟩, decide_eq_false (by omega), trivial⟩
set_option maxHeartbeats 400000 in
theorem rc_works (l : List Int) (n p : Nat) (hn : n ≤ l.length) (hm : n ≤ 1000000) (hw : wf8 l) : Works Try.prog 27 [bsl 0 n p] [ri l] (si .u32 (crcS (l.take n))) [ri l] := cap_works fun hc => by
  by_cases h0 : n = 0
  · subst h0
    refine works_of (r := []) no_tabs (congrFun (congrFun (congrFun rcZ l) 0) p) ⟨by decide, trivial⟩ nd0C ?_ ?_
    · simp [leV, leV1, leC, si, crcS, crcN]
    · simp [leBs, leB, leCells, ri]
  refine works_loop2 (I := Nat × Nat) (Inv := fun q h => TRc l n p ((stC l q.1 q.2 : Nat) : Int) q.1 q.2 h) (good := fun q => q.1 < n ∧ q.2 ≤ 8) (μ := fun q => (n - q.1) * 9 + (8 - q.2)) (i := (0, 0)) (r := []) (call0_ok 4) funRc bodRc (by exact tmpRc) (fun _ _ => ⟨rfl, rfl⟩)
    (congrFun (congrFun (congrFun rcE l) n) p) ⟨decide_eq_true (by omega), trivial⟩ ⟨nd0C, ?_, ?_⟩ ⟨by show 0 < n; omega, by show 0 ≤ 8; omega⟩ ?_
  · simp [TRc, bsl, leSlots, leV, leV1, leC, si, N.v, stC_zero, lcrc_nil, hc]
  · simp [TRc, leBs, leB, leCells, ri]
  · rintro ⟨i, k⟩ ⟨hi, hk⟩
    simp only at hi hk
    have hlt := stC_lt hw i k
    have hg := wf8_get hw i
    by_cases h8 : k < 8
    · have hs := stC_step l i k
      have hb := bitI hg.1 k h8
      have ek : IntKind.wrap .u64 ((k : Int) + 1) = ((k + 1 : Nat) : Int) := by rw [w64 (by omega) (by omega)]; omega
      have e2 : IntKind.wrap .u32 (((stC l i k : Nat) : Int) * 2) = ((stC l i k * 2 % 4294967296 : Nat) : Int) := by rw [wu32]; omega
      have d1 : decide ((2147483648 : Int) ≤ ((stC l i k : Nat) : Int)) = decide (2147483648 ≤ stC l i k) := by rw [decide_eq_decide]; omega
      have d2 : decide (Int.tmod (Int.fdiv (l.getD i 0) (2 ^ (if k ≤ 8 then k else 8))) 2 = 1) = decide ((l.getD i 0).toNat / 2 ^ k % 2 = 1) := by rw [hb, decide_eq_decide]; omega
      by_cases hx : (2147483648 ≤ stC l i k) ↔ ((l.getD i 0).toNat / 2 ^ k % 2 = 1)
      · have q := congrFun (congrFun (congrFun (congrFun (congrFun (congrFun rcF l) n) p) ((stC l i k : Nat) : Int)) i) k
        rw [ek, e2] at q
        refine .round [true, false] [] _ _ [0, 3, 4, 5] [] _ _ _ (i, k + 1) q ⟨?_, by omega, by omega, by omega, by omega, decide_eq_true (by omega), trivial⟩ ⟨nd0C, ?_, ?_⟩ ⟨hi, h8⟩ (by simp only; omega)
        · have h5 : decide (2147483648 ≤ stC l i k) = decide ((l.getD i 0).toNat / 2 ^ k % 2 = 1) := decide_eq_decide.2 hx
          rw [d1, d2, h5]; simp
        · have e3 : stC l i (k + 1) = stC l i k * 2 % 4294967296 := by rw [hs]; unfold lstp; rw [if_pos hx]
          simp only [TRc, e3]
          simp [bsl, leSlots, leV, leV1, leC, si, N.v, hc]
        · simp [TRc, leBs, leB, leCells, ri]
      · have q := congrFun (congrFun (congrFun (congrFun (congrFun (congrFun rcT l) n) p) ((stC l i k : Nat) : Int)) i) k
        have e4 : Go.bits .xor .u32 ((stC l i k * 2 % 4294967296 : Nat) : Int) 79764919 = ((stC l i k * 2 % 4294967296 ^^^ 79764919 : Nat) : Int) := u32_xor_nat _ 79764919 (Nat.mod_lt _ (by decide)) (by decide)
        rw [ek, e2, e4] at q
        refine .round [true, true] [] _ _ [0, 3, 4, 5] [] _ _ _ (i, k + 1) q ⟨?_, by omega, by omega, by omega, by omega, decide_eq_true (by omega), trivial⟩ ⟨nd0C, ?_, ?_⟩ ⟨hi, h8⟩ (by simp only; omega)
        · rw [d1, d2]
          have : ¬ decide (2147483648 ≤ stC l i k) = decide ((l.getD i 0).toNat / 2 ^ k % 2 = 1) := fun h => hx (decide_eq_decide.1 h)
          rw [beq_eq_false_iff_ne.2 this]; rfl
        · have e3 : stC l i (k + 1) = stC l i k * 2 % 4294967296 ^^^ 79764919 := by rw [hs]; unfold lstp; rw [if_neg hx]
          simp only [TRc, e3]
          simp [bsl, leSlots, leV, leV1, leC, si, N.v, hc]
        · simp [TRc, leBs, leB, leCells, ri]
    · have hk8 : k = 8 := by omega
      subst hk8
      by_cases hl : i + 1 < n
      · have q := congrFun (congrFun (congrFun (congrFun (congrFun (congrFun rcN l) n) p) ((stC l i 8 : Nat) : Int)) i) 8
        refine .next [false, true] [false] _ _ [0, 3, 4, 5] [] _ _ _ (i + 1, 0) q ⟨decide_eq_true (by omega), ⟨by omega, by omega⟩, by decide, trivial⟩ ⟨nd0C, ?_, ?_⟩ ⟨hl, Nat.zero_le _⟩ (by simp only; omega)
        · simp only [TRc, stC_next (by omega : i < l.length)]
          simp [bsl, leSlots, leV, leV1, leC, si, N.v, hc]
        · simp [TRc, leBs, leB, leCells, ri]
      · have hin : i + 1 = n := by omega
        have q := congrFun (congrFun (congrFun (congrFun (congrFun (congrFun rcX l) n) p) ((stC l i 8 : Nat) : Int)) i) 8
        have ew : IntKind.wrap .u32 (4294967295 - ((stC l i 8 : Nat) : Int)) = ((4294967295 - stC l i 8 : Nat) : Int) := by rw [wu32]; omega
        have ev : ((R32 (4294967295 - stC l i 8) : Nat) : Int) = crcS (l.take n) := by
          rw [← lcrc_sum (wf8_take hw n), ← stC_next (by omega : i < l.length), stC_zero, hin]
        obtain ⟨ob, hob, q⟩ := rc_end 32 rfl l n p i ((stC l i 8 : Nat) : Int) (4294967295 - stC l i 8) ew (by omega) hin hm
        rw [show revA 32 (4294967295 - stC l i 8) 0 = R32 (4294967295 - stC l i 8) by rw [R32], ev] at q
        exact .stop [false, false] [] _ _ [] _ _ _ q hob nd0C (by simp [leV, leV1, leC, si]) (by simp [leBs, leB, leCells, ri])
theorem rc_tab : TabOk Try.prog 27 (loc frozen8 gCrc) := loc_ok fun xs bs v bs' ob hg hob hokb => by
  unfold gCrc at hg
  split at hg
  · rename_i n c k l
    split at hg
    · rename_i hk
      injection hg with hg; injection hg with e1 e2; injection e2 with e2 e3
      subst e1; subst e2; subst e3
      have hk' : k = .u8 := of_decide_eq_true hk
      subst hk'
      exact rc_works l n c (hob _ (by simp)) (hob (n ≤ 1000000) (by simp)) (hob (wf8 l) (by simp))
    · cases hg
  · injection hg with hg; injection hg with e1 e2; injection e2 with e2 e3
    subst e3
    exact (hob False (by simp)).elim
  · cases hg
end
section
open Go.Sx
def tabRS := tabs [(27, loc frozen8 gCrc)]
noncomputable def callRS (d : Nat) := callN Try.prog tabRS (fun _ => false) 100000 d
theorem rse : (fun (l : List Int) (n c : Nat) => retV [0, 4] (callRS 4 28 [bsl 0 n c] [ri l] [false, true])) = fun (l : List Int) (n : Nat) (c : Nat) => some (((V.v (V1.one (C.slice ((4 : Nat)) (N.c ((0 : Nat))) ((1 : Nat)) (N.s (n + (4 : Nat))) (N.s (n + (4 : Nat)))))), ([(SB.mk (false) (Cells.ints (IntKind.u8) (l))), (SB.mk (true) (Cells.ints (IntKind.u8) ([] ++ List.take n (List.drop (0 : Nat) l) ++ [IntKind.wrap IntKind.u8 (Int.tdiv (crcS (List.take n l)) (16777216 : Int)), IntKind.wrap IntKind.u8 (Int.tdiv (crcS (List.take n l)) (65536 : Int)), IntKind.wrap IntKind.u8 (Int.tdiv (crcS (List.take n l)) (256 : Int)), IntKind.wrap IntKind.u8 (crcS (List.take n l))])))], [(0 : Nat) = (0 : Nat), n = List.length ([] ++ List.take n (List.drop (0 : Nat) l)), (n + (4 : Nat)) * (1 : Nat) ≤ (140737488355328 : Nat), n + (4 : Nat) ≤ (9223372036854775807 : Nat), (0 : Nat) + n ≤ List.length l, n * (1 : Nat) ≤ (140737488355328 : Nat), n ≤ (9223372036854775807 : Nat), (0 : Int) ≤ (↑n : Int) + (4 : Int), Int.toNat ((↑n : Int) + (4 : Int)) * (1 : Nat) ≤ (140737488355328 : Nat), Int.toNat ((↑n : Int) + (4 : Int)) ≤ (9223372036854775807 : Nat), (-9223372036854775808 : Int) ≤ (↑n : Int) + (4 : Int) ∧ (↑n : Int) + (4 : Int) ≤ (9223372036854775807 : Int), (0 : Int) ≤ Int.tdiv (crcS (List.take n l)) (256 : Int) ∧ Int.tdiv (crcS (List.take n l)) (256 : Int) ≤ (4294967295 : Int), (0 : Int) ≤ Int.tdiv (crcS (List.take n l)) (65536 : Int) ∧ Int.tdiv (crcS (List.take n l)) (65536 : Int) ≤ (4294967295 : Int), (0 : Int) ≤ Int.tdiv (crcS (List.take n l)) (16777216 : Int) ∧ Int.tdiv (crcS (List.take n l)) (16777216 : Int) ≤ (4294967295 : Int), n ≤ List.length l, n ≤ (1000000 : Nat), wf8 l]))) := by kernel_rfl
def tabRU := tabs [(28, loc frozen8 gSeal)]
noncomputable def callRU (d : Nat) := callN Try.prog tabRU (fun _ => false) 100000 d
theorem rn0 : (fun (l : List Int) (n c : Nat) => retV [0] (callRU 4 32 [bsl 0 n c] [ri l] [true])) = fun (l : List Int) (n : Nat) (c : Nat) => some (((V.tup [(V1.one (C.nils)), (V1.one (C.int (IntKind.i64) ((11 : Int))))]), ([(SB.mk (false) (Cells.ints (IntKind.u8) (l)))], [decide ((↑n : Int) < (4 : Int)) = true]))) := by kernel_rfl
theorem rn1 : (fun (l : List Int) (n c : Nat) => retV [0] (callRU 4 32 [bsl 0 n c] [ri l] [false, false, true, false, true])) = fun (l : List Int) (n : Nat) (c : Nat) => some (((V.tup [(V1.one (C.nils)), (V1.one (C.int (IntKind.i64) ((12 : Int))))]), ([(SB.mk (false) (Cells.ints (IntKind.u8) (l)))], [(!List.map (fun (n : Int) ↦ UInt8.ofNat (Int.toNat n)) (sealS (List.take (Int.toNat ((↑n : Int) - (4 : Int))) ([] ++ List.take (Int.toNat ((↑n : Int) - (4 : Int))) (List.drop (0 : Nat) l)))) == List.map (fun (n : Int) ↦ UInt8.ofNat (Int.toNat n)) (List.take n (List.drop (0 : Nat) l))) = true, (0 : Nat) + n ≤ List.length l, (0 : Nat) = (0 : Nat), Nat.add (Int.toNat ((↑n : Int) - (4 : Int))) (4 : Nat) = List.length (sealS (List.take (Int.toNat ((↑n : Int) - (4 : Int))) ([] ++ List.take (Int.toNat ((↑n : Int) - (4 : Int))) (List.drop (0 : Nat) l)))), Int.toNat ((↑n : Int) - (4 : Int)) ≤ List.length ([] ++ List.take (Int.toNat ((↑n : Int) - (4 : Int))) (List.drop (0 : Nat) l)), Int.toNat ((↑n : Int) - (4 : Int)) ≤ (1000000 : Nat), wf8 ([] ++ List.take (Int.toNat ((↑n : Int) - (4 : Int))) (List.drop (0 : Nat) l)), (0 : Nat) + Int.toNat ((↑n : Int) - (4 : Int)) ≤ List.length l, Int.toNat ((↑n : Int) - (4 : Int)) * (1 : Nat) ≤ (140737488355328 : Nat), Int.toNat ((↑n : Int) - (4 : Int)) ≤ (9223372036854775807 : Nat), (0 : Int) ≤ (0 : Int) + (↑(Int.toNat ((↑n : Int) - (4 : Int))) : Int), Int.toNat ((0 : Int) + (↑(Int.toNat ((↑n : Int) - (4 : Int))) : Int)) * (1 : Nat) ≤ (140737488355328 : Nat), Int.toNat ((0 : Int) + (↑(Int.toNat ((↑n : Int) - (4 : Int))) : Int)) ≤ (9223372036854775807 : Nat), (-9223372036854775808 : Int) ≤ (0 : Int) + (↑(Int.toNat ((↑n : Int) - (4 : Int))) : Int) ∧ (0 : Int) + (↑(Int.toNat ((↑n : Int) - (4 : Int))) : Int) ≤ (9223372036854775807 : Int), (0 : Int) ≤ (↑n : Int) - (4 : Int), (↑n : Int) - (4 : Int) ≤ (↑c : Int), (-9223372036854775808 : Int) ≤ (↑n : Int) - (4 : Int) ∧ (↑n : Int) - (4 : Int) ≤ (9223372036854775807 : Int), decide ((↑n : Int) < (4 : Int)) = false]))) := by kernel_rfl
theorem rn2 : (fun (l : List Int) (n c : Nat) => retV [0, 3] (callRU 4 32 [bsl 0 n c] [ri l] [false, false, true, false, false])) = fun (l : List Int) (n : Nat) (c : Nat) => some (((V.tup [(V1.one (C.slice ((3 : Nat)) (N.c ((0 : Nat))) ((1 : Nat)) (N.s (Int.toNat ((↑n : Int) - (4 : Int)))) (N.s (Int.toNat ((↑n : Int) - (4 : Int)))))), (V1.one (C.int (IntKind.i64) ((0 : Int))))]), ([(SB.mk (false) (Cells.ints (IntKind.u8) (l))), (SB.mk (true) (Cells.ints (IntKind.u8) ([] ++ List.take (Int.toNat ((↑n : Int) - (4 : Int))) (List.drop (0 : Nat) l))))], [(!List.map (fun (n : Int) ↦ UInt8.ofNat (Int.toNat n)) (sealS (List.take (Int.toNat ((↑n : Int) - (4 : Int))) ([] ++ List.take (Int.toNat ((↑n : Int) - (4 : Int))) (List.drop (0 : Nat) l)))) == List.map (fun (n : Int) ↦ UInt8.ofNat (Int.toNat n)) (List.take n (List.drop (0 : Nat) l))) = false, (0 : Nat) + n ≤ List.length l, (0 : Nat) = (0 : Nat), Nat.add (Int.toNat ((↑n : Int) - (4 : Int))) (4 : Nat) = List.length (sealS (List.take (Int.toNat ((↑n : Int) - (4 : Int))) ([] ++ List.take (Int.toNat ((↑n : Int) - (4 : Int))) (List.drop (0 : Nat) l)))), Int.toNat ((↑n : Int) - (4 : Int)) ≤ List.length ([] ++ List.take (Int.toNat ((↑n : Int) - (4 : Int))) (List.drop (0 : Nat) l)), Int.toNat ((↑n : Int) - (4 : Int)) ≤ (1000000 : Nat), wf8 ([] ++ List.take (Int.toNat ((↑n : Int) - (4 : Int))) (List.drop (0 : Nat) l)), (0 : Nat) + Int.toNat ((↑n : Int) - (4 : Int)) ≤ List.length l, Int.toNat ((↑n : Int) - (4 : Int)) * (1 : Nat) ≤ (140737488355328 : Nat), Int.toNat ((↑n : Int) - (4 : Int)) ≤ (9223372036854775807 : Nat), (0 : Int) ≤ (0 : Int) + (↑(Int.toNat ((↑n : Int) - (4 : Int))) : Int), Int.toNat ((0 : Int) + (↑(Int.toNat ((↑n : Int) - (4 : Int))) : Int)) * (1 : Nat) ≤ (140737488355328 : Nat), Int.toNat ((0 : Int) + (↑(Int.toNat ((↑n : Int) - (4 : Int))) : Int)) ≤ (9223372036854775807 : Nat), (-9223372036854775808 : Int) ≤ (0 : Int) + (↑(Int.toNat ((↑n : Int) - (4 : Int))) : Int) ∧ (0 : Int) + (↑(Int.toNat ((↑n : Int) - (4 : Int))) : Int) ≤ (9223372036854775807 : Int), (0 : Int) ≤ (↑n : Int) - (4 : Int), (↑n : Int) - (4 : Int) ≤ (↑c : Int), (-9223372036854775808 : Int) ≤ (↑n : Int) - (4 : Int) ∧ (↑n : Int) - (4 : Int) ≤ (9223372036854775807 : Int), decide ((↑n : Int) < (4 : Int)) = false]))) := by kernel_rfl
end
section
open Go.ChangeShapes Go.WideShapes Go.ChangeAt Go.RowKit Go.Sx
theorem tabRS_ok : ∀ f g, tabRS f = some g → TabOk Try.prog f g := tabs_ok fun x hx => by
  simp only [List.mem_cons, List.not_mem_nil, or_false] at hx
  subst hx
  exact rc_tab
theorem nd4C : (List.range 1 ++ [4]).Nodup := by decide
theorem nd3C : (List.range 1 ++ [3]).Nodup := by decide
theorem wu8 (n : Int) : IntKind.wrap .u8 n = n % 256 := by simp [IntKind.wrap, IntKind.bits, IntKind.signed]
theorem rseal_works (l : List Int) (n c : Nat) (hn : n ≤ l.length) (hm : n ≤ 1000000) (hw : wf8 l) : Works Try.prog 28 [bsl 0 n c] [ri l] (bsl 1 (n + 4) (n + 4)) [ri l, oi (sealS (l.take n))] := by
  have q := congrFun (congrFun (congrFun rse l) n) c
  have hl : (l.take n).length = n := by rw [List.length_take]; omega
  obtain ⟨C, hC⟩ : ∃ C : Nat, 4294967295 ^^^ crcN 4294967295 (l.take n) = C := ⟨_, rfl⟩
  have hlt : C < 4294967296 := by rw [← hC]; exact xor_lt32 (by decide) (crcN_lt (by decide) (wf8_take hw n))
  have hs : crcS (l.take n) = (C : Int) := by unfold crcS; rw [hC]
  have hsum : sealS (l.take n) = l.take n ++ sumH C := by unfold sealS; rw [hC]
  have d : ∀ k : Int, 0 < k → Int.tdiv (C : Int) k = (C : Int) / k := fun k _ => Int.tdiv_eq_ediv_of_nonneg (Int.natCast_nonneg C)
  have e4 : [IntKind.wrap .u8 (Int.tdiv (C : Int) 16777216), IntKind.wrap .u8 (Int.tdiv (C : Int) 65536), IntKind.wrap .u8 (Int.tdiv (C : Int) 256), IntKind.wrap .u8 (C : Int)] = sumH C := by
    rw [d _ (by decide), d _ (by decide), d _ (by decide)]
    rw [wu8, wu8, wu8, wu8, show (C : Int) / 16777216 % 256 = ((C / 16777216 % 256 : Nat) : Int) by omega, show (C : Int) / 65536 % 256 = ((C / 65536 % 256 : Nat) : Int) by omega, show (C : Int) / 256 % 256 = ((C / 256 % 256 : Nat) : Int) by omega, show (C : Int) % 256 = ((C % 256 : Nat) : Int) by omega]
    unfold sumH
    exact Eq.refl _
  rw [List.drop_zero, List.nil_append, hs, e4, ← hsum] at q
  refine works_of (r := [4]) tabRS_ok q ?_ nd4C ?_ ?_
  · rw [d _ (by decide), d _ (by decide), d _ (by decide)]
    refine ⟨rfl, ?_, ?_, ?_, ?_, ?_, ?_, ?_, ?_, ?_, ?_, ?_, ?_, ?_, hn, hm, hw, trivial⟩ <;> omega
  · simp [bsl, leV, leV1, leC, N.v, List.range, List.range.loop]
  · simp [leBs, leB, leCells, ri, oi]
theorem rseal_tab : TabOk Try.prog 28 (loc frozen8 gSeal) := loc_ok fun xs bs v bs' ob hg hob hokb => by
  unfold gSeal at hg
  split at hg
  · rename_i n c k l
    split at hg
    · rename_i hk
      injection hg with hg; injection hg with e1 e2; injection e2 with e2 e3
      subst e1; subst e2; subst e3
      have hk' : k = .u8 := of_decide_eq_true hk
      subst hk'
      exact rseal_works l n c (hob _ (by simp)) (hob (n ≤ 1000000) (by simp)) (hob (wf8 l) (by simp))
    · cases hg
  · cases hg
theorem tabRU_ok : ∀ f g, tabRU f = some g → TabOk Try.prog f g := tabs_ok fun x hx => by
  simp only [List.mem_cons, List.not_mem_nil, or_false] at hx
  subst hx
  exact rseal_tab
theorem sumH_len (C : Nat) : (sumH C).length = 4 := by unfold sumH; exact Eq.refl 4
theorem sumH_wf (C : Nat) : wf8 (sumH C) := by
  intro x hx
  simp only [sumH, List.mem_cons, List.not_mem_nil, or_false] at hx
  rcases hx with rfl | rfl | rfl | rfl <;> omega
theorem sealS_wf {a : List Int} (h : wf8 a) : wf8 (sealS a) := by
  unfold sealS
  generalize 4294967295 ^^^ crcN 4294967295 a = C
  exact wf8_app h (sumH_wf C)
theorem sealS_len (a : List Int) : (sealS a).length = a.length + 4 := by
  unfold sealS
  generalize 4294967295 ^^^ crcN 4294967295 a = C
  rw [List.length_append, sumH_len]
theorem runseal_works (l : List Int) (n c : Nat) (hn : n ≤ l.length) (hm : n ≤ 1000000) (hw : wf8 l) : Works Try.prog 32 [bsl 0 n c] [ri l] (tupB 1 (unsealS (l.take n)).1.length (unsealS (l.take n)).2) [ri l, oi (unsealS (l.take n)).1] := cap_works fun hc => by
  have hl : (l.take n).length = n := by rw [List.length_take]; omega
  have q0 := congrFun (congrFun (congrFun rn0 l) n) c
  have q1 := congrFun (congrFun (congrFun rn1 l) n) c
  have q2 := congrFun (congrFun (congrFun rn2 l) n) c
  by_cases h4 : n < 4
  · have e : unsealS (l.take n) = ([], 11) := by unfold unsealS; rw [if_pos (by omega)]
    rw [e]
    refine ghost_tup (works_of (r := []) tabRU_ok q0 ⟨decide_eq_true (by omega), trivial⟩ nd1z ?_ ?_)
    · simp [leV, leL1, leV1, leC]
    · simp [leBs, leB, leCells, ri]
  · obtain ⟨m, hm4⟩ : ∃ m, n = m + 4 := ⟨n - 4, by omega⟩
    have em : Int.toNat ((n : Int) - 4) = m := by omega
    have ht : (l.take n).take ((l.take n).length - 4) = l.take m := by rw [hl, List.take_take, show min (n - 4) n = m by omega]
    have hlm : (l.take m).length = m := by rw [List.length_take]; omega
    have hsl : (sealS (l.take m)).length = m + 4 := by rw [sealS_len, hlm]
    have hws : wf8 (sealS (l.take m)) := sealS_wf (wf8_take hw m)
    have ett : List.take m (l.take m) = l.take m := by rw [List.take_take, Nat.min_self]
    have hU : ∀ a b : List Int, wf8 a → wf8 b → ((List.map (fun (n : Int) => UInt8.ofNat (Int.toNat n)) a == List.map (fun (n : Int) => UInt8.ofNat (Int.toNat n)) b) = decide (a = b)) := by
      intro a b ha hb
      by_cases h : a = b
      · subst h; simp
      · rw [decide_eq_false h, beq_eq_false_iff_ne]
        exact fun h' => h (mapU_inj ha hb h')
    rw [em, List.drop_zero, List.nil_append, ett, hU _ _ hws (wf8_take hw n)] at q1 q2
    have hb : allP [0 + n ≤ l.length, (0 : Nat) = 0, Nat.add m 4 = (sealS (l.take m)).length, m ≤ (l.take m).length, m ≤ 1000000, wf8 (l.take m), 0 + m ≤ l.length, m * 1 ≤ 140737488355328, m ≤ 9223372036854775807,
        (0 : Int) ≤ 0 + (m : Int), Int.toNat (0 + (m : Int)) * 1 ≤ 140737488355328, Int.toNat (0 + (m : Int)) ≤ 9223372036854775807, (-9223372036854775808 : Int) ≤ 0 + (m : Int) ∧ 0 + (m : Int) ≤ 9223372036854775807, (0 : Int) ≤ (n : Int) - 4, (n : Int) - 4 ≤ (c : Int), (-9223372036854775808 : Int) ≤ (n : Int) - 4 ∧ (n : Int) - 4 ≤ 9223372036854775807, decide ((n : Int) < 4) = false] := by
      refine ⟨by omega, rfl, by rw [hsl], by omega, by omega, wf8_take hw m, by omega, by omega, by omega, by omega, by omega, by omega, ⟨by omega, by omega⟩, by omega, by omega, ⟨by omega, by omega⟩, decide_eq_false (by omega), trivial⟩
    by_cases hs : sealS (l.take m) = l.take n
    · have e : unsealS (l.take n) = (l.take m, 0) := by unfold unsealS; rw [if_neg (by omega), ht, if_pos hs]
      rw [e]
      refine works_of (r := [3]) tabRU_ok q2 ⟨by rw [decide_eq_true hs]; rfl, hb⟩ nd3C ?_ ?_
      · simp [tupB, leV, leL1, leV1, leC, N.v, List.range, List.range.loop, hlm]
      · simp [leBs, leB, leCells, ri, oi]
    · have e : unsealS (l.take n) = ([], 12) := by unfold unsealS; rw [if_neg (by omega), ht, if_neg hs]
      rw [e]
      refine ghost_tup (works_of (r := []) tabRU_ok q1 ⟨by rw [decide_eq_false hs]; rfl, hb⟩ nd1z ?_ ?_)
      · simp [leV, leL1, leV1, leC]
      · simp [leBs, leB, leCells, ri]
theorem runseal_tab : TabOk Try.prog 32 (loc frozen8 gUnseal) := loc_ok fun xs bs v bs' ob hg hob hokb => by
  unfold gUnseal at hg
  split at hg
  · rename_i n c k l
    split at hg
    · rename_i hk
      injection hg with hg; injection hg with e1 e2; injection e2 with e2 e3
      subst e1; subst e2; subst e3
      have hk' : k = .u8 := of_decide_eq_true hk
      subst hk'
      exact runseal_works l n c (hob _ (by simp)) (hob (n ≤ 1000000) (by simp)) (hob (wf8 l) (by simp))
    · cases hg
  · cases hg
end
end Go.Proofs.Ytjjjpflnhagfcaa
