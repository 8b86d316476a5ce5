/- The sum of bytes: what it comes to, as a function of numbers; the contract. -/
import Derived.Test.YtjjjpflnhagfcaaCrcA
import Derived.Laws.BitsAllLaws
namespace Go.Proofs.Ytjjjpflnhagfcaa
open Go.ChangeShapes Go.WideShapes Go.ChangeAt Go.RowKit Go.Sx
def tabN : List Nat := [0, 498536548, 997073096, 651767980, 1994146192, 1802195444, 1303535960, 1342533948, 3988292384, 4027552580, 3604390888, 3412177804, 2607071920, 2262029012, 2685067896, 3183342108]
/-- half a byte's step -/
def nib (z : Nat) : Nat := z / 16 ^^^ tabN.getD (z % 16) 0
def byteStep (c x : Nat) : Nat := nib (nib (c ^^^ x))
def crcN (c : Nat) : List Int → Nat
  | [] => c
  | x :: r => crcN (byteStep c x.toNat) r
def crcS (l : List Int) : Int := ((4294967295 ^^^ crcN 4294967295 l : Nat) : Int)
def wf8 (l : List Int) : Prop := ∀ x ∈ l, 0 ≤ x ∧ x < 256
theorem tab_lt : ∀ k : Nat, k < 16 → tabN.getD k 0 < 4294967296 ∧ tabT.getD k 0 = ((tabN.getD k 0 : Nat) : Int) := by decide
theorem nib_lt {z : Nat} (h : z < 4294967296) : nib z < 4294967296 := by
  unfold nib
  exact Nat.xor_lt_two_pow (n := 32) (by omega) (tab_lt _ (Nat.mod_lt _ (by omega))).1
theorem nibI {z : Nat} (h : z < 4294967296) : bits .xor .u32 (Int.tdiv (z : Int) 16) (List.getD tabT (Int.toNat (Int.tmod (z : Int) 16)) 0) = ((nib z : Nat) : Int) := by
  have e1 : Int.tdiv (z : Int) 16 = ((z / 16 : Nat) : Int) := by rw [Int.tdiv_eq_ediv_of_nonneg (by omega)]; omega
  have e2 : Int.toNat (Int.tmod (z : Int) 16) = z % 16 := by rw [Int.tmod_eq_emod_of_nonneg (by omega)]; omega
  have t := tab_lt (z % 16) (Nat.mod_lt _ (by omega))
  rw [e1, e2, t.2, u32_xor_nat _ _ (by omega) t.1]
  rfl
theorem xor_lt32 {a b : Nat} (h : a < 4294967296) (h' : b < 4294967296) : a ^^^ b < 4294967296 := Nat.xor_lt_two_pow (n := 32) h h'
theorem byteStep_lt {c x : Nat} (hc : c < 4294967296) (hx : x < 4294967296) : byteStep c x < 4294967296 := nib_lt (nib_lt (xor_lt32 hc hx))
theorem crcN_lt : ∀ {l : List Int} {c : Nat}, c < 4294967296 → wf8 l → crcN c l < 4294967296
  | [], _, h, _ => h
  | x :: r, c, h, hw => by
    show crcN (byteStep c x.toNat) r < _
    exact crcN_lt (byteStep_lt h (by have := hw x (by simp); omega)) (fun y hy => hw y (by simp [hy]))
theorem crcN_app : ∀ (a b : List Int) (c : Nat), crcN c (a ++ b) = crcN (crcN c a) b
  | [], _, _ => rfl
  | _ :: r, b, _ => crcN_app r b _
theorem take_get {l : List Int} {i : Nat} (h : i < l.length) : l.take (i + 1) = l.take i ++ [l.getD i 0] := by
  rw [List.take_add_one, List.getD_eq_getElem?_getD, List.getElem?_eq_getElem h]; rfl
theorem wf8_take {l : List Int} (h : wf8 l) (i : Nat) : wf8 (l.take i) := fun x hx => h x (List.mem_of_mem_take hx)
theorem wf8_get {l : List Int} (h : wf8 l) (i : Nat) : 0 ≤ l.getD i 0 ∧ l.getD i 0 < 256 := by
  rw [List.getD_eq_getElem?_getD]
  cases hi : l[i]? with
  | none => simp
  | some x => exact h x (List.mem_of_getElem? hi)
theorem cap_works {f : FuncId} {b n c : Nat} {args : List V} {bs bs' : List SB} {v : V} (h : n ≤ c → Works Try.prog f (bsl b n c :: args) bs v bs') : Works Try.prog f (bsl b n c :: args) bs v bs' := by
  intro ρ K w us hm hu
  have hc : n ≤ c := by
    obtain ⟨u, s, _, ⟨⟨e, _, hu⟩, _⟩, _⟩ := hu
    rcases hu with ⟨h0, _⟩ | ⟨_, _, _, h1, _⟩
    · simp only [N.v] at h0; omega
    · exact h1
  exact h hc ρ K w us hm hu
theorem call0_ok (d : Nat) : CallOk Try.prog (call0 d) := callN_sound no_tabs d
theorem funCr : Try.prog.funcs[14]? = some FCr := by kernel_rfl
theorem bodCr : FCr.body = some (bodyF 14) := by kernel_rfl
theorem tmpCr : 1 ≤ FCr.ntmps := Nat.le_of_ble_eq_true (by kernel_rfl)
theorem nd1C : (List.range 1 ++ [1]).Nodup := by decide
theorem nd0C : (List.range 1 ++ ([] : List Nat)).Nodup := by decide
theorem crc_rnd (l : List Int) (n p c i x : Nat) (hb : c < 4294967296) (e : l.getD i 0 = (x : Int)) (hx : x < 256) (hi : i < n) (hn : n ≤ l.length) (hm : n ≤ 1000000) : ∃ ob, allP ob ∧
    stopV [3, 4, 8, 9, 10] [0, 1] (rndCr (LCr.2.length + 1) [true] l n p (c : Int) i) = some (KCr, [(3, .v (.one (.ptr 1 (.c 0) 1 0))), (4, si .u32 ((byteStep c x : Nat) : Int)), (8, .v (.one (.slice 0 (.c 0) 1 (.s n) (.s p)))), (9, si .i64 n), (10, si .i64 ((i : Int) + 1))], [ri l, ⟨true, .ints .u32 tabT⟩], ob) := by
  have q := congrFun (congrFun (congrFun (congrFun (congrFun crR l) n) p) (c : Int)) i
  have h1 : c ^^^ x < 4294967296 := xor_lt32 hb (by omega)
  have h2 := nib_lt h1
  have e0 := u32_xor_nat c x hb (by omega)
  simp only [e, e0, nibI h1, nibI h2] at q
  refine ⟨_, ?_, q⟩
  have t : ∀ z : Nat, z < 4294967296 → Int.toNat (Int.tmod (z : Int) 16) < 16 ∧ 0 ≤ Int.tmod (z : Int) 16 ∧ Int.tmod (z : Int) 16 < 16 ∧ 0 ≤ Int.tdiv (z : Int) 16 ∧ Int.tdiv (z : Int) 16 ≤ 4294967295 := by
    intro z hz
    rw [Int.tdiv_eq_ediv_of_nonneg (by omega), Int.tmod_eq_emod_of_nonneg (by omega)]
    omega
  obtain ⟨a1, a2, a3, a4, a5⟩ := t _ h1
  obtain ⟨b1, b2, b3, b4, b5⟩ := t _ h2
  refine ⟨?_, b1, b2, b3, ⟨b4, b5⟩, a1, a2, a3, ⟨a4, a5⟩, ?_, ?_, ?_, ?_, ?_, trivial⟩
  · omega
  · omega
  · omega
  · omega
  · omega
  · exact decide_eq_true (by omega)
theorem crc_works (l : List Int) (n p : Nat) (hn : n ≤ l.length) (hm : n ≤ 1000000) (hw : wf8 l) : Works Try.prog 14 [bsl 0 n p] [ri l] (si .u32 (crcS (l.take n))) [ri l] := cap_works fun hc => by
  refine works_loop (I := Nat) (Inv := fun i h => TCr l n p ((crcN 4294967295 (l.take i) : Nat) : Int) i h) (good := fun i => i ≤ n) (μ := fun i => n - i) (i := 0) (r := [1]) (call0_ok 4) funCr bodCr (by exact tmpCr) (fun _ _ => ⟨rfl, rfl⟩)
    (congrFun (congrFun (congrFun crE l) n) p) trivial ⟨nd1C, ?_, ?_⟩ (Nat.zero_le _) ?_
  · simp [TCr, leSlots, leV, leV1, leC, si, List.range, List.range.loop, N.v, crcN, hc]
  · refine ⟨⟨fun h => h, rfl, rfl⟩, ⟨fun h => h, ?_⟩, trivial⟩
    simp [leCells, leL, leC, tabT]
  · intro i hi
    by_cases hlt : i < n
    · have hb := crcN_lt (c := 4294967295) (by omega) (wf8_take hw i)
      have hg := wf8_get hw i
      have hs : crcN 4294967295 (l.take (i + 1)) = byteStep (crcN 4294967295 (l.take i)) (l.getD i 0).toNat := by rw [take_get (by omega), crcN_app]; rfl
      obtain ⟨ob, hob, q⟩ := crc_rnd l n p (crcN 4294967295 (l.take i)) i (l.getD i 0).toNat hb (by omega) (by omega) hlt hn hm
      refine .round [true] [] _ _ [3, 4, 8, 9, 10] [1] _ _ _ (i + 1) q hob ⟨nd1C, ?_, ?_⟩ hlt (by omega)
      · rw [hs]
        simp [TCr, leSlots, leV, leV1, leC, si, List.range, List.range.loop, N.v, hc]
      · simp [TCr, leBs, leB, leCells, ri]
    · have hin : i = n := by omega
      subst hin
      have q := congrFun (congrFun (congrFun (congrFun (congrFun crX l) i) p) ((crcN 4294967295 (l.take i) : Nat) : Int)) i
      have hb := crcN_lt (c := 4294967295) (by omega) (wf8_take hw i)
      have e0 := u32_xor_nat 4294967295 (crcN 4294967295 (l.take i)) (by omega) hb
      refine .stop [false] [] _ _ [] _ _ _ q ?_ nd0C ?_ ?_
      · simp [allP]
      · simp only [leV, leV1, leC, si, true_and]
        exact e0
      · simp [leBs, leB, leCells, ri]
/-- the sum of bytes that lie at a block's front -/
def gCrc : Sx.Loc := fun args bs => match args, bs with
  | [.v (.one (.slice 0 (.c 0) 1 (.s n) (.s _)))], [⟨false, .ints k l⟩] => match decide (k = .u8) with
    | true => some (si .u32 (crcS (l.take n)), [ri l], [n ≤ l.length, n ≤ 1000000, wf8 l])
    | false => none
  | [.v (.one .nils)], [] => some (si .u32 0, [], [False])
  | _, _ => none
def frozen8 : List V → List Want
  | .v (.one (.slice _ _ _ _ _)) :: _ => [(false, .ints .u8)]
  | _ => []
theorem crc_tab : TabOk Try.prog 14 (loc frozen8 gCrc) := loc_ok fun xs bs v bs' ob hg hob hokb => by
  unfold gCrc at hg
  split at hg
  · rename_i n c k l
    split at hg
    · rename_i hk
      injection hg with hg; injection hg with e1 e2; injection e2 with e2 e3
      subst e1; subst e2; subst e3
      have hk' : k = .u8 := of_decide_eq_true hk
      subst hk'
      exact crc_works l n c (hob _ (by simp)) (hob (n ≤ 1000000) (by simp)) (hob (wf8 l) (by simp))
    · cases hg
  · injection hg with hg; injection hg with e1 e2; injection e2 with e2 e3
    subst e3
    exact (hob False (by simp)).elim
  · cases hg
/-! ### the residue -/
theorem nib_shift (h m : Nat) : nib ((h * 16) ^^^ m) = h ^^^ nib m := by
  unfold nib
  have e1 : ((h * 16) ^^^ m) % 16 = m % 16 := by
    rw [show (16 : Nat) = 2 ^ 4 from rfl, Nat.xor_mod_two_pow, Nat.mul_mod_left, Nat.zero_xor]
  have e2 : ((h * 16) ^^^ m) / 16 = h ^^^ (m / 16) := by
    rw [show (16 : Nat) = 2 ^ 4 from rfl, ← Nat.shiftRight_eq_div_pow, Nat.shiftRight_xor_distrib, Nat.shiftRight_eq_div_pow, Nat.shiftRight_eq_div_pow, Nat.mul_div_cancel _ (by decide)]
  rw [e1, e2, Nat.xor_assoc]
theorem step_shift (h m : Nat) : nib (nib ((h * 256) ^^^ m)) = h ^^^ nib (nib m) := by
  rw [show h * 256 = (h * 16) * 16 by omega, nib_shift, nib_shift]
end Go.Proofs.Ytjjjpflnhagfcaa
