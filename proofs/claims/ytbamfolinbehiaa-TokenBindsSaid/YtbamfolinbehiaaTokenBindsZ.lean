/- A law's arguments: structs of integers with slices of bytes behind them. TokenBinds: its runs. TokenBinds is true of any key, case and bit. -/
import Derived.Test.YtbamfolinbehiaaRows
import Derived.Test.YtbamfolinbehiaaSxAE
import Derived.Test.YtbamfolinbehiaaWh
namespace Go.Proofs.Ytbamfolinbehiaa
section
open Go Go.RowKit Go.ChangeShapes Go.WideShapes Go.Sx
section
variable {H : Type} {enc : TypeId × Value → H} {P : Program} {W : World} {base b0 : Nat} {held : Bool} {t : TypeId} {v : Value} {dd : DataW H} {ps : List MemPlace}
theorem dvs_split : ∀ {a b : List Go.Sx.CK} {cs : List Value} {ds : List DV}, dvs W (a ++ b) cs ds → ∃ cs1 cs2 ds1 ds2, cs = cs1 ++ cs2 ∧ dvs W a cs1 ds1 ∧ dvs W b cs2 ds2
  | [], b, cs, ds, h => ⟨[], cs, [], ds, rfl, trivial, h⟩
  | x :: a, b, c :: cs, d :: ds, h => by
    obtain ⟨cs1, cs2, ds1, ds2, rfl, h1, h2⟩ := dvs_split (a := a) (b := b) h.2.2
    exact ⟨c :: cs1, cs2, d :: ds1, ds2, rfl, ⟨h.1, h.2.1, h1⟩, h2⟩
  | _ :: _, _, [], _, h => by cases h
  | _ :: _, _, _ :: _, [], h => by cases h
/-- a slice of bytes, told of -/
def BytesAt (W : World) (k : IntKind) (l : List Int) (e : E) (c : Value) : Prop :=
  readOnly W (e, ⟨false, .ints k l⟩) ∧ (∀ n ∈ l, (Lit.int k n).wf = true) ∧ l.length ≤ maxLen ∧ ∀ (ρ : Env) (b : Nat), ρ[b]? = some e → (V.v (.one (.slice b (.c 0) 1 (.s l.length) (.s l.length)))).rel ρ c
theorem dv_bytes {k : IntKind} {c : Value} {d : DV} (h1 : DV.is (.sl [k]) d) (h2 : DV.ok W d c) : ∃ l e, BytesAt W k l e c := by
  match d, h1 with
  | .recs _ l e, rfl =>
    obtain ⟨g1, g2, g3, g4⟩ := DV.ints h2
    exact ⟨l.map fun r => r.getD 0 0, e, g1, g2, by simpa using g3, by simpa using g4⟩
theorem agg_tail1 {d : Nat} {ks : List IntKind} {k : IntKind} (h : aggCk P d t = some (ks.map Go.Sx.CK.int ++ [.sl [k]]))
    (hval : Value.okWide P W .any b0 t v) (hd : DataW.Trod enc P W base (fun _ => true) held t v dd ps) : ∃ ns l e c, wfRow ks ns ∧ v = .agg (ivals ks ns ++ [c]).toArray ∧ BytesAt W k l e c := by
  obtain ⟨cs, ds, h1, h2⟩ := open_aggCk h hval hd
  obtain ⟨cs1, cs2, ds1, ds2, rfl, h3, h4⟩ := dvs_split h2
  obtain ⟨ns, h5, h6⟩ := dvs_ints h3
  match cs2, ds2, h4 with
  | [c], [d], h4 =>
    obtain ⟨l, e, h7⟩ := dv_bytes h4.1 h4.2.1
    exact ⟨ns, l, e, c, h5, by rw [h1, h6], h7⟩
  | [], _, h4 => cases h4
  | _ :: _, [], h4 => cases h4
  | _ :: _ :: _, [_], h4 => cases h4.2.2
  | [_], _ :: _ :: _, h4 => cases h4.2.2
  | _ :: _ :: _, _ :: _ :: _, h4 => cases h4.2.2
theorem agg_tail2 {d : Nat} {ks : List IntKind} {k k' : IntKind} (h : aggCk P d t = some (ks.map Go.Sx.CK.int ++ [.sl [k], .sl [k']]))
    (hval : Value.okWide P W .any b0 t v) (hd : DataW.Trod enc P W base (fun _ => true) held t v dd ps) : ∃ ns l e c l' e' c', wfRow ks ns ∧ v = .agg (ivals ks ns ++ [c, c']).toArray ∧ BytesAt W k l e c ∧ BytesAt W k' l' e' c' := by
  obtain ⟨cs, ds, h1, h2⟩ := open_aggCk h hval hd
  obtain ⟨cs1, cs2, ds1, ds2, rfl, h3, h4⟩ := dvs_split h2
  obtain ⟨ns, h5, h6⟩ := dvs_ints h3
  match cs2, ds2, h4 with
  | [c, c'], [d, d'], h4 =>
    obtain ⟨l, e, h7⟩ := dv_bytes h4.1 h4.2.1
    obtain ⟨l', e', h8⟩ := dv_bytes h4.2.2.1 h4.2.2.2.1
    exact ⟨ns, l, e, c, l', e', c', h5, by rw [h1, h6], h7, h8⟩
  | [], _, h4 => cases h4
  | _ :: _, [], h4 => cases h4
  | [_], _ :: _, h4 => cases h4.2.2
  | _ :: _ :: _, [_], h4 => cases h4.2.2
  | [_, _], _ :: _ :: _ :: _, h4 => cases h4.2.2.2.2
  | _ :: _ :: _ :: _, [_, _], h4 => cases h4.2.2.2.2
  | _ :: _ :: _ :: _, _ :: _ :: _ :: _, h4 => cases h4.2.2.2.2
end
end
section
open Go.Sx
abbrev PU := Int → List Int → Int → List Int → List Int
abbrev GE := List Int → Nat → Got
theorem pk1 : (fun (x n : Int) => retV [] (call0 4 20 [si .i64 x, si .i64 n] [] [false, true])) = fun x n => some (((.v (.one (.sint .i64 (Int.tmod x n + n)))), ([], [(-9223372036854775808 : Int) ≤ Int.tmod x n + n ∧ Int.tmod x n + n ≤ (9223372036854775807 : Int), decide (Int.tmod x n < (0 : Int)) = true, n ≠ (0 : Int), decide (n < (1 : Int)) = false]))) := by kernel_rfl
theorem pk0 : (fun (x n : Int) => retV [] (call0 4 20 [si .i64 x, si .i64 n] [] [false, false])) = fun x n => some (((.v (.one (.sint .i64 (Int.tmod x n)))), ([], [decide (Int.tmod x n < (0 : Int)) = false, n ≠ (0 : Int), decide (n < (1 : Int)) = false]))) := by kernel_rfl
def gPk : List Int → V × List SB × List Prop
  | [x, n] => (si .i64 (x % n), [], [1 ≤ n ∧ n ≤ 1000000, -9223372036854775808 ≤ x ∧ x ≤ 9223372036854775807])
  | _ => (.tup [], [], [False])
def tbI (is : IS) (K : List Int) (x y z : Int) : List Int := is (partN K 0 K.length) x y z
def tbN (I : List Int) (bit : Int) : Nat := Int.toNat (((I.length : Nat) : Int) - 32 + Int.tdiv (bit % 256) 8)
def tbF (I : List Int) (bit : Int) : List Int := I.set (tbN I bit) (Go.bits Go.BinOp.xor IntKind.u8 (I.getD (tbN I bit) 0) (IntKind.wrap IntKind.u8 ((1 : Int) * (2 : Int) ^ if Int.toNat (Int.tmod (bit % (256 : Int)) (8 : Int)) ≤ (8 : Nat) then Int.toNat (Int.tmod (bit % (256 : Int)) (8 : Int)) else (8 : Nat))))
def tbP (pu : PU) (k e p s n b r : Int) (l : List Int) : List Int := pu k [e, p, s, n, b] r (List.take l.length l)
def tbG (ge : GE) (c : List Int) : Got := ge c c.length
def tbQ (pu : PU) (g : Got) : List Int := pu g.k [g.v.getD 0 0, g.v.getD 1 0, g.v.getD 2 0, g.v.getD 3 0, g.v.getD 4 0] g.r (List.take g.blob.length g.blob)
def tabTb (is : IS) (ck : CK) (pu : PU) (ge : GE) := tabs [(13, locH wantH (gIs is)), (15, loc wantM (gCk ck)), (8, locH wantH (gPt pu)), (10, loc wantH (gGt ge)), (11, loc wantS gSm), (12, loc wantE gBe), (20, numTab [.i64, .i64] gPk), (9, yesT)]
def caseV (x y z k e p s n b r : Int) (j m i q : Nat) : V := .v (.agg [.sint .i64 x, .sint .i64 y, .sint .i64 z, .sint .u8 k, .sint .i64 e, .sint .i64 p, .sint .i64 s, .sint .i64 n, .sint .i64 b, .sint .i64 r, slC j m m, slC i q q])
noncomputable def tbR (is : IS) (ck : CK) (pu : PU) (ge : GE) (K : List Int) (x y z k e p s n b r bit : Int) (l c : List Int) (h : List Bool) := obsOf (callN Try.prog (tabTb is ck pu ge) (fun _ => false) 100000 6 7 [bl0 0 K.length K.length, caseV x y z k e p s n b r 1 l.length 2 c.length, si .i64 bit] [roH K, roH l, roH c] h)
theorem tbX : (fun (is : IS) (ck : CK) (pu : PU) (ge : GE) (K : List Int) (x y z k e p s n b r bit : Int) (l c : List Int) => tbR is ck pu ge K x y z k e p s n b r bit l c [true]) = fun _ _ _ _ K _ _ _ _ _ _ _ _ _ _ _ _ _ => some ([decide ((300 : Int) < (↑(List.length K) : Int)) = true]) := by kernel_rfl
theorem tbY : (fun (is : IS) (ck : CK) (pu : PU) (ge : GE) (K : List Int) (x y z k e p s n b r bit : Int) (l c : List Int) => tbR is ck pu ge K x y z k e p s n b r bit l c [false, true]) = fun _ _ _ _ K _ _ _ _ _ _ _ _ _ _ _ l _ => some ([decide ((5000 : Int) < (↑(List.length l) : Int)) = true, decide ((300 : Int) < (↑(List.length K) : Int)) = false]) := by kernel_rfl
theorem tbZ : (fun (is : IS) (ck : CK) (pu : PU) (ge : GE) (K : List Int) (x y z k e p s n b r bit : Int) (l c : List Int) => tbR is ck pu ge K x y z k e p s n b r bit l c [false, false, true]) = fun _ _ _ _ K _ _ _ _ _ _ _ _ _ _ _ l c => some ([decide ((5000 : Int) < (↑(List.length c) : Int)) = true, decide ((5000 : Int) < (↑(List.length l) : Int)) = false, decide ((300 : Int) < (↑(List.length K) : Int)) = false]) := by kernel_rfl
theorem tb0 : (fun (is : IS) (ck : CK) (pu : PU) (ge : GE) (K : List Int) (x y z k e p s n b r bit : Int) (l c : List Int) => tbR is ck pu ge K x y z k e p s n b r bit l c [false, false, false, false, false, false, true, true, true, true]) = fun _ ck _ ge K x y z k e p s n b r _ l c => some ([decide (Got.k (tbG ge c) = (0 : Int) ∧ List.getD (Got.v (tbG ge c)) (0 : Nat) (0 : Int) = (0 : Int) ∧ List.getD (Got.v (tbG ge c)) (1 : Nat) (0 : Int) = (0 : Int) ∧ List.getD (Got.v (tbG ge c)) (2 : Nat) (0 : Int) = (0 : Int) ∧ List.getD (Got.v (tbG ge c)) (3 : Nat) (0 : Int) = (0 : Int) ∧ List.getD (Got.v (tbG ge c)) (4 : Nat) (0 : Int) = (0 : Int) ∧ Got.r (tbG ge c) = (0 : Int) ∧ List.take (List.length (Got.blob (tbG ge c))) (Got.blob (tbG ge c)) = []) = true, List.length (Got.blob (tbG ge c)) ≤ List.length (Got.blob (tbG ge c)), u8L (Got.blob (tbG ge c)), decide (Got.e (tbG ge c) = (132 : Int)) = true, (!decide (Got.e (tbG ge c) = (0 : Int))) = true, u8L c, List.length c ≤ List.length c, List.length c ≤ (1000000000 : Nat), (0 : Int) ≤ k ∧ k < (256 : Int), ¬textR k [e, p, s, n, b] r (List.length l), ¬tokR x y z, decide (Prod.snd (Prod.snd (Prod.snd (ck (partN K (0 : Nat) (List.length K)) c (List.length c)))) = (0 : Int)) = false, u8L K, u8L c, List.length K ≤ List.length K, List.length c ≤ List.length c, List.length K ≤ (500000000 : Nat), List.length c ≤ (500000000 : Nat), decide ((5000 : Int) < (↑(List.length c) : Int)) = false, decide ((5000 : Int) < (↑(List.length l) : Int)) = false, decide ((300 : Int) < (↑(List.length K) : Int)) = false]) := by kernel_rfl
theorem tb1 : (fun (is : IS) (ck : CK) (pu : PU) (ge : GE) (K : List Int) (x y z k e p s n b r bit : Int) (l c : List Int) => tbR is ck pu ge K x y z k e p s n b r bit l c [false, false, false, true, true, false, false, false, true, true, true, true]) = fun is ck _ ge K x y z k e p s n b r _ l c => some ([decide (Got.k (tbG ge c) = (0 : Int) ∧ List.getD (Got.v (tbG ge c)) (0 : Nat) (0 : Int) = (0 : Int) ∧ List.getD (Got.v (tbG ge c)) (1 : Nat) (0 : Int) = (0 : Int) ∧ List.getD (Got.v (tbG ge c)) (2 : Nat) (0 : Int) = (0 : Int) ∧ List.getD (Got.v (tbG ge c)) (3 : Nat) (0 : Int) = (0 : Int) ∧ List.getD (Got.v (tbG ge c)) (4 : Nat) (0 : Int) = (0 : Int) ∧ Got.r (tbG ge c) = (0 : Int) ∧ List.take (List.length (Got.blob (tbG ge c))) (Got.blob (tbG ge c)) = []) = true, List.length (Got.blob (tbG ge c)) ≤ List.length (Got.blob (tbG ge c)), u8L (Got.blob (tbG ge c)), decide (Got.e (tbG ge c) = (132 : Int)) = true, (!decide (Got.e (tbG ge c) = (0 : Int))) = true, u8L c, List.length c ≤ List.length c, List.length c ≤ (1000000000 : Nat), (0 : Int) ≤ k ∧ k < (256 : Int), ¬textR k [e, p, s, n, b] r (List.length l), ¬tokR x y z, (!decide (List.take (List.length (is (partN K (0 : Nat) (List.length K)) (Prod.fst (ck (partN K (0 : Nat) (List.length K)) c (List.length c))) (Prod.fst (Prod.snd (ck (partN K (0 : Nat) (List.length K)) c (List.length c)))) (Prod.fst (Prod.snd (Prod.snd (ck (partN K (0 : Nat) (List.length K)) c (List.length c))))))) (is (partN K (0 : Nat) (List.length K)) (Prod.fst (ck (partN K (0 : Nat) (List.length K)) c (List.length c))) (Prod.fst (Prod.snd (ck (partN K (0 : Nat) (List.length K)) c (List.length c)))) (Prod.fst (Prod.snd (Prod.snd (ck (partN K (0 : Nat) (List.length K)) c (List.length c)))))) = List.take (List.length c) c)) = false, List.length (is (partN K (0 : Nat) (List.length K)) (Prod.fst (ck (partN K (0 : Nat) (List.length K)) c (List.length c))) (Prod.fst (Prod.snd (ck (partN K (0 : Nat) (List.length K)) c (List.length c)))) (Prod.fst (Prod.snd (Prod.snd (ck (partN K (0 : Nat) (List.length K)) c (List.length c)))))) ≤ List.length (is (partN K (0 : Nat) (List.length K)) (Prod.fst (ck (partN K (0 : Nat) (List.length K)) c (List.length c))) (Prod.fst (Prod.snd (ck (partN K (0 : Nat) (List.length K)) c (List.length c)))) (Prod.fst (Prod.snd (Prod.snd (ck (partN K (0 : Nat) (List.length K)) c (List.length c)))))), List.length c ≤ List.length c, u8L (is (partN K (0 : Nat) (List.length K)) (Prod.fst (ck (partN K (0 : Nat) (List.length K)) c (List.length c))) (Prod.fst (Prod.snd (ck (partN K (0 : Nat) (List.length K)) c (List.length c)))) (Prod.fst (Prod.snd (Prod.snd (ck (partN K (0 : Nat) (List.length K)) c (List.length c)))))), u8L c, tokR (Prod.fst (ck (partN K (0 : Nat) (List.length K)) c (List.length c))) (Prod.fst (Prod.snd (ck (partN K (0 : Nat) (List.length K)) c (List.length c)))) (Prod.fst (Prod.snd (Prod.snd (ck (partN K (0 : Nat) (List.length K)) c (List.length c))))), u8L K, List.length K ≤ List.length K, List.length K ≤ (500000000 : Nat), decide (Prod.snd (Prod.snd (Prod.snd (ck (partN K (0 : Nat) (List.length K)) c (List.length c)))) = (0 : Int)) = true, u8L K, u8L c, List.length K ≤ List.length K, List.length c ≤ List.length c, List.length K ≤ (500000000 : Nat), List.length c ≤ (500000000 : Nat), decide ((5000 : Int) < (↑(List.length c) : Int)) = false, decide ((5000 : Int) < (↑(List.length l) : Int)) = false, decide ((300 : Int) < (↑(List.length K) : Int)) = false]) := by kernel_rfl
theorem tb2 : (fun (is : IS) (ck : CK) (pu : PU) (ge : GE) (K : List Int) (x y z k e p s n b r bit : Int) (l c : List Int) => tbR is ck pu ge K x y z k e p s n b r bit l c [false, false, false, false, true, false, false, false, false, false, false, true, true, true, true]) = fun is ck _ ge K x y z k e p s n b r bit l c => some ([decide (Got.k (tbG ge c) = (0 : Int) ∧ List.getD (Got.v (tbG ge c)) (0 : Nat) (0 : Int) = (0 : Int) ∧ List.getD (Got.v (tbG ge c)) (1 : Nat) (0 : Int) = (0 : Int) ∧ List.getD (Got.v (tbG ge c)) (2 : Nat) (0 : Int) = (0 : Int) ∧ List.getD (Got.v (tbG ge c)) (3 : Nat) (0 : Int) = (0 : Int) ∧ List.getD (Got.v (tbG ge c)) (4 : Nat) (0 : Int) = (0 : Int) ∧ Got.r (tbG ge c) = (0 : Int) ∧ List.take (List.length (Got.blob (tbG ge c))) (Got.blob (tbG ge c)) = []) = true, List.length (Got.blob (tbG ge c)) ≤ List.length (Got.blob (tbG ge c)), u8L (Got.blob (tbG ge c)), decide (Got.e (tbG ge c) = (132 : Int)) = true, (!decide (Got.e (tbG ge c) = (0 : Int))) = true, u8L c, List.length c ≤ List.length c, List.length c ≤ (1000000000 : Nat), (0 : Int) ≤ k ∧ k < (256 : Int), ¬textR k [e, p, s, n, b] r (List.length l), (!decide (Prod.snd (Prod.snd (Prod.snd (ck (partN K (0 : Nat) (List.length K)) (tbF (tbI is K x y z) bit) (Int.toNat ((↑(List.length (tbI is K x y z)) : Int) - (1 : Int)))))) = (130 : Int))) = false, u8L K, u8L (tbF (tbI is K x y z) bit), List.length K ≤ List.length K, Int.toNat ((↑(List.length (tbI is K x y z)) : Int) - (1 : Int)) ≤ List.length (tbF (tbI is K x y z) bit), List.length K ≤ (500000000 : Nat), List.length (tbF (tbI is K x y z) bit) ≤ (500000000 : Nat), (0 : Int) ≤ (↑(List.length (tbI is K x y z)) : Int) - (1 : Int), (↑(List.length (tbI is K x y z)) : Int) - (1 : Int) ≤ (↑(List.length (tbI is K x y z)) : Int), (-9223372036854775808 : Int) ≤ (↑(List.length (tbI is K x y z)) : Int) - (1 : Int) ∧ (↑(List.length (tbI is K x y z)) : Int) - (1 : Int) ≤ (9223372036854775807 : Int), (!decide (Prod.snd (Prod.snd (Prod.snd (ck (partN K (0 : Nat) (List.length K)) (tbF (tbI is K x y z) bit) (List.length (tbI is K x y z))))) = (130 : Int))) = false, u8L K, u8L (tbF (tbI is K x y z) bit), List.length K ≤ List.length K, List.length (tbI is K x y z) ≤ List.length (tbF (tbI is K x y z) bit), List.length K ≤ (500000000 : Nat), List.length (tbF (tbI is K x y z) bit) ≤ (500000000 : Nat), Int.toNat ((↑(List.length (tbI is K x y z)) : Int) - (32 : Int) + Int.tdiv (bit % (256 : Int)) (8 : Int)) < List.length (tbI is K x y z), (0 : Int) ≤ (↑(List.length (tbI is K x y z)) : Int) - (32 : Int) + Int.tdiv (bit % (256 : Int)) (8 : Int), (↑(List.length (tbI is K x y z)) : Int) - (32 : Int) + Int.tdiv (bit % (256 : Int)) (8 : Int) < (↑(List.length (tbI is K x y z)) : Int), (0 : Int) ≤ Int.tmod (bit % (256 : Int)) (8 : Int), Int.toNat ((↑(List.length (tbI is K x y z)) : Int) - (32 : Int) + Int.tdiv (bit % (256 : Int)) (8 : Int)) < List.length (tbI is K x y z), (0 : Int) ≤ (↑(List.length (tbI is K x y z)) : Int) - (32 : Int) + Int.tdiv (bit % (256 : Int)) (8 : Int), (↑(List.length (tbI is K x y z)) : Int) - (32 : Int) + Int.tdiv (bit % (256 : Int)) (8 : Int) < (↑(List.length (tbI is K x y z)) : Int), (-9223372036854775808 : Int) ≤ (↑(List.length (tbI is K x y z)) : Int) - (32 : Int) + Int.tdiv (bit % (256 : Int)) (8 : Int) ∧ (↑(List.length (tbI is K x y z)) : Int) - (32 : Int) + Int.tdiv (bit % (256 : Int)) (8 : Int) ≤ (9223372036854775807 : Int), (-9223372036854775808 : Int) ≤ Int.tdiv (bit % (256 : Int)) (8 : Int) ∧ Int.tdiv (bit % (256 : Int)) (8 : Int) ≤ (9223372036854775807 : Int), (-9223372036854775808 : Int) ≤ (↑(List.length (tbI is K x y z)) : Int) - (32 : Int) ∧ (↑(List.length (tbI is K x y z)) : Int) - (32 : Int) ≤ (9223372036854775807 : Int), (1 : Int) ≤ (256 : Int) ∧ (256 : Int) ≤ (1000000 : Int), (-9223372036854775808 : Int) ≤ bit ∧ bit ≤ (9223372036854775807 : Int), decide ((↑(List.length (tbI is K x y z)) : Int) < (32 : Int)) = false, (!(decide (Prod.fst (ck (partN K (0 : Nat) (List.length K)) (tbI is K x y z) (List.length (tbI is K x y z))) = x) && (decide (Prod.fst (Prod.snd (ck (partN K (0 : Nat) (List.length K)) (tbI is K x y z) (List.length (tbI is K x y z)))) = y) && (decide (Prod.fst (Prod.snd (Prod.snd (ck (partN K (0 : Nat) (List.length K)) (tbI is K x y z) (List.length (tbI is K x y z))))) = z) && true)))) = false, (!decide (Prod.snd (Prod.snd (Prod.snd (ck (partN K (0 : Nat) (List.length K)) (tbI is K x y z) (List.length (tbI is K x y z))))) = (0 : Int))) = false, u8L K, u8L (tbI is K x y z), List.length K ≤ List.length K, List.length (tbI is K x y z) ≤ List.length (tbI is K x y z), List.length K ≤ (500000000 : Nat), List.length (tbI is K x y z) ≤ (500000000 : Nat), tokR x y z, u8L K, List.length K ≤ List.length K, List.length K ≤ (500000000 : Nat), decide (Prod.snd (Prod.snd (Prod.snd (ck (partN K (0 : Nat) (List.length K)) c (List.length c)))) = (0 : Int)) = false, u8L K, u8L c, List.length K ≤ List.length K, List.length c ≤ List.length c, List.length K ≤ (500000000 : Nat), List.length c ≤ (500000000 : Nat), decide ((5000 : Int) < (↑(List.length c) : Int)) = false, decide ((5000 : Int) < (↑(List.length l) : Int)) = false, decide ((300 : Int) < (↑(List.length K) : Int)) = false]) := by kernel_rfl
theorem tb3 : (fun (is : IS) (ck : CK) (pu : PU) (ge : GE) (K : List Int) (x y z k e p s n b r bit : Int) (l c : List Int) => tbR is ck pu ge K x y z k e p s n b r bit l c [false, false, false, true, true, false, true, false, false, false, false, false, false, true, true, true, true]) = fun is ck _ ge K x y z k e p s n b r bit l c => some ([decide (Got.k (tbG ge c) = (0 : Int) ∧ List.getD (Got.v (tbG ge c)) (0 : Nat) (0 : Int) = (0 : Int) ∧ List.getD (Got.v (tbG ge c)) (1 : Nat) (0 : Int) = (0 : Int) ∧ List.getD (Got.v (tbG ge c)) (2 : Nat) (0 : Int) = (0 : Int) ∧ List.getD (Got.v (tbG ge c)) (3 : Nat) (0 : Int) = (0 : Int) ∧ List.getD (Got.v (tbG ge c)) (4 : Nat) (0 : Int) = (0 : Int) ∧ Got.r (tbG ge c) = (0 : Int) ∧ List.take (List.length (Got.blob (tbG ge c))) (Got.blob (tbG ge c)) = []) = true, List.length (Got.blob (tbG ge c)) ≤ List.length (Got.blob (tbG ge c)), u8L (Got.blob (tbG ge c)), decide (Got.e (tbG ge c) = (132 : Int)) = true, (!decide (Got.e (tbG ge c) = (0 : Int))) = true, u8L c, List.length c ≤ List.length c, List.length c ≤ (1000000000 : Nat), (0 : Int) ≤ k ∧ k < (256 : Int), ¬textR k [e, p, s, n, b] r (List.length l), (!decide (Prod.snd (Prod.snd (Prod.snd (ck (partN K (0 : Nat) (List.length K)) (tbF (tbI is K x y z) bit) (Int.toNat ((↑(List.length (tbI is K x y z)) : Int) - (1 : Int)))))) = (130 : Int))) = false, u8L K, u8L (tbF (tbI is K x y z) bit), List.length K ≤ List.length K, Int.toNat ((↑(List.length (tbI is K x y z)) : Int) - (1 : Int)) ≤ List.length (tbF (tbI is K x y z) bit), List.length K ≤ (500000000 : Nat), List.length (tbF (tbI is K x y z) bit) ≤ (500000000 : Nat), (0 : Int) ≤ (↑(List.length (tbI is K x y z)) : Int) - (1 : Int), (↑(List.length (tbI is K x y z)) : Int) - (1 : Int) ≤ (↑(List.length (tbI is K x y z)) : Int), (-9223372036854775808 : Int) ≤ (↑(List.length (tbI is K x y z)) : Int) - (1 : Int) ∧ (↑(List.length (tbI is K x y z)) : Int) - (1 : Int) ≤ (9223372036854775807 : Int), (!decide (Prod.snd (Prod.snd (Prod.snd (ck (partN K (0 : Nat) (List.length K)) (tbF (tbI is K x y z) bit) (List.length (tbI is K x y z))))) = (130 : Int))) = false, u8L K, u8L (tbF (tbI is K x y z) bit), List.length K ≤ List.length K, List.length (tbI is K x y z) ≤ List.length (tbF (tbI is K x y z) bit), List.length K ≤ (500000000 : Nat), List.length (tbF (tbI is K x y z) bit) ≤ (500000000 : Nat), Int.toNat ((↑(List.length (tbI is K x y z)) : Int) - (32 : Int) + Int.tdiv (bit % (256 : Int)) (8 : Int)) < List.length (tbI is K x y z), (0 : Int) ≤ (↑(List.length (tbI is K x y z)) : Int) - (32 : Int) + Int.tdiv (bit % (256 : Int)) (8 : Int), (↑(List.length (tbI is K x y z)) : Int) - (32 : Int) + Int.tdiv (bit % (256 : Int)) (8 : Int) < (↑(List.length (tbI is K x y z)) : Int), (0 : Int) ≤ Int.tmod (bit % (256 : Int)) (8 : Int), Int.toNat ((↑(List.length (tbI is K x y z)) : Int) - (32 : Int) + Int.tdiv (bit % (256 : Int)) (8 : Int)) < List.length (tbI is K x y z), (0 : Int) ≤ (↑(List.length (tbI is K x y z)) : Int) - (32 : Int) + Int.tdiv (bit % (256 : Int)) (8 : Int), (↑(List.length (tbI is K x y z)) : Int) - (32 : Int) + Int.tdiv (bit % (256 : Int)) (8 : Int) < (↑(List.length (tbI is K x y z)) : Int), (-9223372036854775808 : Int) ≤ (↑(List.length (tbI is K x y z)) : Int) - (32 : Int) + Int.tdiv (bit % (256 : Int)) (8 : Int) ∧ (↑(List.length (tbI is K x y z)) : Int) - (32 : Int) + Int.tdiv (bit % (256 : Int)) (8 : Int) ≤ (9223372036854775807 : Int), (-9223372036854775808 : Int) ≤ Int.tdiv (bit % (256 : Int)) (8 : Int) ∧ Int.tdiv (bit % (256 : Int)) (8 : Int) ≤ (9223372036854775807 : Int), (-9223372036854775808 : Int) ≤ (↑(List.length (tbI is K x y z)) : Int) - (32 : Int) ∧ (↑(List.length (tbI is K x y z)) : Int) - (32 : Int) ≤ (9223372036854775807 : Int), (1 : Int) ≤ (256 : Int) ∧ (256 : Int) ≤ (1000000 : Int), (-9223372036854775808 : Int) ≤ bit ∧ bit ≤ (9223372036854775807 : Int), decide ((↑(List.length (tbI is K x y z)) : Int) < (32 : Int)) = false, (!(decide (Prod.fst (ck (partN K (0 : Nat) (List.length K)) (tbI is K x y z) (List.length (tbI is K x y z))) = x) && (decide (Prod.fst (Prod.snd (ck (partN K (0 : Nat) (List.length K)) (tbI is K x y z) (List.length (tbI is K x y z)))) = y) && (decide (Prod.fst (Prod.snd (Prod.snd (ck (partN K (0 : Nat) (List.length K)) (tbI is K x y z) (List.length (tbI is K x y z))))) = z) && true)))) = false, (!decide (Prod.snd (Prod.snd (Prod.snd (ck (partN K (0 : Nat) (List.length K)) (tbI is K x y z) (List.length (tbI is K x y z))))) = (0 : Int))) = false, u8L K, u8L (tbI is K x y z), List.length K ≤ List.length K, List.length (tbI is K x y z) ≤ List.length (tbI is K x y z), List.length K ≤ (500000000 : Nat), List.length (tbI is K x y z) ≤ (500000000 : Nat), tokR x y z, u8L K, List.length K ≤ List.length K, List.length K ≤ (500000000 : Nat), (!decide (List.take (List.length (is (partN K (0 : Nat) (List.length K)) (Prod.fst (ck (partN K (0 : Nat) (List.length K)) c (List.length c))) (Prod.fst (Prod.snd (ck (partN K (0 : Nat) (List.length K)) c (List.length c)))) (Prod.fst (Prod.snd (Prod.snd (ck (partN K (0 : Nat) (List.length K)) c (List.length c))))))) (is (partN K (0 : Nat) (List.length K)) (Prod.fst (ck (partN K (0 : Nat) (List.length K)) c (List.length c))) (Prod.fst (Prod.snd (ck (partN K (0 : Nat) (List.length K)) c (List.length c)))) (Prod.fst (Prod.snd (Prod.snd (ck (partN K (0 : Nat) (List.length K)) c (List.length c)))))) = List.take (List.length c) c)) = false, List.length (is (partN K (0 : Nat) (List.length K)) (Prod.fst (ck (partN K (0 : Nat) (List.length K)) c (List.length c))) (Prod.fst (Prod.snd (ck (partN K (0 : Nat) (List.length K)) c (List.length c)))) (Prod.fst (Prod.snd (Prod.snd (ck (partN K (0 : Nat) (List.length K)) c (List.length c)))))) ≤ List.length (is (partN K (0 : Nat) (List.length K)) (Prod.fst (ck (partN K (0 : Nat) (List.length K)) c (List.length c))) (Prod.fst (Prod.snd (ck (partN K (0 : Nat) (List.length K)) c (List.length c)))) (Prod.fst (Prod.snd (Prod.snd (ck (partN K (0 : Nat) (List.length K)) c (List.length c)))))), List.length c ≤ List.length c, u8L (is (partN K (0 : Nat) (List.length K)) (Prod.fst (ck (partN K (0 : Nat) (List.length K)) c (List.length c))) (Prod.fst (Prod.snd (ck (partN K (0 : Nat) (List.length K)) c (List.length c)))) (Prod.fst (Prod.snd (Prod.snd (ck (partN K (0 : Nat) (List.length K)) c (List.length c)))))), u8L c, tokR (Prod.fst (ck (partN K (0 : Nat) (List.length K)) c (List.length c))) (Prod.fst (Prod.snd (ck (partN K (0 : Nat) (List.length K)) c (List.length c)))) (Prod.fst (Prod.snd (Prod.snd (ck (partN K (0 : Nat) (List.length K)) c (List.length c))))), u8L K, List.length K ≤ List.length K, List.length K ≤ (500000000 : Nat), decide (Prod.snd (Prod.snd (Prod.snd (ck (partN K (0 : Nat) (List.length K)) c (List.length c)))) = (0 : Int)) = true, u8L K, u8L c, List.length K ≤ List.length K, List.length c ≤ List.length c, List.length K ≤ (500000000 : Nat), List.length c ≤ (500000000 : Nat), decide ((5000 : Int) < (↑(List.length c) : Int)) = false, decide ((5000 : Int) < (↑(List.length l) : Int)) = false, decide ((300 : Int) < (↑(List.length K) : Int)) = false]) := by kernel_rfl
theorem tb4 : (fun (is : IS) (ck : CK) (pu : PU) (ge : GE) (K : List Int) (x y z k e p s n b r bit : Int) (l c : List Int) => tbR is ck pu ge K x y z k e p s n b r bit l c [false, false, false, false, false, true, false, false, true, true, true, true]) = fun _ ck pu ge K x y z k e p s n b r _ l c => some ([decide (Got.k (tbG ge c) = (0 : Int) ∧ List.getD (Got.v (tbG ge c)) (0 : Nat) (0 : Int) = (0 : Int) ∧ List.getD (Got.v (tbG ge c)) (1 : Nat) (0 : Int) = (0 : Int) ∧ List.getD (Got.v (tbG ge c)) (2 : Nat) (0 : Int) = (0 : Int) ∧ List.getD (Got.v (tbG ge c)) (3 : Nat) (0 : Int) = (0 : Int) ∧ List.getD (Got.v (tbG ge c)) (4 : Nat) (0 : Int) = (0 : Int) ∧ Got.r (tbG ge c) = (0 : Int) ∧ List.take (List.length (Got.blob (tbG ge c))) (Got.blob (tbG ge c)) = []) = true, List.length (Got.blob (tbG ge c)) ≤ List.length (Got.blob (tbG ge c)), u8L (Got.blob (tbG ge c)), decide (Got.e (tbG ge c) = (132 : Int)) = true, (!decide (Got.e (tbG ge c) = (0 : Int))) = true, u8L c, List.length c ≤ List.length c, List.length c ≤ (1000000000 : Nat), (!decide (Got.k (tbG ge (tbP pu k e p s n b r l)) = k ∧ List.getD (Got.v (tbG ge (tbP pu k e p s n b r l))) (0 : Nat) (0 : Int) = e ∧ List.getD (Got.v (tbG ge (tbP pu k e p s n b r l))) (1 : Nat) (0 : Int) = p ∧ List.getD (Got.v (tbG ge (tbP pu k e p s n b r l))) (2 : Nat) (0 : Int) = s ∧ List.getD (Got.v (tbG ge (tbP pu k e p s n b r l))) (3 : Nat) (0 : Int) = n ∧ List.getD (Got.v (tbG ge (tbP pu k e p s n b r l))) (4 : Nat) (0 : Int) = b ∧ Got.r (tbG ge (tbP pu k e p s n b r l)) = r ∧ List.take (List.length (Got.blob (tbG ge (tbP pu k e p s n b r l)))) (Got.blob (tbG ge (tbP pu k e p s n b r l))) = List.take (List.length l) l)) = false, List.length (Got.blob (tbG ge (tbP pu k e p s n b r l))) ≤ List.length (Got.blob (tbG ge (tbP pu k e p s n b r l))), List.length l ≤ List.length l, u8L (Got.blob (tbG ge (tbP pu k e p s n b r l))), u8L l, (!decide (Got.e (tbG ge (tbP pu k e p s n b r l)) = (0 : Int))) = false, u8L (tbP pu k e p s n b r l), List.length (tbP pu k e p s n b r l) ≤ List.length (tbP pu k e p s n b r l), List.length (tbP pu k e p s n b r l) ≤ (1000000000 : Nat), (0 : Int) ≤ k ∧ k < (256 : Int), textR k [e, p, s, n, b] r (List.length l), List.length l ≤ List.length l, ¬tokR x y z, decide (Prod.snd (Prod.snd (Prod.snd (ck (partN K (0 : Nat) (List.length K)) c (List.length c)))) = (0 : Int)) = false, u8L K, u8L c, List.length K ≤ List.length K, List.length c ≤ List.length c, List.length K ≤ (500000000 : Nat), List.length c ≤ (500000000 : Nat), decide ((5000 : Int) < (↑(List.length c) : Int)) = false, decide ((5000 : Int) < (↑(List.length l) : Int)) = false, decide ((300 : Int) < (↑(List.length K) : Int)) = false]) := by kernel_rfl
theorem tb5 : (fun (is : IS) (ck : CK) (pu : PU) (ge : GE) (K : List Int) (x y z k e p s n b r bit : Int) (l c : List Int) => tbR is ck pu ge K x y z k e p s n b r bit l c [false, false, false, true, true, false, false, true, false, false, true, true, true, true]) = fun is ck pu ge K x y z k e p s n b r _ l c => some ([decide (Got.k (tbG ge c) = (0 : Int) ∧ List.getD (Got.v (tbG ge c)) (0 : Nat) (0 : Int) = (0 : Int) ∧ List.getD (Got.v (tbG ge c)) (1 : Nat) (0 : Int) = (0 : Int) ∧ List.getD (Got.v (tbG ge c)) (2 : Nat) (0 : Int) = (0 : Int) ∧ List.getD (Got.v (tbG ge c)) (3 : Nat) (0 : Int) = (0 : Int) ∧ List.getD (Got.v (tbG ge c)) (4 : Nat) (0 : Int) = (0 : Int) ∧ Got.r (tbG ge c) = (0 : Int) ∧ List.take (List.length (Got.blob (tbG ge c))) (Got.blob (tbG ge c)) = []) = true, List.length (Got.blob (tbG ge c)) ≤ List.length (Got.blob (tbG ge c)), u8L (Got.blob (tbG ge c)), decide (Got.e (tbG ge c) = (132 : Int)) = true, (!decide (Got.e (tbG ge c) = (0 : Int))) = true, u8L c, List.length c ≤ List.length c, List.length c ≤ (1000000000 : Nat), (!decide (Got.k (tbG ge (tbP pu k e p s n b r l)) = k ∧ List.getD (Got.v (tbG ge (tbP pu k e p s n b r l))) (0 : Nat) (0 : Int) = e ∧ List.getD (Got.v (tbG ge (tbP pu k e p s n b r l))) (1 : Nat) (0 : Int) = p ∧ List.getD (Got.v (tbG ge (tbP pu k e p s n b r l))) (2 : Nat) (0 : Int) = s ∧ List.getD (Got.v (tbG ge (tbP pu k e p s n b r l))) (3 : Nat) (0 : Int) = n ∧ List.getD (Got.v (tbG ge (tbP pu k e p s n b r l))) (4 : Nat) (0 : Int) = b ∧ Got.r (tbG ge (tbP pu k e p s n b r l)) = r ∧ List.take (List.length (Got.blob (tbG ge (tbP pu k e p s n b r l)))) (Got.blob (tbG ge (tbP pu k e p s n b r l))) = List.take (List.length l) l)) = false, List.length (Got.blob (tbG ge (tbP pu k e p s n b r l))) ≤ List.length (Got.blob (tbG ge (tbP pu k e p s n b r l))), List.length l ≤ List.length l, u8L (Got.blob (tbG ge (tbP pu k e p s n b r l))), u8L l, (!decide (Got.e (tbG ge (tbP pu k e p s n b r l)) = (0 : Int))) = false, u8L (tbP pu k e p s n b r l), List.length (tbP pu k e p s n b r l) ≤ List.length (tbP pu k e p s n b r l), List.length (tbP pu k e p s n b r l) ≤ (1000000000 : Nat), (0 : Int) ≤ k ∧ k < (256 : Int), textR k [e, p, s, n, b] r (List.length l), List.length l ≤ List.length l, ¬tokR x y z, (!decide (List.take (List.length (is (partN K (0 : Nat) (List.length K)) (Prod.fst (ck (partN K (0 : Nat) (List.length K)) c (List.length c))) (Prod.fst (Prod.snd (ck (partN K (0 : Nat) (List.length K)) c (List.length c)))) (Prod.fst (Prod.snd (Prod.snd (ck (partN K (0 : Nat) (List.length K)) c (List.length c))))))) (is (partN K (0 : Nat) (List.length K)) (Prod.fst (ck (partN K (0 : Nat) (List.length K)) c (List.length c))) (Prod.fst (Prod.snd (ck (partN K (0 : Nat) (List.length K)) c (List.length c)))) (Prod.fst (Prod.snd (Prod.snd (ck (partN K (0 : Nat) (List.length K)) c (List.length c)))))) = List.take (List.length c) c)) = false, List.length (is (partN K (0 : Nat) (List.length K)) (Prod.fst (ck (partN K (0 : Nat) (List.length K)) c (List.length c))) (Prod.fst (Prod.snd (ck (partN K (0 : Nat) (List.length K)) c (List.length c)))) (Prod.fst (Prod.snd (Prod.snd (ck (partN K (0 : Nat) (List.length K)) c (List.length c)))))) ≤ List.length (is (partN K (0 : Nat) (List.length K)) (Prod.fst (ck (partN K (0 : Nat) (List.length K)) c (List.length c))) (Prod.fst (Prod.snd (ck (partN K (0 : Nat) (List.length K)) c (List.length c)))) (Prod.fst (Prod.snd (Prod.snd (ck (partN K (0 : Nat) (List.length K)) c (List.length c)))))), List.length c ≤ List.length c, u8L (is (partN K (0 : Nat) (List.length K)) (Prod.fst (ck (partN K (0 : Nat) (List.length K)) c (List.length c))) (Prod.fst (Prod.snd (ck (partN K (0 : Nat) (List.length K)) c (List.length c)))) (Prod.fst (Prod.snd (Prod.snd (ck (partN K (0 : Nat) (List.length K)) c (List.length c)))))), u8L c, tokR (Prod.fst (ck (partN K (0 : Nat) (List.length K)) c (List.length c))) (Prod.fst (Prod.snd (ck (partN K (0 : Nat) (List.length K)) c (List.length c)))) (Prod.fst (Prod.snd (Prod.snd (ck (partN K (0 : Nat) (List.length K)) c (List.length c))))), u8L K, List.length K ≤ List.length K, List.length K ≤ (500000000 : Nat), decide (Prod.snd (Prod.snd (Prod.snd (ck (partN K (0 : Nat) (List.length K)) c (List.length c)))) = (0 : Int)) = true, u8L K, u8L c, List.length K ≤ List.length K, List.length c ≤ List.length c, List.length K ≤ (500000000 : Nat), List.length c ≤ (500000000 : Nat), decide ((5000 : Int) < (↑(List.length c) : Int)) = false, decide ((5000 : Int) < (↑(List.length l) : Int)) = false, decide ((300 : Int) < (↑(List.length K) : Int)) = false]) := by kernel_rfl
theorem tb6 : (fun (is : IS) (ck : CK) (pu : PU) (ge : GE) (K : List Int) (x y z k e p s n b r bit : Int) (l c : List Int) => tbR is ck pu ge K x y z k e p s n b r bit l c [false, false, false, false, true, false, false, false, false, false, true, false, false, true, true, true, true]) = fun is ck pu ge K x y z k e p s n b r bit l c => some ([decide (Got.k (tbG ge c) = (0 : Int) ∧ List.getD (Got.v (tbG ge c)) (0 : Nat) (0 : Int) = (0 : Int) ∧ List.getD (Got.v (tbG ge c)) (1 : Nat) (0 : Int) = (0 : Int) ∧ List.getD (Got.v (tbG ge c)) (2 : Nat) (0 : Int) = (0 : Int) ∧ List.getD (Got.v (tbG ge c)) (3 : Nat) (0 : Int) = (0 : Int) ∧ List.getD (Got.v (tbG ge c)) (4 : Nat) (0 : Int) = (0 : Int) ∧ Got.r (tbG ge c) = (0 : Int) ∧ List.take (List.length (Got.blob (tbG ge c))) (Got.blob (tbG ge c)) = []) = true, List.length (Got.blob (tbG ge c)) ≤ List.length (Got.blob (tbG ge c)), u8L (Got.blob (tbG ge c)), decide (Got.e (tbG ge c) = (132 : Int)) = true, (!decide (Got.e (tbG ge c) = (0 : Int))) = true, u8L c, List.length c ≤ List.length c, List.length c ≤ (1000000000 : Nat), (!decide (Got.k (tbG ge (tbP pu k e p s n b r l)) = k ∧ List.getD (Got.v (tbG ge (tbP pu k e p s n b r l))) (0 : Nat) (0 : Int) = e ∧ List.getD (Got.v (tbG ge (tbP pu k e p s n b r l))) (1 : Nat) (0 : Int) = p ∧ List.getD (Got.v (tbG ge (tbP pu k e p s n b r l))) (2 : Nat) (0 : Int) = s ∧ List.getD (Got.v (tbG ge (tbP pu k e p s n b r l))) (3 : Nat) (0 : Int) = n ∧ List.getD (Got.v (tbG ge (tbP pu k e p s n b r l))) (4 : Nat) (0 : Int) = b ∧ Got.r (tbG ge (tbP pu k e p s n b r l)) = r ∧ List.take (List.length (Got.blob (tbG ge (tbP pu k e p s n b r l)))) (Got.blob (tbG ge (tbP pu k e p s n b r l))) = List.take (List.length l) l)) = false, List.length (Got.blob (tbG ge (tbP pu k e p s n b r l))) ≤ List.length (Got.blob (tbG ge (tbP pu k e p s n b r l))), List.length l ≤ List.length l, u8L (Got.blob (tbG ge (tbP pu k e p s n b r l))), u8L l, (!decide (Got.e (tbG ge (tbP pu k e p s n b r l)) = (0 : Int))) = false, u8L (tbP pu k e p s n b r l), List.length (tbP pu k e p s n b r l) ≤ List.length (tbP pu k e p s n b r l), List.length (tbP pu k e p s n b r l) ≤ (1000000000 : Nat), (0 : Int) ≤ k ∧ k < (256 : Int), textR k [e, p, s, n, b] r (List.length l), List.length l ≤ List.length l, (!decide (Prod.snd (Prod.snd (Prod.snd (ck (partN K (0 : Nat) (List.length K)) (tbF (tbI is K x y z) bit) (Int.toNat ((↑(List.length (tbI is K x y z)) : Int) - (1 : Int)))))) = (130 : Int))) = false, u8L K, u8L (tbF (tbI is K x y z) bit), List.length K ≤ List.length K, Int.toNat ((↑(List.length (tbI is K x y z)) : Int) - (1 : Int)) ≤ List.length (tbF (tbI is K x y z) bit), List.length K ≤ (500000000 : Nat), List.length (tbF (tbI is K x y z) bit) ≤ (500000000 : Nat), (0 : Int) ≤ (↑(List.length (tbI is K x y z)) : Int) - (1 : Int), (↑(List.length (tbI is K x y z)) : Int) - (1 : Int) ≤ (↑(List.length (tbI is K x y z)) : Int), (-9223372036854775808 : Int) ≤ (↑(List.length (tbI is K x y z)) : Int) - (1 : Int) ∧ (↑(List.length (tbI is K x y z)) : Int) - (1 : Int) ≤ (9223372036854775807 : Int), (!decide (Prod.snd (Prod.snd (Prod.snd (ck (partN K (0 : Nat) (List.length K)) (tbF (tbI is K x y z) bit) (List.length (tbI is K x y z))))) = (130 : Int))) = false, u8L K, u8L (tbF (tbI is K x y z) bit), List.length K ≤ List.length K, List.length (tbI is K x y z) ≤ List.length (tbF (tbI is K x y z) bit), List.length K ≤ (500000000 : Nat), List.length (tbF (tbI is K x y z) bit) ≤ (500000000 : Nat), Int.toNat ((↑(List.length (tbI is K x y z)) : Int) - (32 : Int) + Int.tdiv (bit % (256 : Int)) (8 : Int)) < List.length (tbI is K x y z), (0 : Int) ≤ (↑(List.length (tbI is K x y z)) : Int) - (32 : Int) + Int.tdiv (bit % (256 : Int)) (8 : Int), (↑(List.length (tbI is K x y z)) : Int) - (32 : Int) + Int.tdiv (bit % (256 : Int)) (8 : Int) < (↑(List.length (tbI is K x y z)) : Int), (0 : Int) ≤ Int.tmod (bit % (256 : Int)) (8 : Int), Int.toNat ((↑(List.length (tbI is K x y z)) : Int) - (32 : Int) + Int.tdiv (bit % (256 : Int)) (8 : Int)) < List.length (tbI is K x y z), (0 : Int) ≤ (↑(List.length (tbI is K x y z)) : Int) - (32 : Int) + Int.tdiv (bit % (256 : Int)) (8 : Int), (↑(List.length (tbI is K x y z)) : Int) - (32 : Int) + Int.tdiv (bit % (256 : Int)) (8 : Int) < (↑(List.length (tbI is K x y z)) : Int), (-9223372036854775808 : Int) ≤ (↑(List.length (tbI is K x y z)) : Int) - (32 : Int) + Int.tdiv (bit % (256 : Int)) (8 : Int) ∧ (↑(List.length (tbI is K x y z)) : Int) - (32 : Int) + Int.tdiv (bit % (256 : Int)) (8 : Int) ≤ (9223372036854775807 : Int), (-9223372036854775808 : Int) ≤ Int.tdiv (bit % (256 : Int)) (8 : Int) ∧ Int.tdiv (bit % (256 : Int)) (8 : Int) ≤ (9223372036854775807 : Int), (-9223372036854775808 : Int) ≤ (↑(List.length (tbI is K x y z)) : Int) - (32 : Int) ∧ (↑(List.length (tbI is K x y z)) : Int) - (32 : Int) ≤ (9223372036854775807 : Int), (1 : Int) ≤ (256 : Int) ∧ (256 : Int) ≤ (1000000 : Int), (-9223372036854775808 : Int) ≤ bit ∧ bit ≤ (9223372036854775807 : Int), decide ((↑(List.length (tbI is K x y z)) : Int) < (32 : Int)) = false, (!(decide (Prod.fst (ck (partN K (0 : Nat) (List.length K)) (tbI is K x y z) (List.length (tbI is K x y z))) = x) && (decide (Prod.fst (Prod.snd (ck (partN K (0 : Nat) (List.length K)) (tbI is K x y z) (List.length (tbI is K x y z)))) = y) && (decide (Prod.fst (Prod.snd (Prod.snd (ck (partN K (0 : Nat) (List.length K)) (tbI is K x y z) (List.length (tbI is K x y z))))) = z) && true)))) = false, (!decide (Prod.snd (Prod.snd (Prod.snd (ck (partN K (0 : Nat) (List.length K)) (tbI is K x y z) (List.length (tbI is K x y z))))) = (0 : Int))) = false, u8L K, u8L (tbI is K x y z), List.length K ≤ List.length K, List.length (tbI is K x y z) ≤ List.length (tbI is K x y z), List.length K ≤ (500000000 : Nat), List.length (tbI is K x y z) ≤ (500000000 : Nat), tokR x y z, u8L K, List.length K ≤ List.length K, List.length K ≤ (500000000 : Nat), decide (Prod.snd (Prod.snd (Prod.snd (ck (partN K (0 : Nat) (List.length K)) c (List.length c)))) = (0 : Int)) = false, u8L K, u8L c, List.length K ≤ List.length K, List.length c ≤ List.length c, List.length K ≤ (500000000 : Nat), List.length c ≤ (500000000 : Nat), decide ((5000 : Int) < (↑(List.length c) : Int)) = false, decide ((5000 : Int) < (↑(List.length l) : Int)) = false, decide ((300 : Int) < (↑(List.length K) : Int)) = false]) := by kernel_rfl
theorem tb7 : (fun (is : IS) (ck : CK) (pu : PU) (ge : GE) (K : List Int) (x y z k e p s n b r bit : Int) (l c : List Int) => tbR is ck pu ge K x y z k e p s n b r bit l c [false, false, false, true, true, false, true, false, false, false, false, false, true, false, false, true, true, true, true]) = fun is ck pu ge K x y z k e p s n b r bit l c => some ([decide (Got.k (tbG ge c) = (0 : Int) ∧ List.getD (Got.v (tbG ge c)) (0 : Nat) (0 : Int) = (0 : Int) ∧ List.getD (Got.v (tbG ge c)) (1 : Nat) (0 : Int) = (0 : Int) ∧ List.getD (Got.v (tbG ge c)) (2 : Nat) (0 : Int) = (0 : Int) ∧ List.getD (Got.v (tbG ge c)) (3 : Nat) (0 : Int) = (0 : Int) ∧ List.getD (Got.v (tbG ge c)) (4 : Nat) (0 : Int) = (0 : Int) ∧ Got.r (tbG ge c) = (0 : Int) ∧ List.take (List.length (Got.blob (tbG ge c))) (Got.blob (tbG ge c)) = []) = true, List.length (Got.blob (tbG ge c)) ≤ List.length (Got.blob (tbG ge c)), u8L (Got.blob (tbG ge c)), decide (Got.e (tbG ge c) = (132 : Int)) = true, (!decide (Got.e (tbG ge c) = (0 : Int))) = true, u8L c, List.length c ≤ List.length c, List.length c ≤ (1000000000 : Nat), (!decide (Got.k (tbG ge (tbP pu k e p s n b r l)) = k ∧ List.getD (Got.v (tbG ge (tbP pu k e p s n b r l))) (0 : Nat) (0 : Int) = e ∧ List.getD (Got.v (tbG ge (tbP pu k e p s n b r l))) (1 : Nat) (0 : Int) = p ∧ List.getD (Got.v (tbG ge (tbP pu k e p s n b r l))) (2 : Nat) (0 : Int) = s ∧ List.getD (Got.v (tbG ge (tbP pu k e p s n b r l))) (3 : Nat) (0 : Int) = n ∧ List.getD (Got.v (tbG ge (tbP pu k e p s n b r l))) (4 : Nat) (0 : Int) = b ∧ Got.r (tbG ge (tbP pu k e p s n b r l)) = r ∧ List.take (List.length (Got.blob (tbG ge (tbP pu k e p s n b r l)))) (Got.blob (tbG ge (tbP pu k e p s n b r l))) = List.take (List.length l) l)) = false, List.length (Got.blob (tbG ge (tbP pu k e p s n b r l))) ≤ List.length (Got.blob (tbG ge (tbP pu k e p s n b r l))), List.length l ≤ List.length l, u8L (Got.blob (tbG ge (tbP pu k e p s n b r l))), u8L l, (!decide (Got.e (tbG ge (tbP pu k e p s n b r l)) = (0 : Int))) = false, u8L (tbP pu k e p s n b r l), List.length (tbP pu k e p s n b r l) ≤ List.length (tbP pu k e p s n b r l), List.length (tbP pu k e p s n b r l) ≤ (1000000000 : Nat), (0 : Int) ≤ k ∧ k < (256 : Int), textR k [e, p, s, n, b] r (List.length l), List.length l ≤ List.length l, (!decide (Prod.snd (Prod.snd (Prod.snd (ck (partN K (0 : Nat) (List.length K)) (tbF (tbI is K x y z) bit) (Int.toNat ((↑(List.length (tbI is K x y z)) : Int) - (1 : Int)))))) = (130 : Int))) = false, u8L K, u8L (tbF (tbI is K x y z) bit), List.length K ≤ List.length K, Int.toNat ((↑(List.length (tbI is K x y z)) : Int) - (1 : Int)) ≤ List.length (tbF (tbI is K x y z) bit), List.length K ≤ (500000000 : Nat), List.length (tbF (tbI is K x y z) bit) ≤ (500000000 : Nat), (0 : Int) ≤ (↑(List.length (tbI is K x y z)) : Int) - (1 : Int), (↑(List.length (tbI is K x y z)) : Int) - (1 : Int) ≤ (↑(List.length (tbI is K x y z)) : Int), (-9223372036854775808 : Int) ≤ (↑(List.length (tbI is K x y z)) : Int) - (1 : Int) ∧ (↑(List.length (tbI is K x y z)) : Int) - (1 : Int) ≤ (9223372036854775807 : Int), (!decide (Prod.snd (Prod.snd (Prod.snd (ck (partN K (0 : Nat) (List.length K)) (tbF (tbI is K x y z) bit) (List.length (tbI is K x y z))))) = (130 : Int))) = false, u8L K, u8L (tbF (tbI is K x y z) bit), List.length K ≤ List.length K, List.length (tbI is K x y z) ≤ List.length (tbF (tbI is K x y z) bit), List.length K ≤ (500000000 : Nat), List.length (tbF (tbI is K x y z) bit) ≤ (500000000 : Nat), Int.toNat ((↑(List.length (tbI is K x y z)) : Int) - (32 : Int) + Int.tdiv (bit % (256 : Int)) (8 : Int)) < List.length (tbI is K x y z), (0 : Int) ≤ (↑(List.length (tbI is K x y z)) : Int) - (32 : Int) + Int.tdiv (bit % (256 : Int)) (8 : Int), (↑(List.length (tbI is K x y z)) : Int) - (32 : Int) + Int.tdiv (bit % (256 : Int)) (8 : Int) < (↑(List.length (tbI is K x y z)) : Int), (0 : Int) ≤ Int.tmod (bit % (256 : Int)) (8 : Int), Int.toNat ((↑(List.length (tbI is K x y z)) : Int) - (32 : Int) + Int.tdiv (bit % (256 : Int)) (8 : Int)) < List.length (tbI is K x y z), (0 : Int) ≤ (↑(List.length (tbI is K x y z)) : Int) - (32 : Int) + Int.tdiv (bit % (256 : Int)) (8 : Int), (↑(List.length (tbI is K x y z)) : Int) - (32 : Int) + Int.tdiv (bit % (256 : Int)) (8 : Int) < (↑(List.length (tbI is K x y z)) : Int), (-9223372036854775808 : Int) ≤ (↑(List.length (tbI is K x y z)) : Int) - (32 : Int) + Int.tdiv (bit % (256 : Int)) (8 : Int) ∧ (↑(List.length (tbI is K x y z)) : Int) - (32 : Int) + Int.tdiv (bit % (256 : Int)) (8 : Int) ≤ (9223372036854775807 : Int), (-9223372036854775808 : Int) ≤ Int.tdiv (bit % (256 : Int)) (8 : Int) ∧ Int.tdiv (bit % (256 : Int)) (8 : Int) ≤ (9223372036854775807 : Int), (-9223372036854775808 : Int) ≤ (↑(List.length (tbI is K x y z)) : Int) - (32 : Int) ∧ (↑(List.length (tbI is K x y z)) : Int) - (32 : Int) ≤ (9223372036854775807 : Int), (1 : Int) ≤ (256 : Int) ∧ (256 : Int) ≤ (1000000 : Int), (-9223372036854775808 : Int) ≤ bit ∧ bit ≤ (9223372036854775807 : Int), decide ((↑(List.length (tbI is K x y z)) : Int) < (32 : Int)) = false, (!(decide (Prod.fst (ck (partN K (0 : Nat) (List.length K)) (tbI is K x y z) (List.length (tbI is K x y z))) = x) && (decide (Prod.fst (Prod.snd (ck (partN K (0 : Nat) (List.length K)) (tbI is K x y z) (List.length (tbI is K x y z)))) = y) && (decide (Prod.fst (Prod.snd (Prod.snd (ck (partN K (0 : Nat) (List.length K)) (tbI is K x y z) (List.length (tbI is K x y z))))) = z) && true)))) = false, (!decide (Prod.snd (Prod.snd (Prod.snd (ck (partN K (0 : Nat) (List.length K)) (tbI is K x y z) (List.length (tbI is K x y z))))) = (0 : Int))) = false, u8L K, u8L (tbI is K x y z), List.length K ≤ List.length K, List.length (tbI is K x y z) ≤ List.length (tbI is K x y z), List.length K ≤ (500000000 : Nat), List.length (tbI is K x y z) ≤ (500000000 : Nat), tokR x y z, u8L K, List.length K ≤ List.length K, List.length K ≤ (500000000 : Nat), (!decide (List.take (List.length (is (partN K (0 : Nat) (List.length K)) (Prod.fst (ck (partN K (0 : Nat) (List.length K)) c (List.length c))) (Prod.fst (Prod.snd (ck (partN K (0 : Nat) (List.length K)) c (List.length c)))) (Prod.fst (Prod.snd (Prod.snd (ck (partN K (0 : Nat) (List.length K)) c (List.length c))))))) (is (partN K (0 : Nat) (List.length K)) (Prod.fst (ck (partN K (0 : Nat) (List.length K)) c (List.length c))) (Prod.fst (Prod.snd (ck (partN K (0 : Nat) (List.length K)) c (List.length c)))) (Prod.fst (Prod.snd (Prod.snd (ck (partN K (0 : Nat) (List.length K)) c (List.length c)))))) = List.take (List.length c) c)) = false, List.length (is (partN K (0 : Nat) (List.length K)) (Prod.fst (ck (partN K (0 : Nat) (List.length K)) c (List.length c))) (Prod.fst (Prod.snd (ck (partN K (0 : Nat) (List.length K)) c (List.length c)))) (Prod.fst (Prod.snd (Prod.snd (ck (partN K (0 : Nat) (List.length K)) c (List.length c)))))) ≤ List.length (is (partN K (0 : Nat) (List.length K)) (Prod.fst (ck (partN K (0 : Nat) (List.length K)) c (List.length c))) (Prod.fst (Prod.snd (ck (partN K (0 : Nat) (List.length K)) c (List.length c)))) (Prod.fst (Prod.snd (Prod.snd (ck (partN K (0 : Nat) (List.length K)) c (List.length c)))))), List.length c ≤ List.length c, u8L (is (partN K (0 : Nat) (List.length K)) (Prod.fst (ck (partN K (0 : Nat) (List.length K)) c (List.length c))) (Prod.fst (Prod.snd (ck (partN K (0 : Nat) (List.length K)) c (List.length c)))) (Prod.fst (Prod.snd (Prod.snd (ck (partN K (0 : Nat) (List.length K)) c (List.length c)))))), u8L c, tokR (Prod.fst (ck (partN K (0 : Nat) (List.length K)) c (List.length c))) (Prod.fst (Prod.snd (ck (partN K (0 : Nat) (List.length K)) c (List.length c)))) (Prod.fst (Prod.snd (Prod.snd (ck (partN K (0 : Nat) (List.length K)) c (List.length c))))), u8L K, List.length K ≤ List.length K, List.length K ≤ (500000000 : Nat), decide (Prod.snd (Prod.snd (Prod.snd (ck (partN K (0 : Nat) (List.length K)) c (List.length c)))) = (0 : Int)) = true, u8L K, u8L c, List.length K ≤ List.length K, List.length c ≤ List.length c, List.length K ≤ (500000000 : Nat), List.length c ≤ (500000000 : Nat), decide ((5000 : Int) < (↑(List.length c) : Int)) = false, decide ((5000 : Int) < (↑(List.length l) : Int)) = false, decide ((300 : Int) < (↑(List.length K) : Int)) = false]) := by kernel_rfl
theorem tb8 : (fun (is : IS) (ck : CK) (pu : PU) (ge : GE) (K : List Int) (x y z k e p s n b r bit : Int) (l c : List Int) => tbR is ck pu ge K x y z k e p s n b r bit l c [false, false, false, false, false, false, false, true, true, true]) = fun _ ck pu ge K x y z k e p s n b r _ l c => some ([decide (List.take (List.length (tbQ pu (tbG ge c))) (tbQ pu (tbG ge c)) = List.take (List.length c) c) = true, List.length (tbQ pu (tbG ge c)) ≤ List.length (tbQ pu (tbG ge c)), List.length c ≤ List.length c, u8L (tbQ pu (tbG ge c)), u8L c, (0 : Int) ≤ Got.k (tbG ge c) ∧ Got.k (tbG ge c) < (256 : Int), textR (Got.k (tbG ge c)) [List.getD (Got.v (tbG ge c)) (0 : Nat) (0 : Int), List.getD (Got.v (tbG ge c)) (1 : Nat) (0 : Int), List.getD (Got.v (tbG ge c)) (2 : Nat) (0 : Int), List.getD (Got.v (tbG ge c)) (3 : Nat) (0 : Int), List.getD (Got.v (tbG ge c)) (4 : Nat) (0 : Int)] (Got.r (tbG ge c)) (List.length (Got.blob (tbG ge c))), List.length (Got.blob (tbG ge c)) ≤ List.length (Got.blob (tbG ge c)), (!decide (Got.e (tbG ge c) = (0 : Int))) = false, u8L c, List.length c ≤ List.length c, List.length c ≤ (1000000000 : Nat), (0 : Int) ≤ k ∧ k < (256 : Int), ¬textR k [e, p, s, n, b] r (List.length l), ¬tokR x y z, decide (Prod.snd (Prod.snd (Prod.snd (ck (partN K (0 : Nat) (List.length K)) c (List.length c)))) = (0 : Int)) = false, u8L K, u8L c, List.length K ≤ List.length K, List.length c ≤ List.length c, List.length K ≤ (500000000 : Nat), List.length c ≤ (500000000 : Nat), decide ((5000 : Int) < (↑(List.length c) : Int)) = false, decide ((5000 : Int) < (↑(List.length l) : Int)) = false, decide ((300 : Int) < (↑(List.length K) : Int)) = false]) := by kernel_rfl
theorem tb9 : (fun (is : IS) (ck : CK) (pu : PU) (ge : GE) (K : List Int) (x y z k e p s n b r bit : Int) (l c : List Int) => tbR is ck pu ge K x y z k e p s n b r bit l c [false, false, false, true, true, false, false, false, false, true, true, true]) = fun is ck pu ge K x y z k e p s n b r _ l c => some ([decide (List.take (List.length (tbQ pu (tbG ge c))) (tbQ pu (tbG ge c)) = List.take (List.length c) c) = true, List.length (tbQ pu (tbG ge c)) ≤ List.length (tbQ pu (tbG ge c)), List.length c ≤ List.length c, u8L (tbQ pu (tbG ge c)), u8L c, (0 : Int) ≤ Got.k (tbG ge c) ∧ Got.k (tbG ge c) < (256 : Int), textR (Got.k (tbG ge c)) [List.getD (Got.v (tbG ge c)) (0 : Nat) (0 : Int), List.getD (Got.v (tbG ge c)) (1 : Nat) (0 : Int), List.getD (Got.v (tbG ge c)) (2 : Nat) (0 : Int), List.getD (Got.v (tbG ge c)) (3 : Nat) (0 : Int), List.getD (Got.v (tbG ge c)) (4 : Nat) (0 : Int)] (Got.r (tbG ge c)) (List.length (Got.blob (tbG ge c))), List.length (Got.blob (tbG ge c)) ≤ List.length (Got.blob (tbG ge c)), (!decide (Got.e (tbG ge c) = (0 : Int))) = false, u8L c, List.length c ≤ List.length c, List.length c ≤ (1000000000 : Nat), (0 : Int) ≤ k ∧ k < (256 : Int), ¬textR k [e, p, s, n, b] r (List.length l), ¬tokR x y z, (!decide (List.take (List.length (is (partN K (0 : Nat) (List.length K)) (Prod.fst (ck (partN K (0 : Nat) (List.length K)) c (List.length c))) (Prod.fst (Prod.snd (ck (partN K (0 : Nat) (List.length K)) c (List.length c)))) (Prod.fst (Prod.snd (Prod.snd (ck (partN K (0 : Nat) (List.length K)) c (List.length c))))))) (is (partN K (0 : Nat) (List.length K)) (Prod.fst (ck (partN K (0 : Nat) (List.length K)) c (List.length c))) (Prod.fst (Prod.snd (ck (partN K (0 : Nat) (List.length K)) c (List.length c)))) (Prod.fst (Prod.snd (Prod.snd (ck (partN K (0 : Nat) (List.length K)) c (List.length c)))))) = List.take (List.length c) c)) = false, List.length (is (partN K (0 : Nat) (List.length K)) (Prod.fst (ck (partN K (0 : Nat) (List.length K)) c (List.length c))) (Prod.fst (Prod.snd (ck (partN K (0 : Nat) (List.length K)) c (List.length c)))) (Prod.fst (Prod.snd (Prod.snd (ck (partN K (0 : Nat) (List.length K)) c (List.length c)))))) ≤ List.length (is (partN K (0 : Nat) (List.length K)) (Prod.fst (ck (partN K (0 : Nat) (List.length K)) c (List.length c))) (Prod.fst (Prod.snd (ck (partN K (0 : Nat) (List.length K)) c (List.length c)))) (Prod.fst (Prod.snd (Prod.snd (ck (partN K (0 : Nat) (List.length K)) c (List.length c)))))), List.length c ≤ List.length c, u8L (is (partN K (0 : Nat) (List.length K)) (Prod.fst (ck (partN K (0 : Nat) (List.length K)) c (List.length c))) (Prod.fst (Prod.snd (ck (partN K (0 : Nat) (List.length K)) c (List.length c)))) (Prod.fst (Prod.snd (Prod.snd (ck (partN K (0 : Nat) (List.length K)) c (List.length c)))))), u8L c, tokR (Prod.fst (ck (partN K (0 : Nat) (List.length K)) c (List.length c))) (Prod.fst (Prod.snd (ck (partN K (0 : Nat) (List.length K)) c (List.length c)))) (Prod.fst (Prod.snd (Prod.snd (ck (partN K (0 : Nat) (List.length K)) c (List.length c))))), u8L K, List.length K ≤ List.length K, List.length K ≤ (500000000 : Nat), decide (Prod.snd (Prod.snd (Prod.snd (ck (partN K (0 : Nat) (List.length K)) c (List.length c)))) = (0 : Int)) = true, u8L K, u8L c, List.length K ≤ List.length K, List.length c ≤ List.length c, List.length K ≤ (500000000 : Nat), List.length c ≤ (500000000 : Nat), decide ((5000 : Int) < (↑(List.length c) : Int)) = false, decide ((5000 : Int) < (↑(List.length l) : Int)) = false, decide ((300 : Int) < (↑(List.length K) : Int)) = false]) := by kernel_rfl
theorem tb10 : (fun (is : IS) (ck : CK) (pu : PU) (ge : GE) (K : List Int) (x y z k e p s n b r bit : Int) (l c : List Int) => tbR is ck pu ge K x y z k e p s n b r bit l c [false, false, false, false, true, false, false, false, false, false, false, false, true, true, true]) = fun is ck pu ge K x y z k e p s n b r bit l c => some ([decide (List.take (List.length (tbQ pu (tbG ge c))) (tbQ pu (tbG ge c)) = List.take (List.length c) c) = true, List.length (tbQ pu (tbG ge c)) ≤ List.length (tbQ pu (tbG ge c)), List.length c ≤ List.length c, u8L (tbQ pu (tbG ge c)), u8L c, (0 : Int) ≤ Got.k (tbG ge c) ∧ Got.k (tbG ge c) < (256 : Int), textR (Got.k (tbG ge c)) [List.getD (Got.v (tbG ge c)) (0 : Nat) (0 : Int), List.getD (Got.v (tbG ge c)) (1 : Nat) (0 : Int), List.getD (Got.v (tbG ge c)) (2 : Nat) (0 : Int), List.getD (Got.v (tbG ge c)) (3 : Nat) (0 : Int), List.getD (Got.v (tbG ge c)) (4 : Nat) (0 : Int)] (Got.r (tbG ge c)) (List.length (Got.blob (tbG ge c))), List.length (Got.blob (tbG ge c)) ≤ List.length (Got.blob (tbG ge c)), (!decide (Got.e (tbG ge c) = (0 : Int))) = false, u8L c, List.length c ≤ List.length c, List.length c ≤ (1000000000 : Nat), (0 : Int) ≤ k ∧ k < (256 : Int), ¬textR k [e, p, s, n, b] r (List.length l), (!decide (Prod.snd (Prod.snd (Prod.snd (ck (partN K (0 : Nat) (List.length K)) (tbF (tbI is K x y z) bit) (Int.toNat ((↑(List.length (tbI is K x y z)) : Int) - (1 : Int)))))) = (130 : Int))) = false, u8L K, u8L (tbF (tbI is K x y z) bit), List.length K ≤ List.length K, Int.toNat ((↑(List.length (tbI is K x y z)) : Int) - (1 : Int)) ≤ List.length (tbF (tbI is K x y z) bit), List.length K ≤ (500000000 : Nat), List.length (tbF (tbI is K x y z) bit) ≤ (500000000 : Nat), (0 : Int) ≤ (↑(List.length (tbI is K x y z)) : Int) - (1 : Int), (↑(List.length (tbI is K x y z)) : Int) - (1 : Int) ≤ (↑(List.length (tbI is K x y z)) : Int), (-9223372036854775808 : Int) ≤ (↑(List.length (tbI is K x y z)) : Int) - (1 : Int) ∧ (↑(List.length (tbI is K x y z)) : Int) - (1 : Int) ≤ (9223372036854775807 : Int), (!decide (Prod.snd (Prod.snd (Prod.snd (ck (partN K (0 : Nat) (List.length K)) (tbF (tbI is K x y z) bit) (List.length (tbI is K x y z))))) = (130 : Int))) = false, u8L K, u8L (tbF (tbI is K x y z) bit), List.length K ≤ List.length K, List.length (tbI is K x y z) ≤ List.length (tbF (tbI is K x y z) bit), List.length K ≤ (500000000 : Nat), List.length (tbF (tbI is K x y z) bit) ≤ (500000000 : Nat), Int.toNat ((↑(List.length (tbI is K x y z)) : Int) - (32 : Int) + Int.tdiv (bit % (256 : Int)) (8 : Int)) < List.length (tbI is K x y z), (0 : Int) ≤ (↑(List.length (tbI is K x y z)) : Int) - (32 : Int) + Int.tdiv (bit % (256 : Int)) (8 : Int), (↑(List.length (tbI is K x y z)) : Int) - (32 : Int) + Int.tdiv (bit % (256 : Int)) (8 : Int) < (↑(List.length (tbI is K x y z)) : Int), (0 : Int) ≤ Int.tmod (bit % (256 : Int)) (8 : Int), Int.toNat ((↑(List.length (tbI is K x y z)) : Int) - (32 : Int) + Int.tdiv (bit % (256 : Int)) (8 : Int)) < List.length (tbI is K x y z), (0 : Int) ≤ (↑(List.length (tbI is K x y z)) : Int) - (32 : Int) + Int.tdiv (bit % (256 : Int)) (8 : Int), (↑(List.length (tbI is K x y z)) : Int) - (32 : Int) + Int.tdiv (bit % (256 : Int)) (8 : Int) < (↑(List.length (tbI is K x y z)) : Int), (-9223372036854775808 : Int) ≤ (↑(List.length (tbI is K x y z)) : Int) - (32 : Int) + Int.tdiv (bit % (256 : Int)) (8 : Int) ∧ (↑(List.length (tbI is K x y z)) : Int) - (32 : Int) + Int.tdiv (bit % (256 : Int)) (8 : Int) ≤ (9223372036854775807 : Int), (-9223372036854775808 : Int) ≤ Int.tdiv (bit % (256 : Int)) (8 : Int) ∧ Int.tdiv (bit % (256 : Int)) (8 : Int) ≤ (9223372036854775807 : Int), (-9223372036854775808 : Int) ≤ (↑(List.length (tbI is K x y z)) : Int) - (32 : Int) ∧ (↑(List.length (tbI is K x y z)) : Int) - (32 : Int) ≤ (9223372036854775807 : Int), (1 : Int) ≤ (256 : Int) ∧ (256 : Int) ≤ (1000000 : Int), (-9223372036854775808 : Int) ≤ bit ∧ bit ≤ (9223372036854775807 : Int), decide ((↑(List.length (tbI is K x y z)) : Int) < (32 : Int)) = false, (!(decide (Prod.fst (ck (partN K (0 : Nat) (List.length K)) (tbI is K x y z) (List.length (tbI is K x y z))) = x) && (decide (Prod.fst (Prod.snd (ck (partN K (0 : Nat) (List.length K)) (tbI is K x y z) (List.length (tbI is K x y z)))) = y) && (decide (Prod.fst (Prod.snd (Prod.snd (ck (partN K (0 : Nat) (List.length K)) (tbI is K x y z) (List.length (tbI is K x y z))))) = z) && true)))) = false, (!decide (Prod.snd (Prod.snd (Prod.snd (ck (partN K (0 : Nat) (List.length K)) (tbI is K x y z) (List.length (tbI is K x y z))))) = (0 : Int))) = false, u8L K, u8L (tbI is K x y z), List.length K ≤ List.length K, List.length (tbI is K x y z) ≤ List.length (tbI is K x y z), List.length K ≤ (500000000 : Nat), List.length (tbI is K x y z) ≤ (500000000 : Nat), tokR x y z, u8L K, List.length K ≤ List.length K, List.length K ≤ (500000000 : Nat), decide (Prod.snd (Prod.snd (Prod.snd (ck (partN K (0 : Nat) (List.length K)) c (List.length c)))) = (0 : Int)) = false, u8L K, u8L c, List.length K ≤ List.length K, List.length c ≤ List.length c, List.length K ≤ (500000000 : Nat), List.length c ≤ (500000000 : Nat), decide ((5000 : Int) < (↑(List.length c) : Int)) = false, decide ((5000 : Int) < (↑(List.length l) : Int)) = false, decide ((300 : Int) < (↑(List.length K) : Int)) = false]) := by kernel_rfl
theorem tb11 : (fun (is : IS) (ck : CK) (pu : PU) (ge : GE) (K : List Int) (x y z k e p s n b r bit : Int) (l c : List Int) => tbR is ck pu ge K x y z k e p s n b r bit l c [false, false, false, true, true, false, true, false, false, false, false, false, false, false, true, true, true]) = fun is ck pu ge K x y z k e p s n b r bit l c => some ([decide (List.take (List.length (tbQ pu (tbG ge c))) (tbQ pu (tbG ge c)) = List.take (List.length c) c) = true, List.length (tbQ pu (tbG ge c)) ≤ List.length (tbQ pu (tbG ge c)), List.length c ≤ List.length c, u8L (tbQ pu (tbG ge c)), u8L c, (0 : Int) ≤ Got.k (tbG ge c) ∧ Got.k (tbG ge c) < (256 : Int), textR (Got.k (tbG ge c)) [List.getD (Got.v (tbG ge c)) (0 : Nat) (0 : Int), List.getD (Got.v (tbG ge c)) (1 : Nat) (0 : Int), List.getD (Got.v (tbG ge c)) (2 : Nat) (0 : Int), List.getD (Got.v (tbG ge c)) (3 : Nat) (0 : Int), List.getD (Got.v (tbG ge c)) (4 : Nat) (0 : Int)] (Got.r (tbG ge c)) (List.length (Got.blob (tbG ge c))), List.length (Got.blob (tbG ge c)) ≤ List.length (Got.blob (tbG ge c)), (!decide (Got.e (tbG ge c) = (0 : Int))) = false, u8L c, List.length c ≤ List.length c, List.length c ≤ (1000000000 : Nat), (0 : Int) ≤ k ∧ k < (256 : Int), ¬textR k [e, p, s, n, b] r (List.length l), (!decide (Prod.snd (Prod.snd (Prod.snd (ck (partN K (0 : Nat) (List.length K)) (tbF (tbI is K x y z) bit) (Int.toNat ((↑(List.length (tbI is K x y z)) : Int) - (1 : Int)))))) = (130 : Int))) = false, u8L K, u8L (tbF (tbI is K x y z) bit), List.length K ≤ List.length K, Int.toNat ((↑(List.length (tbI is K x y z)) : Int) - (1 : Int)) ≤ List.length (tbF (tbI is K x y z) bit), List.length K ≤ (500000000 : Nat), List.length (tbF (tbI is K x y z) bit) ≤ (500000000 : Nat), (0 : Int) ≤ (↑(List.length (tbI is K x y z)) : Int) - (1 : Int), (↑(List.length (tbI is K x y z)) : Int) - (1 : Int) ≤ (↑(List.length (tbI is K x y z)) : Int), (-9223372036854775808 : Int) ≤ (↑(List.length (tbI is K x y z)) : Int) - (1 : Int) ∧ (↑(List.length (tbI is K x y z)) : Int) - (1 : Int) ≤ (9223372036854775807 : Int), (!decide (Prod.snd (Prod.snd (Prod.snd (ck (partN K (0 : Nat) (List.length K)) (tbF (tbI is K x y z) bit) (List.length (tbI is K x y z))))) = (130 : Int))) = false, u8L K, u8L (tbF (tbI is K x y z) bit), List.length K ≤ List.length K, List.length (tbI is K x y z) ≤ List.length (tbF (tbI is K x y z) bit), List.length K ≤ (500000000 : Nat), List.length (tbF (tbI is K x y z) bit) ≤ (500000000 : Nat), Int.toNat ((↑(List.length (tbI is K x y z)) : Int) - (32 : Int) + Int.tdiv (bit % (256 : Int)) (8 : Int)) < List.length (tbI is K x y z), (0 : Int) ≤ (↑(List.length (tbI is K x y z)) : Int) - (32 : Int) + Int.tdiv (bit % (256 : Int)) (8 : Int), (↑(List.length (tbI is K x y z)) : Int) - (32 : Int) + Int.tdiv (bit % (256 : Int)) (8 : Int) < (↑(List.length (tbI is K x y z)) : Int), (0 : Int) ≤ Int.tmod (bit % (256 : Int)) (8 : Int), Int.toNat ((↑(List.length (tbI is K x y z)) : Int) - (32 : Int) + Int.tdiv (bit % (256 : Int)) (8 : Int)) < List.length (tbI is K x y z), (0 : Int) ≤ (↑(List.length (tbI is K x y z)) : Int) - (32 : Int) + Int.tdiv (bit % (256 : Int)) (8 : Int), (↑(List.length (tbI is K x y z)) : Int) - (32 : Int) + Int.tdiv (bit % (256 : Int)) (8 : Int) < (↑(List.length (tbI is K x y z)) : Int), (-9223372036854775808 : Int) ≤ (↑(List.length (tbI is K x y z)) : Int) - (32 : Int) + Int.tdiv (bit % (256 : Int)) (8 : Int) ∧ (↑(List.length (tbI is K x y z)) : Int) - (32 : Int) + Int.tdiv (bit % (256 : Int)) (8 : Int) ≤ (9223372036854775807 : Int), (-9223372036854775808 : Int) ≤ Int.tdiv (bit % (256 : Int)) (8 : Int) ∧ Int.tdiv (bit % (256 : Int)) (8 : Int) ≤ (9223372036854775807 : Int), (-9223372036854775808 : Int) ≤ (↑(List.length (tbI is K x y z)) : Int) - (32 : Int) ∧ (↑(List.length (tbI is K x y z)) : Int) - (32 : Int) ≤ (9223372036854775807 : Int), (1 : Int) ≤ (256 : Int) ∧ (256 : Int) ≤ (1000000 : Int), (-9223372036854775808 : Int) ≤ bit ∧ bit ≤ (9223372036854775807 : Int), decide ((↑(List.length (tbI is K x y z)) : Int) < (32 : Int)) = false, (!(decide (Prod.fst (ck (partN K (0 : Nat) (List.length K)) (tbI is K x y z) (List.length (tbI is K x y z))) = x) && (decide (Prod.fst (Prod.snd (ck (partN K (0 : Nat) (List.length K)) (tbI is K x y z) (List.length (tbI is K x y z)))) = y) && (decide (Prod.fst (Prod.snd (Prod.snd (ck (partN K (0 : Nat) (List.length K)) (tbI is K x y z) (List.length (tbI is K x y z))))) = z) && true)))) = false, (!decide (Prod.snd (Prod.snd (Prod.snd (ck (partN K (0 : Nat) (List.length K)) (tbI is K x y z) (List.length (tbI is K x y z))))) = (0 : Int))) = false, u8L K, u8L (tbI is K x y z), List.length K ≤ List.length K, List.length (tbI is K x y z) ≤ List.length (tbI is K x y z), List.length K ≤ (500000000 : Nat), List.length (tbI is K x y z) ≤ (500000000 : Nat), tokR x y z, u8L K, List.length K ≤ List.length K, List.length K ≤ (500000000 : Nat), (!decide (List.take (List.length (is (partN K (0 : Nat) (List.length K)) (Prod.fst (ck (partN K (0 : Nat) (List.length K)) c (List.length c))) (Prod.fst (Prod.snd (ck (partN K (0 : Nat) (List.length K)) c (List.length c)))) (Prod.fst (Prod.snd (Prod.snd (ck (partN K (0 : Nat) (List.length K)) c (List.length c))))))) (is (partN K (0 : Nat) (List.length K)) (Prod.fst (ck (partN K (0 : Nat) (List.length K)) c (List.length c))) (Prod.fst (Prod.snd (ck (partN K (0 : Nat) (List.length K)) c (List.length c)))) (Prod.fst (Prod.snd (Prod.snd (ck (partN K (0 : Nat) (List.length K)) c (List.length c)))))) = List.take (List.length c) c)) = false, List.length (is (partN K (0 : Nat) (List.length K)) (Prod.fst (ck (partN K (0 : Nat) (List.length K)) c (List.length c))) (Prod.fst (Prod.snd (ck (partN K (0 : Nat) (List.length K)) c (List.length c)))) (Prod.fst (Prod.snd (Prod.snd (ck (partN K (0 : Nat) (List.length K)) c (List.length c)))))) ≤ List.length (is (partN K (0 : Nat) (List.length K)) (Prod.fst (ck (partN K (0 : Nat) (List.length K)) c (List.length c))) (Prod.fst (Prod.snd (ck (partN K (0 : Nat) (List.length K)) c (List.length c)))) (Prod.fst (Prod.snd (Prod.snd (ck (partN K (0 : Nat) (List.length K)) c (List.length c)))))), List.length c ≤ List.length c, u8L (is (partN K (0 : Nat) (List.length K)) (Prod.fst (ck (partN K (0 : Nat) (List.length K)) c (List.length c))) (Prod.fst (Prod.snd (ck (partN K (0 : Nat) (List.length K)) c (List.length c)))) (Prod.fst (Prod.snd (Prod.snd (ck (partN K (0 : Nat) (List.length K)) c (List.length c)))))), u8L c, tokR (Prod.fst (ck (partN K (0 : Nat) (List.length K)) c (List.length c))) (Prod.fst (Prod.snd (ck (partN K (0 : Nat) (List.length K)) c (List.length c)))) (Prod.fst (Prod.snd (Prod.snd (ck (partN K (0 : Nat) (List.length K)) c (List.length c))))), u8L K, List.length K ≤ List.length K, List.length K ≤ (500000000 : Nat), decide (Prod.snd (Prod.snd (Prod.snd (ck (partN K (0 : Nat) (List.length K)) c (List.length c)))) = (0 : Int)) = true, u8L K, u8L c, List.length K ≤ List.length K, List.length c ≤ List.length c, List.length K ≤ (500000000 : Nat), List.length c ≤ (500000000 : Nat), decide ((5000 : Int) < (↑(List.length c) : Int)) = false, decide ((5000 : Int) < (↑(List.length l) : Int)) = false, decide ((300 : Int) < (↑(List.length K) : Int)) = false]) := by kernel_rfl
theorem tb12 : (fun (is : IS) (ck : CK) (pu : PU) (ge : GE) (K : List Int) (x y z k e p s n b r bit : Int) (l c : List Int) => tbR is ck pu ge K x y z k e p s n b r bit l c [false, false, false, false, false, true, false, false, false, true, true, true]) = fun _ ck pu ge K x y z k e p s n b r _ l c => some ([decide (List.take (List.length (tbQ pu (tbG ge c))) (tbQ pu (tbG ge c)) = List.take (List.length c) c) = true, List.length (tbQ pu (tbG ge c)) ≤ List.length (tbQ pu (tbG ge c)), List.length c ≤ List.length c, u8L (tbQ pu (tbG ge c)), u8L c, (0 : Int) ≤ Got.k (tbG ge c) ∧ Got.k (tbG ge c) < (256 : Int), textR (Got.k (tbG ge c)) [List.getD (Got.v (tbG ge c)) (0 : Nat) (0 : Int), List.getD (Got.v (tbG ge c)) (1 : Nat) (0 : Int), List.getD (Got.v (tbG ge c)) (2 : Nat) (0 : Int), List.getD (Got.v (tbG ge c)) (3 : Nat) (0 : Int), List.getD (Got.v (tbG ge c)) (4 : Nat) (0 : Int)] (Got.r (tbG ge c)) (List.length (Got.blob (tbG ge c))), List.length (Got.blob (tbG ge c)) ≤ List.length (Got.blob (tbG ge c)), (!decide (Got.e (tbG ge c) = (0 : Int))) = false, u8L c, List.length c ≤ List.length c, List.length c ≤ (1000000000 : Nat), (!decide (Got.k (tbG ge (tbP pu k e p s n b r l)) = k ∧ List.getD (Got.v (tbG ge (tbP pu k e p s n b r l))) (0 : Nat) (0 : Int) = e ∧ List.getD (Got.v (tbG ge (tbP pu k e p s n b r l))) (1 : Nat) (0 : Int) = p ∧ List.getD (Got.v (tbG ge (tbP pu k e p s n b r l))) (2 : Nat) (0 : Int) = s ∧ List.getD (Got.v (tbG ge (tbP pu k e p s n b r l))) (3 : Nat) (0 : Int) = n ∧ List.getD (Got.v (tbG ge (tbP pu k e p s n b r l))) (4 : Nat) (0 : Int) = b ∧ Got.r (tbG ge (tbP pu k e p s n b r l)) = r ∧ List.take (List.length (Got.blob (tbG ge (tbP pu k e p s n b r l)))) (Got.blob (tbG ge (tbP pu k e p s n b r l))) = List.take (List.length l) l)) = false, List.length (Got.blob (tbG ge (tbP pu k e p s n b r l))) ≤ List.length (Got.blob (tbG ge (tbP pu k e p s n b r l))), List.length l ≤ List.length l, u8L (Got.blob (tbG ge (tbP pu k e p s n b r l))), u8L l, (!decide (Got.e (tbG ge (tbP pu k e p s n b r l)) = (0 : Int))) = false, u8L (tbP pu k e p s n b r l), List.length (tbP pu k e p s n b r l) ≤ List.length (tbP pu k e p s n b r l), List.length (tbP pu k e p s n b r l) ≤ (1000000000 : Nat), (0 : Int) ≤ k ∧ k < (256 : Int), textR k [e, p, s, n, b] r (List.length l), List.length l ≤ List.length l, ¬tokR x y z, decide (Prod.snd (Prod.snd (Prod.snd (ck (partN K (0 : Nat) (List.length K)) c (List.length c)))) = (0 : Int)) = false, u8L K, u8L c, List.length K ≤ List.length K, List.length c ≤ List.length c, List.length K ≤ (500000000 : Nat), List.length c ≤ (500000000 : Nat), decide ((5000 : Int) < (↑(List.length c) : Int)) = false, decide ((5000 : Int) < (↑(List.length l) : Int)) = false, decide ((300 : Int) < (↑(List.length K) : Int)) = false]) := by kernel_rfl
theorem tb13 : (fun (is : IS) (ck : CK) (pu : PU) (ge : GE) (K : List Int) (x y z k e p s n b r bit : Int) (l c : List Int) => tbR is ck pu ge K x y z k e p s n b r bit l c [false, false, false, true, true, false, false, true, false, false, false, true, true, true]) = fun is ck pu ge K x y z k e p s n b r _ l c => some ([decide (List.take (List.length (tbQ pu (tbG ge c))) (tbQ pu (tbG ge c)) = List.take (List.length c) c) = true, List.length (tbQ pu (tbG ge c)) ≤ List.length (tbQ pu (tbG ge c)), List.length c ≤ List.length c, u8L (tbQ pu (tbG ge c)), u8L c, (0 : Int) ≤ Got.k (tbG ge c) ∧ Got.k (tbG ge c) < (256 : Int), textR (Got.k (tbG ge c)) [List.getD (Got.v (tbG ge c)) (0 : Nat) (0 : Int), List.getD (Got.v (tbG ge c)) (1 : Nat) (0 : Int), List.getD (Got.v (tbG ge c)) (2 : Nat) (0 : Int), List.getD (Got.v (tbG ge c)) (3 : Nat) (0 : Int), List.getD (Got.v (tbG ge c)) (4 : Nat) (0 : Int)] (Got.r (tbG ge c)) (List.length (Got.blob (tbG ge c))), List.length (Got.blob (tbG ge c)) ≤ List.length (Got.blob (tbG ge c)), (!decide (Got.e (tbG ge c) = (0 : Int))) = false, u8L c, List.length c ≤ List.length c, List.length c ≤ (1000000000 : Nat), (!decide (Got.k (tbG ge (tbP pu k e p s n b r l)) = k ∧ List.getD (Got.v (tbG ge (tbP pu k e p s n b r l))) (0 : Nat) (0 : Int) = e ∧ List.getD (Got.v (tbG ge (tbP pu k e p s n b r l))) (1 : Nat) (0 : Int) = p ∧ List.getD (Got.v (tbG ge (tbP pu k e p s n b r l))) (2 : Nat) (0 : Int) = s ∧ List.getD (Got.v (tbG ge (tbP pu k e p s n b r l))) (3 : Nat) (0 : Int) = n ∧ List.getD (Got.v (tbG ge (tbP pu k e p s n b r l))) (4 : Nat) (0 : Int) = b ∧ Got.r (tbG ge (tbP pu k e p s n b r l)) = r ∧ List.take (List.length (Got.blob (tbG ge (tbP pu k e p s n b r l)))) (Got.blob (tbG ge (tbP pu k e p s n b r l))) = List.take (List.length l) l)) = false, List.length (Got.blob (tbG ge (tbP pu k e p s n b r l))) ≤ List.length (Got.blob (tbG ge (tbP pu k e p s n b r l))), List.length l ≤ List.length l, u8L (Got.blob (tbG ge (tbP pu k e p s n b r l))), u8L l, (!decide (Got.e (tbG ge (tbP pu k e p s n b r l)) = (0 : Int))) = false, u8L (tbP pu k e p s n b r l), List.length (tbP pu k e p s n b r l) ≤ List.length (tbP pu k e p s n b r l), List.length (tbP pu k e p s n b r l) ≤ (1000000000 : Nat), (0 : Int) ≤ k ∧ k < (256 : Int), textR k [e, p, s, n, b] r (List.length l), List.length l ≤ List.length l, ¬tokR x y z, (!decide (List.take (List.length (is (partN K (0 : Nat) (List.length K)) (Prod.fst (ck (partN K (0 : Nat) (List.length K)) c (List.length c))) (Prod.fst (Prod.snd (ck (partN K (0 : Nat) (List.length K)) c (List.length c)))) (Prod.fst (Prod.snd (Prod.snd (ck (partN K (0 : Nat) (List.length K)) c (List.length c))))))) (is (partN K (0 : Nat) (List.length K)) (Prod.fst (ck (partN K (0 : Nat) (List.length K)) c (List.length c))) (Prod.fst (Prod.snd (ck (partN K (0 : Nat) (List.length K)) c (List.length c)))) (Prod.fst (Prod.snd (Prod.snd (ck (partN K (0 : Nat) (List.length K)) c (List.length c)))))) = List.take (List.length c) c)) = false, List.length (is (partN K (0 : Nat) (List.length K)) (Prod.fst (ck (partN K (0 : Nat) (List.length K)) c (List.length c))) (Prod.fst (Prod.snd (ck (partN K (0 : Nat) (List.length K)) c (List.length c)))) (Prod.fst (Prod.snd (Prod.snd (ck (partN K (0 : Nat) (List.length K)) c (List.length c)))))) ≤ List.length (is (partN K (0 : Nat) (List.length K)) (Prod.fst (ck (partN K (0 : Nat) (List.length K)) c (List.length c))) (Prod.fst (Prod.snd (ck (partN K (0 : Nat) (List.length K)) c (List.length c)))) (Prod.fst (Prod.snd (Prod.snd (ck (partN K (0 : Nat) (List.length K)) c (List.length c)))))), List.length c ≤ List.length c, u8L (is (partN K (0 : Nat) (List.length K)) (Prod.fst (ck (partN K (0 : Nat) (List.length K)) c (List.length c))) (Prod.fst (Prod.snd (ck (partN K (0 : Nat) (List.length K)) c (List.length c)))) (Prod.fst (Prod.snd (Prod.snd (ck (partN K (0 : Nat) (List.length K)) c (List.length c)))))), u8L c, tokR (Prod.fst (ck (partN K (0 : Nat) (List.length K)) c (List.length c))) (Prod.fst (Prod.snd (ck (partN K (0 : Nat) (List.length K)) c (List.length c)))) (Prod.fst (Prod.snd (Prod.snd (ck (partN K (0 : Nat) (List.length K)) c (List.length c))))), u8L K, List.length K ≤ List.length K, List.length K ≤ (500000000 : Nat), decide (Prod.snd (Prod.snd (Prod.snd (ck (partN K (0 : Nat) (List.length K)) c (List.length c)))) = (0 : Int)) = true, u8L K, u8L c, List.length K ≤ List.length K, List.length c ≤ List.length c, List.length K ≤ (500000000 : Nat), List.length c ≤ (500000000 : Nat), decide ((5000 : Int) < (↑(List.length c) : Int)) = false, decide ((5000 : Int) < (↑(List.length l) : Int)) = false, decide ((300 : Int) < (↑(List.length K) : Int)) = false]) := by kernel_rfl
theorem tb14 : (fun (is : IS) (ck : CK) (pu : PU) (ge : GE) (K : List Int) (x y z k e p s n b r bit : Int) (l c : List Int) => tbR is ck pu ge K x y z k e p s n b r bit l c [false, false, false, false, true, false, false, false, false, false, true, false, false, false, true, true, true]) = fun is ck pu ge K x y z k e p s n b r bit l c => some ([decide (List.take (List.length (tbQ pu (tbG ge c))) (tbQ pu (tbG ge c)) = List.take (List.length c) c) = true, List.length (tbQ pu (tbG ge c)) ≤ List.length (tbQ pu (tbG ge c)), List.length c ≤ List.length c, u8L (tbQ pu (tbG ge c)), u8L c, (0 : Int) ≤ Got.k (tbG ge c) ∧ Got.k (tbG ge c) < (256 : Int), textR (Got.k (tbG ge c)) [List.getD (Got.v (tbG ge c)) (0 : Nat) (0 : Int), List.getD (Got.v (tbG ge c)) (1 : Nat) (0 : Int), List.getD (Got.v (tbG ge c)) (2 : Nat) (0 : Int), List.getD (Got.v (tbG ge c)) (3 : Nat) (0 : Int), List.getD (Got.v (tbG ge c)) (4 : Nat) (0 : Int)] (Got.r (tbG ge c)) (List.length (Got.blob (tbG ge c))), List.length (Got.blob (tbG ge c)) ≤ List.length (Got.blob (tbG ge c)), (!decide (Got.e (tbG ge c) = (0 : Int))) = false, u8L c, List.length c ≤ List.length c, List.length c ≤ (1000000000 : Nat), (!decide (Got.k (tbG ge (tbP pu k e p s n b r l)) = k ∧ List.getD (Got.v (tbG ge (tbP pu k e p s n b r l))) (0 : Nat) (0 : Int) = e ∧ List.getD (Got.v (tbG ge (tbP pu k e p s n b r l))) (1 : Nat) (0 : Int) = p ∧ List.getD (Got.v (tbG ge (tbP pu k e p s n b r l))) (2 : Nat) (0 : Int) = s ∧ List.getD (Got.v (tbG ge (tbP pu k e p s n b r l))) (3 : Nat) (0 : Int) = n ∧ List.getD (Got.v (tbG ge (tbP pu k e p s n b r l))) (4 : Nat) (0 : Int) = b ∧ Got.r (tbG ge (tbP pu k e p s n b r l)) = r ∧ List.take (List.length (Got.blob (tbG ge (tbP pu k e p s n b r l)))) (Got.blob (tbG ge (tbP pu k e p s n b r l))) = List.take (List.length l) l)) = false, List.length (Got.blob (tbG ge (tbP pu k e p s n b r l))) ≤ List.length (Got.blob (tbG ge (tbP pu k e p s n b r l))), List.length l ≤ List.length l, u8L (Got.blob (tbG ge (tbP pu k e p s n b r l))), u8L l, (!decide (Got.e (tbG ge (tbP pu k e p s n b r l)) = (0 : Int))) = false, u8L (tbP pu k e p s n b r l), List.length (tbP pu k e p s n b r l) ≤ List.length (tbP pu k e p s n b r l), List.length (tbP pu k e p s n b r l) ≤ (1000000000 : Nat), (0 : Int) ≤ k ∧ k < (256 : Int), textR k [e, p, s, n, b] r (List.length l), List.length l ≤ List.length l, (!decide (Prod.snd (Prod.snd (Prod.snd (ck (partN K (0 : Nat) (List.length K)) (tbF (tbI is K x y z) bit) (Int.toNat ((↑(List.length (tbI is K x y z)) : Int) - (1 : Int)))))) = (130 : Int))) = false, u8L K, u8L (tbF (tbI is K x y z) bit), List.length K ≤ List.length K, Int.toNat ((↑(List.length (tbI is K x y z)) : Int) - (1 : Int)) ≤ List.length (tbF (tbI is K x y z) bit), List.length K ≤ (500000000 : Nat), List.length (tbF (tbI is K x y z) bit) ≤ (500000000 : Nat), (0 : Int) ≤ (↑(List.length (tbI is K x y z)) : Int) - (1 : Int), (↑(List.length (tbI is K x y z)) : Int) - (1 : Int) ≤ (↑(List.length (tbI is K x y z)) : Int), (-9223372036854775808 : Int) ≤ (↑(List.length (tbI is K x y z)) : Int) - (1 : Int) ∧ (↑(List.length (tbI is K x y z)) : Int) - (1 : Int) ≤ (9223372036854775807 : Int), (!decide (Prod.snd (Prod.snd (Prod.snd (ck (partN K (0 : Nat) (List.length K)) (tbF (tbI is K x y z) bit) (List.length (tbI is K x y z))))) = (130 : Int))) = false, u8L K, u8L (tbF (tbI is K x y z) bit), List.length K ≤ List.length K, List.length (tbI is K x y z) ≤ List.length (tbF (tbI is K x y z) bit), List.length K ≤ (500000000 : Nat), List.length (tbF (tbI is K x y z) bit) ≤ (500000000 : Nat), Int.toNat ((↑(List.length (tbI is K x y z)) : Int) - (32 : Int) + Int.tdiv (bit % (256 : Int)) (8 : Int)) < List.length (tbI is K x y z), (0 : Int) ≤ (↑(List.length (tbI is K x y z)) : Int) - (32 : Int) + Int.tdiv (bit % (256 : Int)) (8 : Int), (↑(List.length (tbI is K x y z)) : Int) - (32 : Int) + Int.tdiv (bit % (256 : Int)) (8 : Int) < (↑(List.length (tbI is K x y z)) : Int), (0 : Int) ≤ Int.tmod (bit % (256 : Int)) (8 : Int), Int.toNat ((↑(List.length (tbI is K x y z)) : Int) - (32 : Int) + Int.tdiv (bit % (256 : Int)) (8 : Int)) < List.length (tbI is K x y z), (0 : Int) ≤ (↑(List.length (tbI is K x y z)) : Int) - (32 : Int) + Int.tdiv (bit % (256 : Int)) (8 : Int), (↑(List.length (tbI is K x y z)) : Int) - (32 : Int) + Int.tdiv (bit % (256 : Int)) (8 : Int) < (↑(List.length (tbI is K x y z)) : Int), (-9223372036854775808 : Int) ≤ (↑(List.length (tbI is K x y z)) : Int) - (32 : Int) + Int.tdiv (bit % (256 : Int)) (8 : Int) ∧ (↑(List.length (tbI is K x y z)) : Int) - (32 : Int) + Int.tdiv (bit % (256 : Int)) (8 : Int) ≤ (9223372036854775807 : Int), (-9223372036854775808 : Int) ≤ Int.tdiv (bit % (256 : Int)) (8 : Int) ∧ Int.tdiv (bit % (256 : Int)) (8 : Int) ≤ (9223372036854775807 : Int), (-9223372036854775808 : Int) ≤ (↑(List.length (tbI is K x y z)) : Int) - (32 : Int) ∧ (↑(List.length (tbI is K x y z)) : Int) - (32 : Int) ≤ (9223372036854775807 : Int), (1 : Int) ≤ (256 : Int) ∧ (256 : Int) ≤ (1000000 : Int), (-9223372036854775808 : Int) ≤ bit ∧ bit ≤ (9223372036854775807 : Int), decide ((↑(List.length (tbI is K x y z)) : Int) < (32 : Int)) = false, (!(decide (Prod.fst (ck (partN K (0 : Nat) (List.length K)) (tbI is K x y z) (List.length (tbI is K x y z))) = x) && (decide (Prod.fst (Prod.snd (ck (partN K (0 : Nat) (List.length K)) (tbI is K x y z) (List.length (tbI is K x y z)))) = y) && (decide (Prod.fst (Prod.snd (Prod.snd (ck (partN K (0 : Nat) (List.length K)) (tbI is K x y z) (List.length (tbI is K x y z))))) = z) && true)))) = false, (!decide (Prod.snd (Prod.snd (Prod.snd (ck (partN K (0 : Nat) (List.length K)) (tbI is K x y z) (List.length (tbI is K x y z))))) = (0 : Int))) = false, u8L K, u8L (tbI is K x y z), List.length K ≤ List.length K, List.length (tbI is K x y z) ≤ List.length (tbI is K x y z), List.length K ≤ (500000000 : Nat), List.length (tbI is K x y z) ≤ (500000000 : Nat), tokR x y z, u8L K, List.length K ≤ List.length K, List.length K ≤ (500000000 : Nat), decide (Prod.snd (Prod.snd (Prod.snd (ck (partN K (0 : Nat) (List.length K)) c (List.length c)))) = (0 : Int)) = false, u8L K, u8L c, List.length K ≤ List.length K, List.length c ≤ List.length c, List.length K ≤ (500000000 : Nat), List.length c ≤ (500000000 : Nat), decide ((5000 : Int) < (↑(List.length c) : Int)) = false, decide ((5000 : Int) < (↑(List.length l) : Int)) = false, decide ((300 : Int) < (↑(List.length K) : Int)) = false]) := by kernel_rfl
theorem tb15 : (fun (is : IS) (ck : CK) (pu : PU) (ge : GE) (K : List Int) (x y z k e p s n b r bit : Int) (l c : List Int) => tbR is ck pu ge K x y z k e p s n b r bit l c [false, false, false, true, true, false, true, false, false, false, false, false, true, false, false, false, true, true, true]) = fun is ck pu ge K x y z k e p s n b r bit l c => some ([decide (List.take (List.length (tbQ pu (tbG ge c))) (tbQ pu (tbG ge c)) = List.take (List.length c) c) = true, List.length (tbQ pu (tbG ge c)) ≤ List.length (tbQ pu (tbG ge c)), List.length c ≤ List.length c, u8L (tbQ pu (tbG ge c)), u8L c, (0 : Int) ≤ Got.k (tbG ge c) ∧ Got.k (tbG ge c) < (256 : Int), textR (Got.k (tbG ge c)) [List.getD (Got.v (tbG ge c)) (0 : Nat) (0 : Int), List.getD (Got.v (tbG ge c)) (1 : Nat) (0 : Int), List.getD (Got.v (tbG ge c)) (2 : Nat) (0 : Int), List.getD (Got.v (tbG ge c)) (3 : Nat) (0 : Int), List.getD (Got.v (tbG ge c)) (4 : Nat) (0 : Int)] (Got.r (tbG ge c)) (List.length (Got.blob (tbG ge c))), List.length (Got.blob (tbG ge c)) ≤ List.length (Got.blob (tbG ge c)), (!decide (Got.e (tbG ge c) = (0 : Int))) = false, u8L c, List.length c ≤ List.length c, List.length c ≤ (1000000000 : Nat), (!decide (Got.k (tbG ge (tbP pu k e p s n b r l)) = k ∧ List.getD (Got.v (tbG ge (tbP pu k e p s n b r l))) (0 : Nat) (0 : Int) = e ∧ List.getD (Got.v (tbG ge (tbP pu k e p s n b r l))) (1 : Nat) (0 : Int) = p ∧ List.getD (Got.v (tbG ge (tbP pu k e p s n b r l))) (2 : Nat) (0 : Int) = s ∧ List.getD (Got.v (tbG ge (tbP pu k e p s n b r l))) (3 : Nat) (0 : Int) = n ∧ List.getD (Got.v (tbG ge (tbP pu k e p s n b r l))) (4 : Nat) (0 : Int) = b ∧ Got.r (tbG ge (tbP pu k e p s n b r l)) = r ∧ List.take (List.length (Got.blob (tbG ge (tbP pu k e p s n b r l)))) (Got.blob (tbG ge (tbP pu k e p s n b r l))) = List.take (List.length l) l)) = false, List.length (Got.blob (tbG ge (tbP pu k e p s n b r l))) ≤ List.length (Got.blob (tbG ge (tbP pu k e p s n b r l))), List.length l ≤ List.length l, u8L (Got.blob (tbG ge (tbP pu k e p s n b r l))), u8L l, (!decide (Got.e (tbG ge (tbP pu k e p s n b r l)) = (0 : Int))) = false, u8L (tbP pu k e p s n b r l), List.length (tbP pu k e p s n b r l) ≤ List.length (tbP pu k e p s n b r l), List.length (tbP pu k e p s n b r l) ≤ (1000000000 : Nat), (0 : Int) ≤ k ∧ k < (256 : Int), textR k [e, p, s, n, b] r (List.length l), List.length l ≤ List.length l, (!decide (Prod.snd (Prod.snd (Prod.snd (ck (partN K (0 : Nat) (List.length K)) (tbF (tbI is K x y z) bit) (Int.toNat ((↑(List.length (tbI is K x y z)) : Int) - (1 : Int)))))) = (130 : Int))) = false, u8L K, u8L (tbF (tbI is K x y z) bit), List.length K ≤ List.length K, Int.toNat ((↑(List.length (tbI is K x y z)) : Int) - (1 : Int)) ≤ List.length (tbF (tbI is K x y z) bit), List.length K ≤ (500000000 : Nat), List.length (tbF (tbI is K x y z) bit) ≤ (500000000 : Nat), (0 : Int) ≤ (↑(List.length (tbI is K x y z)) : Int) - (1 : Int), (↑(List.length (tbI is K x y z)) : Int) - (1 : Int) ≤ (↑(List.length (tbI is K x y z)) : Int), (-9223372036854775808 : Int) ≤ (↑(List.length (tbI is K x y z)) : Int) - (1 : Int) ∧ (↑(List.length (tbI is K x y z)) : Int) - (1 : Int) ≤ (9223372036854775807 : Int), (!decide (Prod.snd (Prod.snd (Prod.snd (ck (partN K (0 : Nat) (List.length K)) (tbF (tbI is K x y z) bit) (List.length (tbI is K x y z))))) = (130 : Int))) = false, u8L K, u8L (tbF (tbI is K x y z) bit), List.length K ≤ List.length K, List.length (tbI is K x y z) ≤ List.length (tbF (tbI is K x y z) bit), List.length K ≤ (500000000 : Nat), List.length (tbF (tbI is K x y z) bit) ≤ (500000000 : Nat), Int.toNat ((↑(List.length (tbI is K x y z)) : Int) - (32 : Int) + Int.tdiv (bit % (256 : Int)) (8 : Int)) < List.length (tbI is K x y z), (0 : Int) ≤ (↑(List.length (tbI is K x y z)) : Int) - (32 : Int) + Int.tdiv (bit % (256 : Int)) (8 : Int), (↑(List.length (tbI is K x y z)) : Int) - (32 : Int) + Int.tdiv (bit % (256 : Int)) (8 : Int) < (↑(List.length (tbI is K x y z)) : Int), (0 : Int) ≤ Int.tmod (bit % (256 : Int)) (8 : Int), Int.toNat ((↑(List.length (tbI is K x y z)) : Int) - (32 : Int) + Int.tdiv (bit % (256 : Int)) (8 : Int)) < List.length (tbI is K x y z), (0 : Int) ≤ (↑(List.length (tbI is K x y z)) : Int) - (32 : Int) + Int.tdiv (bit % (256 : Int)) (8 : Int), (↑(List.length (tbI is K x y z)) : Int) - (32 : Int) + Int.tdiv (bit % (256 : Int)) (8 : Int) < (↑(List.length (tbI is K x y z)) : Int), (-9223372036854775808 : Int) ≤ (↑(List.length (tbI is K x y z)) : Int) - (32 : Int) + Int.tdiv (bit % (256 : Int)) (8 : Int) ∧ (↑(List.length (tbI is K x y z)) : Int) - (32 : Int) + Int.tdiv (bit % (256 : Int)) (8 : Int) ≤ (9223372036854775807 : Int), (-9223372036854775808 : Int) ≤ Int.tdiv (bit % (256 : Int)) (8 : Int) ∧ Int.tdiv (bit % (256 : Int)) (8 : Int) ≤ (9223372036854775807 : Int), (-9223372036854775808 : Int) ≤ (↑(List.length (tbI is K x y z)) : Int) - (32 : Int) ∧ (↑(List.length (tbI is K x y z)) : Int) - (32 : Int) ≤ (9223372036854775807 : Int), (1 : Int) ≤ (256 : Int) ∧ (256 : Int) ≤ (1000000 : Int), (-9223372036854775808 : Int) ≤ bit ∧ bit ≤ (9223372036854775807 : Int), decide ((↑(List.length (tbI is K x y z)) : Int) < (32 : Int)) = false, (!(decide (Prod.fst (ck (partN K (0 : Nat) (List.length K)) (tbI is K x y z) (List.length (tbI is K x y z))) = x) && (decide (Prod.fst (Prod.snd (ck (partN K (0 : Nat) (List.length K)) (tbI is K x y z) (List.length (tbI is K x y z)))) = y) && (decide (Prod.fst (Prod.snd (Prod.snd (ck (partN K (0 : Nat) (List.length K)) (tbI is K x y z) (List.length (tbI is K x y z))))) = z) && true)))) = false, (!decide (Prod.snd (Prod.snd (Prod.snd (ck (partN K (0 : Nat) (List.length K)) (tbI is K x y z) (List.length (tbI is K x y z))))) = (0 : Int))) = false, u8L K, u8L (tbI is K x y z), List.length K ≤ List.length K, List.length (tbI is K x y z) ≤ List.length (tbI is K x y z), List.length K ≤ (500000000 : Nat), List.length (tbI is K x y z) ≤ (500000000 : Nat), tokR x y z, u8L K, List.length K ≤ List.length K, List.length K ≤ (500000000 : Nat), (!decide (List.take (List.length (is (partN K (0 : Nat) (List.length K)) (Prod.fst (ck (partN K (0 : Nat) (List.length K)) c (List.length c))) (Prod.fst (Prod.snd (ck (partN K (0 : Nat) (List.length K)) c (List.length c)))) (Prod.fst (Prod.snd (Prod.snd (ck (partN K (0 : Nat) (List.length K)) c (List.length c))))))) (is (partN K (0 : Nat) (List.length K)) (Prod.fst (ck (partN K (0 : Nat) (List.length K)) c (List.length c))) (Prod.fst (Prod.snd (ck (partN K (0 : Nat) (List.length K)) c (List.length c)))) (Prod.fst (Prod.snd (Prod.snd (ck (partN K (0 : Nat) (List.length K)) c (List.length c)))))) = List.take (List.length c) c)) = false, List.length (is (partN K (0 : Nat) (List.length K)) (Prod.fst (ck (partN K (0 : Nat) (List.length K)) c (List.length c))) (Prod.fst (Prod.snd (ck (partN K (0 : Nat) (List.length K)) c (List.length c)))) (Prod.fst (Prod.snd (Prod.snd (ck (partN K (0 : Nat) (List.length K)) c (List.length c)))))) ≤ List.length (is (partN K (0 : Nat) (List.length K)) (Prod.fst (ck (partN K (0 : Nat) (List.length K)) c (List.length c))) (Prod.fst (Prod.snd (ck (partN K (0 : Nat) (List.length K)) c (List.length c)))) (Prod.fst (Prod.snd (Prod.snd (ck (partN K (0 : Nat) (List.length K)) c (List.length c)))))), List.length c ≤ List.length c, u8L (is (partN K (0 : Nat) (List.length K)) (Prod.fst (ck (partN K (0 : Nat) (List.length K)) c (List.length c))) (Prod.fst (Prod.snd (ck (partN K (0 : Nat) (List.length K)) c (List.length c)))) (Prod.fst (Prod.snd (Prod.snd (ck (partN K (0 : Nat) (List.length K)) c (List.length c)))))), u8L c, tokR (Prod.fst (ck (partN K (0 : Nat) (List.length K)) c (List.length c))) (Prod.fst (Prod.snd (ck (partN K (0 : Nat) (List.length K)) c (List.length c)))) (Prod.fst (Prod.snd (Prod.snd (ck (partN K (0 : Nat) (List.length K)) c (List.length c))))), u8L K, List.length K ≤ List.length K, List.length K ≤ (500000000 : Nat), decide (Prod.snd (Prod.snd (Prod.snd (ck (partN K (0 : Nat) (List.length K)) c (List.length c)))) = (0 : Int)) = true, u8L K, u8L c, List.length K ≤ List.length K, List.length c ≤ List.length c, List.length K ≤ (500000000 : Nat), List.length c ≤ (500000000 : Nat), decide ((5000 : Int) < (↑(List.length c) : Int)) = false, decide ((5000 : Int) < (↑(List.length l) : Int)) = false, decide ((300 : Int) < (↑(List.length K) : Int)) = false]) := by kernel_rfl
end
section
open Go.ChangeShapes Go.WideShapes Go.ChangeAt Go.RowKit Go.Sx
theorem pk_works {x n : Int} (h1 : 1 ≤ n ∧ n ≤ 1000000) (h2 : -9223372036854775808 ≤ x ∧ x ≤ 9223372036854775807) : Works Try.prog 20 [si .i64 x, si .i64 n] [] (si .i64 (x % n)) [] := by
  have e0 := Int.tmod_eq_emod (a := x) (b := n)
  have m0 := Int.emod_nonneg x (b := n) (by omega)
  have m1 := Int.emod_lt_of_pos x (b := n) (by omega)
  by_cases h : Int.tmod x n < 0
  · refine works_of (r := []) no_tabs (congrFun (congrFun pk1 x) n) ⟨?_, decide_eq_true h, by omega, decide_eq_false (by omega), trivial⟩ List.nodup_nil ?_ trivial
    · have := Int.lt_tmod_of_pos x (b := n) (by omega)
      omega
    · refine ⟨rfl, ?_⟩
      rw [e0] at h ⊢
      split at h
      · omega
      · rename_i hh
        rw [if_neg hh]; omega
  · refine works_of (r := []) no_tabs (congrFun (congrFun pk0 x) n) ⟨decide_eq_false h, by omega, decide_eq_false (by omega), trivial⟩ List.nodup_nil ?_ trivial
    refine ⟨rfl, ?_⟩
    rw [e0] at h ⊢
    split at h
    · rename_i hh
      rw [if_pos hh]; omega
    · omega
theorem pk_tab : TabOk Try.prog 20 (numTab [.i64, .i64] gPk) := numTab_ok fun ns hl hp => by
  match ns, hl with
  | [x, n], _ => exact ⟨rfl, noBs (pk_works (hp (1 ≤ n ∧ n ≤ 1000000) (by simp [gPk])) (hp (-9223372036854775808 ≤ x ∧ x ≤ 9223372036854775807) (by simp [gPk]))) ⟨_, _, rfl, ⟨rfl, rfl⟩, _, _, rfl, ⟨rfl, rfl⟩, rfl⟩⟩
theorem tabTb_ok : ∀ f g, tabTb issN chkN putS getS f = some g → TabOk Try.prog f g := tabs_ok fun x hx => by
  simp only [List.mem_cons, List.not_mem_nil, or_false] at hx
  rcases hx with rfl | rfl | rfl | rfl | rfl | rfl | rfl | rfl
  · exact iss_tab
  · exact chk_tab
  · exact put_tab
  · exact get_tab
  · exact same_tab
  · exact be_tab
  · exact pk_tab
  · exact yes_tab
theorem u8L_wf {l : List Int} (h : ∀ n ∈ l, (Lit.int .u8 n).wf = true) : u8L l := fun x hx => wf_u8 (h x hx)
theorem outP_u8 {k : Int} {v : List Int} (hk : 0 ≤ k ∧ k < 256) : ∀ i, u8L (outP k v i) := fun i => by
  induction i with
  | zero => intro x hx; rw [List.mem_singleton.1 hx]; exact hk
  | succ i ih =>
    rw [outP_succ]
    refine u8L_app ih ?_
    unfold flP
    split
    · exact vint_u8 _
    · intro x hx; cases hx
theorem putS_u8 {k r : Int} {v blob : List Int} (hk : 0 ≤ k ∧ k < 256) (hb : u8L blob) : u8L (putS k v r blob) := by
  rw [putS_eq]
  refine u8L_app (outP_u8 hk 5) (u8L_app ?_ ?_)
  · split
    · exact vint_u8 _
    · intro x hx; cases hx
  · split
    · exact u8L_app (vint_u8 _) hb
    · intro x hx; cases hx
theorem putS_len {k r : Int} {v blob : List Int} (h : textR k v r blob.length) : (putS k v r blob).length ≤ 80 + blob.length := by
  have h1 := outP_len (k := k) (v := v) 5 fun j hj => fOk_le (h.2 j hj)
  obtain ⟨_, h2, _, h3, _⟩ := h.1
  have hr := By.vint_le (tok_u64 h3.1 (by omega : r ≤ 1099511627776))
  have hb := By.vint_le (tok_u64 (by omega : (0 : Int) ≤ ((blob.length : Nat) : Int)) (by omega))
  rw [putS_eq, List.length_append]
  unfold tlP
  rw [List.length_append]
  have e1 : (if hasC (letN k) 114 = true then By.vint r else []).length ≤ 10 := by
    split
    · exact hr
    · exact Nat.zero_le _
  have e2 : (if hasC (letN k) 120 = true then By.vint ((blob.length : Nat) : Int) ++ blob else []).length ≤ 10 + blob.length := by
    split
    · rw [List.length_append]; omega
    · exact Nat.zero_le _
  omega
theorem five {v : List Int} (h : v.length = 5) : [v.getD 0 0, v.getD 1 0, v.getD 2 0, v.getD 3 0, v.getD 4 0] = v := by
  match v, h with
  | [_, _, _, _, _], _ => rfl
/-- of bytes the blob is bytes, the kind is a byte -/
theorem getS_u8 {l : List Int} (hl : u8L l) (m : Nat) : u8L (getS l m).blob ∧ 0 ≤ (getS l m).k ∧ (getS l m).k < 256 := by
  have h0 := u8L_get hl 0
  have hx : u8L gotX.blob ∧ 0 ≤ gotX.k ∧ gotX.k < 256 := ⟨fun x hx => (by cases hx), by decide, by decide⟩
  have hB : ∀ q, u8L (By.getB l m q 1048576).1 := fun q => by
    unfold By.getB
    have nil : u8L [] := fun x hx => by cases hx
    split
    · exact nil
    split
    · exact nil
    split
    · exact nil
    · exact fun x hx => hl x (List.mem_of_mem_drop (List.mem_of_mem_take hx))
  unfold getS endS
  split
  · exact hx
  split
  · split
    · exact hx
    · exact ⟨fun x hx => (by cases hx), h0⟩
  split
  · split
    · exact hx
    · exact ⟨hB _, h0⟩
  · split
    · exact hx
    · exact ⟨fun x hx => (by cases hx), h0⟩
/-- what is no token of this key -/
theorem chk_other {x y z : Int} (h : tokR x y z) {K : List Nat} {l r : List Int} (hl : l = body3 x y z ++ r) {m : Nat} (hm : (body3 x y z).length ≤ m) (hne : issN K x y z ≠ l.take m) : chkN K l m = (0, 0, 0, 130) := by
  rw [chk_body h hl hm, if_neg hne]
theorem wf10 {k0 k1 k2 k3 k4 k5 k6 k7 k8 k9 : IntKind} {ns : List Int} (h : wfRow [k0, k1, k2, k3, k4, k5, k6, k7, k8, k9] ns) : ∃ a b c d e f g i j k, ns = [a, b, c, d, e, f, g, i, j, k] ∧ (Lit.int k3 d).wf = true := by
  match ns, h with
  | [a, b, c, d, e, f, g, i, j, k], h => exact ⟨a, b, c, d, e, f, g, i, j, k, rfl, h.2.2.2.1⟩
abbrev caseK : List IntKind := [.i64, .i64, .i64, .u8, .i64, .i64, .i64, .i64, .i64, .i64]
theorem case_rel {ρ : Env} {W : World} {x y z k e p s n b r : Int} {l c : List Int} {E1 E2 : E} {u v : Value} {i j : Nat} (h : BytesAt W .u8 l E1 u) (hi : ρ[i]? = some E1) (h' : BytesAt W .u8 c E2 v) (hj : ρ[j]? = some E2) : (caseV x y z k e p s n b r i l.length j c.length).rel ρ (.agg (ivals caseK [x, y, z, k, e, p, s, n, b, r] ++ [u, v]).toArray) := by
  obtain ⟨h1, h2⟩ := h.2.2.2 ρ i hi
  obtain ⟨h3, h4⟩ := h'.2.2.2 ρ j hj
  refine ⟨_, rfl, ⟨_, _, rfl, rfl, _, _, rfl, rfl, _, _, rfl, rfl, _, _, rfl, rfl, _, _, rfl, rfl, _, _, rfl, rfl, _, _, rfl, rfl, _, _, rfl, rfl, _, _, rfl, rfl, _, _, rfl, rfl, _, _, rfl, h1, _, _, rfl, h3, rfl⟩, ?_⟩
  intro q hq
  simp only [ivals, List.cons_append, List.nil_append, List.mem_cons, List.not_mem_nil, or_false] at hq
  rcases hq with rfl | rfl | rfl | rfl | rfl | rfl | rfl | rfl | rfl | rfl | rfl | rfl <;> first | rfl | exact h2 | exact h4
section
variable {K : List Int} {x y z k e p s n b r bit : Int} {l c : List Int}
abbrev runT (K : List Int) (x y z k e p s n b r bit : Int) (l c : List Int) : Prop := ∃ h ob, tbR issN chkN putS getS K x y z k e p s n b r bit l c h = some ob ∧ allP ob
theorem appT {A : Type} {f g : IS → CK → PU → GE → List Int → Int → Int → Int → Int → Int → Int → Int → Int → Int → Int → Int → List Int → List Int → A} (h : f = g) : f issN chkN putS getS K x y z k e p s n b r bit l c = g issN chkN putS getS K x y z k e p s n b r bit l c := by rw [h]
set_option maxHeartbeats 2000000 in
theorem tb_0 (uK : u8L K) (uc : u8L c) (ul : u8L l) (hkr : 0 ≤ k ∧ k < 256) (hKl : K.length ≤ 300) (hll : l.length ≤ 5000) (hcl : c.length ≤ 5000) (hA : decide ((chkN (partN K 0 K.length) c c.length).2.2.2 = 0) = false) (hB : ¬ tokR x y z) (hC : ¬ textR k [e, p, s, n, b] r l.length) (hD : getS c c.length = gotX) : runT K x y z k e p s n b r bit l c := by
  have f0 : decide ((300 : Int) < (K.length : Int)) = false := decide_eq_false (by omega)
  have f1 : decide ((5000 : Int) < (l.length : Int)) = false := decide_eq_false (by omega)
  have f2 : decide ((5000 : Int) < (c.length : Int)) = false := decide_eq_false (by omega)
  have hK := Nat.le_refl K.length
  have uX : u8L gotX.blob := fun x hx => (by cases hx)
  have hc := Nat.le_refl c.length
  have hK2 : K.length ≤ 500000000 := by omega
  have q := appT (K := K) (x := x) (y := y) (z := z) (k := k) (e := e) (p := p) (s := s) (n := n) (b := b) (r := r) (bit := bit) (l := l) (c := c) tb0
  try unfold tbQ at q
  try unfold tbP at q
  try unfold tbG at q
  try unfold tbF at q
  try unfold tbN at q
  try unfold tbI at q
  try simp only [List.take_length] at q
  simp only [hD] at q
  refine ⟨_, _, q, ?_⟩
  simp only [allP, List.length_set]
  repeat' (first | exact trivial | exact uK | exact uc | exact ul | exact hkr | exact f0 | exact f1 | exact f2 | exact hK | exact hK2 | exact hc | exact hA | exact hB | exact hC | refine And.intro ?_ ?_)
  all_goals first | rfl | omega | exact uX | exact decide_eq_false (by omega) | exact decide_eq_true (by omega) | decide | (simp; done)
set_option maxHeartbeats 2000000 in
theorem tb_1 (uK : u8L K) (uc : u8L c) (ul : u8L l) (hkr : 0 ≤ k ∧ k < 256) (hKl : K.length ≤ 300) (hll : l.length ≤ 5000) (hcl : c.length ≤ 5000) {t1 t2 t3 : Int} (hA : chkN (partN K 0 K.length) c c.length = (t1, t2, t3, 0)) (hAt : tokR t1 t2 t3) (hAi : issN (partN K 0 K.length) t1 t2 t3 = c) (hB : ¬ tokR x y z) (hC : ¬ textR k [e, p, s, n, b] r l.length) (hD : getS c c.length = gotX) : runT K x y z k e p s n b r bit l c := by
  have f0 : decide ((300 : Int) < (K.length : Int)) = false := decide_eq_false (by omega)
  have f1 : decide ((5000 : Int) < (l.length : Int)) = false := decide_eq_false (by omega)
  have f2 : decide ((5000 : Int) < (c.length : Int)) = false := decide_eq_false (by omega)
  have hK := Nat.le_refl K.length
  have uX : u8L gotX.blob := fun x hx => (by cases hx)
  have hc := Nat.le_refl c.length
  have hK2 : K.length ≤ 500000000 := by omega
  have q := appT (K := K) (x := x) (y := y) (z := z) (k := k) (e := e) (p := p) (s := s) (n := n) (b := b) (r := r) (bit := bit) (l := l) (c := c) tb1
  try unfold tbQ at q
  try unfold tbP at q
  try unfold tbG at q
  try unfold tbF at q
  try unfold tbN at q
  try unfold tbI at q
  try simp only [List.take_length] at q
  simp only [hA, hAi, List.take_length] at q
  simp only [hD] at q
  refine ⟨_, _, q, ?_⟩
  simp only [allP, List.length_set]
  repeat' (first | exact trivial | exact uK | exact uc | exact ul | exact hkr | exact f0 | exact f1 | exact f2 | exact hK | exact hK2 | exact hc | exact hAt | exact hB | exact hC | refine And.intro ?_ ?_)
  all_goals first | rfl | omega | exact uX | exact decide_eq_false (by omega) | exact decide_eq_true (by omega) | decide | (simp; done)
set_option maxHeartbeats 2000000 in
theorem tb_2 (uK : u8L K) (uc : u8L c) (ul : u8L l) (hkr : 0 ≤ k ∧ k < 256) (hKl : K.length ≤ 300) (hll : l.length ≤ 5000) (hcl : c.length ≤ 5000) (hA : decide ((chkN (partN K 0 K.length) c c.length).2.2.2 = 0) = false) {I : List Int} {j M : Nat} {v : Int} (hB : tokR x y z) (hI : issN (partN K 0 K.length) x y z = I) (hIc : chkN (partN K 0 K.length) I I.length = (x, y, z, 0)) (uI : u8L I) (hIl : M + 32 = I.length) (hIm : M ≤ 30) (hj : bit % 256 = (j : Int)) (hj2 : j < 256) (hv : bits .xor .u8 (I.getD (M + j / 8) 0) (IntKind.wrap .u8 (1 * 2 ^ (if Int.toNat (Int.tmod (j : Int) 8) ≤ 8 then Int.toNat (Int.tmod (j : Int) 8) else 8))) = v) (uF : u8L (I.set (M + j / 8) v)) (hF : chkN (partN K 0 K.length) (I.set (M + j / 8) v) I.length = (0, 0, 0, 130)) (hG : chkN (partN K 0 K.length) (I.set (M + j / 8) v) (M + 31) = (0, 0, 0, 130)) (hbit : -9223372036854775808 ≤ bit ∧ bit ≤ 9223372036854775807) (hC : ¬ textR k [e, p, s, n, b] r l.length) (hD : getS c c.length = gotX) : runT K x y z k e p s n b r bit l c := by
  have f0 : decide ((300 : Int) < (K.length : Int)) = false := decide_eq_false (by omega)
  have f1 : decide ((5000 : Int) < (l.length : Int)) = false := decide_eq_false (by omega)
  have f2 : decide ((5000 : Int) < (c.length : Int)) = false := decide_eq_false (by omega)
  have hK := Nat.le_refl K.length
  have uX : u8L gotX.blob := fun x hx => (by cases hx)
  have hc := Nat.le_refl c.length
  have hK2 : K.length ≤ 500000000 := by omega
  have q := appT (K := K) (x := x) (y := y) (z := z) (k := k) (e := e) (p := p) (s := s) (n := n) (b := b) (r := r) (bit := bit) (l := l) (c := c) tb2
  try unfold tbQ at q
  try unfold tbP at q
  try unfold tbG at q
  try unfold tbF at q
  try unfold tbN at q
  try unfold tbI at q
  try simp only [List.take_length] at q
  have ei : Int.toNat (((I.length : Nat) : Int) - 32 + Int.tdiv (j : Int) 8) = M + j / 8 := by rw [Int.tdiv_eq_ediv_of_nonneg (by omega)]; omega
  have e31 : Int.toNat (((I.length : Nat) : Int) - 1) = M + 31 := by omega
  have ed : Int.tdiv (j : Int) 8 = ((j / 8 : Nat) : Int) := by rw [Int.tdiv_eq_ediv_of_nonneg (by omega)]; omega
  have em : 0 ≤ Int.tmod (j : Int) 8 := Int.tmod_nonneg _ (by omega)
  simp only [hI, hj, ei, e31, hv, hIc, hF, hG] at q
  simp only [hD] at q
  refine ⟨_, _, q, ?_⟩
  simp only [allP, List.length_set]
  repeat' (first | exact trivial | exact uK | exact uc | exact ul | exact hkr | exact f0 | exact f1 | exact f2 | exact hK | exact hK2 | exact hc | exact hA | exact hB | exact uI | exact uF | exact hbit | exact hC | refine And.intro ?_ ?_)
  all_goals first | rfl | omega | exact uX | exact decide_eq_false (by omega) | exact decide_eq_true (by omega) | decide | (simp; done) | (rw [ed]; omega)
set_option maxHeartbeats 2000000 in
theorem tb_3 (uK : u8L K) (uc : u8L c) (ul : u8L l) (hkr : 0 ≤ k ∧ k < 256) (hKl : K.length ≤ 300) (hll : l.length ≤ 5000) (hcl : c.length ≤ 5000) {t1 t2 t3 : Int} (hA : chkN (partN K 0 K.length) c c.length = (t1, t2, t3, 0)) (hAt : tokR t1 t2 t3) (hAi : issN (partN K 0 K.length) t1 t2 t3 = c) {I : List Int} {j M : Nat} {v : Int} (hB : tokR x y z) (hI : issN (partN K 0 K.length) x y z = I) (hIc : chkN (partN K 0 K.length) I I.length = (x, y, z, 0)) (uI : u8L I) (hIl : M + 32 = I.length) (hIm : M ≤ 30) (hj : bit % 256 = (j : Int)) (hj2 : j < 256) (hv : bits .xor .u8 (I.getD (M + j / 8) 0) (IntKind.wrap .u8 (1 * 2 ^ (if Int.toNat (Int.tmod (j : Int) 8) ≤ 8 then Int.toNat (Int.tmod (j : Int) 8) else 8))) = v) (uF : u8L (I.set (M + j / 8) v)) (hF : chkN (partN K 0 K.length) (I.set (M + j / 8) v) I.length = (0, 0, 0, 130)) (hG : chkN (partN K 0 K.length) (I.set (M + j / 8) v) (M + 31) = (0, 0, 0, 130)) (hbit : -9223372036854775808 ≤ bit ∧ bit ≤ 9223372036854775807) (hC : ¬ textR k [e, p, s, n, b] r l.length) (hD : getS c c.length = gotX) : runT K x y z k e p s n b r bit l c := by
  have f0 : decide ((300 : Int) < (K.length : Int)) = false := decide_eq_false (by omega)
  have f1 : decide ((5000 : Int) < (l.length : Int)) = false := decide_eq_false (by omega)
  have f2 : decide ((5000 : Int) < (c.length : Int)) = false := decide_eq_false (by omega)
  have hK := Nat.le_refl K.length
  have uX : u8L gotX.blob := fun x hx => (by cases hx)
  have hc := Nat.le_refl c.length
  have hK2 : K.length ≤ 500000000 := by omega
  have q := appT (K := K) (x := x) (y := y) (z := z) (k := k) (e := e) (p := p) (s := s) (n := n) (b := b) (r := r) (bit := bit) (l := l) (c := c) tb3
  try unfold tbQ at q
  try unfold tbP at q
  try unfold tbG at q
  try unfold tbF at q
  try unfold tbN at q
  try unfold tbI at q
  try simp only [List.take_length] at q
  simp only [hA, hAi, List.take_length] at q
  have ei : Int.toNat (((I.length : Nat) : Int) - 32 + Int.tdiv (j : Int) 8) = M + j / 8 := by rw [Int.tdiv_eq_ediv_of_nonneg (by omega)]; omega
  have e31 : Int.toNat (((I.length : Nat) : Int) - 1) = M + 31 := by omega
  have ed : Int.tdiv (j : Int) 8 = ((j / 8 : Nat) : Int) := by rw [Int.tdiv_eq_ediv_of_nonneg (by omega)]; omega
  have em : 0 ≤ Int.tmod (j : Int) 8 := Int.tmod_nonneg _ (by omega)
  simp only [hI, hj, ei, e31, hv, hIc, hF, hG] at q
  simp only [hD] at q
  refine ⟨_, _, q, ?_⟩
  simp only [allP, List.length_set]
  repeat' (first | exact trivial | exact uK | exact uc | exact ul | exact hkr | exact f0 | exact f1 | exact f2 | exact hK | exact hK2 | exact hc | exact hAt | exact hB | exact uI | exact uF | exact hbit | exact hC | refine And.intro ?_ ?_)
  all_goals first | rfl | omega | exact uX | exact decide_eq_false (by omega) | exact decide_eq_true (by omega) | decide | (simp; done) | (rw [ed]; omega)
set_option maxHeartbeats 2000000 in
theorem tb_4 (uK : u8L K) (uc : u8L c) (ul : u8L l) (hkr : 0 ≤ k ∧ k < 256) (hKl : K.length ≤ 300) (hll : l.length ≤ 5000) (hcl : c.length ≤ 5000) (hA : decide ((chkN (partN K 0 K.length) c c.length).2.2.2 = 0) = false) (hB : ¬ tokR x y z) {P : List Int} (hC : textR k [e, p, s, n, b] r l.length) (hP : putS k [e, p, s, n, b] r l = P) (hPg : getS P P.length = ⟨k, [e, p, s, n, b], r, l, 0⟩) (uP : u8L P) (hPl : P.length ≤ 6000) (hD : getS c c.length = gotX) : runT K x y z k e p s n b r bit l c := by
  have f0 : decide ((300 : Int) < (K.length : Int)) = false := decide_eq_false (by omega)
  have f1 : decide ((5000 : Int) < (l.length : Int)) = false := decide_eq_false (by omega)
  have f2 : decide ((5000 : Int) < (c.length : Int)) = false := decide_eq_false (by omega)
  have hK := Nat.le_refl K.length
  have uX : u8L gotX.blob := fun x hx => (by cases hx)
  have hc := Nat.le_refl c.length
  have hK2 : K.length ≤ 500000000 := by omega
  have q := appT (K := K) (x := x) (y := y) (z := z) (k := k) (e := e) (p := p) (s := s) (n := n) (b := b) (r := r) (bit := bit) (l := l) (c := c) tb4
  try unfold tbQ at q
  try unfold tbP at q
  try unfold tbG at q
  try unfold tbF at q
  try unfold tbN at q
  try unfold tbI at q
  try simp only [List.take_length] at q
  simp only [hP, hPg, List.take_length] at q
  simp only [hD] at q
  refine ⟨_, _, q, ?_⟩
  simp only [allP, List.length_set]
  repeat' (first | exact trivial | exact uK | exact uc | exact ul | exact hkr | exact f0 | exact f1 | exact f2 | exact hK | exact hK2 | exact hc | exact hA | exact hB | exact hC | exact uP | refine And.intro ?_ ?_)
  all_goals first | rfl | omega | exact uX | exact decide_eq_false (by omega) | exact decide_eq_true (by omega) | decide | (simp; done)
set_option maxHeartbeats 2000000 in
theorem tb_5 (uK : u8L K) (uc : u8L c) (ul : u8L l) (hkr : 0 ≤ k ∧ k < 256) (hKl : K.length ≤ 300) (hll : l.length ≤ 5000) (hcl : c.length ≤ 5000) {t1 t2 t3 : Int} (hA : chkN (partN K 0 K.length) c c.length = (t1, t2, t3, 0)) (hAt : tokR t1 t2 t3) (hAi : issN (partN K 0 K.length) t1 t2 t3 = c) (hB : ¬ tokR x y z) {P : List Int} (hC : textR k [e, p, s, n, b] r l.length) (hP : putS k [e, p, s, n, b] r l = P) (hPg : getS P P.length = ⟨k, [e, p, s, n, b], r, l, 0⟩) (uP : u8L P) (hPl : P.length ≤ 6000) (hD : getS c c.length = gotX) : runT K x y z k e p s n b r bit l c := by
  have f0 : decide ((300 : Int) < (K.length : Int)) = false := decide_eq_false (by omega)
  have f1 : decide ((5000 : Int) < (l.length : Int)) = false := decide_eq_false (by omega)
  have f2 : decide ((5000 : Int) < (c.length : Int)) = false := decide_eq_false (by omega)
  have hK := Nat.le_refl K.length
  have uX : u8L gotX.blob := fun x hx => (by cases hx)
  have hc := Nat.le_refl c.length
  have hK2 : K.length ≤ 500000000 := by omega
  have q := appT (K := K) (x := x) (y := y) (z := z) (k := k) (e := e) (p := p) (s := s) (n := n) (b := b) (r := r) (bit := bit) (l := l) (c := c) tb5
  try unfold tbQ at q
  try unfold tbP at q
  try unfold tbG at q
  try unfold tbF at q
  try unfold tbN at q
  try unfold tbI at q
  try simp only [List.take_length] at q
  simp only [hA, hAi, List.take_length] at q
  simp only [hP, hPg, List.take_length] at q
  simp only [hD] at q
  refine ⟨_, _, q, ?_⟩
  simp only [allP, List.length_set]
  repeat' (first | exact trivial | exact uK | exact uc | exact ul | exact hkr | exact f0 | exact f1 | exact f2 | exact hK | exact hK2 | exact hc | exact hAt | exact hB | exact hC | exact uP | refine And.intro ?_ ?_)
  all_goals first | rfl | omega | exact uX | exact decide_eq_false (by omega) | exact decide_eq_true (by omega) | decide | (simp; done)
set_option maxHeartbeats 2000000 in
theorem tb_6 (uK : u8L K) (uc : u8L c) (ul : u8L l) (hkr : 0 ≤ k ∧ k < 256) (hKl : K.length ≤ 300) (hll : l.length ≤ 5000) (hcl : c.length ≤ 5000) (hA : decide ((chkN (partN K 0 K.length) c c.length).2.2.2 = 0) = false) {I : List Int} {j M : Nat} {v : Int} (hB : tokR x y z) (hI : issN (partN K 0 K.length) x y z = I) (hIc : chkN (partN K 0 K.length) I I.length = (x, y, z, 0)) (uI : u8L I) (hIl : M + 32 = I.length) (hIm : M ≤ 30) (hj : bit % 256 = (j : Int)) (hj2 : j < 256) (hv : bits .xor .u8 (I.getD (M + j / 8) 0) (IntKind.wrap .u8 (1 * 2 ^ (if Int.toNat (Int.tmod (j : Int) 8) ≤ 8 then Int.toNat (Int.tmod (j : Int) 8) else 8))) = v) (uF : u8L (I.set (M + j / 8) v)) (hF : chkN (partN K 0 K.length) (I.set (M + j / 8) v) I.length = (0, 0, 0, 130)) (hG : chkN (partN K 0 K.length) (I.set (M + j / 8) v) (M + 31) = (0, 0, 0, 130)) (hbit : -9223372036854775808 ≤ bit ∧ bit ≤ 9223372036854775807) {P : List Int} (hC : textR k [e, p, s, n, b] r l.length) (hP : putS k [e, p, s, n, b] r l = P) (hPg : getS P P.length = ⟨k, [e, p, s, n, b], r, l, 0⟩) (uP : u8L P) (hPl : P.length ≤ 6000) (hD : getS c c.length = gotX) : runT K x y z k e p s n b r bit l c := by
  have f0 : decide ((300 : Int) < (K.length : Int)) = false := decide_eq_false (by omega)
  have f1 : decide ((5000 : Int) < (l.length : Int)) = false := decide_eq_false (by omega)
  have f2 : decide ((5000 : Int) < (c.length : Int)) = false := decide_eq_false (by omega)
  have hK := Nat.le_refl K.length
  have uX : u8L gotX.blob := fun x hx => (by cases hx)
  have hc := Nat.le_refl c.length
  have hK2 : K.length ≤ 500000000 := by omega
  have q := appT (K := K) (x := x) (y := y) (z := z) (k := k) (e := e) (p := p) (s := s) (n := n) (b := b) (r := r) (bit := bit) (l := l) (c := c) tb6
  try unfold tbQ at q
  try unfold tbP at q
  try unfold tbG at q
  try unfold tbF at q
  try unfold tbN at q
  try unfold tbI at q
  try simp only [List.take_length] at q
  have ei : Int.toNat (((I.length : Nat) : Int) - 32 + Int.tdiv (j : Int) 8) = M + j / 8 := by rw [Int.tdiv_eq_ediv_of_nonneg (by omega)]; omega
  have e31 : Int.toNat (((I.length : Nat) : Int) - 1) = M + 31 := by omega
  have ed : Int.tdiv (j : Int) 8 = ((j / 8 : Nat) : Int) := by rw [Int.tdiv_eq_ediv_of_nonneg (by omega)]; omega
  have em : 0 ≤ Int.tmod (j : Int) 8 := Int.tmod_nonneg _ (by omega)
  simp only [hI, hj, ei, e31, hv, hIc, hF, hG] at q
  simp only [hP, hPg, List.take_length] at q
  simp only [hD] at q
  refine ⟨_, _, q, ?_⟩
  simp only [allP, List.length_set]
  repeat' (first | exact trivial | exact uK | exact uc | exact ul | exact hkr | exact f0 | exact f1 | exact f2 | exact hK | exact hK2 | exact hc | exact hA | exact hB | exact uI | exact uF | exact hbit | exact hC | exact uP | refine And.intro ?_ ?_)
  all_goals first | rfl | omega | exact uX | exact decide_eq_false (by omega) | exact decide_eq_true (by omega) | decide | (simp; done) | (rw [ed]; omega)
set_option maxHeartbeats 2000000 in
theorem tb_7 (uK : u8L K) (uc : u8L c) (ul : u8L l) (hkr : 0 ≤ k ∧ k < 256) (hKl : K.length ≤ 300) (hll : l.length ≤ 5000) (hcl : c.length ≤ 5000) {t1 t2 t3 : Int} (hA : chkN (partN K 0 K.length) c c.length = (t1, t2, t3, 0)) (hAt : tokR t1 t2 t3) (hAi : issN (partN K 0 K.length) t1 t2 t3 = c) {I : List Int} {j M : Nat} {v : Int} (hB : tokR x y z) (hI : issN (partN K 0 K.length) x y z = I) (hIc : chkN (partN K 0 K.length) I I.length = (x, y, z, 0)) (uI : u8L I) (hIl : M + 32 = I.length) (hIm : M ≤ 30) (hj : bit % 256 = (j : Int)) (hj2 : j < 256) (hv : bits .xor .u8 (I.getD (M + j / 8) 0) (IntKind.wrap .u8 (1 * 2 ^ (if Int.toNat (Int.tmod (j : Int) 8) ≤ 8 then Int.toNat (Int.tmod (j : Int) 8) else 8))) = v) (uF : u8L (I.set (M + j / 8) v)) (hF : chkN (partN K 0 K.length) (I.set (M + j / 8) v) I.length = (0, 0, 0, 130)) (hG : chkN (partN K 0 K.length) (I.set (M + j / 8) v) (M + 31) = (0, 0, 0, 130)) (hbit : -9223372036854775808 ≤ bit ∧ bit ≤ 9223372036854775807) {P : List Int} (hC : textR k [e, p, s, n, b] r l.length) (hP : putS k [e, p, s, n, b] r l = P) (hPg : getS P P.length = ⟨k, [e, p, s, n, b], r, l, 0⟩) (uP : u8L P) (hPl : P.length ≤ 6000) (hD : getS c c.length = gotX) : runT K x y z k e p s n b r bit l c := by
  have f0 : decide ((300 : Int) < (K.length : Int)) = false := decide_eq_false (by omega)
  have f1 : decide ((5000 : Int) < (l.length : Int)) = false := decide_eq_false (by omega)
  have f2 : decide ((5000 : Int) < (c.length : Int)) = false := decide_eq_false (by omega)
  have hK := Nat.le_refl K.length
  have uX : u8L gotX.blob := fun x hx => (by cases hx)
  have hc := Nat.le_refl c.length
  have hK2 : K.length ≤ 500000000 := by omega
  have q := appT (K := K) (x := x) (y := y) (z := z) (k := k) (e := e) (p := p) (s := s) (n := n) (b := b) (r := r) (bit := bit) (l := l) (c := c) tb7
  try unfold tbQ at q
  try unfold tbP at q
  try unfold tbG at q
  try unfold tbF at q
  try unfold tbN at q
  try unfold tbI at q
  try simp only [List.take_length] at q
  simp only [hA, hAi, List.take_length] at q
  have ei : Int.toNat (((I.length : Nat) : Int) - 32 + Int.tdiv (j : Int) 8) = M + j / 8 := by rw [Int.tdiv_eq_ediv_of_nonneg (by omega)]; omega
  have e31 : Int.toNat (((I.length : Nat) : Int) - 1) = M + 31 := by omega
  have ed : Int.tdiv (j : Int) 8 = ((j / 8 : Nat) : Int) := by rw [Int.tdiv_eq_ediv_of_nonneg (by omega)]; omega
  have em : 0 ≤ Int.tmod (j : Int) 8 := Int.tmod_nonneg _ (by omega)
  simp only [hI, hj, ei, e31, hv, hIc, hF, hG] at q
  simp only [hP, hPg, List.take_length] at q
  simp only [hD] at q
  refine ⟨_, _, q, ?_⟩
  simp only [allP, List.length_set]
  repeat' (first | exact trivial | exact uK | exact uc | exact ul | exact hkr | exact f0 | exact f1 | exact f2 | exact hK | exact hK2 | exact hc | exact hAt | exact hB | exact uI | exact uF | exact hbit | exact hC | exact uP | refine And.intro ?_ ?_)
  all_goals first | rfl | omega | exact uX | exact decide_eq_false (by omega) | exact decide_eq_true (by omega) | decide | (simp; done) | (rw [ed]; omega)
set_option maxHeartbeats 2000000 in
theorem tb_8 (uK : u8L K) (uc : u8L c) (ul : u8L l) (hkr : 0 ≤ k ∧ k < 256) (hKl : K.length ≤ 300) (hll : l.length ≤ 5000) (hcl : c.length ≤ 5000) (hA : decide ((chkN (partN K 0 K.length) c c.length).2.2.2 = 0) = false) (hB : ¬ tokR x y z) (hC : ¬ textR k [e, p, s, n, b] r l.length) {gk gr : Int} {gv gb : List Int} (hD : getS c c.length = ⟨gk, gv, gr, gb, 0⟩) (h5 : [gv.getD 0 0, gv.getD 1 0, gv.getD 2 0, gv.getD 3 0, gv.getD 4 0] = gv) (hDt : textR gk gv gr gb.length) (hDp : putS gk gv gr gb = c) (hDk : 0 ≤ gk ∧ gk < 256) (uD : u8L gb) : runT K x y z k e p s n b r bit l c := by
  have f0 : decide ((300 : Int) < (K.length : Int)) = false := decide_eq_false (by omega)
  have f1 : decide ((5000 : Int) < (l.length : Int)) = false := decide_eq_false (by omega)
  have f2 : decide ((5000 : Int) < (c.length : Int)) = false := decide_eq_false (by omega)
  have hK := Nat.le_refl K.length
  have uX : u8L gotX.blob := fun x hx => (by cases hx)
  have hc := Nat.le_refl c.length
  have hK2 : K.length ≤ 500000000 := by omega
  have q := appT (K := K) (x := x) (y := y) (z := z) (k := k) (e := e) (p := p) (s := s) (n := n) (b := b) (r := r) (bit := bit) (l := l) (c := c) tb8
  try unfold tbQ at q
  try unfold tbP at q
  try unfold tbG at q
  try unfold tbF at q
  try unfold tbN at q
  try unfold tbI at q
  try simp only [List.take_length] at q
  simp only [hD, List.take_length] at q
  simp only [h5, hDp, List.take_length] at q
  refine ⟨_, _, q, ?_⟩
  simp only [allP, List.length_set]
  repeat' (first | exact trivial | exact uK | exact uc | exact ul | exact hkr | exact f0 | exact f1 | exact f2 | exact hK | exact hK2 | exact hc | exact hA | exact hB | exact hC | exact hDt | exact hDk | exact uD | refine And.intro ?_ ?_)
  all_goals first | rfl | omega | exact uX | exact decide_eq_false (by omega) | exact decide_eq_true (by omega) | decide | (simp; done)
set_option maxHeartbeats 2000000 in
theorem tb_9 (uK : u8L K) (uc : u8L c) (ul : u8L l) (hkr : 0 ≤ k ∧ k < 256) (hKl : K.length ≤ 300) (hll : l.length ≤ 5000) (hcl : c.length ≤ 5000) {t1 t2 t3 : Int} (hA : chkN (partN K 0 K.length) c c.length = (t1, t2, t3, 0)) (hAt : tokR t1 t2 t3) (hAi : issN (partN K 0 K.length) t1 t2 t3 = c) (hB : ¬ tokR x y z) (hC : ¬ textR k [e, p, s, n, b] r l.length) {gk gr : Int} {gv gb : List Int} (hD : getS c c.length = ⟨gk, gv, gr, gb, 0⟩) (h5 : [gv.getD 0 0, gv.getD 1 0, gv.getD 2 0, gv.getD 3 0, gv.getD 4 0] = gv) (hDt : textR gk gv gr gb.length) (hDp : putS gk gv gr gb = c) (hDk : 0 ≤ gk ∧ gk < 256) (uD : u8L gb) : runT K x y z k e p s n b r bit l c := by
  have f0 : decide ((300 : Int) < (K.length : Int)) = false := decide_eq_false (by omega)
  have f1 : decide ((5000 : Int) < (l.length : Int)) = false := decide_eq_false (by omega)
  have f2 : decide ((5000 : Int) < (c.length : Int)) = false := decide_eq_false (by omega)
  have hK := Nat.le_refl K.length
  have uX : u8L gotX.blob := fun x hx => (by cases hx)
  have hc := Nat.le_refl c.length
  have hK2 : K.length ≤ 500000000 := by omega
  have q := appT (K := K) (x := x) (y := y) (z := z) (k := k) (e := e) (p := p) (s := s) (n := n) (b := b) (r := r) (bit := bit) (l := l) (c := c) tb9
  try unfold tbQ at q
  try unfold tbP at q
  try unfold tbG at q
  try unfold tbF at q
  try unfold tbN at q
  try unfold tbI at q
  try simp only [List.take_length] at q
  simp only [hA, hAi, List.take_length] at q
  simp only [hD, List.take_length] at q
  simp only [h5, hDp, List.take_length] at q
  refine ⟨_, _, q, ?_⟩
  simp only [allP, List.length_set]
  repeat' (first | exact trivial | exact uK | exact uc | exact ul | exact hkr | exact f0 | exact f1 | exact f2 | exact hK | exact hK2 | exact hc | exact hAt | exact hB | exact hC | exact hDt | exact hDk | exact uD | refine And.intro ?_ ?_)
  all_goals first | rfl | omega | exact uX | exact decide_eq_false (by omega) | exact decide_eq_true (by omega) | decide | (simp; done)
set_option maxHeartbeats 2000000 in
theorem tb_10 (uK : u8L K) (uc : u8L c) (ul : u8L l) (hkr : 0 ≤ k ∧ k < 256) (hKl : K.length ≤ 300) (hll : l.length ≤ 5000) (hcl : c.length ≤ 5000) (hA : decide ((chkN (partN K 0 K.length) c c.length).2.2.2 = 0) = false) {I : List Int} {j M : Nat} {v : Int} (hB : tokR x y z) (hI : issN (partN K 0 K.length) x y z = I) (hIc : chkN (partN K 0 K.length) I I.length = (x, y, z, 0)) (uI : u8L I) (hIl : M + 32 = I.length) (hIm : M ≤ 30) (hj : bit % 256 = (j : Int)) (hj2 : j < 256) (hv : bits .xor .u8 (I.getD (M + j / 8) 0) (IntKind.wrap .u8 (1 * 2 ^ (if Int.toNat (Int.tmod (j : Int) 8) ≤ 8 then Int.toNat (Int.tmod (j : Int) 8) else 8))) = v) (uF : u8L (I.set (M + j / 8) v)) (hF : chkN (partN K 0 K.length) (I.set (M + j / 8) v) I.length = (0, 0, 0, 130)) (hG : chkN (partN K 0 K.length) (I.set (M + j / 8) v) (M + 31) = (0, 0, 0, 130)) (hbit : -9223372036854775808 ≤ bit ∧ bit ≤ 9223372036854775807) (hC : ¬ textR k [e, p, s, n, b] r l.length) {gk gr : Int} {gv gb : List Int} (hD : getS c c.length = ⟨gk, gv, gr, gb, 0⟩) (h5 : [gv.getD 0 0, gv.getD 1 0, gv.getD 2 0, gv.getD 3 0, gv.getD 4 0] = gv) (hDt : textR gk gv gr gb.length) (hDp : putS gk gv gr gb = c) (hDk : 0 ≤ gk ∧ gk < 256) (uD : u8L gb) : runT K x y z k e p s n b r bit l c := by
  have f0 : decide ((300 : Int) < (K.length : Int)) = false := decide_eq_false (by omega)
  have f1 : decide ((5000 : Int) < (l.length : Int)) = false := decide_eq_false (by omega)
  have f2 : decide ((5000 : Int) < (c.length : Int)) = false := decide_eq_false (by omega)
  have hK := Nat.le_refl K.length
  have uX : u8L gotX.blob := fun x hx => (by cases hx)
  have hc := Nat.le_refl c.length
  have hK2 : K.length ≤ 500000000 := by omega
  have q := appT (K := K) (x := x) (y := y) (z := z) (k := k) (e := e) (p := p) (s := s) (n := n) (b := b) (r := r) (bit := bit) (l := l) (c := c) tb10
  try unfold tbQ at q
  try unfold tbP at q
  try unfold tbG at q
  try unfold tbF at q
  try unfold tbN at q
  try unfold tbI at q
  try simp only [List.take_length] at q
  have ei : Int.toNat (((I.length : Nat) : Int) - 32 + Int.tdiv (j : Int) 8) = M + j / 8 := by rw [Int.tdiv_eq_ediv_of_nonneg (by omega)]; omega
  have e31 : Int.toNat (((I.length : Nat) : Int) - 1) = M + 31 := by omega
  have ed : Int.tdiv (j : Int) 8 = ((j / 8 : Nat) : Int) := by rw [Int.tdiv_eq_ediv_of_nonneg (by omega)]; omega
  have em : 0 ≤ Int.tmod (j : Int) 8 := Int.tmod_nonneg _ (by omega)
  simp only [hI, hj, ei, e31, hv, hIc, hF, hG] at q
  simp only [hD, List.take_length] at q
  simp only [h5, hDp, List.take_length] at q
  refine ⟨_, _, q, ?_⟩
  simp only [allP, List.length_set]
  repeat' (first | exact trivial | exact uK | exact uc | exact ul | exact hkr | exact f0 | exact f1 | exact f2 | exact hK | exact hK2 | exact hc | exact hA | exact hB | exact uI | exact uF | exact hbit | exact hC | exact hDt | exact hDk | exact uD | refine And.intro ?_ ?_)
  all_goals first | rfl | omega | exact uX | exact decide_eq_false (by omega) | exact decide_eq_true (by omega) | decide | (simp; done) | (rw [ed]; omega)
set_option maxHeartbeats 2000000 in
theorem tb_11 (uK : u8L K) (uc : u8L c) (ul : u8L l) (hkr : 0 ≤ k ∧ k < 256) (hKl : K.length ≤ 300) (hll : l.length ≤ 5000) (hcl : c.length ≤ 5000) {t1 t2 t3 : Int} (hA : chkN (partN K 0 K.length) c c.length = (t1, t2, t3, 0)) (hAt : tokR t1 t2 t3) (hAi : issN (partN K 0 K.length) t1 t2 t3 = c) {I : List Int} {j M : Nat} {v : Int} (hB : tokR x y z) (hI : issN (partN K 0 K.length) x y z = I) (hIc : chkN (partN K 0 K.length) I I.length = (x, y, z, 0)) (uI : u8L I) (hIl : M + 32 = I.length) (hIm : M ≤ 30) (hj : bit % 256 = (j : Int)) (hj2 : j < 256) (hv : bits .xor .u8 (I.getD (M + j / 8) 0) (IntKind.wrap .u8 (1 * 2 ^ (if Int.toNat (Int.tmod (j : Int) 8) ≤ 8 then Int.toNat (Int.tmod (j : Int) 8) else 8))) = v) (uF : u8L (I.set (M + j / 8) v)) (hF : chkN (partN K 0 K.length) (I.set (M + j / 8) v) I.length = (0, 0, 0, 130)) (hG : chkN (partN K 0 K.length) (I.set (M + j / 8) v) (M + 31) = (0, 0, 0, 130)) (hbit : -9223372036854775808 ≤ bit ∧ bit ≤ 9223372036854775807) (hC : ¬ textR k [e, p, s, n, b] r l.length) {gk gr : Int} {gv gb : List Int} (hD : getS c c.length = ⟨gk, gv, gr, gb, 0⟩) (h5 : [gv.getD 0 0, gv.getD 1 0, gv.getD 2 0, gv.getD 3 0, gv.getD 4 0] = gv) (hDt : textR gk gv gr gb.length) (hDp : putS gk gv gr gb = c) (hDk : 0 ≤ gk ∧ gk < 256) (uD : u8L gb) : runT K x y z k e p s n b r bit l c := by
  have f0 : decide ((300 : Int) < (K.length : Int)) = false := decide_eq_false (by omega)
  have f1 : decide ((5000 : Int) < (l.length : Int)) = false := decide_eq_false (by omega)
  have f2 : decide ((5000 : Int) < (c.length : Int)) = false := decide_eq_false (by omega)
  have hK := Nat.le_refl K.length
  have uX : u8L gotX.blob := fun x hx => (by cases hx)
  have hc := Nat.le_refl c.length
  have hK2 : K.length ≤ 500000000 := by omega
  have q := appT (K := K) (x := x) (y := y) (z := z) (k := k) (e := e) (p := p) (s := s) (n := n) (b := b) (r := r) (bit := bit) (l := l) (c := c) tb11
  try unfold tbQ at q
  try unfold tbP at q
  try unfold tbG at q
  try unfold tbF at q
  try unfold tbN at q
  try unfold tbI at q
  try simp only [List.take_length] at q
  simp only [hA, hAi, List.take_length] at q
  have ei : Int.toNat (((I.length : Nat) : Int) - 32 + Int.tdiv (j : Int) 8) = M + j / 8 := by rw [Int.tdiv_eq_ediv_of_nonneg (by omega)]; omega
  have e31 : Int.toNat (((I.length : Nat) : Int) - 1) = M + 31 := by omega
  have ed : Int.tdiv (j : Int) 8 = ((j / 8 : Nat) : Int) := by rw [Int.tdiv_eq_ediv_of_nonneg (by omega)]; omega
  have em : 0 ≤ Int.tmod (j : Int) 8 := Int.tmod_nonneg _ (by omega)
  simp only [hI, hj, ei, e31, hv, hIc, hF, hG] at q
  simp only [hD, List.take_length] at q
  simp only [h5, hDp, List.take_length] at q
  refine ⟨_, _, q, ?_⟩
  simp only [allP, List.length_set]
  repeat' (first | exact trivial | exact uK | exact uc | exact ul | exact hkr | exact f0 | exact f1 | exact f2 | exact hK | exact hK2 | exact hc | exact hAt | exact hB | exact uI | exact uF | exact hbit | exact hC | exact hDt | exact hDk | exact uD | refine And.intro ?_ ?_)
  all_goals first | rfl | omega | exact uX | exact decide_eq_false (by omega) | exact decide_eq_true (by omega) | decide | (simp; done) | (rw [ed]; omega)
set_option maxHeartbeats 2000000 in
theorem tb_12 (uK : u8L K) (uc : u8L c) (ul : u8L l) (hkr : 0 ≤ k ∧ k < 256) (hKl : K.length ≤ 300) (hll : l.length ≤ 5000) (hcl : c.length ≤ 5000) (hA : decide ((chkN (partN K 0 K.length) c c.length).2.2.2 = 0) = false) (hB : ¬ tokR x y z) {P : List Int} (hC : textR k [e, p, s, n, b] r l.length) (hP : putS k [e, p, s, n, b] r l = P) (hPg : getS P P.length = ⟨k, [e, p, s, n, b], r, l, 0⟩) (uP : u8L P) (hPl : P.length ≤ 6000) {gk gr : Int} {gv gb : List Int} (hD : getS c c.length = ⟨gk, gv, gr, gb, 0⟩) (h5 : [gv.getD 0 0, gv.getD 1 0, gv.getD 2 0, gv.getD 3 0, gv.getD 4 0] = gv) (hDt : textR gk gv gr gb.length) (hDp : putS gk gv gr gb = c) (hDk : 0 ≤ gk ∧ gk < 256) (uD : u8L gb) : runT K x y z k e p s n b r bit l c := by
  have f0 : decide ((300 : Int) < (K.length : Int)) = false := decide_eq_false (by omega)
  have f1 : decide ((5000 : Int) < (l.length : Int)) = false := decide_eq_false (by omega)
  have f2 : decide ((5000 : Int) < (c.length : Int)) = false := decide_eq_false (by omega)
  have hK := Nat.le_refl K.length
  have uX : u8L gotX.blob := fun x hx => (by cases hx)
  have hc := Nat.le_refl c.length
  have hK2 : K.length ≤ 500000000 := by omega
  have q := appT (K := K) (x := x) (y := y) (z := z) (k := k) (e := e) (p := p) (s := s) (n := n) (b := b) (r := r) (bit := bit) (l := l) (c := c) tb12
  try unfold tbQ at q
  try unfold tbP at q
  try unfold tbG at q
  try unfold tbF at q
  try unfold tbN at q
  try unfold tbI at q
  try simp only [List.take_length] at q
  simp only [hP, hPg, List.take_length] at q
  simp only [hD, List.take_length] at q
  simp only [h5, hDp, List.take_length] at q
  refine ⟨_, _, q, ?_⟩
  simp only [allP, List.length_set]
  repeat' (first | exact trivial | exact uK | exact uc | exact ul | exact hkr | exact f0 | exact f1 | exact f2 | exact hK | exact hK2 | exact hc | exact hA | exact hB | exact hC | exact uP | exact hDt | exact hDk | exact uD | refine And.intro ?_ ?_)
  all_goals first | rfl | omega | exact uX | exact decide_eq_false (by omega) | exact decide_eq_true (by omega) | decide | (simp; done)
set_option maxHeartbeats 2000000 in
theorem tb_13 (uK : u8L K) (uc : u8L c) (ul : u8L l) (hkr : 0 ≤ k ∧ k < 256) (hKl : K.length ≤ 300) (hll : l.length ≤ 5000) (hcl : c.length ≤ 5000) {t1 t2 t3 : Int} (hA : chkN (partN K 0 K.length) c c.length = (t1, t2, t3, 0)) (hAt : tokR t1 t2 t3) (hAi : issN (partN K 0 K.length) t1 t2 t3 = c) (hB : ¬ tokR x y z) {P : List Int} (hC : textR k [e, p, s, n, b] r l.length) (hP : putS k [e, p, s, n, b] r l = P) (hPg : getS P P.length = ⟨k, [e, p, s, n, b], r, l, 0⟩) (uP : u8L P) (hPl : P.length ≤ 6000) {gk gr : Int} {gv gb : List Int} (hD : getS c c.length = ⟨gk, gv, gr, gb, 0⟩) (h5 : [gv.getD 0 0, gv.getD 1 0, gv.getD 2 0, gv.getD 3 0, gv.getD 4 0] = gv) (hDt : textR gk gv gr gb.length) (hDp : putS gk gv gr gb = c) (hDk : 0 ≤ gk ∧ gk < 256) (uD : u8L gb) : runT K x y z k e p s n b r bit l c := by
  have f0 : decide ((300 : Int) < (K.length : Int)) = false := decide_eq_false (by omega)
  have f1 : decide ((5000 : Int) < (l.length : Int)) = false := decide_eq_false (by omega)
  have f2 : decide ((5000 : Int) < (c.length : Int)) = false := decide_eq_false (by omega)
  have hK := Nat.le_refl K.length
  have uX : u8L gotX.blob := fun x hx => (by cases hx)
  have hc := Nat.le_refl c.length
  have hK2 : K.length ≤ 500000000 := by omega
  have q := appT (K := K) (x := x) (y := y) (z := z) (k := k) (e := e) (p := p) (s := s) (n := n) (b := b) (r := r) (bit := bit) (l := l) (c := c) tb13
  try unfold tbQ at q
  try unfold tbP at q
  try unfold tbG at q
  try unfold tbF at q
  try unfold tbN at q
  try unfold tbI at q
  try simp only [List.take_length] at q
  simp only [hA, hAi, List.take_length] at q
  simp only [hP, hPg, List.take_length] at q
  simp only [hD, List.take_length] at q
  simp only [h5, hDp, List.take_length] at q
  refine ⟨_, _, q, ?_⟩
  simp only [allP, List.length_set]
  repeat' (first | exact trivial | exact uK | exact uc | exact ul | exact hkr | exact f0 | exact f1 | exact f2 | exact hK | exact hK2 | exact hc | exact hAt | exact hB | exact hC | exact uP | exact hDt | exact hDk | exact uD | refine And.intro ?_ ?_)
  all_goals first | rfl | omega | exact uX | exact decide_eq_false (by omega) | exact decide_eq_true (by omega) | decide | (simp; done)
set_option maxHeartbeats 2000000 in
theorem tb_14 (uK : u8L K) (uc : u8L c) (ul : u8L l) (hkr : 0 ≤ k ∧ k < 256) (hKl : K.length ≤ 300) (hll : l.length ≤ 5000) (hcl : c.length ≤ 5000) (hA : decide ((chkN (partN K 0 K.length) c c.length).2.2.2 = 0) = false) {I : List Int} {j M : Nat} {v : Int} (hB : tokR x y z) (hI : issN (partN K 0 K.length) x y z = I) (hIc : chkN (partN K 0 K.length) I I.length = (x, y, z, 0)) (uI : u8L I) (hIl : M + 32 = I.length) (hIm : M ≤ 30) (hj : bit % 256 = (j : Int)) (hj2 : j < 256) (hv : bits .xor .u8 (I.getD (M + j / 8) 0) (IntKind.wrap .u8 (1 * 2 ^ (if Int.toNat (Int.tmod (j : Int) 8) ≤ 8 then Int.toNat (Int.tmod (j : Int) 8) else 8))) = v) (uF : u8L (I.set (M + j / 8) v)) (hF : chkN (partN K 0 K.length) (I.set (M + j / 8) v) I.length = (0, 0, 0, 130)) (hG : chkN (partN K 0 K.length) (I.set (M + j / 8) v) (M + 31) = (0, 0, 0, 130)) (hbit : -9223372036854775808 ≤ bit ∧ bit ≤ 9223372036854775807) {P : List Int} (hC : textR k [e, p, s, n, b] r l.length) (hP : putS k [e, p, s, n, b] r l = P) (hPg : getS P P.length = ⟨k, [e, p, s, n, b], r, l, 0⟩) (uP : u8L P) (hPl : P.length ≤ 6000) {gk gr : Int} {gv gb : List Int} (hD : getS c c.length = ⟨gk, gv, gr, gb, 0⟩) (h5 : [gv.getD 0 0, gv.getD 1 0, gv.getD 2 0, gv.getD 3 0, gv.getD 4 0] = gv) (hDt : textR gk gv gr gb.length) (hDp : putS gk gv gr gb = c) (hDk : 0 ≤ gk ∧ gk < 256) (uD : u8L gb) : runT K x y z k e p s n b r bit l c := by
  have f0 : decide ((300 : Int) < (K.length : Int)) = false := decide_eq_false (by omega)
  have f1 : decide ((5000 : Int) < (l.length : Int)) = false := decide_eq_false (by omega)
  have f2 : decide ((5000 : Int) < (c.length : Int)) = false := decide_eq_false (by omega)
  have hK := Nat.le_refl K.length
  have uX : u8L gotX.blob := fun x hx => (by cases hx)
  have hc := Nat.le_refl c.length
  have hK2 : K.length ≤ 500000000 := by omega
  have q := appT (K := K) (x := x) (y := y) (z := z) (k := k) (e := e) (p := p) (s := s) (n := n) (b := b) (r := r) (bit := bit) (l := l) (c := c) tb14
  try unfold tbQ at q
  try unfold tbP at q
  try unfold tbG at q
  try unfold tbF at q
  try unfold tbN at q
  try unfold tbI at q
  try simp only [List.take_length] at q
  have ei : Int.toNat (((I.length : Nat) : Int) - 32 + Int.tdiv (j : Int) 8) = M + j / 8 := by rw [Int.tdiv_eq_ediv_of_nonneg (by omega)]; omega
  have e31 : Int.toNat (((I.length : Nat) : Int) - 1) = M + 31 := by omega
  have ed : Int.tdiv (j : Int) 8 = ((j / 8 : Nat) : Int) := by rw [Int.tdiv_eq_ediv_of_nonneg (by omega)]; omega
  have em : 0 ≤ Int.tmod (j : Int) 8 := Int.tmod_nonneg _ (by omega)
  simp only [hI, hj, ei, e31, hv, hIc, hF, hG] at q
  simp only [hP, hPg, List.take_length] at q
  simp only [hD, List.take_length] at q
  simp only [h5, hDp, List.take_length] at q
  refine ⟨_, _, q, ?_⟩
  simp only [allP, List.length_set]
  repeat' (first | exact trivial | exact uK | exact uc | exact ul | exact hkr | exact f0 | exact f1 | exact f2 | exact hK | exact hK2 | exact hc | exact hA | exact hB | exact uI | exact uF | exact hbit | exact hC | exact uP | exact hDt | exact hDk | exact uD | refine And.intro ?_ ?_)
  all_goals first | rfl | omega | exact uX | exact decide_eq_false (by omega) | exact decide_eq_true (by omega) | decide | (simp; done) | (rw [ed]; omega)
set_option maxHeartbeats 2000000 in
theorem tb_15 (uK : u8L K) (uc : u8L c) (ul : u8L l) (hkr : 0 ≤ k ∧ k < 256) (hKl : K.length ≤ 300) (hll : l.length ≤ 5000) (hcl : c.length ≤ 5000) {t1 t2 t3 : Int} (hA : chkN (partN K 0 K.length) c c.length = (t1, t2, t3, 0)) (hAt : tokR t1 t2 t3) (hAi : issN (partN K 0 K.length) t1 t2 t3 = c) {I : List Int} {j M : Nat} {v : Int} (hB : tokR x y z) (hI : issN (partN K 0 K.length) x y z = I) (hIc : chkN (partN K 0 K.length) I I.length = (x, y, z, 0)) (uI : u8L I) (hIl : M + 32 = I.length) (hIm : M ≤ 30) (hj : bit % 256 = (j : Int)) (hj2 : j < 256) (hv : bits .xor .u8 (I.getD (M + j / 8) 0) (IntKind.wrap .u8 (1 * 2 ^ (if Int.toNat (Int.tmod (j : Int) 8) ≤ 8 then Int.toNat (Int.tmod (j : Int) 8) else 8))) = v) (uF : u8L (I.set (M + j / 8) v)) (hF : chkN (partN K 0 K.length) (I.set (M + j / 8) v) I.length = (0, 0, 0, 130)) (hG : chkN (partN K 0 K.length) (I.set (M + j / 8) v) (M + 31) = (0, 0, 0, 130)) (hbit : -9223372036854775808 ≤ bit ∧ bit ≤ 9223372036854775807) {P : List Int} (hC : textR k [e, p, s, n, b] r l.length) (hP : putS k [e, p, s, n, b] r l = P) (hPg : getS P P.length = ⟨k, [e, p, s, n, b], r, l, 0⟩) (uP : u8L P) (hPl : P.length ≤ 6000) {gk gr : Int} {gv gb : List Int} (hD : getS c c.length = ⟨gk, gv, gr, gb, 0⟩) (h5 : [gv.getD 0 0, gv.getD 1 0, gv.getD 2 0, gv.getD 3 0, gv.getD 4 0] = gv) (hDt : textR gk gv gr gb.length) (hDp : putS gk gv gr gb = c) (hDk : 0 ≤ gk ∧ gk < 256) (uD : u8L gb) : runT K x y z k e p s n b r bit l c := by
  have f0 : decide ((300 : Int) < (K.length : Int)) = false := decide_eq_false (by omega)
  have f1 : decide ((5000 : Int) < (l.length : Int)) = false := decide_eq_false (by omega)
  have f2 : decide ((5000 : Int) < (c.length : Int)) = false := decide_eq_false (by omega)
  have hK := Nat.le_refl K.length
  have uX : u8L gotX.blob := fun x hx => (by cases hx)
  have hc := Nat.le_refl c.length
  have hK2 : K.length ≤ 500000000 := by omega
  have q := appT (K := K) (x := x) (y := y) (z := z) (k := k) (e := e) (p := p) (s := s) (n := n) (b := b) (r := r) (bit := bit) (l := l) (c := c) tb15
  try unfold tbQ at q
  try unfold tbP at q
  try unfold tbG at q
  try unfold tbF at q
  try unfold tbN at q
  try unfold tbI at q
  try simp only [List.take_length] at q
  simp only [hA, hAi, List.take_length] at q
  have ei : Int.toNat (((I.length : Nat) : Int) - 32 + Int.tdiv (j : Int) 8) = M + j / 8 := by rw [Int.tdiv_eq_ediv_of_nonneg (by omega)]; omega
  have e31 : Int.toNat (((I.length : Nat) : Int) - 1) = M + 31 := by omega
  have ed : Int.tdiv (j : Int) 8 = ((j / 8 : Nat) : Int) := by rw [Int.tdiv_eq_ediv_of_nonneg (by omega)]; omega
  have em : 0 ≤ Int.tmod (j : Int) 8 := Int.tmod_nonneg _ (by omega)
  simp only [hI, hj, ei, e31, hv, hIc, hF, hG] at q
  simp only [hP, hPg, List.take_length] at q
  simp only [hD, List.take_length] at q
  simp only [h5, hDp, List.take_length] at q
  refine ⟨_, _, q, ?_⟩
  simp only [allP, List.length_set]
  repeat' (first | exact trivial | exact uK | exact uc | exact ul | exact hkr | exact f0 | exact f1 | exact f2 | exact hK | exact hK2 | exact hc | exact hAt | exact hB | exact uI | exact uF | exact hbit | exact hC | exact uP | exact hDt | exact hDk | exact uD | refine And.intro ?_ ?_)
  all_goals first | rfl | omega | exact uX | exact decide_eq_false (by omega) | exact decide_eq_true (by omega) | decide | (simp; done) | (rw [ed]; omega)
end
set_option maxHeartbeats 2000000 in
theorem tb_all {K : List Int} {x y z k e p s n b r bit : Int} {l c : List Int} (uK : u8L K) (uc : u8L c) (ul : u8L l) (hkr : 0 ≤ k ∧ k < 256) (hKl : K.length ≤ 300) (hll : l.length ≤ 5000) (hcl : c.length ≤ 5000) (hbit : -9223372036854775808 ≤ bit ∧ bit ≤ 9223372036854775807) : runT K x y z k e p s n b r bit l c := by
  -- the bytes as a token
  have hAA : (∃ t1 t2 t3, chkN (partN K 0 K.length) c c.length = (t1, t2, t3, 0) ∧ tokR t1 t2 t3 ∧ issN (partN K 0 K.length) t1 t2 t3 = c) ∨ decide ((chkN (partN K 0 K.length) c c.length).2.2.2 = 0) = false := by
    by_cases h : (chkN (partN K 0 K.length) c c.length).2.2.2 = 0
    · obtain ⟨h1, h2⟩ := chk_inv h
      obtain ⟨t1, t2, t3, t4, ht⟩ : ∃ a b d f, chkN (partN K 0 K.length) c c.length = (a, b, d, f) := ⟨_, _, _, _, rfl⟩
      rw [ht] at h h1 h2
      dsimp only at h h1 h2
      rw [h] at ht
      rw [List.take_length] at h2
      exact .inl ⟨t1, t2, t3, ht, h1, h2⟩
    · exact .inr (decide_eq_false h)
  -- the bytes as a message
  have hDD : (∃ gk gv gr gb, getS c c.length = ⟨gk, gv, gr, gb, 0⟩ ∧ [gv.getD 0 0, gv.getD 1 0, gv.getD 2 0, gv.getD 3 0, gv.getD 4 0] = gv ∧ textR gk gv gr gb.length ∧ putS gk gv gr gb = c ∧ (0 ≤ gk ∧ gk < 256) ∧ u8L gb) ∨ getS c c.length = gotX := by
    rcases got_e c c.length with h | h
    · obtain ⟨h1, h2, h3⟩ := get_inv uc (Nat.le_refl _) h
      obtain ⟨h4, h5⟩ := getS_u8 uc c.length
      obtain ⟨gk, gv, gr, gb, ge, hg⟩ : ∃ a b d f g, getS c c.length = ⟨a, b, d, f, g⟩ := ⟨_, _, _, _, _, rfl⟩
      rw [hg] at h h1 h2 h3 h4 h5
      dsimp only at h h1 h2 h3 h4 h5
      rw [h] at hg
      rw [List.take_length] at h3
      exact .inl ⟨gk, gv, gr, gb, hg, five h1, h2, h3, h5, h4⟩
    · exact .inr h
  have hBB : tokR x y z → ∃ I, ∃ j M : Nat, ∃ v : Int, issN (partN K 0 K.length) x y z = I ∧ chkN (partN K 0 K.length) I I.length = (x, y, z, 0) ∧ u8L I ∧ M + 32 = I.length ∧ M ≤ 30 ∧ bit % 256 = (j : Int) ∧ j < 256 ∧ bits .xor .u8 (I.getD (M + j / 8) 0) (IntKind.wrap .u8 (1 * 2 ^ (if Int.toNat (Int.tmod (j : Int) 8) ≤ 8 then Int.toNat (Int.tmod (j : Int) 8) else 8))) = v ∧ u8L (I.set (M + j / 8) v) ∧ chkN (partN K 0 K.length) (I.set (M + j / 8) v) I.length = (0, 0, 0, 130) ∧ chkN (partN K 0 K.length) (I.set (M + j / 8) v) (M + 31) = (0, 0, 0, 130) := fun hB => by
    have hl := issN_len (partN K 0 K.length) x y z
    have hb := body3_len hB
    have hu := issN_u8 (partN K 0 K.length) x y z
    have m0 := Int.emod_nonneg bit (b := 256) (by decide)
    have m1 := Int.emod_lt_of_pos bit (b := 256) (by decide)
    obtain ⟨j, hj⟩ : ∃ j : Nat, bit % 256 = (j : Int) := ⟨(bit % 256).toNat, by omega⟩
    have em : Int.toNat (Int.tmod (j : Int) 8) = j % 8 := by rw [Int.tmod_eq_emod_of_nonneg (by omega)]; omega
    have ew : IntKind.wrap .u8 (1 * 2 ^ (if Int.toNat (Int.tmod (j : Int) 8) ≤ 8 then Int.toNat (Int.tmod (j : Int) 8) else 8)) = ((2 ^ (j % 8) : Nat) : Int) := by
      rw [em, if_pos (by omega)]
      have : j % 8 < 8 := by omega
      revert this
      generalize j % 8 = i
      revert i
      decide
    have hp : 2 ^ (j % 8) < 256 ∧ 2 ^ (j % 8) ≠ 0 := by
      have : j % 8 < 8 := by omega
      revert this
      generalize j % 8 = i
      revert i
      decide
    have hx := xor_byte (u8L_get hu ((body3 x y z).length + j / 8)) hp.1 hp.2
    have hi2 : (body3 x y z).length + j / 8 < (issN (partN K 0 K.length) x y z).length := by omega
    have hs : (issN (partN K 0 K.length) x y z).set ((body3 x y z).length + j / 8) (bits .xor .u8 ((issN (partN K 0 K.length) x y z).getD ((body3 x y z).length + j / 8) 0) ((2 ^ (j % 8) : Nat) : Int)) = body3 x y z ++ (ci (hmacN (partN K 0 K.length) (nats (body3 x y z)))).set (j / 8) (bits .xor .u8 ((issN (partN K 0 K.length) x y z).getD ((body3 x y z).length + j / 8) 0) ((2 ^ (j % 8) : Nat) : Int)) := by
      conv => lhs; arg 1; unfold issN
      rw [List.set_append_right _ _ (by omega), Nat.add_sub_cancel_left]
    refine ⟨_, j, (body3 x y z).length, _, rfl, chk_iss hB _, hu, hl.symm, hb, hj, by omega, rfl, ?_, ?_, ?_⟩
    · rw [ew]; exact u8L_set hu _ hx.1
    · rw [ew]; exact chk_set hB _ (by omega) hi2 hx.2
    · rw [ew]
      refine chk_other hB hs (by omega) fun he => ?_
      have := congrArg List.length he
      rw [List.length_take, List.length_set] at this
      omega
  have hCC : textR k [e, p, s, n, b] r l.length → ∃ P, putS k [e, p, s, n, b] r l = P ∧ getS P P.length = ⟨k, [e, p, s, n, b], r, l, 0⟩ ∧ u8L P ∧ P.length ≤ 6000 := fun hC => by
    have := putS_len hC
    exact ⟨_, rfl, get_self rfl hC, putS_u8 hkr ul, by omega⟩
  rcases hAA with ⟨t1, t2, t3, hA, hAt, hAi⟩ | hA
  · by_cases hB : tokR x y z
    · obtain ⟨I, j, M, v, hI, hIc, uI, hIl, hIm, hj, hj2, hv, uF, hF, hG⟩ := hBB hB
      by_cases hC : textR k [e, p, s, n, b] r l.length
      · obtain ⟨P, hP, hPg, uP, hPl⟩ := hCC hC
        rcases hDD with ⟨gk, gv, gr, gb, hD, h5, hDt, hDp, hDk, uD⟩ | hD
        · exact tb_15 uK uc ul hkr hKl hll hcl hA hAt hAi hB hI hIc uI hIl hIm hj hj2 hv uF hF hG hbit hC hP hPg uP hPl hD h5 hDt hDp hDk uD
        · exact tb_7 uK uc ul hkr hKl hll hcl hA hAt hAi hB hI hIc uI hIl hIm hj hj2 hv uF hF hG hbit hC hP hPg uP hPl hD
      · rcases hDD with ⟨gk, gv, gr, gb, hD, h5, hDt, hDp, hDk, uD⟩ | hD
        · exact tb_11 uK uc ul hkr hKl hll hcl hA hAt hAi hB hI hIc uI hIl hIm hj hj2 hv uF hF hG hbit hC hD h5 hDt hDp hDk uD
        · exact tb_3 uK uc ul hkr hKl hll hcl hA hAt hAi hB hI hIc uI hIl hIm hj hj2 hv uF hF hG hbit hC hD
    · by_cases hC : textR k [e, p, s, n, b] r l.length
      · obtain ⟨P, hP, hPg, uP, hPl⟩ := hCC hC
        rcases hDD with ⟨gk, gv, gr, gb, hD, h5, hDt, hDp, hDk, uD⟩ | hD
        · exact tb_13 uK uc ul hkr hKl hll hcl hA hAt hAi hB hC hP hPg uP hPl hD h5 hDt hDp hDk uD
        · exact tb_5 uK uc ul hkr hKl hll hcl hA hAt hAi hB hC hP hPg uP hPl hD
      · rcases hDD with ⟨gk, gv, gr, gb, hD, h5, hDt, hDp, hDk, uD⟩ | hD
        · exact tb_9 uK uc ul hkr hKl hll hcl hA hAt hAi hB hC hD h5 hDt hDp hDk uD
        · exact tb_1 uK uc ul hkr hKl hll hcl hA hAt hAi hB hC hD
  · by_cases hB : tokR x y z
    · obtain ⟨I, j, M, v, hI, hIc, uI, hIl, hIm, hj, hj2, hv, uF, hF, hG⟩ := hBB hB
      by_cases hC : textR k [e, p, s, n, b] r l.length
      · obtain ⟨P, hP, hPg, uP, hPl⟩ := hCC hC
        rcases hDD with ⟨gk, gv, gr, gb, hD, h5, hDt, hDp, hDk, uD⟩ | hD
        · exact tb_14 uK uc ul hkr hKl hll hcl hA hB hI hIc uI hIl hIm hj hj2 hv uF hF hG hbit hC hP hPg uP hPl hD h5 hDt hDp hDk uD
        · exact tb_6 uK uc ul hkr hKl hll hcl hA hB hI hIc uI hIl hIm hj hj2 hv uF hF hG hbit hC hP hPg uP hPl hD
      · rcases hDD with ⟨gk, gv, gr, gb, hD, h5, hDt, hDp, hDk, uD⟩ | hD
        · exact tb_10 uK uc ul hkr hKl hll hcl hA hB hI hIc uI hIl hIm hj hj2 hv uF hF hG hbit hC hD h5 hDt hDp hDk uD
        · exact tb_2 uK uc ul hkr hKl hll hcl hA hB hI hIc uI hIl hIm hj hj2 hv uF hF hG hbit hC hD
    · by_cases hC : textR k [e, p, s, n, b] r l.length
      · obtain ⟨P, hP, hPg, uP, hPl⟩ := hCC hC
        rcases hDD with ⟨gk, gv, gr, gb, hD, h5, hDt, hDp, hDk, uD⟩ | hD
        · exact tb_12 uK uc ul hkr hKl hll hcl hA hB hC hP hPg uP hPl hD h5 hDt hDp hDk uD
        · exact tb_4 uK uc ul hkr hKl hll hcl hA hB hC hP hPg uP hPl hD
      · rcases hDD with ⟨gk, gv, gr, gb, hD, h5, hDt, hDp, hDk, uD⟩ | hD
        · exact tb_8 uK uc ul hkr hKl hll hcl hA hB hC hD h5 hDt hDp hDk uD
        · exact tb_0 uK uc ul hkr hKl hll hcl hA hB hC hD
theorem tokenBinds_calls (K : List Int) (E0 : E) (v0 : Value) (a l : List Int) (E1 : E) (c1 : Value) (c : List Int) (E2 : E) (c2 : Value) (bit : Int) {W0 : World}
    (r0 : readOnly W0 (E0, roH K)) (w0 : ∀ n ∈ K, (Lit.int .u8 n).wf = true) (_m0 : K.length ≤ maxLen) (u0 : ∀ (ρ : Env) (b : Nat), ρ[b]? = some E0 → (V.v (.one (.slice b (.c 0) 1 (.s K.length) (.s K.length)))).rel ρ v0)
    (wa : wfRow caseK a) (hb : BytesAt W0 .u8 l E1 c1) (hb' : BytesAt W0 .u8 c E2 c2) (wbit : (Lit.int .i64 bit).wf = true) (W : World) (hW : W0 = W := by rfl) :
    Calls Try.prog 7 #[v0, .agg (ivals caseK a ++ [c1, c2]).toArray, .int .i64 bit] W fun e w' => e = .returned (.bool true) ∧ Below W.heap.size W w' := by
  subst hW
  obtain ⟨x, y, z, k, e, p, s, n, b, r, rfl, hk⟩ := wf10 wa
  have hk := wf_u8 hk
  have hbit := wf_i64 wbit
  have uK := u8L_wf w0
  have ul := u8L_wf hb.2.1
  have uc := u8L_wf hb'.2.1
  have hm := mem_args (W := W0) [(E0, roH K), (E1, roH l), (E2, roH c)] (by intro y hy; simp at hy; rcases hy with rfl | rfl | rfl; exact r0; exact hb.1; exact hb'.1)
  have hu : relVs ([(E0, roH K), (E1, roH l), (E2, roH c)].map (·.1)) [bl0 0 K.length K.length, caseV x y z k e p s n b r 1 l.length 2 c.length, si .i64 bit] [v0, .agg (ivals caseK [x, y, z, k, e, p, s, n, b, r] ++ [c1, c2]).toArray, .int .i64 bit] :=
    ⟨_, _, rfl, u0 _ 0 rfl, _, _, rfl, case_rel hb rfl hb' rfl, _, _, rfl, ⟨rfl, rfl⟩, rfl⟩
  by_cases h0 : (300 : Int) < K.length
  · exact law_obs tabTb_ok (appT tbX) ⟨decide_eq_true h0, trivial⟩ hm hu
  have f0 := decide_eq_false h0
  by_cases h1 : (5000 : Int) < l.length
  · exact law_obs tabTb_ok (appT tbY) ⟨decide_eq_true h1, f0, trivial⟩ hm hu
  have f1 := decide_eq_false h1
  by_cases h2 : (5000 : Int) < c.length
  · exact law_obs tabTb_ok (appT tbZ) ⟨decide_eq_true h2, f1, f0, trivial⟩ hm hu
  obtain ⟨h, ob, hq, hob⟩ := tb_all (x := x) (y := y) (z := z) (e := e) (p := p) (s := s) (n := n) (b := b) (r := r) uK uc ul hk (by omega) (by omega) (by omega) hbit
  exact law_obs tabTb_ok hq hob hm hu

set_option maxRecDepth 100000 in
theorem tokenBinds_lifted (os : Os) (started : os.Started) (H : Type) (enc : TypeId × Value → H) :
    ReturnsInHanded {} Try.checked os 7 .any (Rows.tokenBindsSpec.pre6 enc Try.prog Try.f7 Rows.tokenBindsRow.domain false) (Rows.tokenBindsSpec.post enc Try.prog Try.f7 false true false false) := by
  refine returnsInHanded_of_change (C := Try.checked) own started (by kernel_rfl) Try.func7
    (ChangeSpec.witness6 (enc := enc) (C := Try.checked) false ⟨#[], #[.slice none 0 0, .agg #[.int .i64 0, .int .i64 0, .int .i64 0, .int .u8 0, .int .i64 0, .int .i64 0, .int .i64 0, .int .i64 0, .int .i64 0, .int .i64 0, .slice none 0 0, .slice none 0 0], .int .i64 0], []⟩ 8 (by kernel_rfl) (by kernel_rfl) (by kernel_rfl) (by kernel_rfl)) ?_
  intro W base args ds gs before hval0 hW hcnd _
  have hval : ∀ (j : Nat) t v, Try.f7.params[j]? = some t → args[j]? = some v → Value.okWide Try.prog W .any base t v := hval0
  have hW' := hW
  obtain ⟨p, q, hA0, hV, hbef, hfz, hnd⟩ := hW
  have hA : DataW.TrodAll enc Try.prog W 0 (fun _ => true) true Try.f7.params.toList args.toList ds p := hA0
  rw [Try.params7] at hA hval
  obtain ⟨v0, v1, v2, d0, d1, d2, p0, p1, p2, rfl, rfl, hp, h0, h1, h2⟩ := trodAll_three hA
  obtain ⟨a0, e0, r0, w0, m0, u0⟩ := one_ints (k := .u8) (d := 20) (by kernel_rfl) (hval 0 25 v0 rfl rfl) h0
  obtain ⟨a1, l1_0, e1_0, c1_0, l1_1, e1_1, c1_1, w1, rfl, b1_0, b1_1⟩ := agg_tail2 (ks := [.i64, .i64, .i64, .u8, .i64, .i64, .i64, .i64, .i64, .i64]) (d := 20) (by kernel_rfl) (hval 1 46 v1 rfl rfl) h1
  obtain ⟨a2, rfl, rfl, _, w2⟩ := open_int Try.underlying3 (hval 2 3 v2 rfl rfl) h2
  refine (tokenBinds_calls a0 e0 v0 a1 l1_0 e1_0 c1_0 l1_1 e1_1 c1_1 a2 r0 w0 m0 u0 w1 b1_0 b1_1 w2 W).mono fun e W' ⟨he, hb⟩ => ?_
  subst he
  exact ⟨_, rfl, post_law laidOut (by rw [Try.params7]; decide +kernel) rfl rfl (by kernel_rfl) Try.underlying4 hW' hb⟩

theorem tokenBinds_holds : Rows.TokenBindsSaid :=
  OpenClaim.holds_of_wide 7 Try.f7 rfl rfl rfl rfl rfl rfl rfl ⟨rfl, rfl, rfl, rfl, rfl⟩ rfl rfl rfl rfl rfl (by kernel_rfl) Try.func7 (by kernel_rfl)
    (of_decide_eq_true (by kernel_rfl)) (by unfold Func.isWrapper; first | (rw [if_pos (by decide +kernel)]; kernel_rfl) | (rw [if_neg (by decide +kernel)]; exact ⟨rfl, rfl⟩))
    (fun os started H enc _ => tokenBinds_lifted os started H enc)
#print axioms tokenBinds_holds
end
end Go.Proofs.Ytbamfolinbehiaa
