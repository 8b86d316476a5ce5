/- A law's arguments: structs of integers with slices of bytes behind them. TextApart: its runs. TextApart is true of any messages, cut and byte. -/
import Derived.Test.YtbamfolinbehiaaRows
import Derived.Test.YtbamfolinbehiaaSxAE
import Derived.Test.YtbamfolinbehiaaWh
namespace Go.Proofs.Ytbamfolinbehiaa
section
open Go Go.RowKit Go.ChangeShapes Go.WideShapes Go.Sx
section
variable {H : Type} {enc : TypeId × Value → H} {P : Program} {W : World} {base b0 : Nat} {held : Bool} {t : TypeId} {v : Value} {dd : DataW H} {ps : List MemPlace}
theorem dvs_split : ∀ {a b : List Go.Sx.CK} {cs : List Value} {ds : List DV}, dvs W (a ++ b) cs ds → ∃ cs1 cs2 ds1 ds2, cs = cs1 ++ cs2 ∧ dvs W a cs1 ds1 ∧ dvs W b cs2 ds2
  | [], b, cs, ds, h => ⟨[], cs, [], ds, rfl, trivial, h⟩
  | x :: a, b, c :: cs, d :: ds, h => by
    obtain ⟨cs1, cs2, ds1, ds2, rfl, h1, h2⟩ := dvs_split (a := a) (b := b) h.2.2
    exact ⟨c :: cs1, cs2, d :: ds1, ds2, rfl, ⟨h.1, h.2.1, h1⟩, h2⟩
  | _ :: _, _, [], _, h => by cases h
  | _ :: _, _, _ :: _, [], h => by cases h
/-- a slice of bytes, told of -/
def BytesAt (W : World) (k : IntKind) (l : List Int) (e : E) (c : Value) : Prop :=
  readOnly W (e, ⟨false, .ints k l⟩) ∧ (∀ n ∈ l, (Lit.int k n).wf = true) ∧ l.length ≤ maxLen ∧ ∀ (ρ : Env) (b : Nat), ρ[b]? = some e → (V.v (.one (.slice b (.c 0) 1 (.s l.length) (.s l.length)))).rel ρ c
theorem dv_bytes {k : IntKind} {c : Value} {d : DV} (h1 : DV.is (.sl [k]) d) (h2 : DV.ok W d c) : ∃ l e, BytesAt W k l e c := by
  match d, h1 with
  | .recs _ l e, rfl =>
    obtain ⟨g1, g2, g3, g4⟩ := DV.ints h2
    exact ⟨l.map fun r => r.getD 0 0, e, g1, g2, by simpa using g3, by simpa using g4⟩
theorem agg_tail1 {d : Nat} {ks : List IntKind} {k : IntKind} (h : aggCk P d t = some (ks.map Go.Sx.CK.int ++ [.sl [k]]))
    (hval : Value.okWide P W .any b0 t v) (hd : DataW.Trod enc P W base (fun _ => true) held t v dd ps) : ∃ ns l e c, wfRow ks ns ∧ v = .agg (ivals ks ns ++ [c]).toArray ∧ BytesAt W k l e c := by
  obtain ⟨cs, ds, h1, h2⟩ := open_aggCk h hval hd
  obtain ⟨cs1, cs2, ds1, ds2, rfl, h3, h4⟩ := dvs_split h2
  obtain ⟨ns, h5, h6⟩ := dvs_ints h3
  match cs2, ds2, h4 with
  | [c], [d], h4 =>
    obtain ⟨l, e, h7⟩ := dv_bytes h4.1 h4.2.1
    exact ⟨ns, l, e, c, h5, by rw [h1, h6], h7⟩
  | [], _, h4 => cases h4
  | _ :: _, [], h4 => cases h4
  | _ :: _ :: _, [_], h4 => cases h4.2.2
  | [_], _ :: _ :: _, h4 => cases h4.2.2
  | _ :: _ :: _, _ :: _ :: _, h4 => cases h4.2.2
theorem agg_tail2 {d : Nat} {ks : List IntKind} {k k' : IntKind} (h : aggCk P d t = some (ks.map Go.Sx.CK.int ++ [.sl [k], .sl [k']]))
    (hval : Value.okWide P W .any b0 t v) (hd : DataW.Trod enc P W base (fun _ => true) held t v dd ps) : ∃ ns l e c l' e' c', wfRow ks ns ∧ v = .agg (ivals ks ns ++ [c, c']).toArray ∧ BytesAt W k l e c ∧ BytesAt W k' l' e' c' := by
  obtain ⟨cs, ds, h1, h2⟩ := open_aggCk h hval hd
  obtain ⟨cs1, cs2, ds1, ds2, rfl, h3, h4⟩ := dvs_split h2
  obtain ⟨ns, h5, h6⟩ := dvs_ints h3
  match cs2, ds2, h4 with
  | [c, c'], [d, d'], h4 =>
    obtain ⟨l, e, h7⟩ := dv_bytes h4.1 h4.2.1
    obtain ⟨l', e', h8⟩ := dv_bytes h4.2.2.1 h4.2.2.2.1
    exact ⟨ns, l, e, c, l', e', c', h5, by rw [h1, h6], h7, h8⟩
  | [], _, h4 => cases h4
  | _ :: _, [], h4 => cases h4
  | [_], _ :: _, h4 => cases h4.2.2
  | _ :: _ :: _, [_], h4 => cases h4.2.2
  | [_, _], _ :: _ :: _ :: _, h4 => cases h4.2.2.2.2
  | _ :: _ :: _ :: _, [_, _], h4 => cases h4.2.2.2.2
  | _ :: _ :: _ :: _, _ :: _ :: _ :: _, h4 => cases h4.2.2.2.2
end
end
section
open Go.Sx
abbrev PU := Int → List Int → Int → List Int → List Int
abbrev GE := List Int → Nat → Got
def tabTx (pu : PU) (ge : GE) := tabs [(8, locH wantH (gPt pu)), (10, loc wantH (gGt ge)), (11, loc wantS gSm), (12, loc wantE gBe), (9, yesT)]
noncomputable def txR (pu : PU) (ge : GE) (k e p s n b r : Int) (k' e' p' s' n' b' r' : Int) (x y : Int) (l l' : List Int) (h : List Bool) := obsOf (callN Try.prog (tabTx pu ge) (fun _ => false) 100000 6 4 [txtC k e p s n b r (slC 0 l.length l.length), txtC k' e' p' s' n' b' r' (slC 1 l'.length l'.length), .v (.agg [.sint .i64 x, .sint .i64 y])] [roH l, roH l'] h)
theorem tx0 : (fun (pu : PU) (ge : GE) (k e p s n b r : Int) (k' e' p' s' n' b' r' : Int) (x y : Int) (l l' : List Int) => txR pu ge k e p s n b r k' e' p' s' n' b' r' x y l l' [true]) = fun (_ : PU) (_ : GE) (_ : Int) (_ : Int) (_ : Int) (_ : Int) (_ : Int) (_ : Int) (_ : Int) (k' : Int) (e' : Int) (p' : Int) (s' : Int) (n' : Int) (b' : Int) (r' : Int) (_ : Int) (_ : Int) (l : List Int) (l' : List Int) => some ([decide ((3000 : Int) < (↑(List.length l) : Int)) = true]) := by kernel_rfl
theorem tx1 : (fun (pu : PU) (ge : GE) (k e p s n b r : Int) (k' e' p' s' n' b' r' : Int) (x y : Int) (l l' : List Int) => txR pu ge k e p s n b r k' e' p' s' n' b' r' x y l l' [false, true]) = fun (_ : PU) (_ : GE) (_ : Int) (_ : Int) (_ : Int) (_ : Int) (_ : Int) (_ : Int) (_ : Int) (k' : Int) (e' : Int) (p' : Int) (s' : Int) (n' : Int) (b' : Int) (r' : Int) (_ : Int) (_ : Int) (l : List Int) (l' : List Int) => some ([decide ((3000 : Int) < (↑(List.length l') : Int)) = true, decide ((3000 : Int) < (↑(List.length l) : Int)) = false]) := by kernel_rfl
theorem tx2 : (fun (pu : PU) (ge : GE) (k e p s n b r : Int) (k' e' p' s' n' b' r' : Int) (x y : Int) (l l' : List Int) => txR pu ge k e p s n b r k' e' p' s' n' b' r' x y l l' [false, false, false, false]) = fun (_ : PU) (_ : GE) (k : Int) (e : Int) (p : Int) (s : Int) (n : Int) (b : Int) (r : Int) (k' : Int) (e' : Int) (p' : Int) (s' : Int) (n' : Int) (b' : Int) (r' : Int) (_ : Int) (_ : Int) (l : List Int) (l' : List Int) => some ([(0 : Int) ≤ k' ∧ k' < (256 : Int), ¬textR k' [e', p', s', n', b'] r' (List.length l'), (0 : Int) ≤ k ∧ k < (256 : Int), ¬textR k [e, p, s, n, b] r (List.length l), decide ((3000 : Int) < (↑(List.length l') : Int)) = false, decide ((3000 : Int) < (↑(List.length l) : Int)) = false]) := by kernel_rfl
theorem tx3 : (fun (pu : PU) (ge : GE) (k e p s n b r : Int) (k' e' p' s' n' b' r' : Int) (x y : Int) (l l' : List Int) => txR pu ge k e p s n b r k' e' p' s' n' b' r' x y l l' [false, false, false, true]) = fun (_ : PU) (_ : GE) (k : Int) (e : Int) (p : Int) (s : Int) (n : Int) (b : Int) (r : Int) (k' : Int) (e' : Int) (p' : Int) (s' : Int) (n' : Int) (b' : Int) (r' : Int) (_ : Int) (_ : Int) (l : List Int) (l' : List Int) => some ([(0 : Int) ≤ k' ∧ k' < (256 : Int), textR k' [e', p', s', n', b'] r' (List.length l'), List.length l' ≤ List.length l', (0 : Int) ≤ k ∧ k < (256 : Int), ¬textR k [e, p, s, n, b] r (List.length l), decide ((3000 : Int) < (↑(List.length l') : Int)) = false, decide ((3000 : Int) < (↑(List.length l) : Int)) = false]) := by kernel_rfl
theorem tx4 : (fun (pu : PU) (ge : GE) (k e p s n b r : Int) (k' e' p' s' n' b' r' : Int) (x y : Int) (l l' : List Int) => txR pu ge k e p s n b r k' e' p' s' n' b' r' x y l l' [false, false, true, false, false, true, true, true]) = fun (pu : PU) (ge : GE) (k : Int) (e : Int) (p : Int) (s : Int) (n : Int) (b : Int) (r : Int) (k' : Int) (e' : Int) (p' : Int) (s' : Int) (n' : Int) (b' : Int) (r' : Int) (x : Int) (y : Int) (l : List Int) (l' : List Int) => some ([decide (Got.e (ge ([] ++ pu k [e, p, s, n, b] r (List.take (List.length l) l) ++ [IntKind.wrap IntKind.u8 y]) (Nat.add (List.length (pu k [e, p, s, n, b] r (List.take (List.length l) l))) (1 : Nat))) = (132 : Int)) = true, u8L ([] ++ pu k [e, p, s, n, b] r (List.take (List.length l) l) ++ [IntKind.wrap IntKind.u8 y]), Nat.add (List.length (pu k [e, p, s, n, b] r (List.take (List.length l) l))) (1 : Nat) ≤ List.length ([] ++ pu k [e, p, s, n, b] r (List.take (List.length l) l) ++ [IntKind.wrap IntKind.u8 y]), Nat.add (List.length (pu k [e, p, s, n, b] r (List.take (List.length l) l))) (1 : Nat) ≤ (1000000000 : Nat), (0 : Nat) = (0 : Nat), List.length (pu k [e, p, s, n, b] r (List.take (List.length l) l)) = List.length ([] ++ pu k [e, p, s, n, b] r (List.take (List.length l) l)), (List.length (pu k [e, p, s, n, b] r (List.take (List.length l) l)) + (1 : Nat)) * (1 : Nat) ≤ (140737488355328 : Nat), List.length (pu k [e, p, s, n, b] r (List.take (List.length l) l)) + (1 : Nat) ≤ (9223372036854775807 : Nat), (0 : Nat) = (0 : Nat), List.length (pu k [e, p, s, n, b] r (List.take (List.length l) l)) = List.length (pu k [e, p, s, n, b] r (List.take (List.length l) l)), List.length (pu k [e, p, s, n, b] r (List.take (List.length l) l)) * (1 : Nat) ≤ (140737488355328 : Nat), List.length (pu k [e, p, s, n, b] r (List.take (List.length l) l)) ≤ (9223372036854775807 : Nat), decide ((0 : Int) ≤ x) = false, (0 : Int) ≤ k' ∧ k' < (256 : Int), ¬textR k' [e', p', s', n', b'] r' (List.length l'), (0 : Int) ≤ k ∧ k < (256 : Int), textR k [e, p, s, n, b] r (List.length l), List.length l ≤ List.length l, decide ((3000 : Int) < (↑(List.length l') : Int)) = false, decide ((3000 : Int) < (↑(List.length l) : Int)) = false]) := by kernel_rfl
theorem tx5 : (fun (pu : PU) (ge : GE) (k e p s n b r : Int) (k' e' p' s' n' b' r' : Int) (x y : Int) (l l' : List Int) => txR pu ge k e p s n b r k' e' p' s' n' b' r' x y l l' [false, false, true, false, true, false, true, true, true]) = fun (pu : PU) (ge : GE) (k : Int) (e : Int) (p : Int) (s : Int) (n : Int) (b : Int) (r : Int) (k' : Int) (e' : Int) (p' : Int) (s' : Int) (n' : Int) (b' : Int) (r' : Int) (x : Int) (y : Int) (l : List Int) (l' : List Int) => some ([decide (Got.e (ge ([] ++ pu k [e, p, s, n, b] r (List.take (List.length l) l) ++ [IntKind.wrap IntKind.u8 y]) (Nat.add (List.length (pu k [e, p, s, n, b] r (List.take (List.length l) l))) (1 : Nat))) = (132 : Int)) = true, u8L ([] ++ pu k [e, p, s, n, b] r (List.take (List.length l) l) ++ [IntKind.wrap IntKind.u8 y]), Nat.add (List.length (pu k [e, p, s, n, b] r (List.take (List.length l) l))) (1 : Nat) ≤ List.length ([] ++ pu k [e, p, s, n, b] r (List.take (List.length l) l) ++ [IntKind.wrap IntKind.u8 y]), Nat.add (List.length (pu k [e, p, s, n, b] r (List.take (List.length l) l))) (1 : Nat) ≤ (1000000000 : Nat), (0 : Nat) = (0 : Nat), List.length (pu k [e, p, s, n, b] r (List.take (List.length l) l)) = List.length ([] ++ pu k [e, p, s, n, b] r (List.take (List.length l) l)), (List.length (pu k [e, p, s, n, b] r (List.take (List.length l) l)) + (1 : Nat)) * (1 : Nat) ≤ (140737488355328 : Nat), List.length (pu k [e, p, s, n, b] r (List.take (List.length l) l)) + (1 : Nat) ≤ (9223372036854775807 : Nat), (0 : Nat) = (0 : Nat), List.length (pu k [e, p, s, n, b] r (List.take (List.length l) l)) = List.length (pu k [e, p, s, n, b] r (List.take (List.length l) l)), List.length (pu k [e, p, s, n, b] r (List.take (List.length l) l)) * (1 : Nat) ≤ (140737488355328 : Nat), List.length (pu k [e, p, s, n, b] r (List.take (List.length l) l)) ≤ (9223372036854775807 : Nat), decide (x < (↑(List.length (pu k [e, p, s, n, b] r (List.take (List.length l) l))) : Int)) = false, decide ((0 : Int) ≤ x) = true, (0 : Int) ≤ k' ∧ k' < (256 : Int), ¬textR k' [e', p', s', n', b'] r' (List.length l'), (0 : Int) ≤ k ∧ k < (256 : Int), textR k [e, p, s, n, b] r (List.length l), List.length l ≤ List.length l, decide ((3000 : Int) < (↑(List.length l') : Int)) = false, decide ((3000 : Int) < (↑(List.length l) : Int)) = false]) := by kernel_rfl
theorem tx6 : (fun (pu : PU) (ge : GE) (k e p s n b r : Int) (k' e' p' s' n' b' r' : Int) (x y : Int) (l l' : List Int) => txR pu ge k e p s n b r k' e' p' s' n' b' r' x y l l' [false, false, true, false, true, true, false, true, true, true]) = fun (pu : PU) (ge : GE) (k : Int) (e : Int) (p : Int) (s : Int) (n : Int) (b : Int) (r : Int) (k' : Int) (e' : Int) (p' : Int) (s' : Int) (n' : Int) (b' : Int) (r' : Int) (x : Int) (y : Int) (l : List Int) (l' : List Int) => some ([decide (Got.e (ge ([] ++ pu k [e, p, s, n, b] r (List.take (List.length l) l) ++ [IntKind.wrap IntKind.u8 y]) (Nat.add (List.length (pu k [e, p, s, n, b] r (List.take (List.length l) l))) (1 : Nat))) = (132 : Int)) = true, u8L ([] ++ pu k [e, p, s, n, b] r (List.take (List.length l) l) ++ [IntKind.wrap IntKind.u8 y]), Nat.add (List.length (pu k [e, p, s, n, b] r (List.take (List.length l) l))) (1 : Nat) ≤ List.length ([] ++ pu k [e, p, s, n, b] r (List.take (List.length l) l) ++ [IntKind.wrap IntKind.u8 y]), Nat.add (List.length (pu k [e, p, s, n, b] r (List.take (List.length l) l))) (1 : Nat) ≤ (1000000000 : Nat), (0 : Nat) = (0 : Nat), List.length (pu k [e, p, s, n, b] r (List.take (List.length l) l)) = List.length ([] ++ pu k [e, p, s, n, b] r (List.take (List.length l) l)), (List.length (pu k [e, p, s, n, b] r (List.take (List.length l) l)) + (1 : Nat)) * (1 : Nat) ≤ (140737488355328 : Nat), List.length (pu k [e, p, s, n, b] r (List.take (List.length l) l)) + (1 : Nat) ≤ (9223372036854775807 : Nat), (0 : Nat) = (0 : Nat), List.length (pu k [e, p, s, n, b] r (List.take (List.length l) l)) = List.length (pu k [e, p, s, n, b] r (List.take (List.length l) l)), List.length (pu k [e, p, s, n, b] r (List.take (List.length l) l)) * (1 : Nat) ≤ (140737488355328 : Nat), List.length (pu k [e, p, s, n, b] r (List.take (List.length l) l)) ≤ (9223372036854775807 : Nat), (!decide (Got.e (ge (pu k [e, p, s, n, b] r (List.take (List.length l) l)) (Int.toNat x)) = (132 : Int))) = false, u8L (pu k [e, p, s, n, b] r (List.take (List.length l) l)), Int.toNat x ≤ List.length (pu k [e, p, s, n, b] r (List.take (List.length l) l)), Int.toNat x ≤ (1000000000 : Nat), (0 : Int) ≤ x, x ≤ (↑(List.length (pu k [e, p, s, n, b] r (List.take (List.length l) l))) : Int), decide (x < (↑(List.length (pu k [e, p, s, n, b] r (List.take (List.length l) l))) : Int)) = true, decide ((0 : Int) ≤ x) = true, (0 : Int) ≤ k' ∧ k' < (256 : Int), ¬textR k' [e', p', s', n', b'] r' (List.length l'), (0 : Int) ≤ k ∧ k < (256 : Int), textR k [e, p, s, n, b] r (List.length l), List.length l ≤ List.length l, decide ((3000 : Int) < (↑(List.length l') : Int)) = false, decide ((3000 : Int) < (↑(List.length l) : Int)) = false]) := by kernel_rfl
theorem tx7 : (fun (pu : PU) (ge : GE) (k e p s n b r : Int) (k' e' p' s' n' b' r' : Int) (x y : Int) (l l' : List Int) => txR pu ge k e p s n b r k' e' p' s' n' b' r' x y l l' [false, false, true, true, false, false, true, true, true]) = fun (pu : PU) (ge : GE) (k : Int) (e : Int) (p : Int) (s : Int) (n : Int) (b : Int) (r : Int) (k' : Int) (e' : Int) (p' : Int) (s' : Int) (n' : Int) (b' : Int) (r' : Int) (x : Int) (y : Int) (l : List Int) (l' : List Int) => some ([decide (Got.e (ge ([] ++ pu k [e, p, s, n, b] r (List.take (List.length l) l) ++ [IntKind.wrap IntKind.u8 y]) (Nat.add (List.length (pu k [e, p, s, n, b] r (List.take (List.length l) l))) (1 : Nat))) = (132 : Int)) = true, u8L ([] ++ pu k [e, p, s, n, b] r (List.take (List.length l) l) ++ [IntKind.wrap IntKind.u8 y]), Nat.add (List.length (pu k [e, p, s, n, b] r (List.take (List.length l) l))) (1 : Nat) ≤ List.length ([] ++ pu k [e, p, s, n, b] r (List.take (List.length l) l) ++ [IntKind.wrap IntKind.u8 y]), Nat.add (List.length (pu k [e, p, s, n, b] r (List.take (List.length l) l))) (1 : Nat) ≤ (1000000000 : Nat), (0 : Nat) = (0 : Nat), List.length (pu k [e, p, s, n, b] r (List.take (List.length l) l)) = List.length ([] ++ pu k [e, p, s, n, b] r (List.take (List.length l) l)), (List.length (pu k [e, p, s, n, b] r (List.take (List.length l) l)) + (1 : Nat)) * (1 : Nat) ≤ (140737488355328 : Nat), List.length (pu k [e, p, s, n, b] r (List.take (List.length l) l)) + (1 : Nat) ≤ (9223372036854775807 : Nat), (0 : Nat) = (0 : Nat), List.length (pu k [e, p, s, n, b] r (List.take (List.length l) l)) = List.length (pu k [e, p, s, n, b] r (List.take (List.length l) l)), List.length (pu k [e, p, s, n, b] r (List.take (List.length l) l)) * (1 : Nat) ≤ (140737488355328 : Nat), List.length (pu k [e, p, s, n, b] r (List.take (List.length l) l)) ≤ (9223372036854775807 : Nat), decide ((0 : Int) ≤ x) = false, (!decide (List.take (List.length (pu k [e, p, s, n, b] r (List.take (List.length l) l))) (pu k [e, p, s, n, b] r (List.take (List.length l) l)) = List.take (List.length (pu k' [e', p', s', n', b'] r' (List.take (List.length l') l'))) (pu k' [e', p', s', n', b'] r' (List.take (List.length l') l'))) == decide (k = k' ∧ e = e' ∧ p = p' ∧ s = s' ∧ n = n' ∧ b = b' ∧ r = r' ∧ List.take (List.length l) l = List.take (List.length l') l')) = false, List.length l ≤ List.length l, List.length l' ≤ List.length l', u8L l, u8L l', List.length (pu k [e, p, s, n, b] r (List.take (List.length l) l)) ≤ List.length (pu k [e, p, s, n, b] r (List.take (List.length l) l)), List.length (pu k' [e', p', s', n', b'] r' (List.take (List.length l') l')) ≤ List.length (pu k' [e', p', s', n', b'] r' (List.take (List.length l') l')), u8L (pu k [e, p, s, n, b] r (List.take (List.length l) l)), u8L (pu k' [e', p', s', n', b'] r' (List.take (List.length l') l')), (0 : Int) ≤ k' ∧ k' < (256 : Int), textR k' [e', p', s', n', b'] r' (List.length l'), List.length l' ≤ List.length l', (0 : Int) ≤ k ∧ k < (256 : Int), textR k [e, p, s, n, b] r (List.length l), List.length l ≤ List.length l, decide ((3000 : Int) < (↑(List.length l') : Int)) = false, decide ((3000 : Int) < (↑(List.length l) : Int)) = false]) := by kernel_rfl
theorem tx8 : (fun (pu : PU) (ge : GE) (k e p s n b r : Int) (k' e' p' s' n' b' r' : Int) (x y : Int) (l l' : List Int) => txR pu ge k e p s n b r k' e' p' s' n' b' r' x y l l' [false, false, true, true, false, true, false, true, true, true]) = fun (pu : PU) (ge : GE) (k : Int) (e : Int) (p : Int) (s : Int) (n : Int) (b : Int) (r : Int) (k' : Int) (e' : Int) (p' : Int) (s' : Int) (n' : Int) (b' : Int) (r' : Int) (x : Int) (y : Int) (l : List Int) (l' : List Int) => some ([decide (Got.e (ge ([] ++ pu k [e, p, s, n, b] r (List.take (List.length l) l) ++ [IntKind.wrap IntKind.u8 y]) (Nat.add (List.length (pu k [e, p, s, n, b] r (List.take (List.length l) l))) (1 : Nat))) = (132 : Int)) = true, u8L ([] ++ pu k [e, p, s, n, b] r (List.take (List.length l) l) ++ [IntKind.wrap IntKind.u8 y]), Nat.add (List.length (pu k [e, p, s, n, b] r (List.take (List.length l) l))) (1 : Nat) ≤ List.length ([] ++ pu k [e, p, s, n, b] r (List.take (List.length l) l) ++ [IntKind.wrap IntKind.u8 y]), Nat.add (List.length (pu k [e, p, s, n, b] r (List.take (List.length l) l))) (1 : Nat) ≤ (1000000000 : Nat), (0 : Nat) = (0 : Nat), List.length (pu k [e, p, s, n, b] r (List.take (List.length l) l)) = List.length ([] ++ pu k [e, p, s, n, b] r (List.take (List.length l) l)), (List.length (pu k [e, p, s, n, b] r (List.take (List.length l) l)) + (1 : Nat)) * (1 : Nat) ≤ (140737488355328 : Nat), List.length (pu k [e, p, s, n, b] r (List.take (List.length l) l)) + (1 : Nat) ≤ (9223372036854775807 : Nat), (0 : Nat) = (0 : Nat), List.length (pu k [e, p, s, n, b] r (List.take (List.length l) l)) = List.length (pu k [e, p, s, n, b] r (List.take (List.length l) l)), List.length (pu k [e, p, s, n, b] r (List.take (List.length l) l)) * (1 : Nat) ≤ (140737488355328 : Nat), List.length (pu k [e, p, s, n, b] r (List.take (List.length l) l)) ≤ (9223372036854775807 : Nat), decide (x < (↑(List.length (pu k [e, p, s, n, b] r (List.take (List.length l) l))) : Int)) = false, decide ((0 : Int) ≤ x) = true, (!decide (List.take (List.length (pu k [e, p, s, n, b] r (List.take (List.length l) l))) (pu k [e, p, s, n, b] r (List.take (List.length l) l)) = List.take (List.length (pu k' [e', p', s', n', b'] r' (List.take (List.length l') l'))) (pu k' [e', p', s', n', b'] r' (List.take (List.length l') l'))) == decide (k = k' ∧ e = e' ∧ p = p' ∧ s = s' ∧ n = n' ∧ b = b' ∧ r = r' ∧ List.take (List.length l) l = List.take (List.length l') l')) = false, List.length l ≤ List.length l, List.length l' ≤ List.length l', u8L l, u8L l', List.length (pu k [e, p, s, n, b] r (List.take (List.length l) l)) ≤ List.length (pu k [e, p, s, n, b] r (List.take (List.length l) l)), List.length (pu k' [e', p', s', n', b'] r' (List.take (List.length l') l')) ≤ List.length (pu k' [e', p', s', n', b'] r' (List.take (List.length l') l')), u8L (pu k [e, p, s, n, b] r (List.take (List.length l) l)), u8L (pu k' [e', p', s', n', b'] r' (List.take (List.length l') l')), (0 : Int) ≤ k' ∧ k' < (256 : Int), textR k' [e', p', s', n', b'] r' (List.length l'), List.length l' ≤ List.length l', (0 : Int) ≤ k ∧ k < (256 : Int), textR k [e, p, s, n, b] r (List.length l), List.length l ≤ List.length l, decide ((3000 : Int) < (↑(List.length l') : Int)) = false, decide ((3000 : Int) < (↑(List.length l) : Int)) = false]) := by kernel_rfl
theorem tx9 : (fun (pu : PU) (ge : GE) (k e p s n b r : Int) (k' e' p' s' n' b' r' : Int) (x y : Int) (l l' : List Int) => txR pu ge k e p s n b r k' e' p' s' n' b' r' x y l l' [false, false, true, true, false, true, true, false, true, true, true]) = fun (pu : PU) (ge : GE) (k : Int) (e : Int) (p : Int) (s : Int) (n : Int) (b : Int) (r : Int) (k' : Int) (e' : Int) (p' : Int) (s' : Int) (n' : Int) (b' : Int) (r' : Int) (x : Int) (y : Int) (l : List Int) (l' : List Int) => some ([decide (Got.e (ge ([] ++ pu k [e, p, s, n, b] r (List.take (List.length l) l) ++ [IntKind.wrap IntKind.u8 y]) (Nat.add (List.length (pu k [e, p, s, n, b] r (List.take (List.length l) l))) (1 : Nat))) = (132 : Int)) = true, u8L ([] ++ pu k [e, p, s, n, b] r (List.take (List.length l) l) ++ [IntKind.wrap IntKind.u8 y]), Nat.add (List.length (pu k [e, p, s, n, b] r (List.take (List.length l) l))) (1 : Nat) ≤ List.length ([] ++ pu k [e, p, s, n, b] r (List.take (List.length l) l) ++ [IntKind.wrap IntKind.u8 y]), Nat.add (List.length (pu k [e, p, s, n, b] r (List.take (List.length l) l))) (1 : Nat) ≤ (1000000000 : Nat), (0 : Nat) = (0 : Nat), List.length (pu k [e, p, s, n, b] r (List.take (List.length l) l)) = List.length ([] ++ pu k [e, p, s, n, b] r (List.take (List.length l) l)), (List.length (pu k [e, p, s, n, b] r (List.take (List.length l) l)) + (1 : Nat)) * (1 : Nat) ≤ (140737488355328 : Nat), List.length (pu k [e, p, s, n, b] r (List.take (List.length l) l)) + (1 : Nat) ≤ (9223372036854775807 : Nat), (0 : Nat) = (0 : Nat), List.length (pu k [e, p, s, n, b] r (List.take (List.length l) l)) = List.length (pu k [e, p, s, n, b] r (List.take (List.length l) l)), List.length (pu k [e, p, s, n, b] r (List.take (List.length l) l)) * (1 : Nat) ≤ (140737488355328 : Nat), List.length (pu k [e, p, s, n, b] r (List.take (List.length l) l)) ≤ (9223372036854775807 : Nat), (!decide (Got.e (ge (pu k [e, p, s, n, b] r (List.take (List.length l) l)) (Int.toNat x)) = (132 : Int))) = false, u8L (pu k [e, p, s, n, b] r (List.take (List.length l) l)), Int.toNat x ≤ List.length (pu k [e, p, s, n, b] r (List.take (List.length l) l)), Int.toNat x ≤ (1000000000 : Nat), (0 : Int) ≤ x, x ≤ (↑(List.length (pu k [e, p, s, n, b] r (List.take (List.length l) l))) : Int), decide (x < (↑(List.length (pu k [e, p, s, n, b] r (List.take (List.length l) l))) : Int)) = true, decide ((0 : Int) ≤ x) = true, (!decide (List.take (List.length (pu k [e, p, s, n, b] r (List.take (List.length l) l))) (pu k [e, p, s, n, b] r (List.take (List.length l) l)) = List.take (List.length (pu k' [e', p', s', n', b'] r' (List.take (List.length l') l'))) (pu k' [e', p', s', n', b'] r' (List.take (List.length l') l'))) == decide (k = k' ∧ e = e' ∧ p = p' ∧ s = s' ∧ n = n' ∧ b = b' ∧ r = r' ∧ List.take (List.length l) l = List.take (List.length l') l')) = false, List.length l ≤ List.length l, List.length l' ≤ List.length l', u8L l, u8L l', List.length (pu k [e, p, s, n, b] r (List.take (List.length l) l)) ≤ List.length (pu k [e, p, s, n, b] r (List.take (List.length l) l)), List.length (pu k' [e', p', s', n', b'] r' (List.take (List.length l') l')) ≤ List.length (pu k' [e', p', s', n', b'] r' (List.take (List.length l') l')), u8L (pu k [e, p, s, n, b] r (List.take (List.length l) l)), u8L (pu k' [e', p', s', n', b'] r' (List.take (List.length l') l')), (0 : Int) ≤ k' ∧ k' < (256 : Int), textR k' [e', p', s', n', b'] r' (List.length l'), List.length l' ≤ List.length l', (0 : Int) ≤ k ∧ k < (256 : Int), textR k [e, p, s, n, b] r (List.length l), List.length l ≤ List.length l, decide ((3000 : Int) < (↑(List.length l') : Int)) = false, decide ((3000 : Int) < (↑(List.length l) : Int)) = false]) := by kernel_rfl
end
section
open Go.ChangeShapes Go.WideShapes Go.ChangeAt Go.RowKit Go.Sx
theorem putS_u8 {k r : Int} {v blob : List Int} (hk : 0 ≤ k ∧ k < 256) (hb : u8L blob) : u8L (putS k v r blob) := by
  have ho : ∀ i, u8L (outP k v i) := fun i => by
    induction i with
    | zero => intro x hx; rw [List.mem_singleton.1 hx]; exact hk
    | succ i ih =>
      rw [outP_succ]
      refine u8L_app ih ?_
      unfold flP
      split
      · exact vint_u8 _
      · intro x hx; cases hx
  rw [putS_eq]
  refine u8L_app (ho 5) (u8L_app ?_ ?_)
  · split
    · exact vint_u8 _
    · intro x hx; cases hx
  · split
    · exact u8L_app (vint_u8 _) hb
    · intro x hx; cases hx
theorem putS_len {k r : Int} {v blob : List Int} (h : textR k v r blob.length) : (putS k v r blob).length ≤ 80 + blob.length := by
  have h1 := outP_len (k := k) (v := v) 5 fun j hj => fOk_le (h.2 j hj)
  obtain ⟨_, h2, _, h3, _⟩ := h.1
  have hr := By.vint_le (tok_u64 h3.1 (by omega : r ≤ 1099511627776))
  have hb := By.vint_le (tok_u64 (by omega : (0 : Int) ≤ ((blob.length : Nat) : Int)) (by omega))
  rw [putS_eq, List.length_append]
  unfold tlP
  rw [List.length_append]
  have e1 : (if hasC (letN k) 114 = true then By.vint r else []).length ≤ 10 := by
    split
    · exact hr
    · exact Nat.zero_le _
  have e2 : (if hasC (letN k) 120 = true then By.vint ((blob.length : Nat) : Int) ++ blob else []).length ≤ 10 + blob.length := by
    split
    · rw [List.length_append]; omega
    · exact Nat.zero_le _
  omega
theorem get_more {k r : Int} {v blob : List Int} (h5 : v.length = 5) (h : textR k v r blob.length) (z : Int) : (getS (putS k v r blob ++ [z]) ((putS k v r blob).length + 1)).e = 132 := by
  rw [get_put (rest := [z]) h5 h rfl (by omega), if_neg (by omega)]; rfl
theorem get_cut {k r : Int} {v blob : List Int} (h5 : v.length = 5) (h : textR k v r blob.length) (hw : u8L (putS k v r blob)) {c : Nat} (hc : c < (putS k v r blob).length) : (getS (putS k v r blob) c).e = 132 := by
  rcases got_e (putS k v r blob) c with h0 | h0
  · obtain ⟨g5, g1, g2⟩ := get_inv hw (Nat.le_of_lt hc) h0
    have e1 := get_put (l := putS k v r blob) (m := (putS k v r blob).length) (rest := (putS k v r blob).drop c) g5 g1 (by rw [g2, List.take_append_drop]) (by rw [g2, List.length_take]; omega)
    rw [get_self h5 h, if_neg (by rw [g2, List.length_take]; omega)] at e1
    have := congrArg Got.e e1
    exact absurd this (by decide : ¬ ((0 : Int) = 132))
  · rw [h0]; rfl
theorem put_inj {k r k' r' : Int} {v blob v' blob' : List Int} (h5 : v.length = 5) (h5' : v'.length = 5) (h : textR k v r blob.length) (h' : textR k' v' r' blob'.length) (he : putS k v r blob = putS k' v' r' blob') : k = k' ∧ v = v' ∧ r = r' ∧ blob = blob' := by
  have e1 := get_self h5 h
  rw [he, get_self h5' h'] at e1
  injection e1 with a b c d _
  exact ⟨a.symm, b.symm, c.symm, d.symm⟩
theorem tabTx_ok : ∀ f g, tabTx putS getS f = some g → TabOk Try.prog f g := tabs_ok fun x hx => by
  simp only [List.mem_cons, List.not_mem_nil, or_false] at hx
  rcases hx with rfl | rfl | rfl | rfl | rfl
  · exact put_tab
  · exact get_tab
  · exact same_tab
  · exact be_tab
  · exact yes_tab
theorem u8L_wf {l : List Int} (h : ∀ n ∈ l, (Lit.int .u8 n).wf = true) : u8L l := fun x hx => wf_u8 (h x hx)
theorem wrap_u8 (y : Int) : 0 ≤ IntKind.wrap .u8 y ∧ IntKind.wrap .u8 y < 256 := by
  simp only [IntKind.wrap, IntKind.signed, IntKind.bits]
  have : (2 : Int) ^ 8 = 256 := by decide
  simp only [Bool.false_and, Bool.false_eq_true, if_false]
  have h1 := Int.emod_nonneg y (b := 256) (by decide)
  have h2 := Int.emod_lt_of_pos y (b := 256) (by decide)
  rw [this]
  exact ⟨h1, h2⟩
theorem wf7 {k0 k1 k2 k3 k4 k5 k6 : IntKind} {ns : List Int} (h : wfRow [k0, k1, k2, k3, k4, k5, k6] ns) : ∃ a b c d e f g, ns = [a, b, c, d, e, f, g] ∧ (Lit.int k0 a).wf = true := by
  match ns, h with
  | [a, b, c, d, e, f, g], h => exact ⟨a, b, c, d, e, f, g, rfl, h.1⟩
theorem txt_rel {ρ : Env} {W : World} {k e p s n b r : Int} {l : List Int} {E0 : E} {c : Value} {j : Nat} (h : BytesAt W .u8 l E0 c) (hj : ρ[j]? = some E0) : (txtC k e p s n b r (slC j l.length l.length)).rel ρ (.agg (ivals [.u8, .i64, .i64, .i64, .i64, .i64, .i64] [k, e, p, s, n, b, r] ++ [c]).toArray) := by
  obtain ⟨h1, h2⟩ := h.2.2.2 ρ j hj
  refine ⟨_, rfl, ⟨_, _, rfl, rfl, _, _, rfl, rfl, _, _, rfl, rfl, _, _, rfl, rfl, _, _, rfl, rfl, _, _, rfl, rfl, _, _, rfl, rfl, _, _, rfl, h1, rfl⟩, ?_⟩
  intro q hq
  simp only [ivals, List.cons_append, List.nil_append, List.mem_cons, List.not_mem_nil, or_false] at hq
  rcases hq with rfl | rfl | rfl | rfl | rfl | rfl | rfl | rfl <;> first | rfl | exact h2
set_option maxHeartbeats 1000000 in
theorem textApart_calls (a : List Int) (l : List Int) (e0 : E) (c0 : Value) (a' : List Int) (l' : List Int) (e1 : E) (c1 : Value) (g : List Int) {W0 : World} (wa : wfRow [.u8, .i64, .i64, .i64, .i64, .i64, .i64] a) (hb : BytesAt W0 .u8 l e0 c0)
    (wa' : wfRow [.u8, .i64, .i64, .i64, .i64, .i64, .i64] a') (hb' : BytesAt W0 .u8 l' e1 c1) (wg : wfRow [.i64, .i64] g) (W : World) (hW : W0 = W := by rfl) :
    Calls Try.prog 4 #[.agg (ivals [.u8, .i64, .i64, .i64, .i64, .i64, .i64] a ++ [c0]).toArray, .agg (ivals [.u8, .i64, .i64, .i64, .i64, .i64, .i64] a' ++ [c1]).toArray, .agg (ivals [.i64, .i64] g).toArray] W fun e w' => e = .returned (.bool true) ∧ Below W.heap.size W w' := by
  subst hW
  obtain ⟨k, e, p, s, n, b, r, rfl, hk⟩ := wf7 wa
  obtain ⟨k', e', p', s', n', b', r', rfl, hk'⟩ := wf7 wa'
  obtain ⟨x, y, rfl, _, _⟩ := wf2 wg
  have hk := wf_u8 hk
  have hk' := wf_u8 hk'
  have ul := u8L_wf hb.2.1
  have ul' := u8L_wf hb'.2.1
  have hm := mem_args (W := W0) [(e0, roH l), (e1, roH l')] (by intro y hy; simp at hy; rcases hy with rfl | rfl; exact hb.1; exact hb'.1)
  have hu : relVs ([(e0, roH l), (e1, roH l')].map (·.1)) [txtC k e p s n b r (slC 0 l.length l.length), txtC k' e' p' s' n' b' r' (slC 1 l'.length l'.length), .v (.agg [.sint .i64 x, .sint .i64 y])] [.agg (ivals [.u8, .i64, .i64, .i64, .i64, .i64, .i64] [k, e, p, s, n, b, r] ++ [c0]).toArray, .agg (ivals [.u8, .i64, .i64, .i64, .i64, .i64, .i64] [k', e', p', s', n', b', r'] ++ [c1]).toArray, .agg (ivals [.i64, .i64] [x, y]).toArray] :=
    ⟨_, _, rfl, txt_rel hb rfl, _, _, rfl, txt_rel hb' rfl, _, _, rfl, ⟨_, rfl, ⟨_, _, rfl, rfl, _, _, rfl, rfl, rfl⟩, by intro q hq; simp [ivals] at hq; rcases hq with rfl | rfl <;> rfl⟩, rfl⟩
  have app : ∀ {A : Type} {f g : PU → GE → Int → Int → Int → Int → Int → Int → Int → Int → Int → Int → Int → Int → Int → Int → Int → Int → List Int → List Int → A}, f = g → f putS getS k e p s n b r k' e' p' s' n' b' r' x y l l' = g putS getS k e p s n b r k' e' p' s' n' b' r' x y l l' := fun h => by rw [h]
  by_cases h0 : (3000 : Int) < l.length
  · exact law_obs tabTx_ok (app tx0) ⟨decide_eq_true h0, trivial⟩ hm hu
  have f0 := decide_eq_false h0
  by_cases h1 : (3000 : Int) < l'.length
  · exact law_obs tabTx_ok (app tx1) ⟨decide_eq_true h1, f0, trivial⟩ hm hu
  have f1 := decide_eq_false h1
  by_cases h2 : textR k [e, p, s, n, b] r l.length
  · have q4 := app tx4; have q5 := app tx5; have q6 := app tx6; have q7 := app tx7; have q8 := app tx8; have q9 := app tx9
    rw [List.take_length] at q4 q5 q6 q7 q8 q9
    rw [List.take_length] at q7 q8 q9
    have uB := putS_u8 (v := [e, p, s, n, b]) (r := r) hk ul
    have lB := putS_len h2
    have hmo := get_more rfl h2 (IntKind.wrap .u8 y)
    have hcu := fun c hc => get_cut (c := c) rfl h2 uB hc
    have hz := wrap_u8 y
    have uM := u8L_app uB (t := [IntKind.wrap .u8 y]) (fun q hq => by rw [List.mem_singleton.1 hq]; exact hz)
    obtain ⟨B, hB⟩ : ∃ B, putS k [e, p, s, n, b] r l = B := ⟨_, rfl⟩
    have hE : textR k' [e', p', s', n', b'] r' l'.length → (!decide (B = putS k' [e', p', s', n', b'] r' l') == decide (k = k' ∧ e = e' ∧ p = p' ∧ s = s' ∧ n = n' ∧ b = b' ∧ r = r' ∧ l = l')) = false := fun h3 => by
      have : (B = putS k' [e', p', s', n', b'] r' l') ↔ (k = k' ∧ e = e' ∧ p = p' ∧ s = s' ∧ n = n' ∧ b = b' ∧ r = r' ∧ l = l') := by
        constructor
        · intro h
          rw [← hB] at h
          obtain ⟨i1, i2, i3, i4⟩ := put_inj rfl rfl h2 h3 h
          injection i2 with j1 i2; injection i2 with j2 i2; injection i2 with j3 i2; injection i2 with j4 i2; injection i2 with j5 i2
          exact ⟨i1, j1, j2, j3, j4, j5, i3, i4⟩
        · rintro ⟨rfl, rfl, rfl, rfl, rfl, rfl, rfl, rfl⟩
          exact hB.symm
      rw [decide_eq_decide.2 this, beq_self_eq_true]; rfl
    rw [hB] at q4 q5 q6 q7 q8 q9 uB lB hmo hcu uM
    simp only [List.nil_append, List.take_length] at q4 q5 q6 q7 q8 q9
    have ea : ∀ u v : Nat, Nat.add u v = u + v := fun _ _ => rfl
    simp only [ea] at q4 q5 q6 q7 q8 q9
    have hm1 : decide ((getS (B ++ [IntKind.wrap .u8 y]) (B.length + 1)).e = 132) = true := decide_eq_true hmo
    have hl1 : (B ++ [IntKind.wrap .u8 y]).length = B.length + 1 := by rw [List.length_append]; rfl
    by_cases h3 : textR k' [e', p', s', n', b'] r' l'.length
    · have lB' := putS_len h3
      have uB' := putS_u8 (v := [e', p', s', n', b']) (r := r') hk' ul'
      have hE := hE h3
      by_cases c0 : 0 ≤ x
      · by_cases c1 : x < B.length
        · have hc1 : (!decide ((getS B x.toNat).e = 132)) = false := by rw [decide_eq_true (hcu x.toNat (by omega))]; rfl
          refine law_obs tabTx_ok q9 ?_ hm hu
          simp only [allP, hl1]
          repeat' (first | exact trivial | exact hm1 | exact hc1 | exact uM | exact uB | exact uB' | exact ul | exact ul' | exact hE | exact hk | exact hk' | exact h2 | exact h3 | exact f0 | exact f1 | exact Nat.le_refl _ | exact decide_eq_true c0 | exact decide_eq_true c1 | refine And.intro ?_ ?_)
          all_goals first | rfl | omega
        · refine law_obs tabTx_ok q8 ?_ hm hu
          simp only [allP, hl1]
          repeat' (first | exact trivial | exact hm1 | exact uM | exact uB | exact uB' | exact ul | exact ul' | exact hE | exact hk | exact hk' | exact h2 | exact h3 | exact f0 | exact f1 | exact Nat.le_refl _ | exact decide_eq_true c0 | exact decide_eq_false c1 | refine And.intro ?_ ?_)
          all_goals first | rfl | omega
      · refine law_obs tabTx_ok q7 ?_ hm hu
        simp only [allP, hl1]
        repeat' (first | exact trivial | exact hm1 | exact uM | exact uB | exact uB' | exact ul | exact ul' | exact hE | exact hk | exact hk' | exact h2 | exact h3 | exact f0 | exact f1 | exact Nat.le_refl _ | exact decide_eq_false c0 | refine And.intro ?_ ?_)
        all_goals first | rfl | omega
    · by_cases c0 : 0 ≤ x
      · by_cases c1 : x < B.length
        · have hc1 : (!decide ((getS B x.toNat).e = 132)) = false := by rw [decide_eq_true (hcu x.toNat (by omega))]; rfl
          refine law_obs tabTx_ok q6 ?_ hm hu
          simp only [allP, hl1]
          repeat' (first | exact trivial | exact hm1 | exact hc1 | exact uM | exact uB | exact ul | exact hk | exact hk' | exact h2 | exact h3 | exact f0 | exact f1 | exact Nat.le_refl _ | exact decide_eq_true c0 | exact decide_eq_true c1 | refine And.intro ?_ ?_)
          all_goals first | rfl | omega
        · refine law_obs tabTx_ok q5 ?_ hm hu
          simp only [allP, hl1]
          repeat' (first | exact trivial | exact hm1 | exact uM | exact uB | exact ul | exact hk | exact hk' | exact h2 | exact h3 | exact f0 | exact f1 | exact Nat.le_refl _ | exact decide_eq_true c0 | exact decide_eq_false c1 | refine And.intro ?_ ?_)
          all_goals first | rfl | omega
      · refine law_obs tabTx_ok q4 ?_ hm hu
        simp only [allP, hl1]
        repeat' (first | exact trivial | exact hm1 | exact uM | exact uB | exact ul | exact hk | exact hk' | exact h2 | exact h3 | exact f0 | exact f1 | exact Nat.le_refl _ | exact decide_eq_false c0 | refine And.intro ?_ ?_)
        all_goals first | rfl | omega
  · by_cases h3 : textR k' [e', p', s', n', b'] r' l'.length
    · exact law_obs tabTx_ok (app tx3) ⟨hk', h3, Nat.le_refl _, hk, h2, f1, f0, trivial⟩ hm hu
    · exact law_obs tabTx_ok (app tx2) ⟨hk', h3, hk, h2, f1, f0, trivial⟩ hm hu

set_option maxRecDepth 100000 in
theorem textApart_lifted (os : Os) (started : os.Started) (H : Type) (enc : TypeId × Value → H) :
    ReturnsInHanded {} Try.checked os 4 .any (Rows.textApartSpec.pre6 enc Try.prog Try.f4 Rows.textApartRow.domain false) (Rows.textApartSpec.post enc Try.prog Try.f4 false true false false) := by
  refine returnsInHanded_of_change (C := Try.checked) own started (by kernel_rfl) Try.func4
    (ChangeSpec.witness6 (enc := enc) (C := Try.checked) false ⟨#[], #[.agg #[.int .u8 0, .int .i64 0, .int .i64 0, .int .i64 0, .int .i64 0, .int .i64 0, .int .i64 0, .slice none 0 0], .agg #[.int .u8 0, .int .i64 0, .int .i64 0, .int .i64 0, .int .i64 0, .int .i64 0, .int .i64 0, .slice none 0 0], .agg #[.int .i64 0, .int .i64 0]], []⟩ 8 (by kernel_rfl) (by kernel_rfl) (by kernel_rfl) (by kernel_rfl)) ?_
  intro W base args ds gs before hval0 hW hcnd _
  have hval : ∀ (j : Nat) t v, Try.f4.params[j]? = some t → args[j]? = some v → Value.okWide Try.prog W .any base t v := hval0
  have hW' := hW
  obtain ⟨p, q, hA0, hV, hbef, hfz, hnd⟩ := hW
  have hA : DataW.TrodAll enc Try.prog W 0 (fun _ => true) true Try.f4.params.toList args.toList ds p := hA0
  rw [Try.params4] at hA hval
  obtain ⟨v0, v1, v2, d0, d1, d2, p0, p1, p2, rfl, rfl, hp, h0, h1, h2⟩ := trodAll_three hA
  obtain ⟨a0, l0_0, e0_0, c0_0, w0, rfl, b0_0⟩ := agg_tail1 (ks := [.u8, .i64, .i64, .i64, .i64, .i64, .i64]) (d := 20) (by kernel_rfl) (hval 0 27 v0 rfl rfl) h0
  obtain ⟨a1, l1_0, e1_0, c1_0, w1, rfl, b1_0⟩ := agg_tail1 (ks := [.u8, .i64, .i64, .i64, .i64, .i64, .i64]) (d := 20) (by kernel_rfl) (hval 1 27 v1 rfl rfl) h1
  obtain ⟨a2, w2, rfl⟩ := agg_ints (ks := [.i64, .i64]) (d := 20) (by kernel_rfl) (hval 2 35 v2 rfl rfl) h2
  refine (textApart_calls a0 l0_0 e0_0 c0_0 a1 l1_0 e1_0 c1_0 a2 w0 b0_0 w1 b1_0 w2 W).mono fun e W' ⟨he, hb⟩ => ?_
  subst he
  exact ⟨_, rfl, post_law laidOut (by rw [Try.params4]; decide +kernel) rfl rfl (by kernel_rfl) Try.underlying4 hW' hb⟩

theorem textApart_holds : Rows.TextApartSaid :=
  OpenClaim.holds_of_wide 4 Try.f4 rfl rfl rfl rfl rfl rfl rfl ⟨rfl, rfl, rfl, rfl, rfl⟩ rfl rfl rfl rfl rfl (by kernel_rfl) Try.func4 (by kernel_rfl)
    (of_decide_eq_true (by kernel_rfl)) (by unfold Func.isWrapper; first | (rw [if_pos (by decide +kernel)]; kernel_rfl) | (rw [if_neg (by decide +kernel)]; exact ⟨rfl, rfl⟩))
    (fun os started H enc _ => textApart_lifted os started H enc)
#print axioms textApart_holds
end
end Go.Proofs.Ytbamfolinbehiaa
