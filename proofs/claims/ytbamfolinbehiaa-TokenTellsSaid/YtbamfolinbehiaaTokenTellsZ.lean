/- TokenTells is true of any key, token, message and bytes, and leaves its arguments as they were. -/
import Derived.Test.YtbamfolinbehiaaJc
import Derived.Test.YtbamfolinbehiaaWh
import Derived.Test.YtbamfolinbehiaaRows
import Derived.Test.YtbamfolinbehiaaSxAF
section
namespace Go.Proofs.Ytbamfolinbehiaa
open Go.Sx
abbrev PU := Int → List Int → Int → List Int → List Int
abbrev GE := List Int → Nat → Got
theorem beZ : ((retV [] (call0 4 12 [.v (.one .nils), .v (.one .nils)] [] []))) = some (((V.v (V1.one (C.bool (true)))), ([], []))) := by kernel_rfl
def gBeZ : Sx.Loc := fun args bs => match args, bs with
 | [.v (.one .nils), .v (.one .nils)], [] => some (.v (.one (.bool true)), [], [])
 | [.v (.one (.slice 0 (.c 0) 1 n _)), .v (.one (.slice 1 (.c 0) 1 m _))], [⟨false, .ints .u8 l⟩, ⟨false, .ints .u8 k⟩] => some (.v (.one (.sbool (decide (l.take n.v = k.take m.v)))), [roH l, roH k], [n.v ≤ l.length, m.v ≤ k.length, u8L l, u8L k])
 | _, _ => none
def tabTe (is : IS) (ck : CK) (pu : PU) (ge : GE) := tabs [(13, locH wantH (gIs is)), (16, locH wantH (gIs is)), (15, loc wantM (gCk ck)), (17, loc wantM (gCk ck)), (8, locH wantH (gPt pu)), (18, locH wantH (gPt pu)), (10, loc wantH (gGt ge)), (19, loc wantH (gGt ge)), (11, loc wantS gSm), (12, loc wantE gBeZ), (9, yesT)]
def caseV (x y z k e p s n b r : Int) (j m i q : Nat) : V := .v (.agg [.sint .i64 x, .sint .i64 y, .sint .i64 z, .sint .u8 k, .sint .i64 e, .sint .i64 p, .sint .i64 s, .sint .i64 n, .sint .i64 b, .sint .i64 r, slC j m m, slC i q q])
noncomputable def teR (is : IS) (ck : CK) (pu : PU) (ge : GE) (K : List Int) (x y z k e p s n b r : Int) (l c : List Int) (h : List Bool) := obsOf (callN Try.prog (tabTe is ck pu ge) (fun _ => false) 100000 6 6 [bl0 0 K.length K.length, caseV x y z k e p s n b r 1 l.length 2 c.length] [roH K, roH l, roH c] h)
theorem teX : (fun (is : IS) (ck : CK) (pu : PU) (ge : GE) (K : List Int) (x y z k e p s n b r : Int) (l c : List Int) => teR is ck pu ge K x y z k e p s n b r l c [true]) = fun _ _ _ _ K _ _ _ _ _ _ _ _ _ _ _ _ => some ([decide (300 < (K.length : Int)) = true]) := by kernel_rfl
theorem teY : (fun (is : IS) (ck : CK) (pu : PU) (ge : GE) (K : List Int) (x y z k e p s n b r : Int) (l c : List Int) => teR is ck pu ge K x y z k e p s n b r l c [false, true]) = fun _ _ _ _ K _ _ _ _ _ _ _ _ _ _ l _ => some ([decide (5000 < (l.length : Int)) = true, decide (300 < (K.length : Int)) = false]) := by kernel_rfl
theorem teZ : (fun (is : IS) (ck : CK) (pu : PU) (ge : GE) (K : List Int) (x y z k e p s n b r : Int) (l c : List Int) => teR is ck pu ge K x y z k e p s n b r l c [false, false, true]) = fun _ _ _ _ K _ _ _ _ _ _ _ _ _ _ l c => some ([decide (5000 < (c.length : Int)) = true, decide (5000 < (l.length : Int)) = false, decide (300 < (K.length : Int)) = false]) := by kernel_rfl
theorem te0 : (fun (is : IS) (ck : CK) (pu : PU) (ge : GE) (K : List Int) (x y z k e p s n b r : Int) (l c : List Int) => teR is ck pu ge K x y z k e p s n b r l c [false, false, false, false, false, false, false, true, true, true, true]) = fun _ ck _ ge K x y z k e p s n b r l c => some ([decide ((ge c c.length).e = (ge c c.length).e) = true, decide ((ge c c.length).k = (ge c c.length).k ∧ List.getD (ge c c.length).v 0 0 = List.getD (ge c c.length).v 0 0 ∧ List.getD (ge c c.length).v 1 0 = List.getD (ge c c.length).v 1 0 ∧ List.getD (ge c c.length).v 2 0 = List.getD (ge c c.length).v 2 0 ∧ List.getD (ge c c.length).v 3 0 = List.getD (ge c c.length).v 3 0 ∧ List.getD (ge c c.length).v 4 0 = List.getD (ge c c.length).v 4 0 ∧ (ge c c.length).r = (ge c c.length).r ∧ List.take (ge c c.length).blob.length (ge c c.length).blob = List.take (ge c c.length).blob.length (ge c c.length).blob) = true, (ge c c.length).blob.length ≤ (ge c c.length).blob.length, (ge c c.length).blob.length ≤ (ge c c.length).blob.length, u8L (ge c c.length).blob, u8L (ge c c.length).blob, decide ((ck (partN K 0 K.length) c c.length).2.2.2 = (ck (partN K 0 K.length) c c.length).2.2.2) = true, (decide ((ck (partN K 0 K.length) c c.length).1 = (ck (partN K 0 K.length) c c.length).1) && (decide ((ck (partN K 0 K.length) c c.length).2.1 = (ck (partN K 0 K.length) c c.length).2.1) && (decide ((ck (partN K 0 K.length) c c.length).2.2.1 = (ck (partN K 0 K.length) c c.length).2.2.1) && true))) = true, u8L c, c.length ≤ c.length, c.length ≤ 1000000000, u8L c, c.length ≤ c.length, c.length ≤ 1000000000, 0 ≤ k ∧ k < 256, ¬textR k [e, p, s, n, b] r l.length, 0 ≤ k ∧ k < 256, ¬textR k [e, p, s, n, b] r l.length, u8L K, u8L c, K.length ≤ K.length, c.length ≤ c.length, K.length ≤ 500000000, c.length ≤ 500000000, u8L K, u8L c, K.length ≤ K.length, c.length ≤ c.length, K.length ≤ 500000000, c.length ≤ 500000000, ¬tokR x y z, ¬tokR x y z, decide (5000 < (c.length : Int)) = false, decide (5000 < (l.length : Int)) = false, decide (300 < (K.length : Int)) = false]) := by kernel_rfl
theorem te1 : (fun (is : IS) (ck : CK) (pu : PU) (ge : GE) (K : List Int) (x y z k e p s n b r : Int) (l c : List Int) => teR is ck pu ge K x y z k e p s n b r l c [false, false, false, true, true, false, false, true, true, true, true, true]) = fun is ck _ ge K x y z k e p s n b r l c => some ([decide ((ge c c.length).e = (ge c c.length).e) = true, decide ((ge c c.length).k = (ge c c.length).k ∧ List.getD (ge c c.length).v 0 0 = List.getD (ge c c.length).v 0 0 ∧ List.getD (ge c c.length).v 1 0 = List.getD (ge c c.length).v 1 0 ∧ List.getD (ge c c.length).v 2 0 = List.getD (ge c c.length).v 2 0 ∧ List.getD (ge c c.length).v 3 0 = List.getD (ge c c.length).v 3 0 ∧ List.getD (ge c c.length).v 4 0 = List.getD (ge c c.length).v 4 0 ∧ (ge c c.length).r = (ge c c.length).r ∧ List.take (ge c c.length).blob.length (ge c c.length).blob = List.take (ge c c.length).blob.length (ge c c.length).blob) = true, (ge c c.length).blob.length ≤ (ge c c.length).blob.length, (ge c c.length).blob.length ≤ (ge c c.length).blob.length, u8L (ge c c.length).blob, u8L (ge c c.length).blob, decide ((ck (partN K 0 K.length) c c.length).2.2.2 = (ck (partN K 0 K.length) c c.length).2.2.2) = true, (decide ((ck (partN K 0 K.length) c c.length).1 = (ck (partN K 0 K.length) c c.length).1) && (decide ((ck (partN K 0 K.length) c c.length).2.1 = (ck (partN K 0 K.length) c c.length).2.1) && (decide ((ck (partN K 0 K.length) c c.length).2.2.1 = (ck (partN K 0 K.length) c c.length).2.2.1) && true))) = true, decide (List.take (is (partN K 0 K.length) x y z).length (is (partN K 0 K.length) x y z) = List.take (is (partN K 0 K.length) x y z).length (is (partN K 0 K.length) x y z)) = true, (is (partN K 0 K.length) x y z).length ≤ (is (partN K 0 K.length) x y z).length, (is (partN K 0 K.length) x y z).length ≤ (is (partN K 0 K.length) x y z).length, u8L (is (partN K 0 K.length) x y z), u8L (is (partN K 0 K.length) x y z), u8L c, c.length ≤ c.length, c.length ≤ 1000000000, u8L c, c.length ≤ c.length, c.length ≤ 1000000000, 0 ≤ k ∧ k < 256, ¬textR k [e, p, s, n, b] r l.length, 0 ≤ k ∧ k < 256, ¬textR k [e, p, s, n, b] r l.length, u8L K, u8L c, K.length ≤ K.length, c.length ≤ c.length, K.length ≤ 500000000, c.length ≤ 500000000, u8L K, u8L c, K.length ≤ K.length, c.length ≤ c.length, K.length ≤ 500000000, c.length ≤ 500000000, tokR x y z, u8L K, K.length ≤ K.length, K.length ≤ 500000000, tokR x y z, u8L K, K.length ≤ K.length, K.length ≤ 500000000, decide (5000 < (c.length : Int)) = false, decide (5000 < (l.length : Int)) = false, decide (300 < (K.length : Int)) = false]) := by kernel_rfl
theorem te2 : (fun (is : IS) (ck : CK) (pu : PU) (ge : GE) (K : List Int) (x y z k e p s n b r : Int) (l c : List Int) => teR is ck pu ge K x y z k e p s n b r l c [false, false, false, false, false, true, true, true, true, true, true, true]) = fun _ ck pu ge K x y z k e p s n b r l c => some ([decide ((ge c c.length).e = (ge c c.length).e) = true, decide ((ge c c.length).k = (ge c c.length).k ∧ List.getD (ge c c.length).v 0 0 = List.getD (ge c c.length).v 0 0 ∧ List.getD (ge c c.length).v 1 0 = List.getD (ge c c.length).v 1 0 ∧ List.getD (ge c c.length).v 2 0 = List.getD (ge c c.length).v 2 0 ∧ List.getD (ge c c.length).v 3 0 = List.getD (ge c c.length).v 3 0 ∧ List.getD (ge c c.length).v 4 0 = List.getD (ge c c.length).v 4 0 ∧ (ge c c.length).r = (ge c c.length).r ∧ List.take (ge c c.length).blob.length (ge c c.length).blob = List.take (ge c c.length).blob.length (ge c c.length).blob) = true, (ge c c.length).blob.length ≤ (ge c c.length).blob.length, (ge c c.length).blob.length ≤ (ge c c.length).blob.length, u8L (ge c c.length).blob, u8L (ge c c.length).blob, decide (List.take (pu k [e, p, s, n, b] r (List.take l.length l)).length (pu k [e, p, s, n, b] r (List.take l.length l)) = List.take (pu k [e, p, s, n, b] r (List.take l.length l)).length (pu k [e, p, s, n, b] r (List.take l.length l))) = true, (pu k [e, p, s, n, b] r (List.take l.length l)).length ≤ (pu k [e, p, s, n, b] r (List.take l.length l)).length, (pu k [e, p, s, n, b] r (List.take l.length l)).length ≤ (pu k [e, p, s, n, b] r (List.take l.length l)).length, u8L (pu k [e, p, s, n, b] r (List.take l.length l)), u8L (pu k [e, p, s, n, b] r (List.take l.length l)), decide ((ck (partN K 0 K.length) c c.length).2.2.2 = (ck (partN K 0 K.length) c c.length).2.2.2) = true, (decide ((ck (partN K 0 K.length) c c.length).1 = (ck (partN K 0 K.length) c c.length).1) && (decide ((ck (partN K 0 K.length) c c.length).2.1 = (ck (partN K 0 K.length) c c.length).2.1) && (decide ((ck (partN K 0 K.length) c c.length).2.2.1 = (ck (partN K 0 K.length) c c.length).2.2.1) && true))) = true, u8L c, c.length ≤ c.length, c.length ≤ 1000000000, u8L c, c.length ≤ c.length, c.length ≤ 1000000000, 0 ≤ k ∧ k < 256, textR k [e, p, s, n, b] r l.length, l.length ≤ l.length, 0 ≤ k ∧ k < 256, textR k [e, p, s, n, b] r l.length, l.length ≤ l.length, u8L K, u8L c, K.length ≤ K.length, c.length ≤ c.length, K.length ≤ 500000000, c.length ≤ 500000000, u8L K, u8L c, K.length ≤ K.length, c.length ≤ c.length, K.length ≤ 500000000, c.length ≤ 500000000, ¬tokR x y z, ¬tokR x y z, decide (5000 < (c.length : Int)) = false, decide (5000 < (l.length : Int)) = false, decide (300 < (K.length : Int)) = false]) := by kernel_rfl
theorem te3 : (fun (is : IS) (ck : CK) (pu : PU) (ge : GE) (K : List Int) (x y z k e p s n b r : Int) (l c : List Int) => teR is ck pu ge K x y z k e p s n b r l c [false, false, false, true, true, true, true, true, true, true, true, true, true]) = fun is ck pu ge K x y z k e p s n b r l c => some ([decide ((ge c c.length).e = (ge c c.length).e) = true, decide ((ge c c.length).k = (ge c c.length).k ∧ List.getD (ge c c.length).v 0 0 = List.getD (ge c c.length).v 0 0 ∧ List.getD (ge c c.length).v 1 0 = List.getD (ge c c.length).v 1 0 ∧ List.getD (ge c c.length).v 2 0 = List.getD (ge c c.length).v 2 0 ∧ List.getD (ge c c.length).v 3 0 = List.getD (ge c c.length).v 3 0 ∧ List.getD (ge c c.length).v 4 0 = List.getD (ge c c.length).v 4 0 ∧ (ge c c.length).r = (ge c c.length).r ∧ List.take (ge c c.length).blob.length (ge c c.length).blob = List.take (ge c c.length).blob.length (ge c c.length).blob) = true, (ge c c.length).blob.length ≤ (ge c c.length).blob.length, (ge c c.length).blob.length ≤ (ge c c.length).blob.length, u8L (ge c c.length).blob, u8L (ge c c.length).blob, decide (List.take (pu k [e, p, s, n, b] r (List.take l.length l)).length (pu k [e, p, s, n, b] r (List.take l.length l)) = List.take (pu k [e, p, s, n, b] r (List.take l.length l)).length (pu k [e, p, s, n, b] r (List.take l.length l))) = true, (pu k [e, p, s, n, b] r (List.take l.length l)).length ≤ (pu k [e, p, s, n, b] r (List.take l.length l)).length, (pu k [e, p, s, n, b] r (List.take l.length l)).length ≤ (pu k [e, p, s, n, b] r (List.take l.length l)).length, u8L (pu k [e, p, s, n, b] r (List.take l.length l)), u8L (pu k [e, p, s, n, b] r (List.take l.length l)), decide ((ck (partN K 0 K.length) c c.length).2.2.2 = (ck (partN K 0 K.length) c c.length).2.2.2) = true, (decide ((ck (partN K 0 K.length) c c.length).1 = (ck (partN K 0 K.length) c c.length).1) && (decide ((ck (partN K 0 K.length) c c.length).2.1 = (ck (partN K 0 K.length) c c.length).2.1) && (decide ((ck (partN K 0 K.length) c c.length).2.2.1 = (ck (partN K 0 K.length) c c.length).2.2.1) && true))) = true, decide (List.take (is (partN K 0 K.length) x y z).length (is (partN K 0 K.length) x y z) = List.take (is (partN K 0 K.length) x y z).length (is (partN K 0 K.length) x y z)) = true, (is (partN K 0 K.length) x y z).length ≤ (is (partN K 0 K.length) x y z).length, (is (partN K 0 K.length) x y z).length ≤ (is (partN K 0 K.length) x y z).length, u8L (is (partN K 0 K.length) x y z), u8L (is (partN K 0 K.length) x y z), u8L c, c.length ≤ c.length, c.length ≤ 1000000000, u8L c, c.length ≤ c.length, c.length ≤ 1000000000, 0 ≤ k ∧ k < 256, textR k [e, p, s, n, b] r l.length, l.length ≤ l.length, 0 ≤ k ∧ k < 256, textR k [e, p, s, n, b] r l.length, l.length ≤ l.length, u8L K, u8L c, K.length ≤ K.length, c.length ≤ c.length, K.length ≤ 500000000, c.length ≤ 500000000, u8L K, u8L c, K.length ≤ K.length, c.length ≤ c.length, K.length ≤ 500000000, c.length ≤ 500000000, tokR x y z, u8L K, K.length ≤ K.length, K.length ≤ 500000000, tokR x y z, u8L K, K.length ≤ K.length, K.length ≤ 500000000, decide (5000 < (c.length : Int)) = false, decide (5000 < (l.length : Int)) = false, decide (300 < (K.length : Int)) = false]) := by kernel_rfl
end Go.Proofs.Ytbamfolinbehiaa
end
section
namespace Go.Proofs.Ytbamfolinbehiaa
open Go Go.RowKit Go.ChangeShapes Go.WideShapes Go.Sx
section
variable {H : Type} {enc : TypeId × Value → H} {P : Program} {W : World} {base b0 : Nat} {held : Bool} {t : TypeId} {v : Value} {dd : DataW H} {ps : List MemPlace}
theorem dvs_split : ∀ {a b : List Go.Sx.CK} {cs : List Value} {ds : List DV}, dvs W (a ++ b) cs ds → ∃ cs1 cs2 ds1 ds2, cs = cs1 ++ cs2 ∧ dvs W a cs1 ds1 ∧ dvs W b cs2 ds2
 | [], b, cs, ds, h => ⟨[], cs, [], ds, rfl, trivial, h⟩
 | x :: a, b, c :: cs, d :: ds, h => by
  obtain ⟨cs1, cs2, ds1, ds2, rfl, h1, h2⟩ := dvs_split (a := a) (b := b) h.2.2
  exact ⟨c :: cs1, cs2, d :: ds1, ds2, rfl, ⟨h.1, h.2.1, h1⟩, h2⟩
 | _ :: _, _, [], _, h => by cases h
 | _ :: _, _, _ :: _, [], h => by cases h
def BytesAt (W : World) (k : IntKind) (l : List Int) (e : E) (c : Value) : Prop :=
 readOnly W (e, ⟨false, .ints k l⟩) ∧ (∀ n ∈ l, (Lit.int k n).wf = true) ∧ l.length ≤ maxLen ∧ ∀ (ρ : Env) (b : Nat), ρ[b]? = some e → (V.v (.one (.slice b (.c 0) 1 (.s l.length) (.s l.length)))).rel ρ c
theorem dv_bytes {k : IntKind} {c : Value} {d : DV} (h1 : DV.is (.sl [k]) d) (h2 : DV.ok W d c) : ∃ l e, BytesAt W k l e c := by
 match d, h1 with
 | .recs _ l e, rfl =>
  obtain ⟨g1, g2, g3, g4⟩ := DV.ints h2
  exact ⟨l.map fun r => r.getD 0 0, e, g1, g2, by simpa using g3, by simpa using g4⟩
theorem agg_tail2 {d : Nat} {ks : List IntKind} {k k' : IntKind} (h : aggCk P d t = some (ks.map Go.Sx.CK.int ++ [.sl [k], .sl [k']]))
  (hval : Value.okWide P W .any b0 t v) (hd : DataW.Trod enc P W base (fun _ => true) held t v dd ps) : ∃ ns l e c l' e' c', wfRow ks ns ∧ v = .agg (ivals ks ns ++ [c, c']).toArray ∧ BytesAt W k l e c ∧ BytesAt W k' l' e' c' := by
 obtain ⟨cs, ds, h1, h2⟩ := open_aggCk h hval hd
 obtain ⟨cs1, cs2, ds1, ds2, rfl, h3, h4⟩ := dvs_split h2
 obtain ⟨ns, h5, h6⟩ := dvs_ints h3
 match cs2, ds2, h4 with
 | [c, c'], [d, d'], h4 =>
  obtain ⟨l, e, h7⟩ := dv_bytes h4.1 h4.2.1
  obtain ⟨l', e', h8⟩ := dv_bytes h4.2.2.1 h4.2.2.2.1
  exact ⟨ns, l, e, c, l', e', c', h5, by rw [h1, h6], h7, h8⟩
 | [], _, h4 => cases h4
 | _ :: _, [], h4 => cases h4
 | [_], _ :: _, h4 => cases h4.2.2
 | _ :: _ :: _, [_], h4 => cases h4.2.2
 | [_, _], _ :: _ :: _ :: _, h4 => cases h4.2.2.2.2
 | _ :: _ :: _ :: _, [_, _], h4 => cases h4.2.2.2.2
 | _ :: _ :: _ :: _, _ :: _ :: _ :: _, h4 => cases h4.2.2.2.2
end
end Go.Proofs.Ytbamfolinbehiaa
end
section
namespace Go.Proofs.Ytbamfolinbehiaa
open Go.ChangeShapes Go.WideShapes Go.ChangeAt Go.RowKit Go.Sx
theorem beZ_tab : TabOk Try.prog 12 (loc wantE gBeZ) := loc_ok fun xs bs v bs' ob hg hob hokb => by
 unfold gBeZ at hg
 split at hg
 ·cases hg
  exact works_of (r := []) (bs := []) no_tabs beZ trivial List.nodup_nil rfl trivial
 ·rename_i n c m d l k
  cases hg
  intro ρ K w us hm hu
  obtain ⟨u1, s1, rfl, k1, u2, s2, rfl, k2, k3⟩ := hu
  exact be_two (hob (n.v ≤ l.length) (by simp)) (hob (m.v ≤ k.length) (by simp)) (hob (u8L l) (by simp)) (hob (u8L k) (by simp)) ρ K w _ hm ⟨u1, _, rfl, bl0_rel k1, u2, _, rfl, bl0_rel k2, k3⟩
 ·cases hg
theorem tabTe_ok : ∀ f g, tabTe issN chkN putS getS f = some g → TabOk Try.prog f g := tabs_ok fun x hx => by
 simp only [List.mem_cons, List.not_mem_nil, or_false] at hx
 rcases hx with rfl | rfl | rfl | rfl | rfl | rfl | rfl | rfl | rfl | rfl | rfl
 ·exact iss_tab
 ·exact riss_tab
 ·exact chk_tab
 ·exact rchk_tab
 ·exact put_tab
 ·exact rput_tab
 ·exact get_tab
 ·exact rget_tab
 ·exact same_tab
 ·exact beZ_tab
 ·exact yes_tab
theorem wf_u8 {x : Int} (h : (Lit.int .u8 x).wf = true) : 0 ≤ x ∧ x < 256 := by
 simp [Lit.wf, IntKind.min, IntKind.max, IntKind.signed, IntKind.bits] at h
 omega
theorem u8L_wf {l : List Int} (h : ∀ n ∈ l, (Lit.int .u8 n).wf = true) : u8L l := fun x hx => wf_u8 (h x hx)
theorem out6_u8 {k : Int} {v : Nat → Int} (hk : 0 ≤ k ∧ k < 256) : ∀ i, u8L (out6 k v i)
 | 0 => fun x hx => by rw [List.mem_singleton.1 hx]; exact hk
 | i + 1 => by
  unfold out6
  split
  ·exact u8L_app (out6_u8 hk i) (vint_u8 _)
  ·exact out6_u8 hk i
theorem put_u8 {k e p s n b r : Int} {blob : List Int} (hk : 0 ≤ k ∧ k < 256) (hb : u8L blob) : u8L (putS k [e, p, s, n, b] r blob) := by
 rw [put_six]
 refine u8L_app (out6_u8 hk 6) ?_
 split
 ·exact u8L_app (vint_u8 _) hb
 ·intro x hx; cases hx
theorem getB_u8 {l : List Int} (hl : u8L l) (m : Nat) (a q : Int) : u8L (By.getB l m a q).1 := by
 unfold By.getB
 split
 ·intro x hx; cases hx
 split
 ·intro x hx; cases hx
 split
 ·intro x hx; cases hx
 ·exact fun x hx => hl x (List.mem_of_mem_drop (List.mem_of_mem_take hx))
theorem get_u8 {l : List Int} (hl : u8L l) (m : Nat) : u8L (getS l m).blob := by
 have uX : u8L gotX.blob := fun x hx => by cases hx
 rw [get_six]
 split
 ·exact uX
 unfold end6
 split
 ·split
  ·exact uX
  ·exact getB_u8 hl _ _ _
 ·split
  ·exact uX
  ·intro x hx; cases hx
theorem wf10 {k0 k1 k2 k3 k4 k5 k6 k7 k8 k9 : IntKind} {ns : List Int} (h : wfRow [k0, k1, k2, k3, k4, k5, k6, k7, k8, k9] ns) : ∃ a b c d e f g i j k, ns = [a, b, c, d, e, f, g, i, j, k] ∧ (Lit.int k3 d).wf = true := by
 match ns, h with
 | [a, b, c, d, e, f, g, i, j, k], h => exact ⟨a, b, c, d, e, f, g, i, j, k, rfl, h.2.2.2.1⟩
abbrev caseK : List IntKind := [.i64, .i64, .i64, .u8, .i64, .i64, .i64, .i64, .i64, .i64]
theorem case_rel {ρ : Env} {W : World} {x y z k e p s n b r : Int} {l c : List Int} {E1 E2 : E} {u v : Value} {i j : Nat} (h : BytesAt W .u8 l E1 u) (hi : ρ[i]? = some E1) (h' : BytesAt W .u8 c E2 v) (hj : ρ[j]? = some E2) : (caseV x y z k e p s n b r i l.length j c.length).rel ρ (.agg (ivals caseK [x, y, z, k, e, p, s, n, b, r] ++ [u, v]).toArray) := by
 obtain ⟨h1, h2⟩ := h.2.2.2 ρ i hi
 obtain ⟨h3, h4⟩ := h'.2.2.2 ρ j hj
 refine ⟨_, rfl, ⟨_, _, rfl, rfl, _, _, rfl, rfl, _, _, rfl, rfl, _, _, rfl, rfl, _, _, rfl, rfl, _, _, rfl, rfl, _, _, rfl, rfl, _, _, rfl, rfl, _, _, rfl, rfl, _, _, rfl, rfl, _, _, rfl, h1, _, _, rfl, h3, rfl⟩, ?_⟩
 intro q hq
 simp only [ivals, List.cons_append, List.nil_append, List.mem_cons, List.not_mem_nil, or_false] at hq
 rcases hq with rfl | rfl | rfl | rfl | rfl | rfl | rfl | rfl | rfl | rfl | rfl | rfl <;> first | rfl | exact h2 | exact h4
section
variable {is : IS} {ck : CK} {pu : PU} {ge : GE} {K : List Int} {x y z k e p s n b r : Int} {l c : List Int}
theorem appTe {A : Type} {f g : IS → CK → PU → GE → List Int → Int → Int → Int → Int → Int → Int → Int → Int → Int → Int → List Int → List Int → A} (h : f = g) : f is ck pu ge K x y z k e p s n b r l c = g is ck pu ge K x y z k e p s n b r l c := by rw [h]
set_option maxRecDepth 100000 in
theorem te_all (hK : K.length ≤ 300) (hl : l.length ≤ 5000) (hc : c.length ≤ 5000) (uK : u8L K) (uc : u8L c) (hk : 0 ≤ k ∧ k < 256) (uI : u8L (is (partN K 0 K.length) x y z)) (uP : u8L (pu k [e, p, s, n, b] r (l.take l.length))) (uG : u8L (ge c c.length).blob) :
  ∃ h ob, teR is ck pu ge K x y z k e p s n b r l c h = some ob ∧ allP ob := by
 have f0 : decide ((300 : Int) < (K.length : Int)) = false := decide_eq_false (by omega)
 have f1 : decide ((5000 : Int) < (l.length : Int)) = false := decide_eq_false (by omega)
 have f2 : decide ((5000 : Int) < (c.length : Int)) = false := decide_eq_false (by omega)
 have hK2 : K.length ≤ 500000000 := by omega
 have hc2 : c.length ≤ 500000000 := by omega
 have hc3 : c.length ≤ 1000000000 := by omega
 have gg : ∀ {g : Got}, decide (g.k = g.k ∧ g.v.getD 0 0 = g.v.getD 0 0 ∧ g.v.getD 1 0 = g.v.getD 1 0 ∧ g.v.getD 2 0 = g.v.getD 2 0 ∧ g.v.getD 3 0 = g.v.getD 3 0 ∧ g.v.getD 4 0 = g.v.getD 4 0 ∧ g.r = g.r ∧ g.blob.take g.blob.length = g.blob.take g.blob.length) = true := decide_eq_true ⟨rfl, rfl, rfl, rfl, rfl, rfl, rfl, rfl⟩
 have cc : ∀ {q : Int × Int × Int × Int}, (decide (q.1 = q.1) && (decide (q.2.1 = q.2.1) && (decide (q.2.2.1 = q.2.2.1) && true))) = true := by
  intro q
  rw [decide_eq_true rfl, decide_eq_true rfl, decide_eq_true rfl]; rfl
 have dd : ∀ {a : Int}, decide (a = a) = true := decide_eq_true rfl
 have dl : ∀ {a : List Int}, decide (a = a) = true := decide_eq_true rfl
 by_cases hA : tokR x y z <;> by_cases hB : textR k [e, p, s, n, b] r l.length
 ·exact ⟨_, _, appTe te3, ⟨dd, gg, Nat.le_refl _, Nat.le_refl _, uG, uG, dl, Nat.le_refl _, Nat.le_refl _, uP, uP, dd, cc, dl, Nat.le_refl _, Nat.le_refl _, uI, uI, uc, Nat.le_refl _, hc3, uc, Nat.le_refl _, hc3, hk, hB, Nat.le_refl _, hk, hB, Nat.le_refl _, uK, uc, Nat.le_refl _, Nat.le_refl _, hK2, hc2, uK, uc, Nat.le_refl _, Nat.le_refl _, hK2, hc2, hA, uK, Nat.le_refl _, hK2, hA, uK, Nat.le_refl _, hK2, f2, f1, f0, trivial⟩⟩
 ·exact ⟨_, _, appTe te1, ⟨dd, gg, Nat.le_refl _, Nat.le_refl _, uG, uG, dd, cc, dl, Nat.le_refl _, Nat.le_refl _, uI, uI, uc, Nat.le_refl _, hc3, uc, Nat.le_refl _, hc3, hk, hB, hk, hB, uK, uc, Nat.le_refl _, Nat.le_refl _, hK2, hc2, uK, uc, Nat.le_refl _, Nat.le_refl _, hK2, hc2, hA, uK, Nat.le_refl _, hK2, hA, uK, Nat.le_refl _, hK2, f2, f1, f0, trivial⟩⟩
 ·exact ⟨_, _, appTe te2, ⟨dd, gg, Nat.le_refl _, Nat.le_refl _, uG, uG, dl, Nat.le_refl _, Nat.le_refl _, uP, uP, dd, cc, uc, Nat.le_refl _, hc3, uc, Nat.le_refl _, hc3, hk, hB, Nat.le_refl _, hk, hB, Nat.le_refl _, uK, uc, Nat.le_refl _, Nat.le_refl _, hK2, hc2, uK, uc, Nat.le_refl _, Nat.le_refl _, hK2, hc2, hA, hA, f2, f1, f0, trivial⟩⟩
 ·exact ⟨_, _, appTe te0, ⟨dd, gg, Nat.le_refl _, Nat.le_refl _, uG, uG, dd, cc, uc, Nat.le_refl _, hc3, uc, Nat.le_refl _, hc3, hk, hB, hk, hB, uK, uc, Nat.le_refl _, Nat.le_refl _, hK2, hc2, uK, uc, Nat.le_refl _, Nat.le_refl _, hK2, hc2, hA, hA, f2, f1, f0, trivial⟩⟩
end
theorem tokenTells_calls (K : List Int) (E0 : E) (v0 : Value) (a l : List Int) (E1 : E) (c1 : Value) (c : List Int) (E2 : E) (c2 : Value) {W0 : World}
  (r0 : readOnly W0 (E0, roH K)) (w0 : ∀ n ∈ K, (Lit.int .u8 n).wf = true) (_m0 : K.length ≤ maxLen) (u0 : ∀ (ρ : Env) (b : Nat), ρ[b]? = some E0 → (V.v (.one (.slice b (.c 0) 1 (.s K.length) (.s K.length)))).rel ρ v0)
  (wa : wfRow caseK a) (hb : BytesAt W0 .u8 l E1 c1) (hb' : BytesAt W0 .u8 c E2 c2) (W : World) (hW : W0 = W := by rfl) :
  Calls Try.prog 6 #[v0, .agg (ivals caseK a ++ [c1, c2]).toArray] W fun e w' => e = .returned (.bool true) ∧ Below W.heap.size W w' := by
 subst hW
 obtain ⟨x, y, z, k, e, p, s, n, b, r, rfl, hk⟩ := wf10 wa
 have hk := wf_u8 hk
 have uK := u8L_wf w0
 have ul := u8L_wf hb.2.1
 have uc := u8L_wf hb'.2.1
 have hm := mem_args (W := W0) [(E0, roH K), (E1, roH l), (E2, roH c)] (by intro y hy; simp at hy; rcases hy with rfl | rfl | rfl; exact r0; exact hb.1; exact hb'.1)
 have hu : relVs ([(E0, roH K), (E1, roH l), (E2, roH c)].map (·.1)) [bl0 0 K.length K.length, caseV x y z k e p s n b r 1 l.length 2 c.length] [v0, .agg (ivals caseK [x, y, z, k, e, p, s, n, b, r] ++ [c1, c2]).toArray] :=
  ⟨_, _, rfl, u0 _ 0 rfl, _, _, rfl, case_rel hb rfl hb' rfl, rfl⟩
 by_cases h0 : (300 : Int) < K.length
 ·exact law_obs tabTe_ok (appTe teX) ⟨decide_eq_true h0, trivial⟩ hm hu
 have f0 := decide_eq_false h0
 by_cases h1 : (5000 : Int) < l.length
 ·exact law_obs tabTe_ok (appTe teY) ⟨decide_eq_true h1, f0, trivial⟩ hm hu
 have f1 := decide_eq_false h1
 by_cases h2 : (5000 : Int) < c.length
 ·exact law_obs tabTe_ok (appTe teZ) ⟨decide_eq_true h2, f1, f0, trivial⟩ hm hu
 obtain ⟨h, ob, hq, hob⟩ := te_all (is := issN) (ck := chkN) (pu := putS) (ge := getS) (x := x) (y := y) (z := z) (k := k) (e := e) (p := p) (s := s) (n := n) (b := b) (r := r) (by omega) (by omega) (by omega) uK uc hk (issN_u8 _ _ _ _) (put_u8 hk (u8L_take ul _)) (get_u8 uc _)
 exact law_obs tabTe_ok hq hob hm hu
set_option maxRecDepth 100000 in
theorem tokenTells_lifted (os : Os) (started : os.Started) (H : Type) (enc : TypeId × Value → H) :
  ReturnsInHanded {} Try.checked os 6 .any (Rows.tokenTellsSpec.pre6 enc Try.prog Try.f6 Rows.tokenTellsRow.domain false) (Rows.tokenTellsSpec.post enc Try.prog Try.f6 false true false false) := by
 refine returnsInHanded_of_change (C := Try.checked) own started (by kernel_rfl) Try.func6
  (ChangeSpec.witness6 (enc := enc) (C := Try.checked) false ⟨#[], #[.slice none 0 0, .agg #[.int .i64 0, .int .i64 0, .int .i64 0, .int .u8 0, .int .i64 0, .int .i64 0, .int .i64 0, .int .i64 0, .int .i64 0, .int .i64 0, .slice none 0 0, .slice none 0 0]], []⟩ 8 (by kernel_rfl) (by kernel_rfl) (by kernel_rfl) (by kernel_rfl)) ?_
 intro W base args ds gs before hval0 hW hcnd _
 have hval : ∀ (j : Nat) t v, Try.f6.params[j]? = some t → args[j]? = some v → Value.okWide Try.prog W .any base t v := hval0
 have hW' := hW
 obtain ⟨p, q, hA0, hV, hbef, hfz, hnd⟩ := hW
 have hA : DataW.TrodAll enc Try.prog W 0 (fun _ => true) true Try.f6.params.toList args.toList ds p := hA0
 rw [Try.params6] at hA hval
 obtain ⟨v0, v1, d0, d1, p0, p1, rfl, rfl, hp, h0, h1⟩ := trodAll_two hA
 obtain ⟨a0, e0, r0, w0, m0, u0⟩ := one_ints (k := .u8) (d := 20) (by kernel_rfl) (hval 0 25 v0 rfl rfl) h0
 obtain ⟨a1, l1_0, e1_0, c1_0, l1_1, e1_1, c1_1, w1, rfl, b1_0, b1_1⟩ := agg_tail2 (ks := [.i64, .i64, .i64, .u8, .i64, .i64, .i64, .i64, .i64, .i64]) (d := 20) (by kernel_rfl) (hval 1 46 v1 rfl rfl) h1
 refine (tokenTells_calls a0 e0 v0 a1 l1_0 e1_0 c1_0 l1_1 e1_1 c1_1 r0 w0 m0 u0 w1 b1_0 b1_1 W).mono fun e W' ⟨he, hb⟩ => ?_
 subst he
 exact ⟨_, rfl, post_law laidOut (by rw [Try.params6]; decide +kernel) rfl rfl (by kernel_rfl) Try.underlying4 hW' hb⟩
theorem tokenTells_holds : Rows.TokenTellsSaid :=
 OpenClaim.holds_of_wide 6 Try.f6 rfl rfl rfl rfl rfl rfl rfl ⟨rfl, rfl, rfl, rfl, rfl⟩ rfl rfl rfl rfl rfl (by kernel_rfl) Try.func6 (by kernel_rfl)
  (of_decide_eq_true (by kernel_rfl)) (by unfold Func.isWrapper; first | (rw [if_pos (by decide +kernel)]; kernel_rfl) | (rw [if_neg (by decide +kernel)]; exact ⟨rfl, rfl⟩))
  (fun os started H enc _ => tokenTells_lifted os started H enc)
#print axioms tokenTells_holds
end Go.Proofs.Ytbamfolinbehiaa
end
