/- token.Issue, token.Check: their runs. token.Issue: the contract. token.Check: its runs. token.Check: the contract. awake: its run. token.Check, plainly; awake. -/
import Derived.Test.YtbamfolinbehiaaWd
import Derived.Test.YtbamfolinbehiaaWe
namespace Go.Proofs.Ytbamfolinbehiaa
section
open Go.Sx
def gHmV (hm : List Nat → List Nat → List Nat) : Sx.Loc := fun args bs => match args, bs with
 | [.v (.one (.slice 0 i 1 n _)), .v (.one (.slice 1 j 1 m _))], [⟨false, .ints .u8 b⟩, ⟨false, .ints .u8 c⟩] => some (.v (.aggi .u8 (ci (hm (partN b i.v n.v) (partN c j.v m.v)))), [roH b, roH c], [u8L b, u8L c, i.v + n.v ≤ b.length, j.v + m.v ≤ c.length, b.length ≤ 500000000, c.length ≤ 500000000])
 | [.v (.one (.slice 0 i 1 n _)), .v (.one (.slice 0 j 1 m _))], [⟨false, .ints .u8 b⟩] => some (.v (.aggi .u8 (ci (hm (partN b i.v n.v) (partN b j.v m.v)))), [roH b], [u8L b, i.v + n.v ≤ b.length, j.v + m.v ≤ b.length, b.length ≤ 500000000])
 | _, _ => none
def bl0 (b n c : Nat) : V := .v (.one (.slice b (.c 0) 1 (.s n) (.s c)))
def tok (p e c : Int) : V := .v (.agg [.sint .i64 p, .sint .i64 e, .sint .i64 c])
def gWi : List Int → V × List SB × List Prop
 | [n, lo, hi] => (.v (.one (.sbool (decide (lo ≤ n ∧ n ≤ hi)))), [], [])
 | _ => (.tup [], [], [False])
theorem wi1 : (fun (n lo hi : Int) => retV [] (call0 4 23 [si .i64 n, si .i64 lo, si .i64 hi] [] [true])) = fun (n : Int) (lo : Int) (hi : Int) => some (V.v (V1.one (C.sbool (decide (n ≤ hi)))), ([], [decide (lo ≤ n) = true])) := by kernel_rfl
theorem wi0 : (fun (n lo hi : Int) => retV [] (call0 4 23 [si .i64 n, si .i64 lo, si .i64 hi] [] [false])) = fun (n : Int) (lo : Int) (_ : Int) => some (V.v (V1.one (C.bool (false))), ([], [decide (lo ≤ n) = false])) := by kernel_rfl
def tabIs (hm : List Nat → List Nat → List Nat) := tabs [(31, loc wantM (gHmV hm)), (25, loc By.ownB1 (By.putL .u64 By.vint By.u64)), (23, numTab [.i64, .i64, .i64] gWi)]
noncomputable def callIs (hm : List Nat → List Nat → List Nat) (d : Nat) := callN Try.prog (tabIs hm) (fun f => Nat.beq f 25) 100000 d
noncomputable def issR (sel : List Nat) (hm : List Nat → List Nat → List Nat) (k : List Int) (n c : Nat) (x y z : Int) (h : List Bool) := retV sel (callIs hm 4 13 [bl0 0 n c, tok x y z] [roH k] h)
theorem is0 : (fun (hm : List Nat → List Nat → List Nat) (k : List Int) (n c : Nat) (x y z : Int) => issR [0] hm k n c x y z [true]) = fun (_ : List Nat → List Nat → List Nat) (k : List Int) (_ : Nat) (_ : Nat) (x : Int) (_ : Int) (_ : Int) => some (V.tup [V1.one (C.nils), V1.one (C.int .i64 (130))], ([SB.mk (false) (.ints .u8 (k))], [(!decide (0 ≤ x ∧ x ≤ 1073741824)) = true])) := by kernel_rfl
theorem is1 : (fun (hm : List Nat → List Nat → List Nat) (k : List Int) (n c : Nat) (x y z : Int) => issR [0] hm k n c x y z [false, true]) = fun (_ : List Nat → List Nat → List Nat) (k : List Int) (_ : Nat) (_ : Nat) (x : Int) (y : Int) (_ : Int) => some (V.tup [V1.one (C.nils), V1.one (C.int .i64 (130))], ([SB.mk (false) (.ints .u8 (k))], [(!decide (1 ≤ y ∧ y ≤ 1099511627776)) = true, (!decide (0 ≤ x ∧ x ≤ 1073741824)) = false])) := by kernel_rfl
theorem is2 : (fun (hm : List Nat → List Nat → List Nat) (k : List Int) (n c : Nat) (x y z : Int) => issR [0] hm k n c x y z [false, false, true]) = fun (_ : List Nat → List Nat → List Nat) (k : List Int) (_ : Nat) (_ : Nat) (x : Int) (y : Int) (z : Int) => some (V.tup [V1.one (C.nils), V1.one (C.int .i64 (130))], ([SB.mk (false) (.ints .u8 (k))], [(!decide (1 ≤ z ∧ z ≤ 1099511627776)) = true, (!decide (1 ≤ y ∧ y ≤ 1099511627776)) = false, (!decide (0 ≤ x ∧ x ≤ 1073741824)) = false])) := by kernel_rfl
theorem is3 : (fun (hm : List Nat → List Nat → List Nat) (k : List Int) (n c : Nat) (x y z : Int) => issR [0, 6] hm k n c x y z [false, false, false, true, true, true, true, true, true]) = fun (hm : List Nat → List Nat → List Nat) (k : List Int) (n : Nat) (_ : Nat) (x : Int) (y : Int) (z : Int) => some (V.tup [V1.one (C.slice (6) (N.c (0)) (1) (N.s ((By.vint (IntKind.wrap .u64 x) ++ By.vint (IntKind.wrap .u64 y) ++ By.vint (IntKind.wrap .u64 z)).length + 32)) (N.s ((By.vint (IntKind.wrap .u64 x) ++ By.vint (IntKind.wrap .u64 y) ++ By.vint (IntKind.wrap .u64 z)).length + 32))), V1.one (C.int .i64 (0))], ([SB.mk (false) (.ints .u8 (k)), SB.mk (true) (.ints .u8 (By.vint (IntKind.wrap .u64 x) ++ By.vint (IntKind.wrap .u64 y) ++ By.vint (IntKind.wrap .u64 z) ++ ci (hm (partN k 0 n) (partN (By.vint (IntKind.wrap .u64 x) ++ By.vint (IntKind.wrap .u64 y) ++ By.vint (IntKind.wrap .u64 z)) 0 (By.vint (IntKind.wrap .u64 x) ++ By.vint (IntKind.wrap .u64 y) ++ By.vint (IntKind.wrap .u64 z)).length))))], [0 = 0, (By.vint (IntKind.wrap .u64 x) ++ By.vint (IntKind.wrap .u64 y) ++ By.vint (IntKind.wrap .u64 z)).length = (By.vint (IntKind.wrap .u64 x) ++ By.vint (IntKind.wrap .u64 y) ++ By.vint (IntKind.wrap .u64 z)).length, 0 = 0, 32 = (ci (hm (partN k 0 n) (partN (By.vint (IntKind.wrap .u64 x) ++ By.vint (IntKind.wrap .u64 y) ++ By.vint (IntKind.wrap .u64 z)) 0 (By.vint (IntKind.wrap .u64 x) ++ By.vint (IntKind.wrap .u64 y) ++ By.vint (IntKind.wrap .u64 z)).length))).length, ((By.vint (IntKind.wrap .u64 x) ++ By.vint (IntKind.wrap .u64 y) ++ By.vint (IntKind.wrap .u64 z)).length + 32) * 1 ≤ 140737488355328, (By.vint (IntKind.wrap .u64 x) ++ By.vint (IntKind.wrap .u64 y) ++ By.vint (IntKind.wrap .u64 z)).length + 32 ≤ 9223372036854775807, 32 ≤ (ci (hm (partN k 0 n) (partN (By.vint (IntKind.wrap .u64 x) ++ By.vint (IntKind.wrap .u64 y) ++ By.vint (IntKind.wrap .u64 z)) 0 (By.vint (IntKind.wrap .u64 x) ++ By.vint (IntKind.wrap .u64 y) ++ By.vint (IntKind.wrap .u64 z)).length))).length, (ci (hm (partN k 0 n) (partN (By.vint (IntKind.wrap .u64 x) ++ By.vint (IntKind.wrap .u64 y) ++ By.vint (IntKind.wrap .u64 z)) 0 (By.vint (IntKind.wrap .u64 x) ++ By.vint (IntKind.wrap .u64 y) ++ By.vint (IntKind.wrap .u64 z)).length))).length = 32, (ci (hm (partN k 0 n) (partN (By.vint (IntKind.wrap .u64 x) ++ By.vint (IntKind.wrap .u64 y) ++ By.vint (IntKind.wrap .u64 z)) 0 (By.vint (IntKind.wrap .u64 x) ++ By.vint (IntKind.wrap .u64 y) ++ By.vint (IntKind.wrap .u64 z)).length))).length = 32, u8L k, u8L (By.vint (IntKind.wrap .u64 x) ++ By.vint (IntKind.wrap .u64 y) ++ By.vint (IntKind.wrap .u64 z)), 0 + n ≤ k.length, 0 + (By.vint (IntKind.wrap .u64 x) ++ By.vint (IntKind.wrap .u64 y) ++ By.vint (IntKind.wrap .u64 z)).length ≤ (By.vint (IntKind.wrap .u64 x) ++ By.vint (IntKind.wrap .u64 y) ++ By.vint (IntKind.wrap .u64 z)).length, k.length ≤ 500000000, (By.vint (IntKind.wrap .u64 x) ++ By.vint (IntKind.wrap .u64 y) ++ By.vint (IntKind.wrap .u64 z)).length ≤ 500000000, By.u64 (IntKind.wrap .u64 z), (By.vint (IntKind.wrap .u64 x) ++ By.vint (IntKind.wrap .u64 y)).length = (By.vint (IntKind.wrap .u64 x) ++ By.vint (IntKind.wrap .u64 y)).length, (By.vint (IntKind.wrap .u64 x) ++ By.vint (IntKind.wrap .u64 y)).length + 10 ≤ 140737488355328, By.u64 (IntKind.wrap .u64 y), (By.vint (IntKind.wrap .u64 x)).length = (By.vint (IntKind.wrap .u64 x)).length, (By.vint (IntKind.wrap .u64 x)).length + 10 ≤ 140737488355328, By.u64 (IntKind.wrap .u64 x), (!decide (1 ≤ z ∧ z ≤ 1099511627776)) = false, (!decide (1 ≤ y ∧ y ≤ 1099511627776)) = false, (!decide (0 ≤ x ∧ x ≤ 1073741824)) = false])) := by kernel_rfl
end
section
open Go.ChangeShapes Go.WideShapes Go.ChangeAt Go.RowKit Go.Sx
def locH (sh : List V → List Want) (g : Bool → Sx.Loc) : List V → List SB → List Bool → Option CallR := fun args m h => match h with
 | b :: h' => loc sh (g b) args m h'
 | [] => none
theorem locH_ok {f : FuncId} {sh : List V → List Want} {g : Bool → Sx.Loc} (h1 : TabOk Try.prog f (loc sh (g true))) (h0 : TabOk Try.prog f (loc sh (g false))) : TabOk Try.prog f (locH sh g) := fun args m h v m' h' ob hg hob ρ B W w us hm hu => by
 unfold locH at hg
 split at hg
 ·rename_i b r
  cases b with
  | true => exact h1 args m r v m' h' ob hg hob ρ B W w us hm hu
  | false => exact h0 args m r v m' h' ob hg hob ρ B W w us hm hu
 ·cases hg
theorem noBs {f : FuncId} {xs : List V} {us : List Value} {v : V} (h : Works Try.prog f xs [] v []) (hu : relVs [] xs us) : Makes Try.prog f us v [] := by
 intro w
 refine (h [] (upto w) w us (MemRel.nil w) hu).mono fun e w' ⟨u, ρ', he, hv, hm⟩ => ⟨u, ρ', he, hv, hm⟩
theorem no_tabs : ∀ f g, (fun _ : FuncId => (none : Option (List V → List SB → List Bool → Option CallR))) f = some g → TabOk Try.prog f g := fun _ _ h => by cases h
theorem wi_works (n lo hi : Int) : Works Try.prog 23 [si .i64 n, si .i64 lo, si .i64 hi] [] (.v (.one (.sbool (decide (lo ≤ n ∧ n ≤ hi))))) [] := by
 by_cases h : lo ≤ n
 ·refine works_of (r := []) no_tabs (cf3 wi1 n lo hi) ⟨decide_eq_true h, trivial⟩ List.nodup_nil ?_ trivial
  show decide (n ≤ hi) = decide (lo ≤ n ∧ n ≤ hi)
  simp [h]
 ·refine works_of (r := []) no_tabs (cf3 wi0 n lo hi) ⟨decide_eq_false h, trivial⟩ List.nodup_nil ?_ trivial
  show false = decide (lo ≤ n ∧ n ≤ hi)
  simp [h]
theorem wi_tab : TabOk Try.prog 23 (numTab [.i64, .i64, .i64] gWi) := numTab_ok fun ns hl hp => by
 match ns, hl with
 | [n, lo, hi], _ => exact ⟨rfl, noBs (wi_works n lo hi) ⟨_, _, rfl, ⟨rfl, rfl⟩, _, _, rfl, ⟨rfl, rfl⟩, _, _, rfl, ⟨rfl, rfl⟩, rfl⟩⟩
theorem tabIs_ok : ∀ f g, tabIs hmacN f = some g → TabOk Try.prog f g := tabs_ok fun x hx => by
 simp only [List.mem_cons, List.not_mem_nil, or_false] at hx
 rcases hx with rfl | rfl | rfl
 ·exact hm_tab
 ·exact By.uint_tab
 ·exact wi_tab
def oB (l : List Int) : SB := ⟨true, .ints .u8 l⟩
def body3 (x y z : Int) : List Int := By.vint x ++ By.vint y ++ By.vint z
def tokR (x y z : Int) : Prop := (0 ≤ x ∧ x ≤ 1073741824) ∧ (1 ≤ y ∧ y ≤ 1099511627776) ∧ (1 ≤ z ∧ z ≤ 1099511627776)
instance (x y z : Int) : Decidable (tokR x y z) := by unfold tokR; exact inferInstance
def issN (K : List Nat) (x y z : Int) : List Int := body3 x y z ++ ci (hmacN K (nats (body3 x y z)))
theorem vint_u8 (n : Int) : u8L (By.vint n) := fun x hx => By.vintN_byte _ x hx
theorem u8L_app {a t : List Int} (ha : u8L a) (ht : u8L t) : u8L (a ++ t) := fun x hx => by
 rcases List.mem_append.1 hx with h | h
 ·exact ha x h
 ·exact ht x h
theorem body3_u8 (x y z : Int) : u8L (body3 x y z) := u8L_app (u8L_app (vint_u8 x) (vint_u8 y)) (vint_u8 z)
theorem issN_u8 (K : List Nat) (x y z : Int) : u8L (issN K x y z) := u8L_app (body3_u8 x y z) (ci_u8 (hmacN_wf _ _))
theorem w64u {n : Int} (h0 : 0 ≤ n) (h1 : n ≤ 1099511627776) : IntKind.wrap .u64 n = n := By.w64 h0 (by omega)
theorem body3_len {x y z : Int} (h : tokR x y z) : (body3 x y z).length ≤ 30 := by
 unfold tokR at h
 have h1 := By.vint_le (n := x) ⟨by omega, by omega⟩
 have h2 := By.vint_le (n := y) ⟨by omega, by omega⟩
 have h3 := By.vint_le (n := z) ⟨by omega, by omega⟩
 simp only [body3, List.length_append]; omega
theorem issN_len (K : List Nat) (x y z : Int) : (issN K x y z).length = (body3 x y z).length + 32 := by
 unfold issN; rw [List.length_append, ci_len, hmacN_len]
theorem partN_all (l : List Int) : partN l 0 l.length = nats l := by
 unfold partN; rw [List.drop_zero, List.take_length]
def tokO (b L : Nat) : V := .tup [.one (.slice b (.c 0) 1 (.s L) (.s L)), .one (.int .i64 0)]
def tokX : V := .tup [.one .nils, .one (.int .i64 130)]
theorem iss_ok {k : List Int} {n c : Nat} {x y z : Int} (hk : u8L k) (hn : n ≤ k.length) (hkl : k.length ≤ 500000000) (h : tokR x y z) :
  Works Try.prog 13 [bl0 0 n c, tok x y z] [roH k] (tokO 1 (issN (partN k 0 n) x y z).length) [roH k, oB (issN (partN k 0 n) x y z)] := by
 have hb := body3_len h
 have hh := h
 unfold tokR at hh
 have q := cf7 is3 hmacN k n c x y z
 rw [w64u (n := x) (by omega) (by omega), w64u (n := y) (by omega) (by omega), w64u (n := z) (by omega) (by omega), show By.vint x ++ By.vint y ++ By.vint z = body3 x y z from rfl, partN_all] at q
 have l2 : (By.vint x ++ By.vint y).length ≤ 30 := by
  have : (body3 x y z).length = (By.vint x ++ By.vint y).length + (By.vint z).length := by unfold body3; rw [List.length_append]
  omega
 have l1 : (By.vint x).length ≤ 30 := by
  rw [List.length_append] at l2; omega
 have u1 := body3_u8 x y z
 refine works_of (r := [6]) tabIs_ok q ?_ (by decide : (List.range 1 ++ [6]).Nodup) ?_ ⟨⟨fun h => h, rfl, rfl⟩, ⟨fun h => h, rfl, rfl⟩, trivial⟩
 ·simp only [allP, ci_len, hmacN_len]
  repeat' (first | exact trivial | exact hk | exact u1 | exact decide_eq_true hh.1 | refine And.intro ?_ ?_)
  all_goals first
   | rfl | omega
   | (show By.u64 _; unfold By.u64; omega)
   | (rw [decide_eq_true hh.1]; rfl) | (rw [decide_eq_true hh.2.1]; rfl) | (rw [decide_eq_true hh.2.2]; rfl)
 ·rw [issN_len]
  exact ⟨⟨rfl, rfl, rfl, rfl, Nat.le_refl _, Nat.le_refl _⟩, ⟨rfl, rfl⟩, trivial⟩
theorem iss_bad {k : List Int} {n c : Nat} {x y z : Int} (h : ¬ tokR x y z) : Works Try.prog 13 [bl0 0 n c, tok x y z] [roH k] tokX [roH k] := by
 have nd : (List.range 1 ++ ([] : List Nat)).Nodup := by decide
 by_cases h1 : 0 ≤ x ∧ x ≤ 1073741824
 ·by_cases h2 : 1 ≤ y ∧ y ≤ 1099511627776
  ·have h3 : ¬ (1 ≤ z ∧ z ≤ 1099511627776) := fun h3 => h ⟨h1, h2, h3⟩
   exact works_of (r := []) tabIs_ok (cf7 is2 hmacN k n c x y z) ⟨by rw [decide_eq_false h3]; rfl, by rw [decide_eq_true h2]; rfl, by rw [decide_eq_true h1]; rfl, trivial⟩ nd ⟨trivial, ⟨rfl, rfl⟩, trivial⟩ ⟨⟨fun h => h, rfl, rfl⟩, trivial⟩
  ·exact works_of (r := []) tabIs_ok (cf7 is1 hmacN k n c x y z) ⟨by rw [decide_eq_false h2]; rfl, by rw [decide_eq_true h1]; rfl, trivial⟩ nd ⟨trivial, ⟨rfl, rfl⟩, trivial⟩ ⟨⟨fun h => h, rfl, rfl⟩, trivial⟩
 ·exact works_of (r := []) tabIs_ok (cf7 is0 hmacN k n c x y z) ⟨by rw [decide_eq_false h1]; rfl, trivial⟩ nd ⟨trivial, ⟨rfl, rfl⟩, trivial⟩ ⟨⟨fun h => h, rfl, rfl⟩, trivial⟩
theorem bl0_rel {ρ : Env} {b : Nat} {n c : N} {u : Value} (h : V.rel ρ (.v (.one (.slice b (.c 0) 1 n c))) u) : (bl0 b n.v c.v).rel ρ u := h
def gIsT (is : List Nat → Int → Int → Int → List Int) : Sx.Loc := fun args bs => match args, bs with
 | [.v (.one (.slice 0 (.c 0) 1 n _)), .v (.agg [.sint .i64 x, .sint .i64 y, .sint .i64 z])], [⟨false, .ints .u8 k⟩] => some (tokO 1 (is (partN k 0 n.v) x y z).length, [roH k, oB (is (partN k 0 n.v) x y z)], [tokR x y z, u8L k, n.v ≤ k.length, k.length ≤ 500000000])
 | _, _ => none
def gIsF : Sx.Loc := fun args bs => match args, bs with
 | [.v (.one (.slice 0 (.c 0) 1 _ _)), .v (.agg [.sint .i64 x, .sint .i64 y, .sint .i64 z])], [⟨false, .ints .u8 k⟩] => some (tokX, [roH k], [¬ tokR x y z])
 | _, _ => none
def gIs (is : List Nat → Int → Int → Int → List Int) : Bool → Sx.Loc
 | true => gIsT is
 | false => gIsF
theorem iss_tab : TabOk Try.prog 13 (locH wantH (gIs issN)) := locH_ok
 (loc_ok fun xs bs v bs' ob hg hob hokb => by
  change gIsT issN _ _ = _ at hg
  unfold gIsT at hg
  split at hg
  ·rename_i n c x y z k
   cases hg
   intro ρ K w us hm hu
   obtain ⟨u1, s1, rfl, k1, k2⟩ := hu
   exact iss_ok (hob (u8L k) (by simp)) (hob (n.v ≤ k.length) (by simp)) (hob (k.length ≤ 500000000) (by simp)) (hob (tokR x y z) (by simp)) ρ K w _ hm ⟨u1, _, rfl, bl0_rel k1, k2⟩
  ·cases hg)
 (loc_ok fun xs bs v bs' ob hg hob hokb => by
  change gIsF _ _ = _ at hg
  unfold gIsF at hg
  split at hg
  ·rename_i n c x y z k
   cases hg
   intro ρ K w us hm hu
   obtain ⟨u1, s1, rfl, k1, k2⟩ := hu
   exact iss_bad (hob (¬ tokR x y z) (by simp)) ρ K w _ hm ⟨u1, _, rfl, bl0_rel k1, k2⟩
  ·cases hg)
end
section
open Go.Sx
abbrev GU := List Int → Nat → Int → Int × Int × Int
def gGetV (G : GU) : Sx.Loc := fun args bs => match args, bs with
 | [.v (.one (.slice 0 (.c 0) 1 (.s n) (.s _))), .v (.one (.sint .i64 a))], [⟨false, .ints k l⟩] => match decide (k = .u8) with
  | true => some (By.tupG (G l n a).1 (G l n a).2.1 (G l n a).2.2, [By.roB l], [n ≤ l.length, n ≤ 1000000000, By.wfB l])
  | false => none
 | _, _ => none
def tabCh (G : GU) (is : List Nat → Int → Int → Int → List Int) := tabs [(28, loc By.wantRo (gGetV G)), (13, locH wantH (gIs is)), (32, loc By.frozen88 By.gEq)]
noncomputable def chkR (G : GU) (is : List Nat → Int → Int → Int → List Int) (k b : List Int) (n c m d : Nat) (h : List Bool) := retV [0, 1] (callN Try.prog (tabCh G is) (fun _ => false) 100000 4 15 [bl0 0 n c, bl0 1 m d] [roH k, roH b] h)
theorem ch0 : (fun (G : GU) (is : List Nat → Int → Int → Int → List Int) (k b : List Int) (n c m d : Nat) => chkR G is k b n c m d [true]) = fun (G : GU) (_ : List Nat → Int → Int → Int → List Int) (k : List Int) (b : List Int) (_ : Nat) (_ : Nat) (m : Nat) (_ : Nat) => some (V.tup [V1.agg [C.int .i64 (0), C.int .i64 (0), C.int .i64 (0)], V1.one (C.int .i64 (130))], ([SB.mk (false) (.ints .u8 (k)), SB.mk (false) (.ints .u8 (b))], [(!decide ((G b m 0).2.2 = 0)) = true, m ≤ b.length, m ≤ 1000000000, By.wfB b])) := by kernel_rfl
theorem ch1 : (fun (G : GU) (is : List Nat → Int → Int → Int → List Int) (k b : List Int) (n c m d : Nat) => chkR G is k b n c m d [false, true]) = fun (G : GU) (_ : List Nat → Int → Int → Int → List Int) (k : List Int) (b : List Int) (_ : Nat) (_ : Nat) (m : Nat) (_ : Nat) => some (V.tup [V1.agg [C.int .i64 (0), C.int .i64 (0), C.int .i64 (0)], V1.one (C.int .i64 (130))], ([SB.mk (false) (.ints .u8 (k)), SB.mk (false) (.ints .u8 (b))], [decide (1099511627776 < (G b m 0).1) = true, (!decide ((G b m 0).2.2 = 0)) = false, m ≤ b.length, m ≤ 1000000000, By.wfB b])) := by kernel_rfl
theorem ch2 : (fun (G : GU) (is : List Nat → Int → Int → Int → List Int) (k b : List Int) (n c m d : Nat) => chkR G is k b n c m d [false, false, true]) = fun (G : GU) (_ : List Nat → Int → Int → Int → List Int) (k : List Int) (b : List Int) (_ : Nat) (_ : Nat) (m : Nat) (_ : Nat) => some (V.tup [V1.agg [C.int .i64 (0), C.int .i64 (0), C.int .i64 (0)], V1.one (C.int .i64 (130))], ([SB.mk (false) (.ints .u8 (k)), SB.mk (false) (.ints .u8 (b))], [(!decide ((G b m (G b m 0).2.1).2.2 = 0)) = true, m ≤ b.length, m ≤ 1000000000, By.wfB b, decide (1099511627776 < (G b m 0).1) = false, (!decide ((G b m 0).2.2 = 0)) = false, m ≤ b.length, m ≤ 1000000000, By.wfB b])) := by kernel_rfl
theorem ch3 : (fun (G : GU) (is : List Nat → Int → Int → Int → List Int) (k b : List Int) (n c m d : Nat) => chkR G is k b n c m d [false, false, false, true]) = fun (G : GU) (_ : List Nat → Int → Int → Int → List Int) (k : List Int) (b : List Int) (_ : Nat) (_ : Nat) (m : Nat) (_ : Nat) => some (V.tup [V1.agg [C.int .i64 (0), C.int .i64 (0), C.int .i64 (0)], V1.one (C.int .i64 (130))], ([SB.mk (false) (.ints .u8 (k)), SB.mk (false) (.ints .u8 (b))], [decide (1099511627776 < (G b m (G b m 0).2.1).1) = true, (!decide ((G b m (G b m 0).2.1).2.2 = 0)) = false, m ≤ b.length, m ≤ 1000000000, By.wfB b, decide (1099511627776 < (G b m 0).1) = false, (!decide ((G b m 0).2.2 = 0)) = false, m ≤ b.length, m ≤ 1000000000, By.wfB b])) := by kernel_rfl
theorem ch4 : (fun (G : GU) (is : List Nat → Int → Int → Int → List Int) (k b : List Int) (n c m d : Nat) => chkR G is k b n c m d [false, false, false, false, true]) = fun (G : GU) (_ : List Nat → Int → Int → Int → List Int) (k : List Int) (b : List Int) (_ : Nat) (_ : Nat) (m : Nat) (_ : Nat) => some (V.tup [V1.agg [C.int .i64 (0), C.int .i64 (0), C.int .i64 (0)], V1.one (C.int .i64 (130))], ([SB.mk (false) (.ints .u8 (k)), SB.mk (false) (.ints .u8 (b))], [(!decide ((G b m (G b m (G b m 0).2.1).2.1).2.2 = 0)) = true, m ≤ b.length, m ≤ 1000000000, By.wfB b, decide (1099511627776 < (G b m (G b m 0).2.1).1) = false, (!decide ((G b m (G b m 0).2.1).2.2 = 0)) = false, m ≤ b.length, m ≤ 1000000000, By.wfB b, decide (1099511627776 < (G b m 0).1) = false, (!decide ((G b m 0).2.2 = 0)) = false, m ≤ b.length, m ≤ 1000000000, By.wfB b])) := by kernel_rfl
theorem ch5 : (fun (G : GU) (is : List Nat → Int → Int → Int → List Int) (k b : List Int) (n c m d : Nat) => chkR G is k b n c m d [false, false, false, false, false, true]) = fun (G : GU) (_ : List Nat → Int → Int → Int → List Int) (k : List Int) (b : List Int) (_ : Nat) (_ : Nat) (m : Nat) (_ : Nat) => some (V.tup [V1.agg [C.int .i64 (0), C.int .i64 (0), C.int .i64 (0)], V1.one (C.int .i64 (130))], ([SB.mk (false) (.ints .u8 (k)), SB.mk (false) (.ints .u8 (b))], [decide (1099511627776 < (G b m (G b m (G b m 0).2.1).2.1).1) = true, (!decide ((G b m (G b m (G b m 0).2.1).2.1).2.2 = 0)) = false, m ≤ b.length, m ≤ 1000000000, By.wfB b, decide (1099511627776 < (G b m (G b m 0).2.1).1) = false, (!decide ((G b m (G b m 0).2.1).2.2 = 0)) = false, m ≤ b.length, m ≤ 1000000000, By.wfB b, decide (1099511627776 < (G b m 0).1) = false, (!decide ((G b m 0).2.2 = 0)) = false, m ≤ b.length, m ≤ 1000000000, By.wfB b])) := by kernel_rfl
theorem ch6 : (fun (G : GU) (is : List Nat → Int → Int → Int → List Int) (k b : List Int) (n c m d : Nat) => chkR G is k b n c m d [false, false, false, false, false, false, false]) = fun (G : GU) (_ : List Nat → Int → Int → Int → List Int) (k : List Int) (b : List Int) (_ : Nat) (_ : Nat) (m : Nat) (_ : Nat) => some (V.tup [V1.agg [C.int .i64 (0), C.int .i64 (0), C.int .i64 (0)], V1.one (C.int .i64 (130))], ([SB.mk (false) (.ints .u8 (k)), SB.mk (false) (.ints .u8 (b))], [¬tokR (IntKind.wrap .i64 (G b m 0).1) (IntKind.wrap .i64 (G b m (G b m 0).2.1).1) (IntKind.wrap .i64 (G b m (G b m (G b m 0).2.1).2.1).1), decide (1099511627776 < (G b m (G b m (G b m 0).2.1).2.1).1) = false, (!decide ((G b m (G b m (G b m 0).2.1).2.1).2.2 = 0)) = false, m ≤ b.length, m ≤ 1000000000, By.wfB b, decide (1099511627776 < (G b m (G b m 0).2.1).1) = false, (!decide ((G b m (G b m 0).2.1).2.2 = 0)) = false, m ≤ b.length, m ≤ 1000000000, By.wfB b, decide (1099511627776 < (G b m 0).1) = false, (!decide ((G b m 0).2.2 = 0)) = false, m ≤ b.length, m ≤ 1000000000, By.wfB b])) := by kernel_rfl
theorem ch7 : (fun (G : GU) (is : List Nat → Int → Int → Int → List Int) (k b : List Int) (n c m d : Nat) => chkR G is k b n c m d [false, false, false, false, false, false, true, true]) = fun (G : GU) (is : List Nat → Int → Int → Int → List Int) (k : List Int) (b : List Int) (n : Nat) (_ : Nat) (m : Nat) (_ : Nat) => some (V.tup [V1.agg [C.int .i64 (0), C.int .i64 (0), C.int .i64 (0)], V1.one (C.int .i64 (130))], ([SB.mk (false) (.ints .u8 (k)), SB.mk (false) (.ints .u8 (b))], [(!decide (List.take (is (partN k 0 n) (IntKind.wrap .i64 (G b m 0).1) (IntKind.wrap .i64 (G b m (G b m 0).2.1).1) (IntKind.wrap .i64 (G b m (G b m (G b m 0).2.1).2.1).1)).length (is (partN k 0 n) (IntKind.wrap .i64 (G b m 0).1) (IntKind.wrap .i64 (G b m (G b m 0).2.1).1) (IntKind.wrap .i64 (G b m (G b m (G b m 0).2.1).2.1).1)) = b.take m)) = true, (is (partN k 0 n) (IntKind.wrap .i64 (G b m 0).1) (IntKind.wrap .i64 (G b m (G b m 0).2.1).1) (IntKind.wrap .i64 (G b m (G b m (G b m 0).2.1).2.1).1)).length ≤ (is (partN k 0 n) (IntKind.wrap .i64 (G b m 0).1) (IntKind.wrap .i64 (G b m (G b m 0).2.1).1) (IntKind.wrap .i64 (G b m (G b m (G b m 0).2.1).2.1).1)).length, m ≤ b.length, (is (partN k 0 n) (IntKind.wrap .i64 (G b m 0).1) (IntKind.wrap .i64 (G b m (G b m 0).2.1).1) (IntKind.wrap .i64 (G b m (G b m (G b m 0).2.1).2.1).1)).length ≤ 1000000000, tokR (IntKind.wrap .i64 (G b m 0).1) (IntKind.wrap .i64 (G b m (G b m 0).2.1).1) (IntKind.wrap .i64 (G b m (G b m (G b m 0).2.1).2.1).1), u8L k, n ≤ k.length, k.length ≤ 500000000, decide (1099511627776 < (G b m (G b m (G b m 0).2.1).2.1).1) = false, (!decide ((G b m (G b m (G b m 0).2.1).2.1).2.2 = 0)) = false, m ≤ b.length, m ≤ 1000000000, By.wfB b, decide (1099511627776 < (G b m (G b m 0).2.1).1) = false, (!decide ((G b m (G b m 0).2.1).2.2 = 0)) = false, m ≤ b.length, m ≤ 1000000000, By.wfB b, decide (1099511627776 < (G b m 0).1) = false, (!decide ((G b m 0).2.2 = 0)) = false, m ≤ b.length, m ≤ 1000000000, By.wfB b])) := by kernel_rfl
theorem ch8 : (fun (G : GU) (is : List Nat → Int → Int → Int → List Int) (k b : List Int) (n c m d : Nat) => chkR G is k b n c m d [false, false, false, false, false, false, true, false]) = fun (G : GU) (is : List Nat → Int → Int → Int → List Int) (k : List Int) (b : List Int) (n : Nat) (_ : Nat) (m : Nat) (_ : Nat) => some (V.tup [V1.agg [C.sint .i64 (IntKind.wrap .i64 (G b m 0).1), C.sint .i64 (IntKind.wrap .i64 (G b m (G b m 0).2.1).1), C.sint .i64 (IntKind.wrap .i64 (G b m (G b m (G b m 0).2.1).2.1).1)], V1.one (C.int .i64 (0))], ([SB.mk (false) (.ints .u8 (k)), SB.mk (false) (.ints .u8 (b))], [(!decide (List.take (is (partN k 0 n) (IntKind.wrap .i64 (G b m 0).1) (IntKind.wrap .i64 (G b m (G b m 0).2.1).1) (IntKind.wrap .i64 (G b m (G b m (G b m 0).2.1).2.1).1)).length (is (partN k 0 n) (IntKind.wrap .i64 (G b m 0).1) (IntKind.wrap .i64 (G b m (G b m 0).2.1).1) (IntKind.wrap .i64 (G b m (G b m (G b m 0).2.1).2.1).1)) = b.take m)) = false, (is (partN k 0 n) (IntKind.wrap .i64 (G b m 0).1) (IntKind.wrap .i64 (G b m (G b m 0).2.1).1) (IntKind.wrap .i64 (G b m (G b m (G b m 0).2.1).2.1).1)).length ≤ (is (partN k 0 n) (IntKind.wrap .i64 (G b m 0).1) (IntKind.wrap .i64 (G b m (G b m 0).2.1).1) (IntKind.wrap .i64 (G b m (G b m (G b m 0).2.1).2.1).1)).length, m ≤ b.length, (is (partN k 0 n) (IntKind.wrap .i64 (G b m 0).1) (IntKind.wrap .i64 (G b m (G b m 0).2.1).1) (IntKind.wrap .i64 (G b m (G b m (G b m 0).2.1).2.1).1)).length ≤ 1000000000, tokR (IntKind.wrap .i64 (G b m 0).1) (IntKind.wrap .i64 (G b m (G b m 0).2.1).1) (IntKind.wrap .i64 (G b m (G b m (G b m 0).2.1).2.1).1), u8L k, n ≤ k.length, k.length ≤ 500000000, decide (1099511627776 < (G b m (G b m (G b m 0).2.1).2.1).1) = false, (!decide ((G b m (G b m (G b m 0).2.1).2.1).2.2 = 0)) = false, m ≤ b.length, m ≤ 1000000000, By.wfB b, decide (1099511627776 < (G b m (G b m 0).2.1).1) = false, (!decide ((G b m (G b m 0).2.1).2.2 = 0)) = false, m ≤ b.length, m ≤ 1000000000, By.wfB b, decide (1099511627776 < (G b m 0).1) = false, (!decide ((G b m 0).2.2 = 0)) = false, m ≤ b.length, m ≤ 1000000000, By.wfB b])) := by kernel_rfl
end
section
open Go.ChangeShapes Go.WideShapes Go.ChangeAt Go.RowKit Go.Sx
theorem tabCh_ok : ∀ f g, tabCh By.getU issN f = some g → TabOk Try.prog f g := tabs_ok fun x hx => by
 simp only [List.mem_cons, List.not_mem_nil, or_false] at hx
 rcases hx with rfl | rfl | rfl
 ·exact By.get_tab
 ·exact iss_tab
 ·exact By.equal_tab
def chkN (K : List Nat) (l : List Int) (m : Nat) : Int × Int × Int × Int :=
 match By.getU l m 0 with
 | (v1, t1, e1) => match By.getU l m t1 with
  | (v2, t2, e2) => match By.getU l m t2 with
   | (v3, _, e3) => if e1 = 0 ∧ v1 ≤ 1099511627776 ∧ e2 = 0 ∧ v2 ≤ 1099511627776 ∧ e3 = 0 ∧ v3 ≤ 1099511627776 ∧ tokR v1 v2 v3 ∧ issN K v1 v2 v3 = l.take m then (v1, v2, v3, 0) else (0, 0, 0, 130)
def chkV (r : Int × Int × Int × Int) : V := .tup [.agg [.sint .i64 r.1, .sint .i64 r.2.1, .sint .i64 r.2.2.1], .one (.sint .i64 r.2.2.2)]
theorem ndC2 : (List.range 2 ++ ([] : List Nat)).Nodup := by decide
theorem chk_works {k b : List Int} {n c m d : Nat} (hk : u8L k) (hb : u8L b) (hn : n ≤ k.length) (hm : m ≤ b.length) (hkl : k.length ≤ 500000000) (hbl : b.length ≤ 500000000) :
  Works Try.prog 15 [bl0 0 n c, bl0 1 m d] [roH k, roH b] (chkV (chkN (partN k 0 n) b m)) [roH k, roH b] := by
 have app : ∀ {A : Type} {f g : GU → (List Nat → Int → Int → Int → List Int) → List Int → List Int → Nat → Nat → Nat → Nat → A}, f = g → f By.getU issN k b n c m d = g By.getU issN k b n c m d := fun h => by rw [h]
 have q0 := app ch0; have q1 := app ch1; have q2 := app ch2; have q3 := app ch3; have q4 := app ch4; have q5 := app ch5; have q6 := app ch6; have q7 := app ch7; have q8 := app ch8
 have r1 := By.getU_range hb m 0
 obtain ⟨v1, t1, e1, hg1⟩ : ∃ v t e, By.getU b m 0 = (v, t, e) := ⟨_, _, _, rfl⟩
 rw [hg1] at r1
 have r2 := By.getU_range hb m t1
 obtain ⟨v2, t2, e2, hg2⟩ : ∃ v t e, By.getU b m t1 = (v, t, e) := ⟨_, _, _, rfl⟩
 rw [hg2] at r2
 have r3 := By.getU_range hb m t2
 obtain ⟨v3, t3, e3, hg3⟩ : ∃ v t e, By.getU b m t2 = (v, t, e) := ⟨_, _, _, rfl⟩
 rw [hg3] at r3
 have hN : chkN (partN k 0 n) b m = if e1 = 0 ∧ v1 ≤ 1099511627776 ∧ e2 = 0 ∧ v2 ≤ 1099511627776 ∧ e3 = 0 ∧ v3 ≤ 1099511627776 ∧ tokR v1 v2 v3 ∧ issN (partN k 0 n) v1 v2 v3 = b.take m then (v1, v2, v3, 0) else (0, 0, 0, 130) := by
  unfold chkN; rw [hg1]; dsimp only; rw [hg2]; dsimp only; rw [hg3]
 rw [hN]
 simp only [hg1, hg2, hg3] at q0 q1 q2 q3 q4 q5 q6 q7 q8
 have gm : m ≤ 1000000000 := by omega
 have lb : leBs (List.range 2 ++ []) [roH k, roH b] [roH k, roH b] := ⟨⟨fun h => h, rfl, rfl⟩, ⟨fun h => h, rfl, rfl⟩, trivial⟩
 have lx : leV (List.range 2 ++ []) (.tup [.agg [.int .i64 0, .int .i64 0, .int .i64 0], .one (.int .i64 130)]) (chkV (0, 0, 0, 130)) := ⟨⟨⟨rfl, rfl⟩, ⟨rfl, rfl⟩, ⟨rfl, rfl⟩, trivial⟩, ⟨rfl, rfl⟩, trivial⟩
 have nz : ∀ {e : Int}, e ≠ 0 → (!decide (e = 0)) = true := fun h => by rw [decide_eq_false h]; rfl
 have yz : ∀ {e : Int}, e = 0 → (!decide (e = 0)) = false := fun h => by rw [decide_eq_true h]; rfl
 by_cases h1 : e1 = 0
 ·by_cases h2 : v1 ≤ 1099511627776
  ·by_cases h3 : e2 = 0
   ·by_cases h4 : v2 ≤ 1099511627776
    ·by_cases h5 : e3 = 0
     ·by_cases h6 : v3 ≤ 1099511627776
      ·dsimp only at r1 r2 r3
       rw [By.wi64 (n := v1) (by omega) (by omega), By.wi64 (n := v2) (by omega) (by omega), By.wi64 (n := v3) (by omega) (by omega)] at q6 q7 q8
       have i1 : (-9223372036854775808 : Int) ≤ v1 ∧ v1 ≤ 9223372036854775807 := by omega
       by_cases h7 : tokR v1 v2 v3
       ·have hl := issN_len (partN k 0 n) v1 v2 v3
        have hb3 := body3_len h7
        rw [List.take_length] at q7 q8
        by_cases h8 : issN (partN k 0 n) v1 v2 v3 = b.take m
        ·rw [if_pos ⟨h1, h2, h3, h4, h5, h6, h7, h8⟩]
         refine works_of (r := []) tabCh_ok q8 ?_ ndC2 ⟨⟨⟨rfl, rfl⟩, ⟨rfl, rfl⟩, ⟨rfl, rfl⟩, trivial⟩, ⟨rfl, rfl⟩, trivial⟩ lb
         simp only [allP]
         repeat' (first | exact trivial | exact hk | exact hb | exact h7 | exact hm | exact gm | exact yz h1 | exact yz h3 | exact yz h5 | exact Nat.le_refl _ | refine And.intro ?_ ?_)
         all_goals first | omega | exact decide_eq_false (by omega) | (rw [decide_eq_true h8]; rfl)
        ·rw [if_neg fun h => h8 h.2.2.2.2.2.2.2]
         refine works_of (r := []) tabCh_ok q7 ?_ ndC2 lx lb
         simp only [allP]
         repeat' (first | exact trivial | exact hk | exact hb | exact h7 | exact hm | exact gm | exact yz h1 | exact yz h3 | exact yz h5 | exact Nat.le_refl _ | refine And.intro ?_ ?_)
         all_goals first | omega | exact decide_eq_false (by omega) | (rw [decide_eq_false h8]; rfl)
       ·rw [if_neg fun h => h7 h.2.2.2.2.2.2.1]
        refine works_of (r := []) tabCh_ok q6 ?_ ndC2 lx lb
        exact ⟨h7, decide_eq_false (by omega), yz h5, hm, gm, hb, decide_eq_false (by omega), yz h3, hm, gm, hb, decide_eq_false (by omega), yz h1, hm, gm, hb, trivial⟩
      ·rw [if_neg fun h => h6 h.2.2.2.2.2.1]
       exact works_of (r := []) tabCh_ok q5 ⟨decide_eq_true (by omega), yz h5, hm, gm, hb, decide_eq_false (by omega), yz h3, hm, gm, hb, decide_eq_false (by omega), yz h1, hm, gm, hb, trivial⟩ ndC2 lx lb
     ·rw [if_neg fun h => h5 h.2.2.2.2.1]
      exact works_of (r := []) tabCh_ok q4 ⟨nz h5, hm, gm, hb, decide_eq_false (by omega), yz h3, hm, gm, hb, decide_eq_false (by omega), yz h1, hm, gm, hb, trivial⟩ ndC2 lx lb
    ·rw [if_neg fun h => h4 h.2.2.2.1]
     exact works_of (r := []) tabCh_ok q3 ⟨decide_eq_true (by omega), yz h3, hm, gm, hb, decide_eq_false (by omega), yz h1, hm, gm, hb, trivial⟩ ndC2 lx lb
   ·rw [if_neg fun h => h3 h.2.2.1]
    exact works_of (r := []) tabCh_ok q2 ⟨nz h3, hm, gm, hb, decide_eq_false (by omega), yz h1, hm, gm, hb, trivial⟩ ndC2 lx lb
  ·rw [if_neg fun h => h2 h.2.1]
   exact works_of (r := []) tabCh_ok q1 ⟨decide_eq_true (by omega), yz h1, hm, gm, hb, trivial⟩ ndC2 lx lb
 ·rw [if_neg fun h => h1 h.1]
  exact works_of (r := []) tabCh_ok q0 ⟨nz h1, hm, gm, hb, trivial⟩ ndC2 lx lb
def gCk (ck : List Nat → List Int → Nat → Int × Int × Int × Int) : Sx.Loc := fun args bs => match args, bs with
 | [.v (.one (.slice 0 (.c 0) 1 n _)), .v (.one (.slice 1 (.c 0) 1 m _))], [⟨false, .ints .u8 k⟩, ⟨false, .ints .u8 b⟩] => some (chkV (ck (partN k 0 n.v) b m.v), [roH k, roH b], [u8L k, u8L b, n.v ≤ k.length, m.v ≤ b.length, k.length ≤ 500000000, b.length ≤ 500000000])
 | _, _ => none
theorem chk_tab : TabOk Try.prog 15 (loc wantM (gCk chkN)) := loc_ok fun xs bs v bs' ob hg hob hokb => by
 unfold gCk at hg
 split at hg
 ·rename_i n c m d k b
  cases hg
  intro ρ K w us hm hu
  obtain ⟨u1, s1, rfl, k1, u2, s2, rfl, k2, k3⟩ := hu
  exact chk_works (hob (u8L k) (by simp)) (hob (u8L b) (by simp)) (hob (n.v ≤ k.length) (by simp)) (hob (m.v ≤ b.length) (by simp)) (hob (k.length ≤ 500000000) (by simp)) (hob (b.length ≤ 500000000) (by simp)) ρ K w _ hm ⟨u1, _, rfl, bl0_rel k1, u2, _, rfl, bl0_rel k2, k3⟩
 ·cases hg
end
section
open Go.Sx
abbrev IS := List Nat → Int → Int → Int → List Int
abbrev CK := List Nat → List Int → Nat → Int × Int × Int × Int
def tabAw (is : IS) (ck : CK) := tabs [(13, locH wantH (gIs is)), (15, loc wantM (gCk ck)), (25, loc By.ownB1 (By.putL .u64 By.vint By.u64)), (23, numTab [.i64, .i64, .i64] gWi)]
noncomputable def callAw (is : IS) (ck : CK) (d : Nat) := callN Try.prog (tabAw is ck) (fun f => Nat.beq f 25) 100000 d
theorem awR : (fun (is : IS) (ck : CK) => retV [] (callAw is ck 6 9 [] [] [false, false, false, false, false, false, true, false, true, false, false, false, true, true])) = fun (is : IS) (ck : CK) => some (V.v (V1.one (C.sbool (decide ((ck (partN [107] 0 1) (List.set (is (partN [107] 0 1) 7 2 3) 34 (Go.bits Go.BinOp.xor .u8 (List.getD (is (partN [107] 0 1) 7 2 3) 34 0) 1)) (is (partN [107] 0 1) 7 2 3).length).2.2.2 = 130)))), ([], [u8L [107], u8L (List.set (is (partN [107] 0 1) 7 2 3) 34 (Go.bits Go.BinOp.xor .u8 (List.getD (is (partN [107] 0 1) 7 2 3) 34 0) 1)), 1 ≤ 1, (is (partN [107] 0 1) 7 2 3).length ≤ (List.set (is (partN [107] 0 1) 7 2 3) 34 (Go.bits Go.BinOp.xor .u8 (List.getD (is (partN [107] 0 1) 7 2 3) 34 0) 1)).length, 1 ≤ 500000000, (List.set (is (partN [107] 0 1) 7 2 3) 34 (Go.bits Go.BinOp.xor .u8 (List.getD (is (partN [107] 0 1) 7 2 3) 34 0) 1)).length ≤ 500000000, 34 < (is (partN [107] 0 1) 7 2 3).length, 34 < ((is (partN [107] 0 1) 7 2 3).length : Int), 34 < (is (partN [107] 0 1) 7 2 3).length, 34 < ((is (partN [107] 0 1) 7 2 3).length : Int), (!decide (((is (partN [107] 0 1) 7 2 3).length : Int) = 35)) = false, (!(decide ((ck (partN [107] 0 1) (is (partN [107] 0 1) 7 2 3) (is (partN [107] 0 1) 7 2 3).length).1 = 7) && (decide ((ck (partN [107] 0 1) (is (partN [107] 0 1) 7 2 3) (is (partN [107] 0 1) 7 2 3).length).2.1 = 2) && (decide ((ck (partN [107] 0 1) (is (partN [107] 0 1) 7 2 3) (is (partN [107] 0 1) 7 2 3).length).2.2.1 = 3) && true)))) = false, false = false, 0 = 0, 2 = 2, (!decide (0 + (ck (partN [107] 0 1) (is (partN [107] 0 1) 7 2 3) (is (partN [107] 0 1) 7 2 3).length).2.2.2 = 0)) = false, (-9223372036854775808 : Int) ≤ 0 + (ck (partN [107] 0 1) (is (partN [107] 0 1) 7 2 3) (is (partN [107] 0 1) 7 2 3).length).2.2.2 ∧ 0 + (ck (partN [107] 0 1) (is (partN [107] 0 1) 7 2 3) (is (partN [107] 0 1) 7 2 3).length).2.2.2 ≤ 9223372036854775807, u8L [107], u8L (is (partN [107] 0 1) 7 2 3), 1 ≤ 1, (is (partN [107] 0 1) 7 2 3).length ≤ (is (partN [107] 0 1) 7 2 3).length, 1 ≤ 500000000, (is (partN [107] 0 1) 7 2 3).length ≤ 500000000, tokR 7 2 3, u8L [107], 1 ≤ 1, 1 ≤ 500000000, false = false, false = false, false = false, By.u64 5, 1 = 1, 11 ≤ 140737488355328, false = false, false = false, false = false])) := by kernel_rfl
end
section
open Go.ChangeShapes Go.WideShapes Go.ChangeAt Go.RowKit Go.Sx
theorem tok_u64 {n : Int} (h0 : 0 ≤ n) (h1 : n ≤ 1099511627776) : By.u64 n := by unfold By.u64; omega
theorem chk_body {x y z : Int} (h : tokR x y z) {l r : List Int} (hl : l = body3 x y z ++ r) {m : Nat} (hm : (body3 x y z).length ≤ m) (K : List Nat) :
  chkN K l m = if issN K x y z = l.take m then (x, y, z, 0) else (0, 0, 0, 130) := by
 have hh := h
 unfold tokR at hh
 have lens : (body3 x y z).length = (By.vint x).length + (By.vint y).length + (By.vint z).length := by unfold body3; simp only [List.length_append]
 have d1 : l.drop 0 = By.vint x ++ (By.vint y ++ By.vint z ++ r) := by rw [hl, List.drop_zero]; unfold body3; simp only [List.append_assoc]
 have d2 : l.drop (0 + (By.vint x).length) = By.vint y ++ (By.vint z ++ r) := by
  rw [hl, Nat.zero_add]; unfold body3; simp only [List.append_assoc]; exact List.drop_left
 have d3 : l.drop (0 + (By.vint x).length + (By.vint y).length) = By.vint z ++ r := by
  rw [hl, Nat.zero_add, ← List.length_append]; unfold body3; rw [List.append_assoc (By.vint x ++ By.vint y)]; exact List.drop_left
 have g1 := By.getU_put (n := m) d1 (tok_u64 (by omega) (by omega)) (by omega)
 have g2 := By.getU_put (n := m) d2 (tok_u64 (by omega) (by omega)) (by omega)
 have g3 := By.getU_put (n := m) d3 (tok_u64 (by omega) (by omega)) (by omega)
 unfold chkN
 rw [show By.getU l m 0 = By.getU l m ((0 : Nat) : Int) from rfl, g1]
 dsimp only
 rw [g2]
 dsimp only
 rw [g3]
 by_cases he : issN K x y z = l.take m
 ·rw [if_pos he, if_pos ⟨rfl, by omega, rfl, by omega, rfl, by omega, h, he⟩]
 ·rw [if_neg he, if_neg fun hc => he hc.2.2.2.2.2.2.2]
theorem chk_iss {x y z : Int} (h : tokR x y z) (K : List Nat) : chkN K (issN K x y z) (issN K x y z).length = (x, y, z, 0) := by
 rw [chk_body h (l := issN K x y z) rfl (by rw [issN_len]; omega), if_pos (by rw [List.take_length])]
theorem chk_set {x y z : Int} (h : tokR x y z) (K : List Nat) {i : Nat} {v : Int} (hi : (body3 x y z).length ≤ i) (hi2 : i < (issN K x y z).length) (hv : v ≠ (issN K x y z).getD i 0) :
  chkN K ((issN K x y z).set i v) (issN K x y z).length = (0, 0, 0, 130) := by
 have hl := issN_len K x y z
 have hs : (issN K x y z).set i v = body3 x y z ++ (ci (hmacN K (nats (body3 x y z)))).set (i - (body3 x y z).length) v := by
  unfold issN
  rw [List.set_append_right _ _ hi]
 rw [chk_body h hs (by omega), if_neg]
 intro he
 have hl2 : ((issN K x y z).set i v).length = (issN K x y z).length := List.length_set
 rw [List.take_of_length_le (by omega)] at he
 have e2 := congrArg (fun l => l.getD i 0) he
 simp only [List.getD_eq_getElem?_getD, List.getElem?_set_self hi2] at e2
 rw [List.getD_eq_getElem?_getD] at hv
 exact hv e2.symm
theorem tokR_awake : tokR 7 2 3 := by unfold tokR; decide
theorem body3_awake : body3 7 2 3 = [7, 2, 3] := by
 unfold body3
 rw [By.vint_small (by decide), By.vint_small (by decide), By.vint_small (by decide)]; rfl
theorem tabAw_ok : ∀ f g, tabAw issN chkN f = some g → TabOk Try.prog f g := tabs_ok fun x hx => by
 simp only [List.mem_cons, List.not_mem_nil, or_false] at hx
 rcases hx with rfl | rfl | rfl | rfl
 ·exact iss_tab
 ·exact chk_tab
 ·exact By.uint_tab
 ·exact wi_tab
theorem u8L_of {l : List Int} (h : l.all (fun x => decide (0 ≤ x ∧ x < 256)) = true) : u8L l := fun x hx => of_decide_eq_true (List.all_eq_true.1 h x hx)
theorem u8L_set {l : List Int} (h : u8L l) (i : Nat) {v : Int} (hv : 0 ≤ v ∧ v < 256) : u8L (l.set i v) := fun x hx => by
 rcases List.mem_or_eq_of_mem_set hx with h1 | h1
 ·exact h x h1
 ·rw [h1]; exact hv
theorem u8L_get {l : List Int} (h : u8L l) (i : Nat) : 0 ≤ l.getD i 0 ∧ l.getD i 0 < 256 := By.wfB_get h i
theorem xor_byte {a : Int} (h : 0 ≤ a ∧ a < 256) {b : Nat} (hb : b < 256) (hb0 : b ≠ 0) : (0 ≤ bits .xor .u8 a (b : Int) ∧ bits .xor .u8 a (b : Int) < 256) ∧ bits .xor .u8 a (b : Int) ≠ a := by
 obtain ⟨n, rfl⟩ : ∃ n : Nat, a = (n : Int) := ⟨a.toNat, by omega⟩
 have hn : n < 256 := by omega
 rw [bxor8 hn hb]
 have := xor8 hn hb
 refine ⟨by omega, fun he => hb0 ?_⟩
 have he2 : n ^^^ b = n := by omega
 have h3 := congrArg (fun x => n ^^^ x) he2
 simp only [Nat.xor_self] at h3
 rw [← Nat.xor_assoc, Nat.xor_self, Nat.zero_xor] at h3
 exact h3
theorem aw_run : Makes Try.prog 9 [] (.v (.one (.bool true))) [] := by
 have q := congrFun (congrFun awR issN) chkN
 obtain ⟨K, hK⟩ : ∃ K, partN [(107 : Int)] 0 1 = K := ⟨_, rfl⟩
 rw [hK] at q
 have hb := body3_awake
 have h1 := chk_iss tokR_awake K
 have hl := issN_len K 7 2 3
 rw [hb] at hl
 have hu := issN_u8 K 7 2 3
 obtain ⟨x, hx⟩ : ∃ x, issN K 7 2 3 = x := ⟨_, rfl⟩
 have hg := xor_byte (u8L_get hu 34) (b := 1) (by decide) (by decide)
 have h2 := chk_set tokR_awake K (i := 34) (v := bits .xor .u8 ((issN K 7 2 3).getD 34 0) 1) (by rw [hb]; decide) (by rw [hl]; decide) hg.2
 have us := u8L_set hu 34 hg.1
 have u1 : u8L [107] := u8L_of (by decide)
 have v5 : By.vint 5 = [5] := By.vint_small (by decide)
 rw [hx] at q h1 hl hu h2 us
 have hl3 : x.length = 35 := hl
 rw [h1, h2] at q
 refine makes_of (v := .v (.one (.bool true))) (bs := []) tabAw_ok q ?_ List.nodup_nil rfl trivial (us := []) rfl
 simp only [allP, List.length_set, hl3, v5]
 repeat' (first | exact trivial | exact u1 | exact hu | exact us | exact tokR_awake | refine And.intro ?_ ?_)
 all_goals first | rfl | omega | decide | (show By.u64 _; unfold By.u64; omega)
def yesT := fresh fun args h => match args with
 | [] => some (.v (.one (.bool true)), [], h, [])
 | _ => none
theorem yes_tab : TabOk Try.prog 9 yesT := fresh_ok fun args h v bs h' ob hg hob => by
 split at hg
 ·cases hg
  refine ⟨rfl, fun ρ us hu => ?_⟩
  obtain rfl : us = [] := hu
  exact aw_run
 ·cases hg
end
end Go.Proofs.Ytbamfolinbehiaa
