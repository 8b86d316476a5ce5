/- The reference's Issue and Check: their runs; The reference's Issue: the contract; The reference's Check: its runs; The reference's Check: the contract; The reference's has: the contract. -/
import Derived.Test.YtbamfolinbehiaaRc
import Derived.Test.YtbamfolinbehiaaRd
import Derived.Test.YtbamfolinbehiaaWf
import Derived.Test.YtbamfolinbehiaaWh
section
namespace Go.Proofs.Ytbamfolinbehiaa
open Go.Sx
def wrU (n : Int) : Int := IntKind.wrap .u64 n
theorem ri1 : (fun (n lo hi : Int) => retV [] (call0 4 33 [si .i64 n, si .i64 lo, si .i64 hi] [] [true])) = fun (n : Int) (lo : Int) (hi : Int) => some (V.v (V1.one (C.sbool (decide (n ≤ hi)))), ([], [decide (lo ≤ n) = true])) := by kernel_rfl
theorem ri0 : (fun (n lo hi : Int) => retV [] (call0 4 33 [si .i64 n, si .i64 lo, si .i64 hi] [] [false])) = fun (n : Int) (lo : Int) (_ : Int) => some (V.v (V1.one (C.bool (false))), ([], [decide (lo ≤ n) = false])) := by kernel_rfl
def gRhV (hm : List Nat → List Nat → List Nat) : Sx.Loc := fun args bs => match args, bs with
 | [.v (.one (.slice 0 (.c 0) 1 n _)), .v (.one (.slice 1 j 1 m _))], [⟨false, .ints .u8 b⟩, ⟨false, .ints .u8 c⟩] => some (.v (.aggi .u8 (ci (hm (partN b 0 n.v) (partN c j.v m.v)))), [roH b, roH c], [u8L b, u8L c, n.v ≤ b.length, j.v + m.v ≤ c.length, b.length ≤ 500000000, c.length ≤ 500000000])
 | _, _ => none
def tabJs (hm : List Nat → List Nat → List Nat) := tabs [(35, loc wantM (gRhV hm)), (34, loc By.wantRo (By.putR .u64 By.vint By.u64)), (33, numTab [.i64, .i64, .i64] gWi)]
noncomputable def callJs (hm : List Nat → List Nat → List Nat) (d : Nat) := callN Try.prog (tabJs hm) (fun _ => false) 100000 d
noncomputable def JL := loopN Try.prog 16 0
noncomputable def EJL : List Item := .code (.loop JL.1) :: JL.2
noncomputable def KJL : List Item := .inLoop JL.1 :: JL.2
noncomputable def jsR (sel : List Nat) (hm : List Nat → List Nat → List Nat) (k : List Int) (n c : Nat) (x y z : Int) (h : List Bool) := retV sel (callJs hm 4 16 [bl0 0 n c, tok x y z] [roH k] h)
theorem js0 : (fun (hm : List Nat → List Nat → List Nat) (k : List Int) (n c : Nat) (x y z : Int) => jsR [0] hm k n c x y z [true]) = fun _ k _ _ x _ _ => some (.tup [.one .nils, .one (.int .i64 130)], ([SB.mk false (.ints .u8 k)], [(!decide (0 ≤ x ∧ x ≤ 1073741824)) = true])) := by kernel_rfl
theorem js1 : (fun (hm : List Nat → List Nat → List Nat) (k : List Int) (n c : Nat) (x y z : Int) => jsR [0] hm k n c x y z [false, true]) = fun _ k _ _ x y _ => some (.tup [.one .nils, .one (.int .i64 130)], ([SB.mk false (.ints .u8 k)], [(!decide (1 ≤ y ∧ y ≤ 1099511627776)) = true, (!decide (0 ≤ x ∧ x ≤ 1073741824)) = false])) := by kernel_rfl
theorem js2 : (fun (hm : List Nat → List Nat → List Nat) (k : List Int) (n c : Nat) (x y z : Int) => jsR [0] hm k n c x y z [false, false, true]) = fun _ k _ _ x y z => some (.tup [.one .nils, .one (.int .i64 130)], ([SB.mk false (.ints .u8 k)], [(!decide (1 ≤ z ∧ z ≤ 1099511627776)) = true, (!decide (1 ≤ y ∧ y ≤ 1099511627776)) = false, (!decide (0 ≤ x ∧ x ≤ 1073741824)) = false])) := by kernel_rfl
def TJ (k B S : List Int) (i : Nat) (h : List Bool) : St := ⟨[(6, bl0 1 (B ++ S.take i).length (B ++ S.take i).length), (7, .v (.one (.ptr 2 (.c 0) 1 0))), (8, si .i64 i)], [roH k, ⟨true, .ints .u8 (B ++ S.take i)⟩, ⟨true, .ints .u8 S⟩], h, []⟩
theorem jsE : (fun (hm : List Nat → List Nat → List Nat) (k : List Int) (n c : Nat) (x y z : Int) => stopV [6, 7, 8] [0, 4, 5] (run Try.prog (callJs hm 4) (fun _ => false) (fnF 16) 0 100000 [false] [.code (bodyF 16)] ⟨argSlots 0 [bl0 0 n c, tok x y z], [roH k], [false, false, false], []⟩)) = fun hm k n _ x y z => some (EJL, ([(6, .v (.one (.slice 4 (.c 0) 1 (.s (body3 (wrU x) (wrU y) (wrU z)).length) (.s (body3 (wrU x) (wrU y) (wrU z)).length)))), (7, .v (.one (.ptr 5 (.c 0) 1 0))), (8, .v (.one (.int .i64 0)))], ([SB.mk false (.ints .u8 k), SB.mk true (.ints .u8 (body3 (wrU x) (wrU y) (wrU z))), SB.mk true (.ints .u8 (ci (hm (partN k 0 n) (partN (body3 (wrU x) (wrU y) (wrU z)) 0 (body3 (wrU x) (wrU y) (wrU z)).length))))], [(ci (hm (partN k 0 n) (partN (body3 (wrU x) (wrU y) (wrU z)) 0 (body3 (wrU x) (wrU y) (wrU z)).length))).length = 32, (ci (hm (partN k 0 n) (partN (body3 (wrU x) (wrU y) (wrU z)) 0 (body3 (wrU x) (wrU y) (wrU z)).length))).length = 32, u8L k, u8L (body3 (wrU x) (wrU y) (wrU z)), n ≤ k.length, 0 + (body3 (wrU x) (wrU y) (wrU z)).length ≤ (body3 (wrU x) (wrU y) (wrU z)).length, k.length ≤ 500000000, (body3 (wrU x) (wrU y) (wrU z)).length ≤ 500000000, By.u64 (wrU z), (By.vint (wrU x) ++ By.vint (wrU y)).length = (By.vint (wrU x) ++ By.vint (wrU y)).length, (By.vint (wrU x) ++ By.vint (wrU y)).length + 10 ≤ 140737488355328, By.u64 (wrU y), (By.vint (wrU x)).length = (By.vint (wrU x)).length, (By.vint (wrU x)).length + 10 ≤ 140737488355328, By.u64 (wrU x), (!decide (1 ≤ z ∧ z ≤ 1099511627776)) = false, (!decide (1 ≤ y ∧ y ≤ 1099511627776)) = false, (!decide (0 ≤ x ∧ x ≤ 1073741824)) = false]))) := by kernel_rfl
noncomputable def jsL (hm : List Nat → List Nat → List Nat) (lim : Nat) (h : List Bool) (k B S : List Int) (i : Nat) := run Try.prog (callJs hm 4) (fun _ => false) (fnF 16) lim 100000 [] (.code JL.1 :: .inLoop JL.1 :: JL.2) (TJ k B S i h)
theorem jsT : (fun (hm : List Nat → List Nat → List Nat) (k B S : List Int) (i : Nat) => stopV [6, 7, 8] [0, 4, 2] (jsL hm (JL.2.length + 1) [true, true] k B S i)) = fun _ k B S (i : Nat) => some (KJL, ([(6, .v (.one (.slice 4 (.c 0) 1 (.s ((B ++ S.take i).length + 1)) (.s ((B ++ S.take i).length + 1))))), (7, .v (.one (.ptr 2 (.c 0) 1 0))), (8, .v (.one (.sint .i64 ((i : Int) + 1))))], ([SB.mk false (.ints .u8 k), SB.mk true (.ints .u8 (B ++ S.take i ++ [List.getD S i 0])), SB.mk true (.ints .u8 S)], [(-9223372036854775808) ≤ (i : Int) + 1 ∧ (i : Int) + (1 : Int) ≤ 9223372036854775807, 0 = 0, (B ++ S.take i).length = (B ++ S.take i).length, ((B ++ S.take i).length + 1) * 1 ≤ 140737488355328, (B ++ S.take i).length + 1 ≤ 9223372036854775807, i < S.length, 0 ≤ (i : Int), (i : Int) < 32, decide ((i : Int) < 32) = true]))) := by kernel_rfl
theorem jsX : (fun (hm : List Nat → List Nat → List Nat) (k B S : List Int) (i : Nat) => endV [0, 1] (jsL hm 0 [false] k B S i)) = fun _ k B S (i : Nat) => some (.tup [.one (.slice 1 (.c 0) 1 (.s (B ++ S.take i).length) (.s (B ++ S.take i).length)), .one (.int .i64 0)], ([SB.mk false (.ints .u8 k), SB.mk true (.ints .u8 (B ++ S.take i))], [decide ((i : Int) < 32) = false])) := by kernel_rfl
end Go.Proofs.Ytbamfolinbehiaa
end
section
namespace Go.Proofs.Ytbamfolinbehiaa
open Go.ChangeShapes Go.WideShapes Go.ChangeAt Go.RowKit Go.Sx
theorem rin_works (n lo hi : Int) : Works Try.prog 33 [si .i64 n, si .i64 lo, si .i64 hi] [] (.v (.one (.sbool (decide (lo ≤ n ∧ n ≤ hi))))) [] := by
 by_cases h : lo ≤ n
 ·refine works_of (r := []) no_tabs (cf3 ri1 n lo hi) ⟨decide_eq_true h, trivial⟩ List.nodup_nil ?_ trivial
  show decide (n ≤ hi) = decide (lo ≤ n ∧ n ≤ hi)
  simp [h]
 ·refine works_of (r := []) no_tabs (cf3 ri0 n lo hi) ⟨decide_eq_false h, trivial⟩ List.nodup_nil ?_ trivial
  show false = decide (lo ≤ n ∧ n ≤ hi)
  simp [h]
theorem rin_tab : TabOk Try.prog 33 (numTab [.i64, .i64, .i64] gWi) := numTab_ok fun ns hl hp => by
 match ns, hl with
 | [n, lo, hi], _ => exact ⟨rfl, noBs (rin_works n lo hi) ⟨_, _, rfl, ⟨rfl, rfl⟩, _, _, rfl, ⟨rfl, rfl⟩, _, _, rfl, ⟨rfl, rfl⟩, rfl⟩⟩
theorem rhV_tab : TabOk Try.prog 35 (loc wantM (gRhV hmacN)) := loc_ok fun xs bs v bs' ob hg hob hokb => by
 unfold gRhV at hg
 split at hg
 ·rename_i n c j m d b x
  cases hg
  intro ρ K w us hm hu
  obtain ⟨u1, s1, rfl, k1, u2, s2, rfl, k2, k3⟩ := hu
  exact rh_works (hob (u8L b) (by simp)) (hob (u8L x) (by simp)) (hob (n.v ≤ b.length) (by simp)) (hob (j.v + m.v ≤ x.length) (by simp)) (hob (b.length ≤ 500000000) (by simp)) (hob (x.length ≤ 500000000) (by simp)) ρ K w _ hm ⟨u1, _, rfl, bmS_rel k1, u2, _, rfl, slH_rel k2, k3⟩
 ·cases hg
theorem tabJs_ok : ∀ f g, tabJs hmacN f = some g → TabOk Try.prog f g := tabs_ok fun x hx => by
 simp only [List.mem_cons, List.not_mem_nil, or_false] at hx
 rcases hx with rfl | rfl | rfl
 ·exact rhV_tab
 ·exact By.ru_tab
 ·exact rin_tab
theorem callJs_ok (d : Nat) : CallOk Try.prog (callJs hmacN d) := callN_sound tabJs_ok d
theorem funJs : Try.prog.funcs[16]? = some (fnF 16) := by kernel_rfl
theorem bodJs : (fnF 16).body = some (bodyF 16) := by kernel_rfl
theorem tmpJs : 2 ≤ (fnF 16).ntmps := Nat.le_of_ble_eq_true (by kernel_rfl)
theorem take_one {l : List Int} {i : Nat} (h : i < l.length) : l.take (i + 1) = l.take i ++ [l.getD i 0] := by
 rw [List.take_add_one]; simp [h]
theorem wrU_id {n : Int} (h0 : 0 ≤ n) (h1 : n ≤ 1099511627776) : wrU n = n := w64u h0 h1
theorem bJ {k B S B' : List Int} {i : Nat} {h : List Bool} {b c : Nat} (e : B' = B ++ S.take i) (nd : ([0, b, c] : List Nat).Nodup) : leView [0, b, c] [(6, .v (.one (.slice b (.c 0) 1 (.s B'.length) (.s B'.length)))), (7, .v (.one (.ptr c (.c 0) 1 0))), (8, .v (.one (.sint .i64 (i : Int))))] [SB.mk false (.ints .u8 k), SB.mk true (.ints .u8 B'), SB.mk true (.ints .u8 S)] (TJ k B S i h) := by
 subst e
 exact ⟨nd, ⟨⟨rfl, rfl, rfl, rfl, rfl, Nat.le_refl _, Nat.le_refl _⟩, ⟨rfl, rfl, rfl, rfl, rfl⟩, ⟨rfl, rfl, rfl⟩, trivial⟩, ⟨⟨id, rfl, rfl⟩, ⟨id, rfl, rfl⟩, ⟨id, rfl, rfl⟩, trivial⟩⟩
theorem riss_ok {k : List Int} {n c : Nat} {x y z : Int} (hk : u8L k) (hn : n ≤ k.length) (hkl : k.length ≤ 500000000) (h : tokR x y z) :
  Works Try.prog 16 [bl0 0 n c, tok x y z] [roH k] (tokO 1 (issN (partN k 0 n) x y z).length) [roH k, oB (issN (partN k 0 n) x y z)] := by
 have hb := body3_len h
 have hh := h
 unfold tokR at hh
 have q := cf7 jsE hmacN k n c x y z
 rw [wrU_id (n := x) (by omega) (by omega), wrU_id (n := y) (by omega) (by omega), wrU_id (n := z) (by omega) (by omega), partN_all] at q
 have l2 : (By.vint x ++ By.vint y).length ≤ 30 := by
  have : (body3 x y z).length = (By.vint x ++ By.vint y).length + (By.vint z).length := by unfold body3; rw [List.length_append]
  omega
 have l1 : (By.vint x).length ≤ 30 := by
  rw [List.length_append] at l2; omega
 have u1 := body3_u8 x y z
 have hS : (ci (hmacN (partN k 0 n) (nats (body3 x y z)))).length = 32 := by rw [ci_len, hmacN_len]
 obtain ⟨S, eS⟩ : ∃ S, ci (hmacN (partN k 0 n) (nats (body3 x y z))) = S := ⟨_, rfl⟩
 have eI : issN (partN k 0 n) x y z = body3 x y z ++ S := by rw [← eS]; rfl
 rw [eS] at q hS
 rw [eI]
 refine works_loop (I := Nat) (Inv := fun i hs => TJ k (body3 x y z) S i hs) (good := fun i => i ≤ 32) (μ := fun i => 32 - i) (i := 0) (r := [4, 5]) (callJs_ok 4) funJs bodJs (by exact tmpJs) (fun _ _ => ⟨rfl, rfl⟩) q ?_ ?_ (Nat.zero_le _) ?_
 ·have uz : By.u64 z := by unfold By.u64; omega
  have uy : By.u64 y := by unfold By.u64; omega
  have ux : By.u64 x := by unfold By.u64; omega
  exact ⟨hS, hS, hk, u1, hn, by omega, hkl, by omega, uz, rfl, by omega, uy, rfl, by omega, ux, by rw [decide_eq_true hh.2.2]; rfl, by rw [decide_eq_true hh.2.1]; rfl, by rw [decide_eq_true hh.1]; rfl, trivial⟩
 ·exact ⟨(by decide : ([0, 4, 5] : List Nat).Nodup), ⟨⟨rfl, rfl, rfl, by simp, by simp, by simp⟩, ⟨rfl, rfl, rfl, rfl, rfl⟩, ⟨rfl, rfl, rfl⟩, trivial⟩, ⟨⟨id, rfl, rfl⟩, ⟨id, rfl, by simp [body3]⟩, ⟨id, rfl, rfl⟩, trivial⟩⟩
 ·intro i hi
  have hlen : (body3 x y z ++ S.take i).length ≤ 62 := by rw [List.length_append, List.length_take]; omega
  by_cases hlt : i < 32
  ·have et := take_one (l := S) (i := i) (by omega)
   refine .round [true, true] [] _ _ _ [4, 2] _ _ _ (i + 1) (cf5 jsT hmacN k (body3 x y z) S i) ?_ ?_ hlt (by omega)
   ·exact ⟨⟨by omega, by omega⟩, rfl, rfl, by omega, by omega, by omega, by omega, by omega, decide_eq_true (by omega), trivial⟩
   ·have e : (body3 x y z ++ S.take i ++ [S.getD i 0]).length = (body3 x y z ++ S.take i).length + 1 := by rw [List.length_append]; rfl
    rw [← e]
    exact bJ (i := i + 1) (by rw [et, List.append_assoc]) (by decide)
  ·have e : i = 32 := by omega
   subst e
   have e32 : S.take 32 = S := List.take_of_length_le (by omega)
   have q2 := cf5 jsX hmacN k (body3 x y z) S 32
   rw [e32] at q2
   exact .stop [false] [] _ _ [1] _ _ _ q2 ⟨decide_eq_false (by omega), trivial⟩ (by decide : ([0, 1] : List Nat).Nodup) ⟨⟨rfl, rfl, rfl, rfl, Nat.le_refl _, Nat.le_refl _⟩, ⟨rfl, rfl⟩, trivial⟩ ⟨⟨id, rfl, rfl⟩, ⟨id, rfl, rfl⟩, trivial⟩
theorem riss_bad {k : List Int} {n c : Nat} {x y z : Int} (h : ¬ tokR x y z) : Works Try.prog 16 [bl0 0 n c, tok x y z] [roH k] tokX [roH k] := by
 have nd : (List.range 1 ++ ([] : List Nat)).Nodup := by decide
 by_cases h1 : 0 ≤ x ∧ x ≤ 1073741824
 ·by_cases h2 : 1 ≤ y ∧ y ≤ 1099511627776
  ·have h3 : ¬ (1 ≤ z ∧ z ≤ 1099511627776) := fun h3 => h ⟨h1, h2, h3⟩
   exact works_of (r := []) tabJs_ok (cf7 js2 hmacN k n c x y z) ⟨by rw [decide_eq_false h3]; rfl, by rw [decide_eq_true h2]; rfl, by rw [decide_eq_true h1]; rfl, trivial⟩ nd ⟨trivial, ⟨rfl, rfl⟩, trivial⟩ ⟨⟨fun h => h, rfl, rfl⟩, trivial⟩
  ·exact works_of (r := []) tabJs_ok (cf7 js1 hmacN k n c x y z) ⟨by rw [decide_eq_false h2]; rfl, by rw [decide_eq_true h1]; rfl, trivial⟩ nd ⟨trivial, ⟨rfl, rfl⟩, trivial⟩ ⟨⟨fun h => h, rfl, rfl⟩, trivial⟩
 ·exact works_of (r := []) tabJs_ok (cf7 js0 hmacN k n c x y z) ⟨by rw [decide_eq_false h1]; rfl, trivial⟩ nd ⟨trivial, ⟨rfl, rfl⟩, trivial⟩ ⟨⟨fun h => h, rfl, rfl⟩, trivial⟩
theorem iss_like {f : FuncId} (hok : ∀ {k : List Int} {n c : Nat} {x y z : Int}, u8L k → n ≤ k.length → k.length ≤ 500000000 → tokR x y z → Works Try.prog f [bl0 0 n c, tok x y z] [roH k] (tokO 1 (issN (partN k 0 n) x y z).length) [roH k, oB (issN (partN k 0 n) x y z)])
  (hbad : ∀ {k : List Int} {n c : Nat} {x y z : Int}, ¬ tokR x y z → Works Try.prog f [bl0 0 n c, tok x y z] [roH k] tokX [roH k]) : TabOk Try.prog f (locH wantH (gIs issN)) := locH_ok
 (loc_ok fun xs bs v bs' ob hg hob hokb => by
  change gIsT issN _ _ = _ at hg
  unfold gIsT at hg
  split at hg
  ·rename_i n c x y z k
   cases hg
   intro ρ K w us hm hu
   obtain ⟨u1, s1, rfl, k1, k2⟩ := hu
   exact hok (hob (u8L k) (by simp)) (hob (n.v ≤ k.length) (by simp)) (hob (k.length ≤ 500000000) (by simp)) (hob (tokR x y z) (by simp)) ρ K w _ hm ⟨u1, _, rfl, bl0_rel k1, k2⟩
  ·cases hg)
 (loc_ok fun xs bs v bs' ob hg hob hokb => by
  change gIsF _ _ = _ at hg
  unfold gIsF at hg
  split at hg
  ·rename_i n c x y z k
   cases hg
   intro ρ K w us hm hu
   obtain ⟨u1, s1, rfl, k1, k2⟩ := hu
   exact hbad (hob (¬ tokR x y z) (by simp)) ρ K w _ hm ⟨u1, _, rfl, bl0_rel k1, k2⟩
  ·cases hg)
theorem riss_tab : TabOk Try.prog 16 (locH wantH (gIs issN)) := iss_like riss_ok riss_bad
end Go.Proofs.Ytbamfolinbehiaa
end
section
namespace Go.Proofs.Ytbamfolinbehiaa
open Go.Sx
def tabJc (G : GU) (is : List Nat → Int → Int → Int → List Int) := tabs [(36, loc By.wantRo (gGetV G)), (16, locH wantH (gIs is))]
def gA (G : GU) (b : List Int) (m : Nat) := G b m 0
def gB (G : GU) (b : List Int) (m : Nat) := G b m (gA G b m).2.1
def gC (G : GU) (b : List Int) (m : Nat) := G b m (gB G b m).2.1
def isG (G : GU) (is : List Nat → Int → Int → Int → List Int) (k b : List Int) (n m : Nat) := is (partN k 0 n) (IntKind.wrap .i64 (gA G b m).1) (IntKind.wrap .i64 (gB G b m).1) (IntKind.wrap .i64 (gC G b m).1)
noncomputable def jcR (G : GU) (is : List Nat → Int → Int → Int → List Int) (k b : List Int) (n c m d : Nat) (h : List Bool) := retV [0, 1] (callN Try.prog (tabJc G is) (fun _ => false) 100000 4 17 [bl0 0 n c, bl0 1 m d] [roH k, roH b] h)
theorem jc0 : (fun (G : GU) (is : List Nat → Int → Int → Int → List Int) (k b : List Int) (n c m d : Nat) => jcR G is k b n c m d [true]) = fun G _ k b _ _ m _ => some (.tup [.agg [.int .i64 0, .int .i64 0, .int .i64 0], .one (.int .i64 130)], ([SB.mk false (.ints .u8 k), SB.mk false (.ints .u8 b)], [(!decide ((gA G b m).2.2 = 0)) = true, m ≤ b.length, m ≤ 1000000000, By.wfB b])) := by kernel_rfl
theorem jc1 : (fun (G : GU) (is : List Nat → Int → Int → Int → List Int) (k b : List Int) (n c m d : Nat) => jcR G is k b n c m d [false, true]) = fun G _ k b _ _ m _ => some (.tup [.agg [.int .i64 0, .int .i64 0, .int .i64 0], .one (.int .i64 130)], ([SB.mk false (.ints .u8 k), SB.mk false (.ints .u8 b)], [decide (1099511627776 < (gA G b m).1) = true, (!decide ((gA G b m).2.2 = 0)) = false, m ≤ b.length, m ≤ 1000000000, By.wfB b])) := by kernel_rfl
theorem jc2 : (fun (G : GU) (is : List Nat → Int → Int → Int → List Int) (k b : List Int) (n c m d : Nat) => jcR G is k b n c m d [false, false, true]) = fun G _ k b _ _ m _ => some (.tup [.agg [.int .i64 0, .int .i64 0, .int .i64 0], .one (.int .i64 130)], ([SB.mk false (.ints .u8 k), SB.mk false (.ints .u8 b)], [(!decide ((gB G b m).2.2 = 0)) = true, m ≤ b.length, m ≤ 1000000000, By.wfB b, decide (1099511627776 < (gA G b m).1) = false, (!decide ((gA G b m).2.2 = 0)) = false, m ≤ b.length, m ≤ 1000000000, By.wfB b])) := by kernel_rfl
theorem jc3 : (fun (G : GU) (is : List Nat → Int → Int → Int → List Int) (k b : List Int) (n c m d : Nat) => jcR G is k b n c m d [false, false, false, true]) = fun G _ k b _ _ m _ => some (.tup [.agg [.int .i64 0, .int .i64 0, .int .i64 0], .one (.int .i64 130)], ([SB.mk false (.ints .u8 k), SB.mk false (.ints .u8 b)], [decide (1099511627776 < (gB G b m).1) = true, (!decide ((gB G b m).2.2 = 0)) = false, m ≤ b.length, m ≤ 1000000000, By.wfB b, decide (1099511627776 < (gA G b m).1) = false, (!decide ((gA G b m).2.2 = 0)) = false, m ≤ b.length, m ≤ 1000000000, By.wfB b])) := by kernel_rfl
theorem jc4 : (fun (G : GU) (is : List Nat → Int → Int → Int → List Int) (k b : List Int) (n c m d : Nat) => jcR G is k b n c m d [false, false, false, false, true]) = fun G _ k b _ _ m _ => some (.tup [.agg [.int .i64 0, .int .i64 0, .int .i64 0], .one (.int .i64 130)], ([SB.mk false (.ints .u8 k), SB.mk false (.ints .u8 b)], [(!decide ((gC G b m).2.2 = 0)) = true, m ≤ b.length, m ≤ 1000000000, By.wfB b, decide (1099511627776 < (gB G b m).1) = false, (!decide ((gB G b m).2.2 = 0)) = false, m ≤ b.length, m ≤ 1000000000, By.wfB b, decide (1099511627776 < (gA G b m).1) = false, (!decide ((gA G b m).2.2 = 0)) = false, m ≤ b.length, m ≤ 1000000000, By.wfB b])) := by kernel_rfl
theorem jc5 : (fun (G : GU) (is : List Nat → Int → Int → Int → List Int) (k b : List Int) (n c m d : Nat) => jcR G is k b n c m d [false, false, false, false, false, true]) = fun G _ k b _ _ m _ => some (.tup [.agg [.int .i64 0, .int .i64 0, .int .i64 0], .one (.int .i64 130)], ([SB.mk false (.ints .u8 k), SB.mk false (.ints .u8 b)], [decide (1099511627776 < (gC G b m).1) = true, (!decide ((gC G b m).2.2 = 0)) = false, m ≤ b.length, m ≤ 1000000000, By.wfB b, decide (1099511627776 < (gB G b m).1) = false, (!decide ((gB G b m).2.2 = 0)) = false, m ≤ b.length, m ≤ 1000000000, By.wfB b, decide (1099511627776 < (gA G b m).1) = false, (!decide ((gA G b m).2.2 = 0)) = false, m ≤ b.length, m ≤ 1000000000, By.wfB b])) := by kernel_rfl
theorem jc6 : (fun (G : GU) (is : List Nat → Int → Int → Int → List Int) (k b : List Int) (n c m d : Nat) => jcR G is k b n c m d [false, false, false, false, false, false, false]) = fun G _ k b _ _ m _ => some (.tup [.agg [.int .i64 0, .int .i64 0, .int .i64 0], .one (.int .i64 130)], ([SB.mk false (.ints .u8 k), SB.mk false (.ints .u8 b)], [¬tokR (IntKind.wrap .i64 (gA G b m).1) (IntKind.wrap .i64 (gB G b m).1) (IntKind.wrap .i64 (gC G b m).1), decide (1099511627776 < (gC G b m).1) = false, (!decide ((gC G b m).2.2 = 0)) = false, m ≤ b.length, m ≤ 1000000000, By.wfB b, decide (1099511627776 < (gB G b m).1) = false, (!decide ((gB G b m).2.2 = 0)) = false, m ≤ b.length, m ≤ 1000000000, By.wfB b, decide (1099511627776 < (gA G b m).1) = false, (!decide ((gA G b m).2.2 = 0)) = false, m ≤ b.length, m ≤ 1000000000, By.wfB b])) := by kernel_rfl
theorem jc7 : (fun (G : GU) (is : List Nat → Int → Int → Int → List Int) (k b : List Int) (n c m d : Nat) => jcR G is k b n c m d [false, false, false, false, false, false, true, true, false, true]) = fun G is k b n _ m _ => some (.tup [.agg [.int .i64 0, .int .i64 0, .int .i64 0], .one (.int .i64 130)], ([SB.mk false (.ints .u8 k), SB.mk false (.ints .u8 b)], [(!List.map (fun (n : Int) => UInt8.ofNat (Int.toNat n)) (isG G is k b n m) == List.map (fun (n : Int) => UInt8.ofNat (Int.toNat n)) (List.take m (List.drop 0 b))) = true, 0 + m ≤ b.length, 0 = 0, (isG G is k b n m).length = (isG G is k b n m).length, tokR (IntKind.wrap .i64 (gA G b m).1) (IntKind.wrap .i64 (gB G b m).1) (IntKind.wrap .i64 (gC G b m).1), u8L k, n ≤ k.length, k.length ≤ 500000000, decide (1099511627776 < (gC G b m).1) = false, (!decide ((gC G b m).2.2 = 0)) = false, m ≤ b.length, m ≤ 1000000000, By.wfB b, decide (1099511627776 < (gB G b m).1) = false, (!decide ((gB G b m).2.2 = 0)) = false, m ≤ b.length, m ≤ 1000000000, By.wfB b, decide (1099511627776 < (gA G b m).1) = false, (!decide ((gA G b m).2.2 = 0)) = false, m ≤ b.length, m ≤ 1000000000, By.wfB b])) := by kernel_rfl
theorem jc8 : (fun (G : GU) (is : List Nat → Int → Int → Int → List Int) (k b : List Int) (n c m d : Nat) => jcR G is k b n c m d [false, false, false, false, false, false, true, true, false, false]) = fun G is k b n _ m _ => some (.tup [.agg [.sint .i64 (IntKind.wrap .i64 (gA G b m).1), .sint .i64 (IntKind.wrap .i64 (gB G b m).1), .sint .i64 (IntKind.wrap .i64 (gC G b m).1)], .one (.int .i64 0)], ([SB.mk false (.ints .u8 k), SB.mk false (.ints .u8 b)], [(!List.map (fun (n : Int) => UInt8.ofNat (Int.toNat n)) (isG G is k b n m) == List.map (fun (n : Int) => UInt8.ofNat (Int.toNat n)) (List.take m (List.drop 0 b))) = false, 0 + m ≤ b.length, 0 = 0, (isG G is k b n m).length = (isG G is k b n m).length, tokR (IntKind.wrap .i64 (gA G b m).1) (IntKind.wrap .i64 (gB G b m).1) (IntKind.wrap .i64 (gC G b m).1), u8L k, n ≤ k.length, k.length ≤ 500000000, decide (1099511627776 < (gC G b m).1) = false, (!decide ((gC G b m).2.2 = 0)) = false, m ≤ b.length, m ≤ 1000000000, By.wfB b, decide (1099511627776 < (gB G b m).1) = false, (!decide ((gB G b m).2.2 = 0)) = false, m ≤ b.length, m ≤ 1000000000, By.wfB b, decide (1099511627776 < (gA G b m).1) = false, (!decide ((gA G b m).2.2 = 0)) = false, m ≤ b.length, m ≤ 1000000000, By.wfB b])) := by kernel_rfl
end Go.Proofs.Ytbamfolinbehiaa
end
section
namespace Go.Proofs.Ytbamfolinbehiaa
open Go.ChangeShapes Go.WideShapes Go.ChangeAt Go.RowKit Go.Sx
theorem tabJc_ok : ∀ f g, tabJc By.getU issN f = some g → TabOk Try.prog f g := tabs_ok fun x hx => by
 simp only [List.mem_cons, List.not_mem_nil, or_false] at hx
 rcases hx with rfl | rfl
 ·exact By.getref_tab
 ·exact riss_tab
theorem rchk_works {k b : List Int} {n c m d : Nat} (hk : u8L k) (hb : u8L b) (hn : n ≤ k.length) (hm : m ≤ b.length) (hkl : k.length ≤ 500000000) (hbl : b.length ≤ 500000000) :
  Works Try.prog 17 [bl0 0 n c, bl0 1 m d] [roH k, roH b] (chkV (chkN (partN k 0 n) b m)) [roH k, roH b] := by
 have app : ∀ {A : Type} {f g : GU → (List Nat → Int → Int → Int → List Int) → List Int → List Int → Nat → Nat → Nat → Nat → A}, f = g → f By.getU issN k b n c m d = g By.getU issN k b n c m d := fun h => by rw [h]
 have q0 := app jc0; have q1 := app jc1; have q2 := app jc2; have q3 := app jc3; have q4 := app jc4; have q5 := app jc5; have q6 := app jc6; have q7 := app jc7; have q8 := app jc8
 have r1 := By.getU_range hb m 0
 obtain ⟨v1, t1, e1, hg1⟩ : ∃ v t e, By.getU b m 0 = (v, t, e) := ⟨_, _, _, rfl⟩
 rw [hg1] at r1
 have r2 := By.getU_range hb m t1
 obtain ⟨v2, t2, e2, hg2⟩ : ∃ v t e, By.getU b m t1 = (v, t, e) := ⟨_, _, _, rfl⟩
 rw [hg2] at r2
 have r3 := By.getU_range hb m t2
 obtain ⟨v3, t3, e3, hg3⟩ : ∃ v t e, By.getU b m t2 = (v, t, e) := ⟨_, _, _, rfl⟩
 rw [hg3] at r3
 have hN : chkN (partN k 0 n) b m = if e1 = 0 ∧ v1 ≤ 1099511627776 ∧ e2 = 0 ∧ v2 ≤ 1099511627776 ∧ e3 = 0 ∧ v3 ≤ 1099511627776 ∧ tokR v1 v2 v3 ∧ issN (partN k 0 n) v1 v2 v3 = b.take m then (v1, v2, v3, 0) else (0, 0, 0, 130) := by
  unfold chkN; rw [hg1]; dsimp only; rw [hg2]; dsimp only; rw [hg3]
 rw [hN]
 have eA : gA By.getU b m = (v1, t1, e1) := hg1
 have eB : gB By.getU b m = (v2, t2, e2) := by unfold gB; rw [eA]; exact hg2
 have eC : gC By.getU b m = (v3, t3, e3) := by unfold gC; rw [eB]; exact hg3
 have eI : isG By.getU issN k b n m = issN (partN k 0 n) (IntKind.wrap .i64 v1) (IntKind.wrap .i64 v2) (IntKind.wrap .i64 v3) := by unfold isG; rw [eA, eB, eC]
 simp only [eA, eB, eC, eI] at q0 q1 q2 q3 q4 q5 q6 q7 q8
 have gm : m ≤ 1000000000 := by omega
 have lb : leBs (List.range 2 ++ []) [roH k, roH b] [roH k, roH b] := ⟨⟨fun h => h, rfl, rfl⟩, ⟨fun h => h, rfl, rfl⟩, trivial⟩
 have lx : leV (List.range 2 ++ []) (.tup [.agg [.int .i64 0, .int .i64 0, .int .i64 0], .one (.int .i64 130)]) (chkV (0, 0, 0, 130)) := ⟨⟨⟨rfl, rfl⟩, ⟨rfl, rfl⟩, ⟨rfl, rfl⟩, trivial⟩, ⟨rfl, rfl⟩, trivial⟩
 have nz : ∀ {e : Int}, e ≠ 0 → (!decide (e = 0)) = true := fun h => by rw [decide_eq_false h]; rfl
 have yz : ∀ {e : Int}, e = 0 → (!decide (e = 0)) = false := fun h => by rw [decide_eq_true h]; rfl
 by_cases h1 : e1 = 0
 ·by_cases h2 : v1 ≤ 1099511627776
  ·by_cases h3 : e2 = 0
   ·by_cases h4 : v2 ≤ 1099511627776
    ·by_cases h5 : e3 = 0
     ·by_cases h6 : v3 ≤ 1099511627776
      ·dsimp only at r1 r2 r3
       rw [By.wi64 (n := v1) (by omega) (by omega), By.wi64 (n := v2) (by omega) (by omega), By.wi64 (n := v3) (by omega) (by omega)] at q6 q7 q8
       have i1 : (-9223372036854775808 : Int) ≤ v1 ∧ v1 ≤ 9223372036854775807 := by omega
       by_cases h7 : tokR v1 v2 v3
       ·have hl := issN_len (partN k 0 n) v1 v2 v3
        have hb3 := body3_len h7
        rw [List.drop_zero, beq_bytes (issN_u8 _ _ _ _) (u8L_take hb _)] at q7 q8
        by_cases h8 : issN (partN k 0 n) v1 v2 v3 = b.take m
        ·rw [if_pos ⟨h1, h2, h3, h4, h5, h6, h7, h8⟩]
         refine works_of (r := []) tabJc_ok q8 ?_ ndC2 ⟨⟨⟨rfl, rfl⟩, ⟨rfl, rfl⟩, ⟨rfl, rfl⟩, trivial⟩, ⟨rfl, rfl⟩, trivial⟩ lb
         simp only [allP]
         repeat' (first | exact trivial | exact hk | exact hb | exact h7 | exact hm | exact gm | exact yz h1 | exact yz h3 | exact yz h5 | exact Nat.le_refl _ | refine And.intro ?_ ?_)
         all_goals first | omega | exact decide_eq_false (by omega) | (rw [decide_eq_true h8]; rfl)
        ·rw [if_neg fun h => h8 h.2.2.2.2.2.2.2]
         refine works_of (r := []) tabJc_ok q7 ?_ ndC2 lx lb
         simp only [allP]
         repeat' (first | exact trivial | exact hk | exact hb | exact h7 | exact hm | exact gm | exact yz h1 | exact yz h3 | exact yz h5 | exact Nat.le_refl _ | refine And.intro ?_ ?_)
         all_goals first | omega | exact decide_eq_false (by omega) | (rw [decide_eq_false h8]; rfl)
       ·rw [if_neg fun h => h7 h.2.2.2.2.2.2.1]
        refine works_of (r := []) tabJc_ok q6 ?_ ndC2 lx lb
        exact ⟨h7, decide_eq_false (by omega), yz h5, hm, gm, hb, decide_eq_false (by omega), yz h3, hm, gm, hb, decide_eq_false (by omega), yz h1, hm, gm, hb, trivial⟩
      ·rw [if_neg fun h => h6 h.2.2.2.2.2.1]
       exact works_of (r := []) tabJc_ok q5 ⟨decide_eq_true (by omega), yz h5, hm, gm, hb, decide_eq_false (by omega), yz h3, hm, gm, hb, decide_eq_false (by omega), yz h1, hm, gm, hb, trivial⟩ ndC2 lx lb
     ·rw [if_neg fun h => h5 h.2.2.2.2.1]
      exact works_of (r := []) tabJc_ok q4 ⟨nz h5, hm, gm, hb, decide_eq_false (by omega), yz h3, hm, gm, hb, decide_eq_false (by omega), yz h1, hm, gm, hb, trivial⟩ ndC2 lx lb
    ·rw [if_neg fun h => h4 h.2.2.2.1]
     exact works_of (r := []) tabJc_ok q3 ⟨decide_eq_true (by omega), yz h3, hm, gm, hb, decide_eq_false (by omega), yz h1, hm, gm, hb, trivial⟩ ndC2 lx lb
   ·rw [if_neg fun h => h3 h.2.2.1]
    exact works_of (r := []) tabJc_ok q2 ⟨nz h3, hm, gm, hb, decide_eq_false (by omega), yz h1, hm, gm, hb, trivial⟩ ndC2 lx lb
  ·rw [if_neg fun h => h2 h.2.1]
   exact works_of (r := []) tabJc_ok q1 ⟨decide_eq_true (by omega), yz h1, hm, gm, hb, trivial⟩ ndC2 lx lb
 ·rw [if_neg fun h => h1 h.1]
  exact works_of (r := []) tabJc_ok q0 ⟨nz h1, hm, gm, hb, trivial⟩ ndC2 lx lb
theorem rchk_tab : TabOk Try.prog 17 (loc wantM (gCk chkN)) := loc_ok fun xs bs v bs' ob hg hob hokb => by
 unfold gCk at hg
 split at hg
 ·rename_i n c m d k b
  cases hg
  intro ρ K w us hm hu
  obtain ⟨u1, s1, rfl, k1, u2, s2, rfl, k2, k3⟩ := hu
  exact rchk_works (hob (u8L k) (by simp)) (hob (u8L b) (by simp)) (hob (n.v ≤ k.length) (by simp)) (hob (m.v ≤ b.length) (by simp)) (hob (k.length ≤ 500000000) (by simp)) (hob (b.length ≤ 500000000) (by simp)) ρ K w _ hm ⟨u1, _, rfl, bl0_rel k1, u2, _, rfl, bl0_rel k2, k3⟩
 ·cases hg
end Go.Proofs.Ytbamfolinbehiaa
end
section
namespace Go.Proofs.Ytbamfolinbehiaa
open Go.ChangeShapes Go.WideShapes Go.ChangeAt Go.RowKit Go.Sx
noncomputable def hsK (k : Int) := retV [0] (call0 4 38 [.v (.one (.int .u8 k))] [] [])
def chr7 : List Int := [101, 112, 115, 110, 98, 114, 120]
def sl7 (b : Nat) : V := .v (.one (.slice b (.c 0) 1 (.c 7) (.c 7)))
def hsV (k : Int) : Option (V × List SB × List Prop) := some (sl7 0, [⟨true, .exp (chr7.map fun c => .bool (hasC (letN k) c))⟩], [])
theorem hs1 : hsK 1 = hsV 1 := by kernel_rfl
theorem hs2 : hsK 2 = hsV 2 := by kernel_rfl
theorem hs3 : hsK 3 = hsV 3 := by kernel_rfl
theorem hs4 : hsK 4 = hsV 4 := by kernel_rfl
theorem hs5 : hsK 5 = hsV 5 := by kernel_rfl
theorem hs6 : hsK 6 = hsV 6 := by kernel_rfl
theorem hs7 : hsK 7 = hsV 7 := by kernel_rfl
theorem hs8 : hsK 8 = hsV 8 := by kernel_rfl
theorem hs0 : (fun (k : Int) => retV [] (call0 4 38 [si .u8 k] [] [false, false, false, false, false, false, false, false])) = fun k => some (.v (.one .nils), [], [decide (k = 8) = false, decide (k = 7) = false, decide (k = 6) = false, decide (k = 5) = false, decide (k = 4) = false, decide (k = 3) = false, decide (k = 2) = false, decide (k = 1) = false]) := by kernel_rfl
theorem hs_all {k : Int} (h : letN k ≠ []) : hsK k = hsV k := by
 by_cases h1 : k = 1
 ·rw [h1]; exact hs1
 by_cases h2 : k = 2
 ·rw [h2]; exact hs2
 by_cases h3 : k = 3
 ·rw [h3]; exact hs3
 by_cases h4 : k = 4
 ·rw [h4]; exact hs4
 by_cases h5 : k = 5
 ·rw [h5]; exact hs5
 by_cases h6 : k = 6
 ·rw [h6]; exact hs6
 by_cases h7 : k = 7
 ·rw [h7]; exact hs7
 by_cases h8 : k = 8
 ·rw [h8]; exact hs8
 exact absurd (by simp only [letN, h1, h2, h3, h4, h5, h6, h7, h8, if_false]) h
theorem let_none {k : Int} (h : letN k = []) : k ≠ 1 ∧ k ≠ 2 ∧ k ≠ 3 ∧ k ≠ 4 ∧ k ≠ 5 ∧ k ≠ 6 ∧ k ≠ 7 ∧ k ≠ 8 := by
 refine ⟨?_, ?_, ?_, ?_, ?_, ?_, ?_, ?_⟩ <;> rintro rfl <;> exact absurd h (by decide)
def hasL (k : Int) : List C := chr7.map fun c => .sbool (hasC (letN k) c)
theorem hasL_le {sel : List Nat} (f : Int → Bool) : ∀ l : List Int, leL sel (l.map fun c => C.bool (f c)) (l.map fun c => C.sbool (f c))
 | [] => trivial
 | _ :: t => ⟨rfl, hasL_le f t⟩
theorem has_yes {k : Int} (h : letN k ≠ []) : Makes Try.prog 38 [.int .u8 k] (sl7 0) [⟨true, .exp (hasL k)⟩] := by
 have q := hs_all h
 refine makes_of (v := sl7 0) (bs := [⟨true, .exp (hasL k)⟩]) no_tabs q trivial (by decide) ⟨rfl, rfl, rfl, rfl, Nat.le_refl _, Nat.le_refl _⟩ ⟨⟨id, hasL_le _ _⟩, trivial⟩ ⟨_, _, rfl, ⟨rfl, rfl⟩, rfl⟩
theorem has_no {k : Int} (h : letN k = []) : Makes Try.prog 38 [.int .u8 k] (.v (.one .nils)) [] := by
 obtain ⟨h1, h2, h3, h4, h5, h6, h7, h8⟩ := let_none h
 refine makes_of (v := .v (.one .nils)) (bs := []) no_tabs (congrFun hs0 k) ⟨decide_eq_false h8, decide_eq_false h7, decide_eq_false h6, decide_eq_false h5, decide_eq_false h4, decide_eq_false h3, decide_eq_false h2, decide_eq_false h1, trivial⟩ List.nodup_nil trivial trivial ⟨_, _, rfl, ⟨rfl, rfl⟩, rfl⟩
def gHasR : List V → List SB → List Bool → Option CallR := fresh fun args h => match args, h with
 | [.v (.one (.sint .u8 k))], true :: h' => some (sl7 0, [⟨true, .exp (hasL k)⟩], h', [letN k ≠ []])
 | [.v (.one (.sint .u8 k))], false :: h' => some (.v (.one .nils), [], h', [letN k = []])
 | _, _ => none
theorem hasR_tab : TabOk Try.prog 38 gHasR := fresh_ok fun args h v bs h' ob hg hob => by
 split at hg
 ·cases hg
  refine ⟨rfl, fun ρ us hu => ?_⟩
  obtain ⟨u, s, rfl, ⟨rfl, _⟩, rfl⟩ := hu
  exact has_yes (hob _ (by simp))
 ·cases hg
  refine ⟨rfl, fun ρ us hu => ?_⟩
  obtain ⟨u, s, rfl, ⟨rfl, _⟩, rfl⟩ := hu
  exact has_no (hob _ (by simp))
 ·cases hg
end Go.Proofs.Ytbamfolinbehiaa
end
