/- found: the contract. slices.Chunk's iterator: its runs. slices.Chunk's iterator: the contract. slices.Clone: its runs. slices.Clone: the contract. sha.Of: its runs. The hash, plainly: the message's blocks, the whole hash. sha.Of: the contract. sha.Of: the contract, in the end. -/
import Derived.Test.YtbamfolinbehiaaShG0
import Derived.Test.YtbamfolinbehiaaShG1
import Derived.Test.YtbamfolinbehiaaWa
import Derived.Test.YtbamfolinbehiaaWb
namespace Go.Proofs.Ytbamfolinbehiaa
section
open Go.ChangeShapes Go.WideShapes Go.ChangeAt Go.RowKit Go.Sx
theorem outF_spec {o : Out} {k : List Item} {s : Fst} (h : outF o = some (k, s)) : ∃ S sel, o = .stop k S ∧ S.ob = [] ∧ leSt sel S (TFo s) := by
 unfold outF at h
 split at h
 ·rename_i k' S
  split at h
  ·rename_i b0 b1 b2 s' hr
   injection h with h; injection h with e1 e2
   subst e1; subst e2
   obtain ⟨h1, h2⟩ := readF_le hr
   exact ⟨S, _, rfl, h1, h2⟩
  ·cases h
 ·cases h
theorem goes_outF {R : Ending → World → Prop} {ρ : Env} {B : Nat → Prop} {W w : World} {lim n : Nat} {ls : List Bool} {k k' : List Item} {S : Sx.St} {s : Fst} {a : Act}
  (h : outF (run Try.prog (callFo 5) (fun _ => false) FFo lim n ls k S) = some (k', s)) (hk : ∀ ρ' a w, Rel ρ' B W FFo.ntmps (TFo s) a w → Goes Try.prog 53 R k' a w) (hr : Rel ρ B W FFo.ntmps S a w) : Goes Try.prog 53 R k a w := by
 obtain ⟨S', sel, hrun, hob, hle⟩ := outF_spec h
 refine run_sound (callFo_ok 5) funFo (lim := lim) n ls k S ρ a w (by rw [hrun]; show ∀ p ∈ S'.ob, p; rw [hob]; exact fun p hp => by cases hp) ?_ hr
 rw [hrun]
 intro a' w' ρ'' hr'
 obtain ⟨ρ2, _, h2⟩ := RelD.le hr' hle
 exact hk ρ2 a' w' h2
theorem chain_goes {R : Ending → World → Prop} {B : Nat → Prop} {W : World} {K : List Item} {x : Go.Code} {r : List Item} {f : Fst → Option (List Item × Fst)} (hK : K = .inLoop x :: r)
  (hx : ∀ s k s', f s = some (k, s') → outF (run Try.prog (callFo 5) (fun _ => false) FFo (LFo.2.length + 1) 100000 [] (.code x :: .inLoop x :: r) (TFo s)) = some (k, s')) : ∀ (m : Nat) {s s' : Fst}, chainG f m s = some (List.replicate m K, s') →
  (∀ ρ a w, Rel ρ B W FFo.ntmps (TFo s') a w → Goes Try.prog 53 R (.code x :: .inLoop x :: r) a w) →
  ∀ ρ a w, Rel ρ B W FFo.ntmps (TFo s) a w → Goes Try.prog 53 R (.code x :: .inLoop x :: r) a w := by
 intro m
 induction m with
 | zero =>
  intro s s' h hk ρ a w hr
  rw [chainG_zero] at h
  have h2 : s = s' := (Prod.mk.inj (Option.some.inj h)).2
  rw [← h2] at hk
  exact hk ρ a w hr
 | succ m ih =>
  intro s s' h hk ρ a w hr
  rw [List.replicate_succ] at h
  obtain ⟨s1, h1, h2⟩ := chainG_succ h
  refine goes_outF (hx _ _ _ h1) (fun ρ' a' w' hr' => ?_) hr
  rw [hK]
  exact .step (fun cs => step_inLoop) (ih h2 hk ρ' a' w' hr')
theorem exitF : endV [0] (run Try.prog (callFo 5) (fun _ => false) FFo 0 100000 [] (.code LFo.1 :: .inLoop LFo.1 :: LFo.2) (TFo s312F)) = some (ptF 0, [⟨true, .exp (s312F.R.map (C.int .u32))⟩], []) := by kernel_rfl
set_option maxRecDepth 100000 in
theorem found_makes : Makes Try.prog 53 [] (ptF 0) [⟨true, .exp (s312F.R.map (C.int .u32))⟩] := by
 intro w0
 refine (calls_goes (ρ0 := []) (B := upto w0) (W := w0) (R := fun e w' => ∃ u ρ', e = .returned u ∧ V.rel ρ' (ptF 0) u ∧ MemRel ρ' (upto w0) w0 w' [⟨true, .exp (s312F.R.map (C.int .u32))⟩]) (h := []) (ob := []) funFo bodFo (args := []) (Nat.zero_le _) (MemRel.nil w0) rfl fun a w hr => ?_)
 have last : ∀ ρ a w, Rel ρ (upto w0) w0 FFo.ntmps (TFo s312F) a w → Goes Try.prog 53 (fun e w' => ∃ u ρ', e = .returned u ∧ V.rel ρ' (ptF 0) u ∧ MemRel ρ' (upto w0) w0 w' [⟨true, .exp (s312F.R.map (C.int .u32))⟩]) (.code LFo.1 :: .inLoop LFo.1 :: LFo.2) a w := by
  intro ρ a w hr
  have q := exitF
  unfold endV at q
  split at q
  ·rename_i v m1 h1 ob1 hd
   split at q
   ·rename_i b1 hb1
    cases q
    refine goes_done (ρ0 := []) (callFo_ok 5) funFo hd trivial (fun u w' ρ'' h1 h2 => ?_) (ρ' := ρ) hr
    have hrel : Rel ([] ++ ρ'') (upto w0) w0 0 ⟨[], m1, [], []⟩ { tmps := #[], defers := [] } w' := ⟨⟨rfl, rfl, fun t v h => by cases h⟩, h2⟩
    obtain ⟨ρ2, hs, hr2⟩ := hrel.le (sel := [0]) (T := ⟨[], [⟨true, .exp (s312F.R.map (C.int .u32))⟩], [], []⟩) ⟨by decide, trivial, viewM_le hb1 ⟨⟨fun h => h, leL_int (by decide +kernel)⟩, trivial⟩⟩
    exact ⟨u, ρ2, rfl, leV_rel hs (show leV [0] (ptF 0) (ptF 0) from ⟨rfl, rfl, rfl, rfl⟩) h1, hr2.m⟩
   ·cases q
  ·cases q
 have c5 := chain_goes (K := KFo) (f := rndF) rfl (fun _ _ _ h => h) _ seg290F last
 have c4 := chain_goes (K := KFo) (f := rndF) rfl (fun _ _ _ h => h) _ seg260F c5
 have c3 := chain_goes (K := KFo) (f := rndF) rfl (fun _ _ _ h => h) _ seg225F c4
 have c2 := chain_goes (K := KFo) (f := rndF) rfl (fun _ _ _ h => h) _ seg180F c3
 have c1 := chain_goes (K := KFo) (f := rndF) rfl (fun _ _ _ h => h) _ seg120F c2
 have c0 := chain_goes (K := KFo) (f := rndF) rfl (fun _ _ _ h => h) _ seg3F c1
 exact goes_outF startF (fun ρ' a' w' hr' => .step (fun cs => step_inLoop) (c0 ρ' a' w' hr')) hr
def gFound : List V → List Bool → Option Made := fun args h => match args with
 | [] => some (ptF 0, [⟨true, .exp (s312F.R.map (C.int .u32))⟩], h, [])
 | _ => none
theorem found_tab : TabOk Try.prog 53 (fresh gFound) := fresh_ok fun args h v bs h' ob hg hob => by
 unfold gFound at hg
 split at hg
 ·injection hg with hg; injection hg with e1 e2; injection e2 with e2 e3
  subst e1; subst e2
  refine ⟨rfl, fun ρ us hu => ?_⟩
  simp only [relVs] at hu
  subst hu
  exact found_makes
 ·cases hg
end
section
open Go.Sx
def fCh : Go.FuncId := 68
noncomputable def FI : Go.Func := match Try.prog.funcs[fCh]? with | some fn => fn | none => default
noncomputable def BI : Go.Code := match FI.body with | some c => c | none => .skip
noncomputable def LI := loopN Try.prog fCh 0
noncomputable def EI : List Item := .code (.loop LI.1) :: LI.2
noncomputable def KI : List Item := .inLoop LI.1 :: LI.2
def ptI (b : Nat) : V := .v (.one (.ptr b (.c 0) 1 0))
def mI (T : List Int) (n c : Nat) : List SB := [⟨false, .exp [.slice 2 (.c 0) 1 (.s n) (.s c)]⟩, ⟨false, .exp [.int .i64 64]⟩, ⟨false, .ints .u8 T⟩]
def yv (l : Nat) : V := .v (.one (.raw (.func (.yield l) #[] #[])))
def TI0 (T : List Int) (n c l : Nat) (h : List Bool) : St := ⟨[(0, yv l), (1, ptI 0), (2, ptI 1)], mI T n c, h, []⟩
def TI (T : List Int) (n c l : Nat) (i : Int) (h : List Bool) : St := ⟨[(0, yv l), (1, ptI 0), (2, ptI 1), (4, si .i64 i)], mI T n c, h, []⟩
noncomputable def runI (lim n : Nat) (ls : List Bool) (k : List Item) (T : St) := run Try.prog (call0 3) (fun _ => false) FI lim n ls k T
noncomputable def itemsI (o : Out) : List Item := match o with | .stop k _ => k | _ => []
noncomputable def K4I : List Item := itemsI (runI 0 10 [] (.code LI.1 :: .inLoop LI.1 :: LI.2) (TI [] 0 0 0 0 [true]))
noncomputable def R4I : Array Oper := match K4I with | .code (.region _ ops _) :: _ => ops | _ => #[]
noncomputable def K5I : List Item := K4I.drop 1
def TI4 (T : List Int) (n c l : Nat) (i z : Int) (h : List Bool) : St := ⟨[(0, yv l), (1, ptI 0), (2, ptI 1), (4, si .i64 i), (5, si .i64 z)], mI T n c, h, []⟩
def nilI : List Item := []
noncomputable def preI (o : Option St) : Out := match o with | some S => .stop nilI S | none => .bad
theorem ciE : (fun (T : List Int) (n c l : Nat) => stopV [0, 1, 2, 4] [0, 1, 2] (runI 0 100000 [false] [.code BI] (TI0 T n c l []))) = fun (T : List Int) (n : Nat) (c : Nat) (l : Nat) => some (EI, ([(0, V.v (V1.one (C.raw (Go.Value.func (Go.Fn.yield l) #[] #[])))), (1, V.v (V1.one (C.ptr (0) (N.c (0)) (1) (0)))), (2, V.v (V1.one (C.ptr (1) (N.c (0)) (1) (0)))), (4, V.v (V1.one (C.int .i64 (0))))], ([SB.mk (false) (.exp [C.slice (2) (N.c (0)) (1) (N.s (n)) (N.s (c))]), SB.mk (false) (.exp [C.int .i64 (64)]), SB.mk (false) (.ints .u8 (T))], []))) := by kernel_rfl
theorem ciR : (fun (T : List Int) (n c l : Nat) (i : Int) => stopV [0, 1, 2, 4, 5] [0, 1, 2] (runI 0 10 [] (.code LI.1 :: .inLoop LI.1 :: LI.2) (TI T n c l i [true]))) = fun (T : List Int) (n : Nat) (c : Nat) (l : Nat) (i : Int) => some (K4I, ([(0, V.v (V1.one (C.raw (Go.Value.func (Go.Fn.yield l) #[] #[])))), (1, V.v (V1.one (C.ptr (0) (N.c (0)) (1) (0)))), (2, V.v (V1.one (C.ptr (1) (N.c (0)) (1) (0)))), (4, V.v (V1.one (C.sint .i64 (i)))), (5, V.v (V1.one (C.sint .i64 (if (↑(n - Int.toNat i) : Int) < 64 then (↑(n - Int.toNat i) : Int) else 64))))], ([SB.mk (false) (.exp [C.slice (2) (N.c (0)) (1) (N.s (n)) (N.s (c))]), SB.mk (false) (.exp [C.int .i64 (64)]), SB.mk (false) (.ints .u8 (T))], [0 ≤ i, i ≤ (n : Int), decide (i < (n : Int)) = true]))) := by kernel_rfl
theorem ciY : (fun (T : List Int) (n c l : Nat) (i z : Int) => stopV [0, 1, 2, 4, 19, 28] [0, 1, 2] (preI (doList Try.prog (call0 3) (fun _ => false) FI.ntmps R4I (R4I.toList.take 10) (TI4 T n c l i z [])))) = fun (T : List Int) (n : Nat) (c : Nat) (l : Nat) (i : Int) (z : Int) => some (nilI, ([(0, V.v (V1.one (C.raw (Go.Value.func (Go.Fn.yield l) #[] #[])))), (1, V.v (V1.one (C.ptr (0) (N.c (0)) (1) (0)))), (2, V.v (V1.one (C.ptr (1) (N.c (0)) (1) (0)))), (4, V.v (V1.one (C.sint .i64 (i)))), (19, V.v (V1.one (C.raw (Go.Value.func (Go.Fn.yield l) #[] #[])))), (28, V.v (V1.one (C.slice (2) (N.s (Int.toNat i)) (1) (N.s (Int.toNat (i + z) - Int.toNat i)) (N.s (Int.toNat (i + z) - Int.toNat i)))))], ([SB.mk (false) (.exp [C.slice (2) (N.c (0)) (1) (N.s (n)) (N.s (c))]), SB.mk (false) (.exp [C.int .i64 (64)]), SB.mk (false) (.ints .u8 (T))], [0 ≤ i + z, i + z ≤ (c : Int), 0 ≤ i + z, i + z ≤ ((Int.toNat (i + z)) : Int), 0 ≤ i, i ≤ ((Int.toNat (i + z)) : Int), (-9223372036854775808) ≤ i + z ∧ i + z ≤ 9223372036854775807, (-9223372036854775808) ≤ i + z ∧ i + z ≤ 9223372036854775807]))) := by kernel_rfl
theorem ciN : (fun (T : List Int) (n c l : Nat) (i : Int) => stopV [0, 1, 2, 4] [0, 1, 2] (runI (LI.2.length + 1) 100000 [] K5I ⟨[(30, .v (.one (.bool false))), (0, yv l), (1, ptI 0), (2, ptI 1), (4, si .i64 i)], mI T n c, [], []⟩)) = fun (T : List Int) (n : Nat) (c : Nat) (l : Nat) (i : Int) => some (KI, ([(0, V.v (V1.one (C.raw (Go.Value.func (Go.Fn.yield l) #[] #[])))), (1, V.v (V1.one (C.ptr (0) (N.c (0)) (1) (0)))), (2, V.v (V1.one (C.ptr (1) (N.c (0)) (1) (0)))), (4, V.v (V1.one (C.sint .i64 (i + 64))))], ([SB.mk (false) (.exp [C.slice (2) (N.c (0)) (1) (N.s (n)) (N.s (c))]), SB.mk (false) (.exp [C.int .i64 (64)]), SB.mk (false) (.ints .u8 (T))], [(-9223372036854775808) ≤ i + 64 ∧ i + (64 : Int) ≤ 9223372036854775807]))) := by kernel_rfl
theorem ciX : (fun (T : List Int) (n c l : Nat) (i : Int) => endV [0, 1, 2] (runI 0 100000 [] (.code LI.1 :: .inLoop LI.1 :: LI.2) (TI T n c l i [false]))) = fun (T : List Int) (n : Nat) (c : Nat) (_ : Nat) (i : Int) => some (V.tup [], ([SB.mk (false) (.exp [C.slice (2) (N.c (0)) (1) (N.s (n)) (N.s (c))]), SB.mk (false) (.exp [C.int .i64 (64)]), SB.mk (false) (.ints .u8 (T))], [decide (i < (n : Int)) = false])) := by kernel_rfl
noncomputable def oyI : Oper := match R4I.toList.drop 10 with | o :: _ => o | _ => default
noncomputable def onI : Oper := match R4I.toList.drop 11 with | o :: _ => o | _ => default
noncomputable def tysI : Array TypeId := match oyI.op with | .call c => c.argTypes | _ => #[]
theorem r4I : R4I.toList = R4I.toList.take 10 ++ ([oyI] ++ [onI]) := by kernel_rfl
theorem k4I : K4I = .code (.region 4 R4I false) :: K5I := by kernel_rfl
theorem oyI_op : oyI.op = .call { callee := .value (.tmp 19), args := #[.tmp 28], argTypes := tysI } := by kernel_rfl
theorem oyI_g : oyI.guard = none := by kernel_rfl
theorem oyI_d : oyI.dst = some 29 := by kernel_rfl
theorem dfI : (R4I.toList.take 10).all (fun o => !isDefer o.op) = true ∧ [onI].all (fun o => !isDefer o.op) = true := ⟨by kernel_rfl, by kernel_rfl⟩
def TIo (T : List Int) (n c l : Nat) (i : Int) : St := ⟨[(29, .v (.one (.bool true))), (0, yv l), (1, ptI 0), (2, ptI 1), (4, si .i64 i)], mI T n c, [], []⟩
theorem ciO : (fun (T : List Int) (n c l : Nat) (i : Int) => stopV [30, 0, 1, 2, 4] [0, 1, 2] (preI (doList Try.prog (call0 3) (fun _ => false) FI.ntmps R4I [onI] (TIo T n c l i)))) = fun (T : List Int) (n : Nat) (c : Nat) (l : Nat) (i : Int) => some (nilI, ([(30, V.v (V1.one (C.bool (false)))), (0, V.v (V1.one (C.raw (Go.Value.func (Go.Fn.yield l) #[] #[])))), (1, V.v (V1.one (C.ptr (0) (N.c (0)) (1) (0)))), (2, V.v (V1.one (C.ptr (1) (N.c (0)) (1) (0)))), (4, V.v (V1.one (C.sint .i64 (i))))], ([SB.mk (false) (.exp [C.slice (2) (N.c (0)) (1) (N.s (n)) (N.s (c))]), SB.mk (false) (.exp [C.int .i64 (64)]), SB.mk (false) (.ints .u8 (T))], []))) := by kernel_rfl
end
section
open Go.ChangeShapes Go.WideShapes Go.ChangeAt Go.RowKit Go.Sx
theorem no0 (d : Nat) : CallOk Try.prog (call0 d) := callN_sound no_tabs d
theorem funI : Try.prog.funcs[fCh]? = some FI := by kernel_rfl
theorem bodI : FI.body = some BI := by kernel_rfl
theorem tmpI : 3 ≤ FI.ntmps := Nat.le_of_ble_eq_true (by kernel_rfl)
theorem tmp29 : Nat.blt 29 FI.ntmps = true := by kernel_rfl
theorem preI_stop {o : Option Sx.St} {k : List Item} {S : Sx.St} (h : preI o = .stop k S) : o = some S := by
 unfold preI at h
 split at h
 ·injection h with h1 h2; rw [h2]
 ·cases h
def actI (l : Nat) (es en : E) (i : Int) (a : Act) : Prop := a.tmps.size = FI.ntmps ∧ a.defers = [] ∧ a.eval (.tmp 0) = .func (.yield l) #[] #[] ∧ a.eval (.tmp 1) = .pointer (some ⟨es.blk, es.off, none⟩) ∧ a.eval (.tmp 2) = .pointer (some ⟨en.blk, en.off, none⟩) ∧ a.eval (.tmp 4) = .int .i64 i
theorem yv_rel (ρ : Env) (l : Nat) : (yv l).rel ρ (.func (.yield l) #[] #[]) := ⟨rfl, rfl⟩
theorem pt_rel {ρ : Env} {b : Nat} {e : E} (h : ρ[b]? = some e) : (ptI b).rel ρ (.pointer (some ⟨e.blk, e.off, none⟩)) := ⟨⟨e, h, by simp [N.v]⟩, rfl⟩
theorem pt_of {ρ : Env} {b : Nat} {e : E} {u : Value} (h : ρ[b]? = some e) (hu : (ptI b).rel ρ u) : u = .pointer (some ⟨e.blk, e.off, none⟩) := by
 obtain ⟨⟨e', he, hu⟩, _⟩ := hu
 rw [h] at he; injection he with he; subst he
 rw [hu]; simp [N.v]
theorem actI_slots {l : Nat} {es en : E} {i : Int} {a : Act} (h : actI l es en i a) {ρ : Env} (h0 : ρ[0]? = some es) (h1 : ρ[1]? = some en) : SlotsRel [] ρ FI.ntmps [(0, yv l), (1, ptI 0), (2, ptI 1), (4, si .i64 i)] a := by
 obtain ⟨k1, k2, k3, k4, k5, k6⟩ := h
 refine ⟨k1, k2, fun t v hv => ?_⟩
 simp only [look_cons] at hv
 split at hv
 ·rename_i ht; subst ht; injection hv with hv; subst hv
  show V.rel ρ _ (a.eval (.tmp 0)); rw [k3]; exact yv_rel ρ l
 ·split at hv
  ·rename_i ht; subst ht; injection hv with hv; subst hv
   show V.rel ρ _ (a.eval (.tmp 1)); rw [k4]; exact pt_rel h0
  ·split at hv
   ·rename_i ht; subst ht; injection hv with hv; subst hv
    show V.rel ρ _ (a.eval (.tmp 2)); rw [k5]; exact pt_rel h1
   ·split at hv
    ·rename_i ht; subst ht; injection hv with hv; subst hv
     show V.rel ρ _ (a.eval (.tmp 4)); rw [k6]; exact ⟨rfl, rfl⟩
    ·cases hv
theorem slots_actI {l : Nat} {es en : E} {i : Int} {a : Act} {ρ : Env} {sl : Slots} (h : SlotsRel [] ρ FI.ntmps sl a) (h0 : ρ[0]? = some es) (h1 : ρ[1]? = some en)
  (k0 : Sx.look sl 0 = some (yv l)) (k1 : Sx.look sl 1 = some (ptI 0)) (k2 : Sx.look sl 2 = some (ptI 1)) (k4 : Sx.look sl 4 = some (si .i64 i)) : actI l es en i a :=
 ⟨h.size, h.defers, (h.slot 0 _ k0).1, pt_of h0 (h.slot 1 _ k1), pt_of h1 (h.slot 2 _ k2), (h.slot 4 _ k4).1⟩
theorem nodup3 {x y z : Nat} (h1 : x ≠ y) (h2 : x ≠ z) (h3 : y ≠ z) : ([x, y, z] : List Nat).Nodup := by simp [h1, h2, h3]
set_option maxRecDepth 100000 in
theorem chunk_iter {ρ : Env} {bs bn bt : Nat} {es en : E} (hs : ρ[bs]? = some es) (hn : ρ[bn]? = some en) (hbt : bt < ρ.length) (d1 : bs ≠ bn) (d2 : bs ≠ bt) (d3 : bn ≠ bt) {M : Nat → List SB} {cnt n c : Nat} {T : List Int}
  (hM : ∀ i, ∃ o1 o2 o3, (M i)[bs]? = some ⟨o1, .exp [.slice bt (.c 0) 1 (.s n) (.s c)]⟩ ∧ (M i)[bn]? = some ⟨o2, .exp [.int .i64 64]⟩ ∧ (M i)[bt]? = some ⟨o3, .ints .u8 T⟩) (hnc : n = 64 * cnt) (hc : n ≤ c) (hx : n ≤ 1000000000000) :
  ∀ (l : Nat) (J : Nat → World → Prop) (R0 : Ending → World → Prop) (w1 : World), (∀ i w', J i w' → ∃ ρ' B' W', MemRel (ρ ++ ρ') B' W' w' (M i)) → (∀ i w' w'', J i w' → Kept (upto w') w' w'' → J i w'') →
   (∀ i w', i < cnt → J i w' → ∀ u, (∀ ρ', V.rel (ρ ++ ρ') (.v (.one (.slice bt (.s (64 * i)) 1 (.s 64) (.s 64)))) u) → YieldAt Fence.wide 0 Try.prog l #[u] w' (fun e w'' => e = .returned (.bool true) ∧ J (i + 1) w'')) →
   (∀ v w', J cnt w' → R0 (.returned v) w') → J 0 w1 → Calls Try.prog fCh (#[.func (.yield l) #[] #[]] ++ #[.pointer (some ⟨es.blk, es.off, none⟩), .pointer (some ⟨en.blk, en.off, none⟩)]) w1 R0 := by
 intro l J R0 w1 hJ hK hstep hend h0
 have ltb : ∀ {b : Nat} {e : E}, ρ[b]? = some e → ∀ ρ', (ρ ++ ρ')[b]? = some e := fun h ρ' => by
  rw [List.getElem?_append_left (List.getElem?_eq_some_iff.1 h).1]; exact h
 obtain ⟨et, het⟩ : ∃ e, ρ[bt]? = some e := ⟨_, List.getElem?_eq_getElem hbt⟩
 -- the three blocks, as they are in whatever world
 have key : ∀ i w', J i w' → ∃ ρ3, MemRel ρ3 (upto w') w' w' (mI T n c) ∧ ρ3[0]? = some es ∧ ρ3[1]? = some en ∧ ρ3[2]? = some et := by
  intro i w' h
  obtain ⟨ρ', B', W', hm⟩ := hJ i w' h
  obtain ⟨o1, o2, o3, m1, m2, m3⟩ := hM i
  have hrel : Rel (ρ ++ ρ') (upto w') w' 0 ⟨[], frz (M i), [], []⟩ { tmps := #[], defers := [] } w' := ⟨⟨rfl, rfl, fun t v h => by cases h⟩, hm.frz⟩
  obtain ⟨ρ3, hsel, hr3⟩ := hrel.le (sel := [bs, bn, bt]) (T := ⟨[], mI T n c, [], []⟩) ⟨nodup3 d1 d2 d3, trivial, by
   refine ⟨⟨⟨false, .exp [.slice bt (.c 0) 1 (.s n) (.s c)]⟩, by simp only [frz, List.getElem?_map, m1]; rfl, fun h => h, ?_⟩, ⟨⟨false, .exp [.int .i64 64]⟩, by simp only [frz, List.getElem?_map, m2]; rfl, fun h => h, ?_⟩, ⟨⟨false, .ints .u8 T⟩, by simp only [frz, List.getElem?_map, m3]; rfl, fun h => h, ?_⟩, trivial⟩
   ·exact ⟨⟨rfl, rfl, rfl, rfl, Nat.le_refl _, hc⟩, trivial⟩
   ·exact ⟨⟨rfl, rfl⟩, trivial⟩
   ·exact ⟨rfl, rfl⟩⟩
  refine ⟨ρ3, hr3.m, ?_, ?_, ?_⟩
  ·rw [hsel.get 0 bs rfl]; exact ltb hs ρ'
  ·rw [hsel.get 1 bn rfl]; exact ltb hn ρ'
  ·rw [hsel.get 2 bt rfl]; exact ltb het ρ'
 have front : ∀ {ρ3 ρ4 : Env} {e : E} {b : Nat}, ρ3[b]? = some e → (ρ3 ++ ρ4)[b]? = some e := fun h => by
  rw [List.getElem?_append_left (List.getElem?_eq_some_iff.1 h).1]; exact h
 have len3 : ∀ {ρ3 : Env} {B W w}, MemRel ρ3 B W w (mI T n c) → ρ3.length = 3 := fun h => h.len
 -- the rounds
 have main : ∀ m i, i + m = cnt → ∀ a w, actI l es en ((64 * i : Nat) : Int) a → J i w → Goes Try.prog fCh R0 (.code LI.1 :: .inLoop LI.1 :: LI.2) a w := by
  intro m
  induction m with
  | zero =>
   intro i hi a w ha hj
   have hi : i = cnt := by omega
   subst hi
   obtain ⟨ρ3, hm, e0, e1, e2⟩ := key i w hj
   have q := cf5 ciX T n c l ((64 * i : Nat) : Int)
   unfold endV at q
   split at q
   ·rename_i v m1 h1 ob1 hd
    split at q
    ·injection q with q; injection q with q1 q2; injection q2 with q2 q3
     subst q3
     refine goes_done (ρ0 := ρ3) (ρ' := []) (no0 3) funI hd ⟨decide_eq_false (by omega), trivial⟩ (fun u w' ρ'' _ h2 => hend u w' (hK i w w' hj h2.below)) (B := upto w) (W := w) (S := TI T n c l ((64 * i : Nat) : Int) [false]) (ds := []) ⟨by rw [List.append_nil]; exact actI_slots ha e0 e1, by rw [List.append_nil]; exact hm⟩
    ·cases q
   ·cases q
  | succ m ih =>
   intro i hi a w ha hj
   have hic : i < cnt := by omega
   obtain ⟨ρ3, hm, e0, e1, e2⟩ := key i w hj
   have h3 := len3 hm
   have sel3 : ([0, 1, 2] : List Nat) = List.range ρ3.length ++ [] := by rw [h3]; rfl
   have nd : (List.range ρ3.length ++ []).Nodup := by rw [h3]; decide
   have q := cf5 ciR T n c l ((64 * i : Nat) : Int)
   have ez : (if ((n - Int.toNat ((64 * i : Nat) : Int) : Nat) : Int) < 64 then ((n - Int.toNat ((64 * i : Nat) : Int) : Nat) : Int) else 64) = 64 := by
    split <;> omega
   rw [ez, sel3] at q
   refine goes_stop (ρ0 := ρ3) (ρ' := []) (B := upto w) (W := w) (S := TI T n c l ((64 * i : Nat) : Int) [true]) (T := TI4 T n c l ((64 * i : Nat) : Int) 64 []) (ds := []) (no0 3) funI q ?_ ⟨nd, ?_, ?_⟩ (fun ρ4 a2 w2 hr2 => ?_) ⟨by rw [List.append_nil]; exact actI_slots ha e0 e1, by rw [List.append_nil]; exact hm⟩
   ·exact ⟨by omega, by omega, decide_eq_true (by omega), trivial⟩
   ·rw [← sel3]; simp [TI4, leSlots, leV, leV1, leC, si, ptI, yv, N.v]
   ·rw [← sel3]; simp [TI4, mI, leBs, leB, leCells, leL, leC, N.v, hc]
   -- the region that calls yield
   have hj2 : J i w2 := hK i w w2 hj hr2.m.below
   rw [k4I]
   refine Goes.code (Q := Nrm fun a' w' => a'.defers = a2.defers ∧ Goes Try.prog fCh R0 K5I a' w') (wpIn_wide.1 (wpIn_region_list (F := Fence.wide) (n := 0) ?_)) (fun e a' w' hq => by cases e <;> first | exact ⟨rfl, hq⟩ | exact hq.elim)
   rw [r4I]
   have qY := cf6 ciY T n c l ((64 * i : Nat) : Int) 64
   obtain ⟨S5, hS5, hob5, hle5⟩ := stopV_spec qY
   have hd5 := preI_stop hS5
   have hJ2 := key i w2 hj2
   refine list_pre (ro := none) (n := 0) (no0 3) hd5 dfI.1 (by rw [hob5]; exact allP_mem ⟨by omega, by omega, by omega, by omega, by omega, by omega, by omega, by omega, trivial⟩) hr2 fun a3 w3 ρ5 hr3 => ?_
   have hj3 : J i w3 := hK i w w3 hj hr3.m.below
   have hle6 := hle5 ⟨[(0, yv l), (1, ptI 0), (2, ptI 1), (4, si .i64 ((64 * i : Nat) : Int)), (19, yv l), (28, .v (.one (.slice 2 (.s (64 * i)) 1 (.s 64) (.s 64))))], mI T n c, [], []⟩ ⟨by decide, by
    have z1 : Int.toNat (((64 * i : Nat) : Int) + 64) - 64 * i = 64 := by omega
    have z2 : Int.toNat ((64 * i : Nat) : Int) = 64 * i := by omega
    refine ⟨⟨rfl, rfl⟩, ⟨rfl, ⟨rfl, rfl, rfl, rfl⟩⟩, ⟨rfl, ⟨rfl, rfl, rfl, rfl⟩⟩, ⟨rfl, ⟨rfl, rfl⟩⟩, ⟨rfl, rfl⟩, ⟨rfl, ⟨rfl, z2, rfl, ?_, ?_, ?_⟩⟩, trivial⟩ <;> simp only [N.v] <;> omega, by simp [mI, leBs, leB, leCells, leL, leC, N.v, hc]⟩
   obtain ⟨ρ6, hsel6, hr6⟩ := hr3.le hle6
   have f0 : ρ6[0]? = some es := by rw [hsel6.get 0 0 rfl]; exact front (front e0)
   have f1 : ρ6[1]? = some en := by rw [hsel6.get 1 1 rfl]; exact front (front e1)
   have f2 : ρ6[2]? = some et := by rw [hsel6.get 2 2 rfl]; exact front (front e2)
   have hact : actI l es en ((64 * i : Nat) : Int) a3 := slots_actI hr6.sl f0 f1 rfl rfl rfl rfl
   have h19 : a3.eval (.tmp 19) = .func (.yield l) #[] #[] := (hr6.sl.slot 19 _ rfl).1
   have h28 : V.rel ρ6 (.v (.one (.slice 2 (.s (64 * i)) 1 (.s 64) (.s 64)))) (a3.eval (.tmp 28)) := hr6.sl.slot 28 _ rfl
   have hX : ∀ ρ', V.rel (ρ ++ ρ') (.v (.one (.slice bt (.s (64 * i)) 1 (.s 64) (.s 64)))) (a3.eval (.tmp 28)) := fun ρ' => by
    obtain ⟨⟨e, he, hu⟩, h1c⟩ := h28
    rw [f2] at he; injection he with he; subst he
    exact ⟨⟨et, ltb het ρ', hu⟩, h1c⟩
   show wpListIn (Wd none) 0 Try.prog R4I _ (oyI :: [onI]) a3 w3
   refine yield_op (n := 0) oyI_op oyI_g h19 (hstep i w3 hic hj3 _ hX) ?_
   rintro e w4 ⟨rfl, hj4⟩
   refine ⟨_, rfl, ?_⟩
   obtain ⟨ρ7, hm7, g0, g1, g2⟩ := key (i + 1) w4 hj4
   have hsl7 : SlotsRel [] ρ7 FI.ntmps (TIo T n c l ((64 * i : Nat) : Int)).sl (a3.put oyI.dst (.bool true)) := by
    rw [oyI_d]
    have hp : putS FI.ntmps (⟨[(0, yv l), (1, ptI 0), (2, ptI 1), (4, si .i64 ((64 * i : Nat) : Int))], [], [], []⟩ : Sx.St) (some 29) (.v (.one (.bool true))) = some ⟨(TIo T n c l ((64 * i : Nat) : Int)).sl, [], [], []⟩ := by
     unfold putS; simp only [tmp29]; rfl
    obtain ⟨_, _, hps⟩ := putS_sound (ρ := ρ7) (ds := []) hp
    exact hps (a := a3) (u := .bool true) (actI_slots hact g0 g1) ⟨rfl, rfl⟩
   have qO := cf5 ciO T n c l ((64 * i : Nat) : Int)
   obtain ⟨S8, hS8, hob8, hle8⟩ := stopV_spec qO
   have hd8 := preI_stop hS8
   show wpListIn (Wd none) 0 Try.prog R4I _ ([onI] ++ []) _ w4
   refine list_pre (ro := none) (n := 0) (B := upto w4) (W := w4) (no0 3) hd8 dfI.2 (by rw [hob8]; exact fun p hp => by cases hp) ⟨hsl7, hm7⟩ fun a5 w5 ρ8 hr8 => ?_
   have hj5 : J (i + 1) w5 := hK (i + 1) w4 w5 hj4 hr8.m.below
   obtain ⟨ρ9, hsel9, hr9⟩ := hr8.le (hle8 ⟨[(30, .v (.one (.bool false))), (0, yv l), (1, ptI 0), (2, ptI 1), (4, si .i64 ((64 * i : Nat) : Int))], mI T n c, [], []⟩ ⟨by decide, by simp [leSlots, leV, leV1, leC, si, ptI, yv, N.v], by simp [mI, leBs, leB, leCells, leL, leC, N.v, hc]⟩)
   have k0 : ρ9[0]? = some es := by rw [hsel9.get 0 0 rfl]; exact front g0
   have k1 : ρ9[1]? = some en := by rw [hsel9.get 1 1 rfl]; exact front g1
   refine ⟨hr8.sl.defers.trans hr2.sl.defers.symm, ?_⟩
   have h9 := len3 hr9.m
   have sel9 : ([0, 1, 2] : List Nat) = List.range ρ9.length ++ [] := by rw [h9]; rfl
   have nd9 : (List.range ρ9.length ++ []).Nodup := by rw [h9]; decide
   have qN := cf5 ciN T n c l ((64 * i : Nat) : Int)
   rw [sel9] at qN
   refine goes_stop (ρ0 := ρ9) (ρ' := []) (T := TI T n c l ((64 * (i + 1) : Nat) : Int) []) (no0 3) funI qN ?_ ⟨nd9, ?_, ?_⟩ (fun ρ10 a6 w6 hr10 => ?_) (by rw [List.append_nil]; exact hr9)
   ·exact ⟨by omega, trivial⟩
   ·rw [← sel9]; simp [TI, leSlots, leV, leV1, leC, si, ptI, yv, N.v]; omega
   ·rw [← sel9]; simp [TI, mI, leBs, leB, leCells, leL, leC, N.v, hc]
   refine .step (fun cs => step_inLoop) (ih (i + 1) (by omega) a6 w6 (slots_actI hr10.sl (front k0) (front k1) rfl rfl rfl rfl) (hK (i + 1) w4 w6 hj4 hr10.m.below))
 -- the way to the loop
 obtain ⟨ρ3, hm, e0, e1, e2⟩ := key 0 w1 h0
 have h3 := len3 hm
 have sel3 : ([0, 1, 2] : List Nat) = List.range ρ3.length ++ [] := by rw [h3]; rfl
 have nd : (List.range ρ3.length ++ []).Nodup := by rw [h3]; decide
 refine calls_goes (ρ0 := ρ3) (h := []) (ob := []) funI bodI (args := [yv l, ptI 0, ptI 1]) (us := [.func (.yield l) #[] #[], .pointer (some ⟨es.blk, es.off, none⟩), .pointer (some ⟨en.blk, en.off, none⟩)]) tmpI hm ⟨_, _, rfl, yv_rel _ _, _, _, rfl, pt_rel e0, _, _, rfl, pt_rel e1, rfl⟩ fun a w hr => ?_
 have q := cf4 ciE T n c l
 rw [sel3] at q
 refine goes_stop (ρ0 := ρ3) (ρ' := []) (T := TI T n c l ((64 * 0 : Nat) : Int) []) (S := TI0 T n c l []) (no0 3) funI q trivial ⟨nd, ?_, ?_⟩ (fun ρ4 a2 w2 hr2 => ?_) hr
 ·rw [← sel3]; simp [TI, leSlots, leV, leV1, leC, si, ptI, yv, N.v]
 ·rw [← sel3]; simp [TI, mI, leBs, leB, leCells, leL, leC, N.v, hc]
 exact .step (fun cs => step_loop) (main cnt 0 (by omega) a2 w2 (slots_actI hr2.sl (front e0) (front e1) rfl rfl rfl rfl) (hK 0 w1 w2 h0 hr2.m.below))
end
section
open Go.Sx
def roH (l : List Int) : SB := ⟨false, .ints .u8 l⟩
def owH (l : List Int) : SB := ⟨true, .ints .u8 l⟩
def slH (b o n c : Nat) : V := .v (.one (.slice b (.s o) 1 (.s n) (.s c)))
def blH (b n c : Nat) : V := .v (.one (.slice b (.c 0) 1 (.s n) (.s c)))
theorem cH1 : (fun (l : List Int) (o n c : Nat) => retV [0, 2] (call0 4 30 [slH 0 o n c] [roH l] [false])) = fun (l : List Int) (o : Nat) (n : Nat) (_ : Nat) => some (V.v (V1.one (C.slice (2) (N.c (0)) (1) (N.s (n)) (N.s (n)))), ([SB.mk (false) (.ints .u8 (l)), SB.mk (true) (.ints .u8 ([] ++ List.take n (List.drop o l)))], [o + n ≤ l.length, n * 1 ≤ 140737488355328, n ≤ 9223372036854775807, 0 < n])) := by kernel_rfl
theorem cH2 : (fun (l : List Int) => retV [0] (call0 4 30 [.v (.one .nils)] [roH l] [])) = fun (l : List Int) => some (V.v (V1.one (C.nils)), ([SB.mk (false) (.ints .u8 (l))], [])) := by kernel_rfl
theorem cH3 : (fun (l : List Int) (a : Addr) (c : Nat) => retV [0, 2] (call0 4 30 [.v (.one (.raw (.slice (some a) 0 c)))] [roH l] [])) = fun (l : List Int) (_ : Go.Addr) (_ : Nat) => some (V.v (V1.one (C.slice (2) (N.c (0)) (1) (N.c (0)) (N.c (0)))), ([SB.mk (false) (.ints .u8 (l)), SB.mk (true) (.exp [])], [])) := by kernel_rfl
end
section
open Go.ChangeShapes Go.WideShapes Go.ChangeAt Go.RowKit Go.Sx
theorem ndH2 : (List.range 1 ++ [2]).Nodup := by decide
theorem ndH : (List.range 1 ++ ([] : List Nat)).Nodup := by decide
theorem leH (l : List Int) : leBs (List.range 1 ++ []) [roH l] [roH l] := ⟨⟨fun h => h, rfl, rfl⟩, trivial⟩
theorem cloneH_works (l : List Int) (o n c : Nat) (hn : o + n ≤ l.length) (hx : n ≤ 1000000000) : Works Try.prog 30 [slH 0 o n c] [roH l] (blH 1 n n) [roH l, owH ((l.drop o).take n)] := by
 by_cases h0 : n = 0
 ·subst h0
  intro ρ K w us hm hu
  obtain ⟨u, s, rfl, ⟨⟨e, he, hu⟩, h1c⟩, hs⟩ := hu
  simp only [relVs] at hs; subst hs
  rcases hu with ⟨_, _, rfl⟩ | ⟨o', cap, rfl, _⟩
  ·refine (works_of (r := []) (bs := [roH l]) (args := [.v (.one .nils)]) (v := .v (.one .nils)) (bs' := [roH l]) no_tabs (congrFun cH2 l) trivial ndH trivial (leH l) ρ K w [.slice none 0 0] hm ⟨_, _, rfl, ⟨rfl, rfl⟩, rfl⟩).mono fun e w' ⟨u, ρ', he, hv, hm'⟩ => ?_
   have hg := hm'.beside (ghost_rel w' (.ints .u8 []) (fun ρ g i r h => by simp at h) rfl) rfl
   have hl := hm'.len
   refine ⟨u, ρ' ++ [⟨0, 0, 0⟩], he, ?_, ?_⟩
   ·obtain ⟨hv1, hv2⟩ := hv
    simp only [C.rel] at hv1
    refine ⟨⟨⟨0, 0, 0⟩, ?_, .inl ⟨rfl, rfl, hv1⟩⟩, hv2⟩
    rw [← List.append_assoc, List.getElem?_append_right (by rw [hl]; simp)]
    rw [hl]; rfl
   ·rw [← List.append_assoc]; exact hg
  ·refine (works_of (r := [2]) (bs := [roH l]) (v := blH 1 0 0) (bs' := [roH l, owH []]) no_tabs (cf3 cH3 l ⟨e.blk, o', none⟩ cap) trivial ndH2 ⟨rfl, rfl, rfl, rfl, Nat.le_refl _, Nat.le_refl _⟩ ⟨⟨fun h => h, rfl, rfl⟩, ⟨fun h => h, trivial⟩, trivial⟩ ρ K w _ hm ⟨_, _, rfl, ⟨rfl, h1c⟩, rfl⟩)
 ·refine works_of (r := [2]) no_tabs (cf4 cH1 l o n c) ⟨hn, by omega, by omega, by omega, trivial⟩ ndH2 ⟨rfl, rfl, rfl, rfl, Nat.le_refl _, Nat.le_refl _⟩ ⟨⟨fun h => h, rfl, rfl⟩, ⟨fun h => h, rfl, rfl⟩, trivial⟩
def wantH : List V → List Want := fun _ => [(false, .ints .u8)]
def gClH : Sx.Loc := fun args bs => match args, bs with
 | [.v (.one (.slice 0 i 1 n _))], [⟨false, .ints .u8 l⟩] => some (blH 1 n.v n.v, [roH l, owH ((l.drop i.v).take n.v)], [i.v + n.v ≤ l.length, n.v ≤ 1000000000])
 | _, _ => none
theorem slH_rel {ρ : Env} {b : Nat} {i n c : N} {u : Value} (h : V.rel ρ (.v (.one (.slice b i 1 n c))) u) : (slH b i.v n.v c.v).rel ρ u := h
theorem cloneH_tab : TabOk Try.prog 30 (loc wantH gClH) := loc_ok fun xs bs v bs' ob hg hob hokb => by
 unfold gClH at hg
 split at hg
 ·rename_i i n c l
  cases hg
  intro ρ K w us hm hu
  obtain ⟨u1, s1, rfl, k1, k2⟩ := hu
  exact cloneH_works l i.v n.v c.v (hob _ (by simp)) (hob (n.v ≤ 1000000000) (by simp)) ρ K w _ hm ⟨u1, _, rfl, slH_rel k1, k2⟩
 ·cases hg
end
section
open Go.Sx
def tabO := tabs [(53, fresh gFound), (54, loc wantW gWork), (30, loc wantH gClH)]
noncomputable def callO (d : Nat) := callN Try.prog tabO (fun _ => false) 100000 d
noncomputable def LO (i : Nat) := loopN Try.prog 44 i
noncomputable def EO1 : List Item := .code (.loop (LO 1).1) :: (LO 1).2
noncomputable def KO1 : List Item := .inLoop (LO 1).1 :: (LO 1).2
noncomputable def FO : Go.Func := match Try.prog.funcs[44]? with | some fn => fn | none => default
noncomputable def BO : Go.Code := match FO.body with | some c => c | none => .skip
def z32 : SB := ⟨true, .exp (List.replicate 32 (.int .u8 0))⟩
def mO (b R s T : List Int) : List SB := [roH b, z32, ⟨true, .ints .u32 R⟩, ⟨true, .exp [.ptr 2 (.c 0) 1 0]⟩, ⟨true, .ints .u32 s⟩, owH T]
def TO2 (b R s T : List Int) (o n c tl : Nat) (h : List Bool) : St := ⟨[(0, slH 0 o n c), (2, pt 1), (3, pt 3), (4, pt 4), (5, blH 5 tl tl)], mO b R s T, h, []⟩
noncomputable def EO0 : List Item := .code (.loop (LO 0).1) :: (LO 0).2
def TO1 (b R s T : List Int) (o n c tl : Nat) (h : List Bool) : St := ⟨[(0, slH 0 o n c), (2, pt 1), (3, pt 3), (4, pt 4), (5, blH 5 tl tl), (6, ci64 56)], mO b R s T, h, []⟩
noncomputable def rO (lim n : Nat) (ls : List Bool) (k : List Item) (T : St) := run Try.prog (callO 8) (fun _ => false) FO lim n ls k T
noncomputable def KOr : List Item := itemsW (rO 0 100000 [] (.code (LO 1).1 :: .inLoop (LO 1).1 :: (LO 1).2) (TO2 [] [] [] [] 0 0 0 0 [false]))
noncomputable def asO : Go.Code := match KOr with | .code (.rangeFunc _ _ c _) :: _ => c | _ => .skip
noncomputable def bdO : Go.Code := match KOr with | .code (.rangeFunc _ _ _ c) :: _ => c | _ => .skip
noncomputable def KOz : List Item := KOr.drop 1
theorem kOr : KOr = .code (.rangeFunc (.tmp 55) #[56] asO bdO) :: KOz := by kernel_rfl
def slO3 : Slots := [(2, pt 1), (3, pt 3), (4, pt 4), (55, .v (.one (.clos fCh [6, 7])))]
def mO3 (b R s T : List Int) (tl : Nat) : List SB := mO b R s T ++ [⟨true, .exp [.slice 5 (.c 0) 1 (.s tl) (.s tl)]⟩, ⟨true, .exp [.int .i64 64]⟩]
def xO (k : Nat) : V := .v (.one (.slice 5 (.s k) 1 (.s 64) (.s 64)))
def SAO (b R s T : List Int) (tl k : Nat) : St := ⟨(7, xO k) :: (56, xO k) :: slO3, mO3 b R s T tl, [], []⟩
theorem asO_run : (fun (b R s T : List Int) (tl k : Nat) => evalBody Try.prog (callO 8) (fun _ => false) FO.ntmps asO ⟨(56, xO k) :: slO3, mO3 b R s T tl, [], []⟩) = fun b R s T tl k => some (SAO b R s T tl k) := by kernel_rfl
theorem ofE : (fun (b : List Int) (o n c : Nat) => stopV [0, 2, 3, 4, 5, 6] [0, 1, 2, 3, 4, 8] (rO 0 100000 [false] [.code BO] ⟨argSlots 0 [slH 0 o n c], [roH b], [true, true], []⟩)) = fun (b : List Int) (o : Nat) (n : Nat) (c : Nat) => some (EO0, ([(0, V.v (V1.one (C.slice (0) (N.s (o)) (1) (N.s (n)) (N.s (c))))), (2, V.v (V1.one (C.ptr (1) (N.c (0)) (1) (0)))), (3, V.v (V1.one (C.ptr (3) (N.c (0)) (1) (0)))), (4, V.v (V1.one (C.ptr (4) (N.c (0)) (1) (0)))), (5, V.v (V1.one (C.slice (8) (N.c (0)) (1) (N.s (Nat.sub n (Int.toNat (Int.tdiv (n : Int) 64 * 64)) + 1 + (List.replicate (Int.toNat (Int.tmod (120 - (↑(Nat.sub n (Int.toNat (Int.tdiv (n : Int) 64 * 64)) + 1) : Int)) 64)) (0 : UInt8)).length)) (N.s (Nat.sub n (Int.toNat (Int.tdiv (n : Int) 64 * 64)) + 1 + (List.replicate (Int.toNat (Int.tmod (120 - (↑(Nat.sub n (Int.toNat (Int.tdiv (n : Int) 64 * 64)) + 1) : Int)) 64)) (0 : UInt8)).length))))), (6, V.v (V1.one (C.int .i64 (56))))], ([SB.mk (false) (.ints .u8 (b)), SB.mk (true) (.exp [C.int .u8 (0), C.int .u8 (0), C.int .u8 (0), C.int .u8 (0), C.int .u8 (0), C.int .u8 (0), C.int .u8 (0), C.int .u8 (0), C.int .u8 (0), C.int .u8 (0), C.int .u8 (0), C.int .u8 (0), C.int .u8 (0), C.int .u8 (0), C.int .u8 (0), C.int .u8 (0), C.int .u8 (0), C.int .u8 (0), C.int .u8 (0), C.int .u8 (0), C.int .u8 (0), C.int .u8 (0), C.int .u8 (0), C.int .u8 (0), C.int .u8 (0), C.int .u8 (0), C.int .u8 (0), C.int .u8 (0), C.int .u8 (0), C.int .u8 (0), C.int .u8 (0), C.int .u8 (0)]), SB.mk (true) (.exp [C.int .u32 (1116352408), C.int .u32 (1899447441), C.int .u32 (3049323471), C.int .u32 (3921009573), C.int .u32 (961987163), C.int .u32 (1508970993), C.int .u32 (2453635748), C.int .u32 (2870763221), C.int .u32 (3624381080), C.int .u32 (310598401), C.int .u32 (607225278), C.int .u32 (1426881987), C.int .u32 (1925078388), C.int .u32 (2162078206), C.int .u32 (2614888103), C.int .u32 (3248222580), C.int .u32 (3835390401), C.int .u32 (4022224774), C.int .u32 (264347078), C.int .u32 (604807628), C.int .u32 (770255983), C.int .u32 (1249150122), C.int .u32 (1555081692), C.int .u32 (1996064986), C.int .u32 (2554220882), C.int .u32 (2821834349), C.int .u32 (2952996808), C.int .u32 (3210313671), C.int .u32 (3336571891), C.int .u32 (3584528711), C.int .u32 (113926993), C.int .u32 (338241895), C.int .u32 (666307205), C.int .u32 (773529912), C.int .u32 (1294757372), C.int .u32 (1396182291), C.int .u32 (1695183700), C.int .u32 (1986661051), C.int .u32 (2177026350), C.int .u32 (2456956037), C.int .u32 (2730485921), C.int .u32 (2820302411), C.int .u32 (3259730800), C.int .u32 (3345764771), C.int .u32 (3516065817), C.int .u32 (3600352804), C.int .u32 (4094571909), C.int .u32 (275423344), C.int .u32 (430227734), C.int .u32 (506948616), C.int .u32 (659060556), C.int .u32 (883997877), C.int .u32 (958139571), C.int .u32 (1322822218), C.int .u32 (1537002063), C.int .u32 (1747873779), C.int .u32 (1955562222), C.int .u32 (2024104815), C.int .u32 (2227730452), C.int .u32 (2361852424), C.int .u32 (2428436474), C.int .u32 (2756734187), C.int .u32 (3204031479), C.int .u32 (3329325298), C.int .u32 (1779033703), C.int .u32 (3144134277), C.int .u32 (1013904242), C.int .u32 (2773480762), C.int .u32 (1359893119), C.int .u32 (2600822924), C.int .u32 (528734635), C.int .u32 (1541459225)]), SB.mk (true) (.exp [C.ptr (2) (N.c (0)) (1) (0)]), SB.mk (true) (.exp [C.int .u32 (1779033703), C.int .u32 (3144134277), C.int .u32 (1013904242), C.int .u32 (2773480762), C.int .u32 (1359893119), C.int .u32 (2600822924), C.int .u32 (528734635), C.int .u32 (1541459225)]), SB.mk (true) (.ints .u8 (List.take (Nat.sub n (Int.toNat (Int.tdiv (n : Int) 64 * 64))) (List.drop (Nat.add o (Int.toNat (Int.tdiv (n : Int) 64 * 64))) b) ++ [128] ++ List.map (fun (x : UInt8) => ((UInt8.toNat x) : Int)) (List.replicate (Int.toNat (Int.tmod (120 - (↑(Nat.sub n (Int.toNat (Int.tdiv (n : Int) 64 * 64)) + 1) : Int)) 64)) (0 : UInt8))))], [0 ≤ Int.tmod (120 - (↑(Nat.sub n (Int.toNat (Int.tdiv (n : Int) 64 * 64)) + 1) : Int)) 64, Nat.add (Nat.sub n (Int.toNat (Int.tdiv (n : Int) 64 * 64))) 1 + Int.toNat (Int.tmod (120 - (↑(Nat.sub n (Int.toNat (Int.tdiv (n : Int) 64 * 64)) + 1) : Int)) 64) ≤ 140737488355328, 0 = 0, Nat.add (Nat.sub n (Int.toNat (Int.tdiv (n : Int) 64 * 64))) 1 = (List.take (Nat.sub n (Int.toNat (Int.tdiv (n : Int) 64 * 64))) (List.drop (Nat.add o (Int.toNat (Int.tdiv (n : Int) 64 * 64))) b) ++ [128]).length, (Nat.sub n (Int.toNat (Int.tdiv (n : Int) 64 * 64)) + 1 + (List.replicate (Int.toNat (Int.tmod (120 - (↑(Nat.sub n (Int.toNat (Int.tdiv (n : Int) 64 * 64)) + 1) : Int)) 64)) (0 : UInt8)).length) * 1 ≤ 140737488355328, Nat.sub n (Int.toNat (Int.tdiv (n : Int) 64 * 64)) + 1 + (List.replicate (Int.toNat (Int.tmod (120 - (↑(Nat.sub n (Int.toNat (Int.tdiv (n : Int) 64 * 64)) + 1) : Int)) 64)) (0 : UInt8)).length ≤ 9223372036854775807, (-9223372036854775808 : Int) ≤ 120 - (↑(Nat.sub n (Int.toNat (Int.tdiv (n : Int) 64 * 64)) + 1) : Int) ∧ 120 - (↑(Nat.sub n (Int.toNat (Int.tdiv (n : Int) 64 * 64)) + 1) : Int) ≤ 9223372036854775807, 0 = 0, Nat.sub n (Int.toNat (Int.tdiv (n : Int) 64 * 64)) = (List.take (Nat.sub n (Int.toNat (Int.tdiv (n : Int) 64 * 64))) (List.drop (Nat.add o (Int.toNat (Int.tdiv (n : Int) 64 * 64))) b)).length, (Nat.sub n (Int.toNat (Int.tdiv (n : Int) 64 * 64)) + 1) * 1 ≤ 140737488355328, Nat.sub n (Int.toNat (Int.tdiv (n : Int) 64 * 64)) + 1 ≤ 9223372036854775807, Nat.add o (Int.toNat (Int.tdiv (n : Int) 64 * 64)) + Nat.sub n (Int.toNat (Int.tdiv (n : Int) 64 * 64)) ≤ b.length, Nat.sub n (Int.toNat (Int.tdiv (n : Int) 64 * 64)) ≤ 1000000000, 0 ≤ Int.tdiv (n : Int) 64 * 64, Int.tdiv (n : Int) 64 * 64 ≤ (n : Int), (-9223372036854775808) ≤ Int.tdiv (n : Int) 64 * 64 ∧ Int.tdiv (n : Int) 64 * (64 : Int) ≤ 9223372036854775807, (-9223372036854775808) ≤ Int.tdiv (n : Int) 64 ∧ Int.tdiv (n : Int) (64 : Int) ≤ 9223372036854775807]))) := by kernel_rfl
theorem ofS : (fun (b R s T : List Int) (o n c tl : Nat) => stopV [0, 2, 3, 4, 5] [0, 1, 2, 3, 4, 21] (rO 0 100000 [true, false] EO0 (TO1 b R s T o n c tl (List.replicate 8 true)))) = fun (b : List Int) (R : List Int) (s : List Int) (T : List Int) (o : Nat) (n : Nat) (c : Nat) (tl : Nat) => some (EO1, ([(0, V.v (V1.one (C.slice (0) (N.s (o)) (1) (N.s (n)) (N.s (c))))), (2, V.v (V1.one (C.ptr (1) (N.c (0)) (1) (0)))), (3, V.v (V1.one (C.ptr (3) (N.c (0)) (1) (0)))), (4, V.v (V1.one (C.ptr (4) (N.c (0)) (1) (0)))), (5, V.v (V1.one (C.slice (21) (N.c (0)) (1) (N.s (tl + 1 + 1 + 1 + 1 + 1 + 1 + 1 + 1)) (N.s (tl + 1 + 1 + 1 + 1 + 1 + 1 + 1 + 1)))))], ([SB.mk (false) (.ints .u8 (b)), SB.mk (true) (.exp [C.int .u8 (0), C.int .u8 (0), C.int .u8 (0), C.int .u8 (0), C.int .u8 (0), C.int .u8 (0), C.int .u8 (0), C.int .u8 (0), C.int .u8 (0), C.int .u8 (0), C.int .u8 (0), C.int .u8 (0), C.int .u8 (0), C.int .u8 (0), C.int .u8 (0), C.int .u8 (0), C.int .u8 (0), C.int .u8 (0), C.int .u8 (0), C.int .u8 (0), C.int .u8 (0), C.int .u8 (0), C.int .u8 (0), C.int .u8 (0), C.int .u8 (0), C.int .u8 (0), C.int .u8 (0), C.int .u8 (0), C.int .u8 (0), C.int .u8 (0), C.int .u8 (0), C.int .u8 (0)]), SB.mk (true) (.ints .u32 (R)), SB.mk (true) (.exp [C.ptr (2) (N.c (0)) (1) (0)]), SB.mk (true) (.ints .u32 (s)), SB.mk (true) (.ints .u8 (T ++ [IntKind.wrap .u8 (Int.fdiv (IntKind.wrap .u64 (IntKind.wrap .u64 (n : Int) * 8)) 72057594037927936)] ++ [IntKind.wrap .u8 (Int.fdiv (IntKind.wrap .u64 (IntKind.wrap .u64 (n : Int) * 8)) 281474976710656)] ++ [IntKind.wrap .u8 (Int.fdiv (IntKind.wrap .u64 (IntKind.wrap .u64 (n : Int) * 8)) 1099511627776)] ++ [IntKind.wrap .u8 (Int.fdiv (IntKind.wrap .u64 (IntKind.wrap .u64 (n : Int) * 8)) 4294967296)] ++ [IntKind.wrap .u8 (Int.fdiv (IntKind.wrap .u64 (IntKind.wrap .u64 (n : Int) * 8)) 16777216)] ++ [IntKind.wrap .u8 (Int.fdiv (IntKind.wrap .u64 (IntKind.wrap .u64 (n : Int) * 8)) 65536)] ++ [IntKind.wrap .u8 (Int.fdiv (IntKind.wrap .u64 (IntKind.wrap .u64 (n : Int) * 8)) 256)] ++ [IntKind.wrap .u8 (Int.fdiv (IntKind.wrap .u64 (IntKind.wrap .u64 (n : Int) * 8)) 1)]))], [0 = 0, Nat.add (tl + 1 + 1 + 1 + 1 + 1 + 1) 1 = (T ++ [IntKind.wrap .u8 (Int.fdiv (IntKind.wrap .u64 (IntKind.wrap .u64 (n : Int) * 8)) 72057594037927936)] ++ [IntKind.wrap .u8 (Int.fdiv (IntKind.wrap .u64 (IntKind.wrap .u64 (n : Int) * 8)) 281474976710656)] ++ [IntKind.wrap .u8 (Int.fdiv (IntKind.wrap .u64 (IntKind.wrap .u64 (n : Int) * 8)) 1099511627776)] ++ [IntKind.wrap .u8 (Int.fdiv (IntKind.wrap .u64 (IntKind.wrap .u64 (n : Int) * 8)) 4294967296)] ++ [IntKind.wrap .u8 (Int.fdiv (IntKind.wrap .u64 (IntKind.wrap .u64 (n : Int) * 8)) 16777216)] ++ [IntKind.wrap .u8 (Int.fdiv (IntKind.wrap .u64 (IntKind.wrap .u64 (n : Int) * 8)) 65536)] ++ [IntKind.wrap .u8 (Int.fdiv (IntKind.wrap .u64 (IntKind.wrap .u64 (n : Int) * 8)) 256)]).length, (tl + 1 + 1 + 1 + 1 + 1 + 1 + 1 + 1) * 1 ≤ 140737488355328, tl + 1 + 1 + 1 + 1 + 1 + 1 + 1 + 1 ≤ 9223372036854775807, 0 = 0, Nat.add (tl + 1 + 1 + 1 + 1 + 1) 1 = (T ++ [IntKind.wrap .u8 (Int.fdiv (IntKind.wrap .u64 (IntKind.wrap .u64 (n : Int) * 8)) 72057594037927936)] ++ [IntKind.wrap .u8 (Int.fdiv (IntKind.wrap .u64 (IntKind.wrap .u64 (n : Int) * 8)) 281474976710656)] ++ [IntKind.wrap .u8 (Int.fdiv (IntKind.wrap .u64 (IntKind.wrap .u64 (n : Int) * 8)) 1099511627776)] ++ [IntKind.wrap .u8 (Int.fdiv (IntKind.wrap .u64 (IntKind.wrap .u64 (n : Int) * 8)) 4294967296)] ++ [IntKind.wrap .u8 (Int.fdiv (IntKind.wrap .u64 (IntKind.wrap .u64 (n : Int) * 8)) 16777216)] ++ [IntKind.wrap .u8 (Int.fdiv (IntKind.wrap .u64 (IntKind.wrap .u64 (n : Int) * 8)) 65536)]).length, (tl + 1 + 1 + 1 + 1 + 1 + 1 + 1) * 1 ≤ 140737488355328, tl + 1 + 1 + 1 + 1 + 1 + 1 + 1 ≤ 9223372036854775807, 0 = 0, Nat.add (tl + 1 + 1 + 1 + 1) 1 = (T ++ [IntKind.wrap .u8 (Int.fdiv (IntKind.wrap .u64 (IntKind.wrap .u64 (n : Int) * 8)) 72057594037927936)] ++ [IntKind.wrap .u8 (Int.fdiv (IntKind.wrap .u64 (IntKind.wrap .u64 (n : Int) * 8)) 281474976710656)] ++ [IntKind.wrap .u8 (Int.fdiv (IntKind.wrap .u64 (IntKind.wrap .u64 (n : Int) * 8)) 1099511627776)] ++ [IntKind.wrap .u8 (Int.fdiv (IntKind.wrap .u64 (IntKind.wrap .u64 (n : Int) * 8)) 4294967296)] ++ [IntKind.wrap .u8 (Int.fdiv (IntKind.wrap .u64 (IntKind.wrap .u64 (n : Int) * 8)) 16777216)]).length, (tl + 1 + 1 + 1 + 1 + 1 + 1) * 1 ≤ 140737488355328, tl + 1 + 1 + 1 + 1 + 1 + 1 ≤ 9223372036854775807, 0 = 0, Nat.add (tl + 1 + 1 + 1) 1 = (T ++ [IntKind.wrap .u8 (Int.fdiv (IntKind.wrap .u64 (IntKind.wrap .u64 (n : Int) * 8)) 72057594037927936)] ++ [IntKind.wrap .u8 (Int.fdiv (IntKind.wrap .u64 (IntKind.wrap .u64 (n : Int) * 8)) 281474976710656)] ++ [IntKind.wrap .u8 (Int.fdiv (IntKind.wrap .u64 (IntKind.wrap .u64 (n : Int) * 8)) 1099511627776)] ++ [IntKind.wrap .u8 (Int.fdiv (IntKind.wrap .u64 (IntKind.wrap .u64 (n : Int) * 8)) 4294967296)]).length, (tl + 1 + 1 + 1 + 1 + 1) * 1 ≤ 140737488355328, tl + 1 + 1 + 1 + 1 + 1 ≤ 9223372036854775807, 0 = 0, Nat.add (tl + 1 + 1) 1 = (T ++ [IntKind.wrap .u8 (Int.fdiv (IntKind.wrap .u64 (IntKind.wrap .u64 (n : Int) * 8)) 72057594037927936)] ++ [IntKind.wrap .u8 (Int.fdiv (IntKind.wrap .u64 (IntKind.wrap .u64 (n : Int) * 8)) 281474976710656)] ++ [IntKind.wrap .u8 (Int.fdiv (IntKind.wrap .u64 (IntKind.wrap .u64 (n : Int) * 8)) 1099511627776)]).length, (tl + 1 + 1 + 1 + 1) * 1 ≤ 140737488355328, tl + 1 + 1 + 1 + 1 ≤ 9223372036854775807, 0 = 0, Nat.add (tl + 1) 1 = (T ++ [IntKind.wrap .u8 (Int.fdiv (IntKind.wrap .u64 (IntKind.wrap .u64 (n : Int) * 8)) 72057594037927936)] ++ [IntKind.wrap .u8 (Int.fdiv (IntKind.wrap .u64 (IntKind.wrap .u64 (n : Int) * 8)) 281474976710656)]).length, (tl + 1 + 1 + 1) * 1 ≤ 140737488355328, tl + 1 + 1 + 1 ≤ 9223372036854775807, 0 = 0, Nat.add tl 1 = (T ++ [IntKind.wrap .u8 (Int.fdiv (IntKind.wrap .u64 (IntKind.wrap .u64 (n : Int) * 8)) 72057594037927936)]).length, (tl + 1 + 1) * 1 ≤ 140737488355328, tl + 1 + 1 ≤ 9223372036854775807, 0 = 0, tl = T.length, (tl + 1) * 1 ≤ 140737488355328, tl + 1 ≤ 9223372036854775807]))) := by kernel_rfl
theorem ofR : (fun (b R s T : List Int) (o n c tl : Nat) => stopV [0, 2, 3, 4, 5] [0, 1, 2, 3, 4, 5] (rO ((LO 1).2.length + 1) 100000 [] (.code (LO 1).1 :: .inLoop (LO 1).1 :: (LO 1).2) (TO2 b R s T o n c tl [true]))) = fun (b : List Int) (R : List Int) (s : List Int) (T : List Int) (o : Nat) (n : Nat) (c : Nat) (tl : Nat) => some (KO1, ([(0, V.v (V1.one (C.slice (0) (N.s (o + 64)) (1) (N.s (n - 64)) (N.s (c - 64))))), (2, V.v (V1.one (C.ptr (1) (N.c (0)) (1) (0)))), (3, V.v (V1.one (C.ptr (3) (N.c (0)) (1) (0)))), (4, V.v (V1.one (C.ptr (4) (N.c (0)) (1) (0)))), (5, V.v (V1.one (C.slice (5) (N.c (0)) (1) (N.s (tl)) (N.s (tl)))))], ([SB.mk (false) (.ints .u8 (b)), SB.mk (true) (.exp [C.int .u8 (0), C.int .u8 (0), C.int .u8 (0), C.int .u8 (0), C.int .u8 (0), C.int .u8 (0), C.int .u8 (0), C.int .u8 (0), C.int .u8 (0), C.int .u8 (0), C.int .u8 (0), C.int .u8 (0), C.int .u8 (0), C.int .u8 (0), C.int .u8 (0), C.int .u8 (0), C.int .u8 (0), C.int .u8 (0), C.int .u8 (0), C.int .u8 (0), C.int .u8 (0), C.int .u8 (0), C.int .u8 (0), C.int .u8 (0), C.int .u8 (0), C.int .u8 (0), C.int .u8 (0), C.int .u8 (0), C.int .u8 (0), C.int .u8 (0), C.int .u8 (0), C.int .u8 (0)]), SB.mk (true) (.ints .u32 (R)), SB.mk (true) (.exp [C.ptr (2) (N.c (0)) (1) (0)]), SB.mk (true) (.ints .u32 (ci (wkN (nats R) (nats s) (List.drop o (nats b))))), SB.mk (true) (.ints .u8 (T))], [64 ≤ (n : Int), (ci (wkN (nats R) (nats s) (List.drop o (nats b)))).length = 8, (ci (wkN (nats R) (nats s) (List.drop o (nats b)))).length = s.length, 64 = 64, 64 ≤ R.length, u32L R, s.length = 8, u32L s, u8L b, o + 64 ≤ b.length, b.length ≤ 1000000000000, 64 ≤ (c : Int), s.length = 8, decide (64 ≤ (n : Int)) = true]))) := by kernel_rfl
theorem ofX : (fun (b R s T : List Int) (o n c tl : Nat) => stopV [2, 3, 4, 55] [0, 1, 2, 3, 4, 5, 6, 7] (rO 0 100000 [] (.code (LO 1).1 :: .inLoop (LO 1).1 :: (LO 1).2) (TO2 b R s T o n c tl [false]))) = fun (b : List Int) (R : List Int) (s : List Int) (T : List Int) (_ : Nat) (n : Nat) (_ : Nat) (tl : Nat) => some (KOr, ([(2, V.v (V1.one (C.ptr (1) (N.c (0)) (1) (0)))), (3, V.v (V1.one (C.ptr (3) (N.c (0)) (1) (0)))), (4, V.v (V1.one (C.ptr (4) (N.c (0)) (1) (0)))), (55, V.v (V1.one (C.clos (68) ([(List.map (fun (s : SB) => (SB.mk false (SB.c s))) (mO b R s T)).length, (List.map (fun (s : SB) => (SB.mk false (SB.c s))) (mO b R s T) ++ [SB.mk true (.exp [C.slice 5 (N.c 0) 1 (N.s tl) (N.s tl)])]).length]))))], ([SB.mk (false) (.ints .u8 (b)), SB.mk (true) (.exp [C.int .u8 (0), C.int .u8 (0), C.int .u8 (0), C.int .u8 (0), C.int .u8 (0), C.int .u8 (0), C.int .u8 (0), C.int .u8 (0), C.int .u8 (0), C.int .u8 (0), C.int .u8 (0), C.int .u8 (0), C.int .u8 (0), C.int .u8 (0), C.int .u8 (0), C.int .u8 (0), C.int .u8 (0), C.int .u8 (0), C.int .u8 (0), C.int .u8 (0), C.int .u8 (0), C.int .u8 (0), C.int .u8 (0), C.int .u8 (0), C.int .u8 (0), C.int .u8 (0), C.int .u8 (0), C.int .u8 (0), C.int .u8 (0), C.int .u8 (0), C.int .u8 (0), C.int .u8 (0)]), SB.mk (true) (.ints .u32 (R)), SB.mk (true) (.exp [C.ptr (2) (N.c (0)) (1) (0)]), SB.mk (true) (.ints .u32 (s)), SB.mk (true) (.ints .u8 (T)), SB.mk (true) (.exp [C.slice (5) (N.c (0)) (1) (N.s (tl)) (N.s (tl))]), SB.mk (true) (.exp [C.int .i64 (64)])], [decide (64 ≤ (n : Int)) = false]))) := by kernel_rfl
theorem ofB : (fun (b R s T : List Int) (tl k : Nat) => stopV [] [0, 1, 2, 3, 4, 5, 6, 7] (preI (evalBody Try.prog (callO 8) (fun _ => false) FO.ntmps bdO (SAO b R s T tl k)))) = fun (b : List Int) (R : List Int) (s : List Int) (T : List Int) (tl : Nat) (k : Nat) => some (nilI, ([], ([SB.mk (false) (.ints .u8 (b)), SB.mk (true) (.exp [C.int .u8 (0), C.int .u8 (0), C.int .u8 (0), C.int .u8 (0), C.int .u8 (0), C.int .u8 (0), C.int .u8 (0), C.int .u8 (0), C.int .u8 (0), C.int .u8 (0), C.int .u8 (0), C.int .u8 (0), C.int .u8 (0), C.int .u8 (0), C.int .u8 (0), C.int .u8 (0), C.int .u8 (0), C.int .u8 (0), C.int .u8 (0), C.int .u8 (0), C.int .u8 (0), C.int .u8 (0), C.int .u8 (0), C.int .u8 (0), C.int .u8 (0), C.int .u8 (0), C.int .u8 (0), C.int .u8 (0), C.int .u8 (0), C.int .u8 (0), C.int .u8 (0), C.int .u8 (0)]), SB.mk (true) (.ints .u32 (R)), SB.mk (true) (.exp [C.ptr (2) (N.c (0)) (1) (0)]), SB.mk (true) (.ints .u32 (ci (wkN (nats R) (nats s) (List.drop k (nats T))))), SB.mk (true) (.ints .u8 (T)), SB.mk (true) (.exp [C.slice (5) (N.c (0)) (1) (N.s (tl)) (N.s (tl))]), SB.mk (true) (.exp [C.int .i64 (64)])], [(ci (wkN (nats R) (nats s) (List.drop k (nats T)))).length = 8, (ci (wkN (nats R) (nats s) (List.drop k (nats T)))).length = s.length, 64 = 64, 64 ≤ R.length, u32L R, s.length = 8, u32L s, u8L T, k + 64 ≤ T.length, T.length ≤ 1000000000000, s.length = 8]))) := by kernel_rfl
theorem ofZ : (fun (b R s T : List Int) (tl : Nat) => endV [0] (rO 0 100000 [] KOz ⟨slO3, mO3 b R s T tl, [], []⟩)) = fun (b : List Int) (_ : List Int) (s : List Int) (_ : List Int) (_ : Nat) => some (V.v (V1.agg [C.sint .u8 (IntKind.wrap .u8 (Int.fdiv (s.getD 0 0) 16777216)), C.sint .u8 (IntKind.wrap .u8 (Int.fdiv (s.getD 0 0) 65536)), C.sint .u8 (IntKind.wrap .u8 (Int.fdiv (s.getD 0 0) 256)), C.sint .u8 (IntKind.wrap .u8 (Int.fdiv (s.getD 0 0) 1)), C.sint .u8 (IntKind.wrap .u8 (Int.fdiv (s.getD 1 0) 16777216)), C.sint .u8 (IntKind.wrap .u8 (Int.fdiv (s.getD 1 0) 65536)), C.sint .u8 (IntKind.wrap .u8 (Int.fdiv (s.getD 1 0) 256)), C.sint .u8 (IntKind.wrap .u8 (Int.fdiv (s.getD 1 0) 1)), C.sint .u8 (IntKind.wrap .u8 (Int.fdiv (s.getD 2 0) 16777216)), C.sint .u8 (IntKind.wrap .u8 (Int.fdiv (s.getD 2 0) 65536)), C.sint .u8 (IntKind.wrap .u8 (Int.fdiv (s.getD 2 0) 256)), C.sint .u8 (IntKind.wrap .u8 (Int.fdiv (s.getD 2 0) 1)), C.sint .u8 (IntKind.wrap .u8 (Int.fdiv (s.getD 3 0) 16777216)), C.sint .u8 (IntKind.wrap .u8 (Int.fdiv (s.getD 3 0) 65536)), C.sint .u8 (IntKind.wrap .u8 (Int.fdiv (s.getD 3 0) 256)), C.sint .u8 (IntKind.wrap .u8 (Int.fdiv (s.getD 3 0) 1)), C.sint .u8 (IntKind.wrap .u8 (Int.fdiv (s.getD 4 0) 16777216)), C.sint .u8 (IntKind.wrap .u8 (Int.fdiv (s.getD 4 0) 65536)), C.sint .u8 (IntKind.wrap .u8 (Int.fdiv (s.getD 4 0) 256)), C.sint .u8 (IntKind.wrap .u8 (Int.fdiv (s.getD 4 0) 1)), C.sint .u8 (IntKind.wrap .u8 (Int.fdiv (s.getD 5 0) 16777216)), C.sint .u8 (IntKind.wrap .u8 (Int.fdiv (s.getD 5 0) 65536)), C.sint .u8 (IntKind.wrap .u8 (Int.fdiv (s.getD 5 0) 256)), C.sint .u8 (IntKind.wrap .u8 (Int.fdiv (s.getD 5 0) 1)), C.sint .u8 (IntKind.wrap .u8 (Int.fdiv (s.getD 6 0) 16777216)), C.sint .u8 (IntKind.wrap .u8 (Int.fdiv (s.getD 6 0) 65536)), C.sint .u8 (IntKind.wrap .u8 (Int.fdiv (s.getD 6 0) 256)), C.sint .u8 (IntKind.wrap .u8 (Int.fdiv (s.getD 6 0) 1)), C.sint .u8 (IntKind.wrap .u8 (Int.fdiv (s.getD 7 0) 16777216)), C.sint .u8 (IntKind.wrap .u8 (Int.fdiv (s.getD 7 0) 65536)), C.sint .u8 (IntKind.wrap .u8 (Int.fdiv (s.getD 7 0) 256)), C.sint .u8 (IntKind.wrap .u8 (Int.fdiv (s.getD 7 0) 1))]), ([SB.mk (false) (.ints .u8 (b))], [7 < s.length, 7 < s.length, 7 < s.length, 7 < s.length, 6 < s.length, 6 < s.length, 6 < s.length, 6 < s.length, 5 < s.length, 5 < s.length, 5 < s.length, 5 < s.length, 4 < s.length, 4 < s.length, 4 < s.length, 4 < s.length, 3 < s.length, 3 < s.length, 3 < s.length, 3 < s.length, 2 < s.length, 2 < s.length, 2 < s.length, 2 < s.length, 1 < s.length, 1 < s.length, 1 < s.length, 1 < s.length, 0 < s.length, 0 < s.length, 0 < s.length, 0 < s.length])) := by kernel_rfl
end
section
def lenN (n : Nat) : List Nat := [n * 8 / 72057594037927936 % 256, n * 8 / 281474976710656 % 256, n * 8 / 1099511627776 % 256, n * 8 / 4294967296 % 256, n * 8 / 16777216 % 256, n * 8 / 65536 % 256, n * 8 / 256 % 256, n * 8 % 256]
def zN (n : Nat) : Nat := (119 - n % 64) % 64
def padN (x : List Nat) : List Nat := x ++ ([128] ++ (List.replicate (zN x.length) 0 ++ lenN x.length))
def bkN (R s l : List Nat) : Nat → List Nat
 | 0 => s
 | k + 1 => wkN R (bkN R s l k) (l.drop (64 * k))
def outN (s : List Nat) : List Nat := (List.range 32).map fun i => s.getD (i / 4) 0 / 2 ^ (24 - i % 4 * 8) % 256
def hashN (R s x : List Nat) : List Nat := outN (bkN R s (padN x) ((padN x).length / 64))
theorem padN_len (x : List Nat) : (padN x).length = 64 * (x.length / 64) + (x.length % 64 + 9 + zN x.length) := by
 simp only [padN, List.length_append, List.length_replicate, lenN, List.length_cons, List.length_nil]; omega
theorem zN_div (n : Nat) : (n % 64 + 9 + zN n) % 64 = 0 ∧ n % 64 + 9 + zN n ≤ 128 := by unfold zN; omega
theorem padN_tail (x : List Nat) : (padN x).drop (64 * (x.length / 64)) = x.drop (64 * (x.length / 64)) ++ ([128] ++ (List.replicate (zN x.length) 0 ++ lenN x.length)) := by
 unfold padN
 rw [List.drop_append_of_le_length (by omega)]
theorem padN_get {x : List Nat} {i : Nat} (h : i < x.length) : (padN x).getD i 0 = x.getD i 0 := by
 simp only [padN, List.getD_eq_getElem?_getD]
 rw [List.getElem?_append_left h]
theorem ldN_congr {p q : List Nat} : ∀ {n : Nat}, (∀ i, i < n → p.getD i 0 = q.getD i 0) → ldN p n = ldN q n
 | 0, _ => rfl
 | n + 1, h => by
  show (ldN p n).set _ _ = (ldN q n).set _ _
  rw [ldN_congr (fun i hi => h i (by omega)), h n (by omega)]
theorem wkN_congr {R s p q : List Nat} (h : ∀ i, i < 64 → p.getD i 0 = q.getD i 0) : wkN R s p = wkN R s q := by
 unfold wkN
 rw [ldN_congr h]
theorem bkN_len {R s l : List Nat} (h : s.length = 8) : ∀ k, (bkN R s l k).length = 8
 | 0 => h
 | k + 1 => wkN_len (bkN_len h k)
theorem bkN_wf {R s l : List Nat} (h : wfW s) : ∀ k, wfW (bkN R s l k)
 | 0 => h
 | k + 1 => wkN_wf (bkN_wf h k)
theorem lenN_wf (n : Nat) : wfB8 (lenN n) := fun x hx => by
 simp only [lenN, List.mem_cons, List.not_mem_nil, or_false] at hx
 omega
theorem padN_wf {x : List Nat} (h : wfB8 x) : wfB8 (padN x) := fun y hy => by
 simp only [padN, List.mem_append, List.mem_cons, List.not_mem_nil, or_false] at hy
 rcases hy with hy | hy | hy | hy
 ·exact h y hy
 ·omega
 ·have := List.eq_of_mem_replicate hy; omega
 ·exact lenN_wf _ y hy
theorem outN_wf (s : List Nat) : wfB8 (outN s) := fun x hx => by
 obtain ⟨i, _, rfl⟩ := List.mem_map.1 hx
 omega
theorem outN_len (s : List Nat) : (outN s).length = 32 := by simp [outN]
theorem hashN_len (R s x : List Nat) : (hashN R s x).length = 32 := outN_len _
theorem hashN_wf (R s x : List Nat) : wfB8 (hashN R s x) := outN_wf _
end
section
open Go.ChangeShapes Go.WideShapes Go.ChangeAt Go.RowKit Go.Sx
def RN : List Nat := nats s312F.R
def S0N : List Nat := RN.drop 64
theorem RN_nats : nats s312F.R = RN := rfl
theorem RN_len : 64 ≤ s312F.R.length := by decide +kernel
theorem RN_u32 : u32L s312F.R := by
 have : s312F.R.all (fun x => decide (0 ≤ x ∧ x < 4294967296)) = true := by decide +kernel
 exact fun x hx => of_decide_eq_true (List.all_eq_true.1 this x hx)
theorem S0_len : S0N.length = 8 := by decide +kernel
theorem S0_wf : wfW S0N := by
 have : S0N.all (fun x => decide (x < 4294967296)) = true := by decide +kernel
 exact fun x hx => of_decide_eq_true (List.all_eq_true.1 this x hx)
def shaN (x : List Nat) : List Nat := hashN RN S0N x
theorem tabO_ok : ∀ f g, tabO f = some g → TabOk Try.prog f g := tabs_ok fun x hx => by
 simp only [List.mem_cons, List.not_mem_nil, or_false] at hx
 rcases hx with rfl | rfl | rfl
 ·exact found_tab
 ·exact work_tab
 ·exact cloneH_tab
theorem callO_ok (d : Nat) : CallOk Try.prog (callO d) := callN_sound tabO_ok d
theorem funO : Try.prog.funcs[44]? = some FO := by kernel_rfl
theorem bodO : FO.body = some BO := by kernel_rfl
theorem tmpO : 1 ≤ FO.ntmps := Nat.le_of_ble_eq_true (by kernel_rfl)
theorem tmp56 : 56 < FO.ntmps := Nat.lt_of_succ_le (Nat.le_of_ble_eq_true (by kernel_rfl))
theorem FI_name : (FI.name == "runtime.NumGoroutine") = false := by kernel_rfl
theorem entI : ∀ args w, (callFunc fCh args).run Try.prog w = .ok (.enter fCh args) w := fun args w => by
 simp only [callFunc, Sem.run_bind, run_program, Result.andThen_ok, funI, FI_name, bodI, Option.isNone_some, Bool.false_eq_true, if_false, Sem.run_pure]
theorem leL_sint {sel : List Nat} {k : IntKind} : ∀ {l : List C} {l' : List Int}, intsOf k l = some l' → leL sel l (l'.map (C.sint k))
 | [], l', h => by simp only [intsOf, Option.some.injEq] at h; subst h; trivial
 | c :: r, l', h => by
  simp only [intsOf] at h
  split at h
  ·cases h
  ·rename_i n hn
   split at h
   ·cases h
   ·rename_i q hq
    injection h with h; subst h
    refine ⟨?_, leL_sint hq⟩
    unfold intOfC at hn
    split at hn
    ·split at hn
     ·rename_i hk; injection hn with hn; subst hn; exact ⟨(of_decide_eq_true hk).symm, rfl⟩
     ·cases hn
    ·split at hn
     ·rename_i hk; injection hn with hn; subst hn; exact ⟨(of_decide_eq_true hk).symm, rfl⟩
     ·cases hn
    ·cases hn
theorem zeros8_same (sel : List Nat) (n : Nat) : leL sel (List.replicate n (C.int .u8 0)) (List.replicate n (C.int .u8 0)) := by
 induction n with
 | zero => trivial
 | succ n ih => exact ⟨⟨rfl, rfl⟩, ih⟩
theorem nats_drop (l : List Int) (k : Nat) : (nats l).drop k = nats (l.drop k) := by simp [nats, List.map_drop]
theorem wu8 (n k : Nat) : IntKind.wrap .u8 (Int.fdiv (n : Int) ((k : Nat) : Int)) = ((n / k % 256 : Nat) : Int) := by
 rw [Int.fdiv_eq_ediv_of_nonneg _ (Int.natCast_nonneg k)]
 simp [IntKind.wrap, IntKind.signed, IntKind.bits]
theorem w64n {n : Nat} (h : n * 8 < 18446744073709551616) : IntKind.wrap .u64 (IntKind.wrap .u64 (n : Int) * 8) = ((n * 8 : Nat) : Int) := by
 simp only [IntKind.wrap, IntKind.signed, IntKind.bits]
 simp
 omega
def partN (b : List Int) (o n : Nat) : List Nat := nats ((b.drop o).take n)
theorem partN_get {b : List Int} {o n i : Nat} (h : i < n) : (partN b o n).getD i 0 = (nats b).getD (o + i) 0 := by
 simp only [partN, nats, List.getD_eq_getElem?_getD, List.getElem?_map, List.getElem?_take, if_pos h, List.getElem?_drop]
theorem partN_len {b : List Int} {o n : Nat} (h : o + n ≤ b.length) : (partN b o n).length = n := by
 simp only [partN, nats, List.length_map, List.length_take, List.length_drop]; omega
theorem u8L_part {b : List Int} (h : u8L b) (o n : Nat) : u8L ((b.drop o).take n) := fun x hx => h x (List.mem_of_mem_drop (List.mem_of_mem_take hx))
theorem partN_wf {b : List Int} (h : u8L b) (o n : Nat) : wfB8 (partN b o n) := nats_wf8 (u8L_part h o n)
end
section
open Go.ChangeShapes Go.WideShapes Go.ChangeAt Go.RowKit Go.Sx
theorem bkN_zero (R s l : List Nat) : bkN R s l 0 = s := rfl
theorem ci_app (a b : List Nat) : ci (a ++ b) = ci a ++ ci b := by simp [ci]
theorem ci_zeros (z : Nat) : (List.replicate z (0 : UInt8)).map (fun x => ((UInt8.toNat x : Nat) : Int)) = ci (List.replicate z 0) := by
 induction z with
 | zero => rfl
 | succ z ih => rw [List.replicate_succ, List.map_cons, ih]; rfl
def outI (s : List Int) : List C := (List.range 32).map fun i => C.sint .u8 (IntKind.wrap .u8 (Int.fdiv (s.getD (i / 4) 0) (2 ^ (24 - i % 4 * 8))))
theorem out_eq (s : List Nat) : outI (ci s) = (ci (outN s)).map (C.sint .u8) := by
 unfold outI outN ci
 rw [List.map_map, List.map_map]
 refine List.map_congr_left fun i _ => ?_
 have h := ci_get s (i / 4)
 unfold ci at h
 show C.sint .u8 _ = C.sint .u8 _
 rw [h]
 congr 1
 have := wu8 (s.getD (i / 4) 0) (2 ^ (24 - i % 4 * 8))
 rw [show (((2 ^ (24 - i % 4 * 8) : Nat)) : Int) = (2 : Int) ^ (24 - i % 4 * 8) by simp] at this
 exact this
set_option maxHeartbeats 2000000 in
set_option maxRecDepth 100000 in
theorem of_works {b : List Int} {o n c : Nat} (hb : u8L b) (ho : o + n ≤ b.length) (hx : b.length ≤ 1000000000) : Works Try.prog 44 [slH 0 o n c] [roH b] (.v (.aggi .u8 (ci (shaN (partN b o n))))) [roH b] := by
 intro ρq Kq wq usq hmq huq
 have hc : n ≤ c := by
  obtain ⟨_, _, _, ⟨⟨e, _, hu⟩, _⟩, _⟩ := huq
  rcases hu with ⟨h0, _⟩ | ⟨_, _, _, h1, _⟩
  ·simp only [N.v] at h0; omega
  ·exact h1
 revert ρq Kq wq usq
 show Works _ _ _ _ _ _
 obtain ⟨x, hxx⟩ : ∃ x, partN b o n = x := ⟨_, rfl⟩
 have xl : x.length = n := by rw [← hxx]; exact partN_len ho
 have xw : wfB8 x := by rw [← hxx]; exact partN_wf hb o n
 obtain ⟨q, hq⟩ : ∃ q, n / 64 = q := ⟨_, rfl⟩
 obtain ⟨r, hr0⟩ : ∃ r, n % 64 = r := ⟨_, rfl⟩
 have hnq : n = 64 * q + r := by omega
 have hr64 : r < 64 := by omega
 obtain ⟨z, hz⟩ : ∃ z, zN n = z := ⟨_, rfl⟩
 have hz64 : z < 64 ∧ (r + 9 + z) % 64 = 0 := by have := zN_div n; unfold zN at hz; omega
 obtain ⟨cnt, hcnt⟩ : ∃ cnt, (r + 9 + z) / 64 = cnt := ⟨_, rfl⟩
 have htl : r + 1 + z + 8 = 64 * cnt := by omega
 have hc2 : cnt ≤ 2 := by omega
 rw [hxx]
 refine works_goes funO bodO (by exact tmpO) fun ρ K W a w hρ hr => ?_
 have hρ1 : ρ.length = 1 := hρ
 have nd6 : (List.range ρ.length ++ [1, 2, 3, 4, 5]).Nodup := by rw [hρ1]; decide
 have sel6 : ([0, 1, 2, 3, 4, 5] : List Nat) = List.range ρ.length ++ [1, 2, 3, 4, 5] := by rw [hρ1]; rfl
 have ndE : (List.range ρ.length ++ [1, 2, 3, 4, 8]).Nodup := by rw [hρ1]; decide
 have selE : ([0, 1, 2, 3, 4, 8] : List Nat) = List.range ρ.length ++ [1, 2, 3, 4, 8] := by rw [hρ1]; rfl
 have ndS : (List.range ρ.length ++ [1, 2, 3, 4, 21]).Nodup := by rw [hρ1]; decide
 have selS : ([0, 1, 2, 3, 4, 21] : List Nat) = List.range ρ.length ++ [1, 2, 3, 4, 21] := by rw [hρ1]; rfl
 have nd8 : (List.range ρ.length ++ [1, 2, 3, 4, 5, 6, 7]).Nodup := by rw [hρ1]; decide
 have sel8 : ([0, 1, 2, 3, 4, 5, 6, 7] : List Nat) = List.range ρ.length ++ [1, 2, 3, 4, 5, 6, 7] := by rw [hρ1]; rfl
 -- the tail, without the length
 have qE := cf4 ofE b o n c
 have td : Int.tdiv (n : Int) 64 = ((q : Nat) : Int) := by rw [Int.tdiv_eq_ediv_of_nonneg (by omega)]; omega
 have e1 : Int.toNat (((q : Nat) : Int) * 64) = 64 * q := by omega
 have e2 : Nat.sub n (64 * q) = r := by show n - 64 * q = r; omega
 have e3 : Nat.add o (64 * q) = o + 64 * q := rfl
 have ea : ∀ u v : Nat, Nat.add u v = u + v := fun _ _ => rfl
 have e4 : Int.tmod ((120 : Int) - ((r + 1 : Nat) : Int)) 64 = ((z : Nat) : Int) := by
  rw [Int.tmod_eq_emod_of_nonneg (by omega), ← hz]; unfold zN; omega
 simp only [td, e1, e2, e3, e4, Int.toNat_natCast, List.length_replicate, ci_zeros] at qE
 rw [selE] at qE
 have hpre : (List.take r (List.drop (o + 64 * q) b)).length = r := by rw [List.length_take, List.length_drop]; omega
 obtain ⟨T0, hT0⟩ : ∃ T0, List.take r (List.drop (o + 64 * q) b) ++ [(128 : Int)] ++ ci (List.replicate z 0) = T0 := ⟨_, rfl⟩
 have T0l : T0.length = r + 1 + z := by rw [← hT0]; simp only [List.length_append, hpre, ci_len, List.length_replicate, List.length_cons, List.length_nil]
 refine goes_stop (ρ0 := ρ) (T := TO1 b s312F.R (ci S0N) T0 o n c (r + 1 + z) []) (S := ⟨argSlots 0 [slH 0 o n c], [roH b], [true, true], []⟩) (callO_ok 8) funO qE ?_ ⟨ndE, ?_, ?_⟩ (fun ρ2 a2 w2 h2 => ?_) (hr.hints rfl rfl)
 ·simp only [allP, List.length_append, hpre, List.length_cons, List.length_nil, ea]
  repeat' (first | exact trivial | refine And.intro ?_ ?_)
  all_goals first | rfl | omega
 ·rw [← selE]; simp [TO1, leSlots, leV, leV1, leC, ci64, pt, slH, blH, N.v, hc]
 ·rw [← selE]
  refine ⟨⟨fun h => h, rfl, rfl⟩, ⟨fun h => h, zeros8_same _ 32⟩, ⟨fun h => h, leL_sint (by decide +kernel)⟩, ⟨fun h => h, ?_⟩, ⟨fun h => h, leL_sint (by decide +kernel)⟩, ⟨fun h => h, rfl, hT0⟩, trivial⟩
  exact ⟨⟨rfl, rfl, rfl, rfl⟩, trivial⟩
 -- the length behind it
 have qS := cf8 ofS b s312F.R (ci S0N) T0 o n c (r + 1 + z)
 have n8 : n * 8 < 18446744073709551616 := by omega
 have f0 : IntKind.wrap .u8 (Int.fdiv ((n * 8 : Nat) : Int) 72057594037927936) = _ := wu8 (n * 8) 72057594037927936
 have f1 : IntKind.wrap .u8 (Int.fdiv ((n * 8 : Nat) : Int) 281474976710656) = _ := wu8 (n * 8) 281474976710656
 have f2 : IntKind.wrap .u8 (Int.fdiv ((n * 8 : Nat) : Int) 1099511627776) = _ := wu8 (n * 8) 1099511627776
 have f3 : IntKind.wrap .u8 (Int.fdiv ((n * 8 : Nat) : Int) 4294967296) = _ := wu8 (n * 8) 4294967296
 have f4 : IntKind.wrap .u8 (Int.fdiv ((n * 8 : Nat) : Int) 16777216) = _ := wu8 (n * 8) 16777216
 have f5 : IntKind.wrap .u8 (Int.fdiv ((n * 8 : Nat) : Int) 65536) = _ := wu8 (n * 8) 65536
 have f6 : IntKind.wrap .u8 (Int.fdiv ((n * 8 : Nat) : Int) 256) = _ := wu8 (n * 8) 256
 have f7 : IntKind.wrap .u8 (Int.fdiv ((n * 8 : Nat) : Int) 1) = _ := wu8 (n * 8) 1
 simp only [w64n n8, f0, f1, f2, f3, f4, f5, f6, f7, Nat.div_one] at qS
 rw [selS] at qS
 obtain ⟨T1, hT1⟩ : ∃ T1, ci ((padN x).drop (64 * q)) = T1 := ⟨_, rfl⟩
 have hpart : List.take r (List.drop (o + 64 * q) b) = ci (x.drop (64 * q)) := by
  rw [← hxx]
  unfold partN
  rw [nats_drop, ci_nats fun y hy => (u8L_part hb o n y (List.mem_of_mem_drop hy)).1]
  rw [List.drop_take, List.drop_drop, show n - 64 * q = r by omega]
 have hT1' : T0 ++ [((n * 8 / 72057594037927936 % 256 : Nat) : Int)] ++ [((n * 8 / 281474976710656 % 256 : Nat) : Int)] ++ [((n * 8 / 1099511627776 % 256 : Nat) : Int)] ++ [((n * 8 / 4294967296 % 256 : Nat) : Int)] ++ [((n * 8 / 16777216 % 256 : Nat) : Int)] ++ [((n * 8 / 65536 % 256 : Nat) : Int)] ++ [((n * 8 / 256 % 256 : Nat) : Int)] ++ [((n * 8 % 256 : Nat) : Int)] = T1 := by
  rw [← hT1]
  have hp := padN_tail x
  rw [xl, hq] at hp
  rw [hp, ci_app, ci_app, ci_app, ← hpart, hz, ← hT0]
  simp only [List.append_assoc]
  rfl
 refine goes_stop (ρ0 := ρ) (T := TO2 b s312F.R (ci (bkN RN S0N (padN x) 0)) T1 (o + 64 * 0) (n - 64 * 0) (c - 64 * 0) (64 * cnt) []) (S := TO1 b s312F.R (ci S0N) T0 o n c (r + 1 + z) (List.replicate 8 true)) (callO_ok 8) funO qS ?_ ⟨ndS, ?_, ?_⟩ (fun ρ2 a2 w2 h2 => ?_) (h2.hints rfl rfl)
 ·simp only [allP, List.length_append, T0l, List.length_cons, List.length_nil, ea]
  repeat' (first | exact trivial | refine And.intro ?_ ?_)
  all_goals first | rfl | omega
 ·rw [← selS]; simp [TO2, leSlots, leV, leV1, leC, ci64, pt, slH, blH, N.v, hc]; omega
 ·rw [← selS]
  refine ⟨⟨fun h => h, rfl, rfl⟩, ⟨fun h => h, zeros8_same _ 32⟩, ⟨fun h => h, rfl, rfl⟩, ⟨fun h => h, ⟨rfl, rfl, rfl, rfl⟩, trivial⟩, ⟨fun h => h, rfl, by rw [bkN_zero]⟩, ⟨fun h => h, rfl, hT1'⟩, trivial⟩
 have PL : (padN x).length = 64 * q + 64 * cnt := by rw [padN_len, xl, hq, hr0, hz]; omega
 have T1u : u8L T1 := by rw [← hT1]; exact ci_u8 (wfB8_drop (padN_wf xw) _)
 have T1l : T1.length = 64 * cnt := by rw [← hT1, ci_len, List.length_drop, PL]; omega
 have T1n : nats T1 = (padN x).drop (64 * q) := by rw [← hT1, nats_ci]
 have blk : ∀ k, (bkN RN S0N (padN x) k).length = 8 := bkN_len S0_len
 have bwf : ∀ k, wfW (bkN RN S0N (padN x) k) := bkN_wf S0_wf
 have bsucc : ∀ k, wkN RN (bkN RN S0N (padN x) k) ((padN x).drop (64 * k)) = bkN RN S0N (padN x) (k + 1) := fun k => rfl
 -- the whole blocks
 refine goes_loop (ρ0 := ρ) (fun k : Nat => TO2 b s312F.R (ci (bkN RN S0N (padN x) k)) T1 (o + 64 * k) (n - 64 * k) (c - 64 * k) (64 * cnt) []) (fun k => k ≤ q) (fun k => q - k) ?_ (Nat.zero_le q) h2
 intro k hk ρ3 a3 w3 hr3 ih
 by_cases hk2 : k < q
 ·have qR := cf8 ofR b s312F.R (ci (bkN RN S0N (padN x) k)) T1 (o + 64 * k) (n - 64 * k) (c - 64 * k) (64 * cnt)
  have hw : wkN RN (bkN RN S0N (padN x) k) ((nats b).drop (o + 64 * k)) = bkN RN S0N (padN x) (k + 1) := by
   rw [← bsucc k]
   refine wkN_congr fun i hi => ?_
   rw [drop_getD, drop_getD, padN_get (by rw [xl]; omega), ← hxx, partN_get (by omega), Nat.add_assoc]
  simp only [nats_ci, RN_nats, hw] at qR
  rw [sel6] at qR
  refine goes_stop (ρ0 := ρ) (T := TO2 b s312F.R (ci (bkN RN S0N (padN x) (k + 1))) T1 (o + 64 * (k + 1)) (n - 64 * (k + 1)) (c - 64 * (k + 1)) (64 * cnt) []) (S := TO2 b s312F.R (ci (bkN RN S0N (padN x) k)) T1 (o + 64 * k) (n - 64 * k) (c - 64 * k) (64 * cnt) [true]) (callO_ok 8) funO qR ?_ ⟨nd6, ?_, ?_⟩ (fun ρ4 a4 w4 h4 => ih (k + 1) hk2 (by omega) ρ4 a4 w4 h4) (hr3.hints rfl rfl)
  ·have b1 := blk k; have b2 := blk (k + 1)
   have bu := ci_u32 (bwf k)
   simp only [allP, ci_len, b1, b2]
   repeat' (first | exact trivial | exact RN_len | exact RN_u32 | exact bu | exact hb | refine And.intro ?_ ?_)
   all_goals first | rfl | omega | exact decide_eq_true (by omega)
  ·rw [← sel6]; simp [TO2, leSlots, leV, leV1, leC, pt, slH, blH, N.v]; omega
  ·rw [← sel6]
   refine ⟨⟨fun h => h, rfl, rfl⟩, ⟨fun h => h, zeros8_same _ 32⟩, ⟨fun h => h, rfl, rfl⟩, ⟨fun h => h, ⟨rfl, rfl, rfl, rfl⟩, trivial⟩, ⟨fun h => h, rfl, rfl⟩, ⟨fun h => h, rfl, rfl⟩, trivial⟩
 have hkq : k = q := by omega
 subst hkq
 have qX := cf8 ofX b s312F.R (ci (bkN RN S0N (padN x) k)) T1 (o + 64 * k) (n - 64 * k) (c - 64 * k) (64 * cnt)
 rw [sel8] at qX
 refine goes_stop (ρ0 := ρ) (T := ⟨slO3, mO3 b s312F.R (ci (bkN RN S0N (padN x) (k + 0))) T1 (64 * cnt), [], []⟩) (S := TO2 b s312F.R (ci (bkN RN S0N (padN x) k)) T1 (o + 64 * k) (n - 64 * k) (c - 64 * k) (64 * cnt) [false]) (callO_ok 8) funO qX ?_ ⟨nd8, ?_, ?_⟩ (fun ρ4 a4 w4 h4 => ?_) (hr3.hints rfl rfl)
 ·exact ⟨decide_eq_false (by omega), trivial⟩
 ·rw [← sel8]
  refine ⟨⟨rfl, ⟨rfl, rfl, rfl, rfl⟩⟩, ⟨rfl, ⟨rfl, rfl, rfl, rfl⟩⟩, ⟨rfl, ⟨rfl, rfl, rfl, rfl⟩⟩, ⟨rfl, ⟨rfl, rfl⟩⟩, trivial⟩
 ·rw [← sel8]
  refine ⟨⟨fun h => h, rfl, rfl⟩, ⟨fun h => h, zeros8_same _ 32⟩, ⟨fun h => h, rfl, rfl⟩, ⟨fun h => h, ⟨rfl, rfl, rfl, rfl⟩, trivial⟩, ⟨fun h => h, rfl, rfl⟩, ⟨fun h => h, rfl, rfl⟩, ⟨fun h => h, ⟨rfl, rfl, rfl, rfl, Nat.le_refl _, Nat.le_refl _⟩, trivial⟩, ⟨fun h => h, ⟨rfl, rfl⟩, trivial⟩, trivial⟩
 -- the tail's blocks
 rw [kOr]
 have hlen8 : (ρ ++ ρ4).length = 8 := h4.m.len
 obtain ⟨⟨es, hes, hfv⟩, _⟩ := h4.sl.slot 55 _ rfl
 obtain ⟨e6, e7, hes6, hes7, hese⟩ : ∃ e6 e7, (ρ ++ ρ4)[6]? = some e6 ∧ (ρ ++ ρ4)[7]? = some e7 ∧ es = [e6, e7] := by
  match es, hes with
  | [a, b], h => simp only [List.map_cons, List.map_nil, List.cons.injEq, and_true] at h; exact ⟨a, b, h.1, h.2, rfl⟩
  | [], h => simp at h
  | [_], h => simp at h
  | _ :: _ :: _ :: _, h => simp at h
 have hg : a4.eval (.tmp 55) = .func (.func fCh) #[] #[.pointer (some ⟨e6.blk, e6.off, none⟩), .pointer (some ⟨e7.blk, e7.off, none⟩)] := by
  rw [hese] at hfv; exact hfv
 have sel80 : ([0, 1, 2, 3, 4, 5, 6, 7] : List Nat) = List.range (ρ ++ ρ4).length ++ [] := by rw [hlen8]; rfl
 refine goes_range (ρ := ρ ++ ρ4) (ρ0 := ρ) (ρ1 := ρ4) (cnt := cnt) (M := fun i => mO3 b s312F.R (ci (bkN RN S0N (padN x) (k + i))) T1 (64 * cnt)) (X := fun i => xO (64 * i)) (SA := fun i => SAO b s312F.R (ci (bkN RN S0N (padN x) (k + i))) T1 (64 * cnt) (64 * i)) h4 hg entI tmp56 rfl
  (chunk_iter (bs := 6) (bn := 7) (bt := 5) (n := 64 * cnt) (c := 64 * cnt) (T := T1) hes6 hes7 (by rw [hlen8]; decide) (by decide) (by decide) (by decide) (fun i => ⟨_, _, _, rfl, rfl, rfl⟩) rfl (Nat.le_refl _) (by omega)) ?_ (fun i => rfl) ?_ rfl ?_
 ·intro l i ρ5 B' W' a5 w5 Q hi hr5 hQ hK
  refine evalBody_in (callO_ok 8) (S' := SAO b s312F.R (ci (bkN RN S0N (padN x) (k + i))) T1 (64 * cnt) (64 * i)) (cf6 asO_run b s312F.R (ci (bkN RN S0N (padN x) (k + i))) T1 (64 * cnt) (64 * i)) (fun p hp => by cases hp) hr5 hQ fun a6 w6 ρ6 hr6 => ?_
  exact hK a6 w6 (ρ5 ++ ρ6) (by rw [← List.append_assoc]; exact hr6)
 ·intro l i ρ5 B' W' a5 w5 Q hi hr5 hQ hK
  have qB := cf6 ofB b s312F.R (ci (bkN RN S0N (padN x) (k + i))) T1 (64 * cnt) (64 * i)
  have hw : wkN RN (bkN RN S0N (padN x) (k + i)) ((nats T1).drop (64 * i)) = bkN RN S0N (padN x) (k + (i + 1)) := by
   rw [T1n, List.drop_drop, ← Nat.mul_add, bsucc]; rfl
  simp only [nats_ci, RN_nats, hw] at qB
  rw [sel80] at qB
  obtain ⟨S9, hS9, hob9, hle9⟩ := stopV_spec qB
  have hd9 := preI_stop hS9
  refine evalBody_in (callO_ok 8) hd9 (by
   have b1 := blk (k + i); have b2 := blk (k + (i + 1))
   have bu := ci_u32 (bwf (k + i))
   rw [hob9]
   refine allP_mem ?_
   simp only [allP, ci_len, b1, b2]
   repeat' (first | exact trivial | exact RN_len | exact RN_u32 | exact bu | exact T1u | refine And.intro ?_ ?_)
   all_goals first | rfl | omega) hr5 hQ fun a6 w6 ρ6 hr6 => ?_
  obtain ⟨ρ7, hs7, hr7⟩ := hr6.le (hle9 ⟨[], mO3 b s312F.R (ci (bkN RN S0N (padN x) (k + (i + 1)))) T1 (64 * cnt), [], []⟩ ⟨by rw [hlen8]; decide, trivial, by
   rw [← sel80]
   refine ⟨⟨fun h => h, rfl, rfl⟩, ⟨fun h => h, zeros8_same _ 32⟩, ⟨fun h => h, rfl, rfl⟩, ⟨fun h => h, ⟨rfl, rfl, rfl, rfl⟩, trivial⟩, ⟨fun h => h, rfl, rfl⟩, ⟨fun h => h, rfl, rfl⟩, ⟨fun h => h, ⟨rfl, rfl, rfl, rfl, Nat.le_refl _, Nat.le_refl _⟩, trivial⟩, ⟨fun h => h, ⟨rfl, rfl⟩, trivial⟩, trivial⟩⟩)
  rw [List.append_assoc] at hs7
  obtain ⟨ρ8, rfl⟩ := hs7.front
  exact hK a6 w6 ρ8 hr7.m
 ·intro D B' W' ρ5 a5 w5 hr5
  have qZ := cf5 ofZ b s312F.R (ci (bkN RN S0N (padN x) (k + cnt))) T1 (64 * cnt)
  have hcount : (padN x).length / 64 = k + cnt := by rw [PL]; omega
  have hfin : shaN x = outN (bkN RN S0N (padN x) (k + cnt)) := by
   unfold shaN hashN
   rw [hcount]
  have sel1 : ([0] : List Nat) = List.range ρ.length ++ [] := by rw [hρ1]; rfl
  rw [sel1] at qZ
  rw [hfin]
  rw [List.append_assoc] at hr5
  refine goes_retW (ρ := ρ) (ds := [colD D]) (r := []) (v := .v (.aggi .u8 (ci (outN (bkN RN S0N (padN x) (k + cnt)))))) (callO_ok 8) funO qZ ?_ (by rw [hρ1]; decide) ?_ ?_ hr5
  ·have b1 := blk (k + cnt)
   simp only [allP, ci_len, b1]
   repeat' (first | exact trivial | refine And.intro ?_ ?_)
   all_goals first | rfl | omega
  ·show leL _ _ ((ci (outN (bkN RN S0N (padN x) (k + cnt)))).map (C.sint .u8))
   rw [← out_eq]
   unfold outI
   simp [List.range, List.range.loop, leL, leC]
  ·rw [← sel1]; exact ⟨⟨fun h => h, rfl, rfl⟩, trivial⟩
def gOf : Sx.Loc := fun args bs => match args, bs with
 | [.v (.one (.slice 0 i 1 n _))], [⟨false, .ints .u8 b⟩] => some (.v (.aggi .u8 (ci (shaN (partN b i.v n.v)))), [roH b], [u8L b, i.v + n.v ≤ b.length, b.length ≤ 1000000000])
 | _, _ => none
theorem of_tab : TabOk Try.prog 44 (loc wantH gOf) := loc_ok fun xs bs v bs' ob hg hob hokb => by
 unfold gOf at hg
 split at hg
 ·rename_i i n c l
  cases hg
  intro ρ K w us hm hu
  obtain ⟨u1, s1, rfl, k1, k2⟩ := hu
  exact of_works (hob _ (by simp)) (hob (i.v + n.v ≤ l.length) (by simp)) (hob (l.length ≤ 1000000000) (by simp)) ρ K w _ hm ⟨u1, _, rfl, slH_rel k1, k2⟩
 ·cases hg
end
end Go.Proofs.Ytbamfolinbehiaa
