/- bytes.Blob: its run. bytes.Blob: the contract. BytesTells: its runs. BytesTells is true of any numbers, bytes, place and most. -/
import Derived.Test.YtjjjpflnhagfcaaTb
namespace Go.Proofs.Ytjjjpflnhagfcaa
section
open Go.Sx
def tabBl := tabs [(11, loc ownB1 (putL .u64 vint u64))]
noncomputable def callBl (d : Nat) := callN Try.prog tabBl (fun f => Nat.beq f 11) 100000 d
theorem bl1 : (fun (l b : List Int) (c n d : Nat) => retV [0, 1, 3] (callBl 4 25 [bsl 0 l.length c, bsl 1 n d] [owB l, roB b] [true, false])) = fun (l : List Int) (b : List Int) (c : Nat) (n : Nat) (d : Nat) => some (((V.v (V1.one (C.slice ((3 : Nat)) (N.c ((0 : Nat))) ((1 : Nat)) (N.s (List.length (l ++ vint (IntKind.wrap IntKind.u64 (↑n : Int))) + n)) (N.s (List.length (l ++ vint (IntKind.wrap IntKind.u64 (↑n : Int))) + n))))), ([(SB.mk (true) (Cells.dead)), (SB.mk (false) (Cells.ints (IntKind.u8) (b))), (SB.mk (true) (Cells.ints (IntKind.u8) (l ++ vint (IntKind.wrap IntKind.u64 (↑n : Int)) ++ List.take n (List.drop (0 : Nat) b))))], [(0 : Nat) = (0 : Nat), List.length (l ++ vint (IntKind.wrap IntKind.u64 (↑n : Int))) = List.length (l ++ vint (IntKind.wrap IntKind.u64 (↑n : Int))), (0 : Nat) + n ≤ List.length b, (List.length (l ++ vint (IntKind.wrap IntKind.u64 (↑n : Int))) + n) * (1 : Nat) ≤ (140737488355328 : Nat), List.length (l ++ vint (IntKind.wrap IntKind.u64 (↑n : Int))) + n ≤ (9223372036854775807 : Nat), u64 (IntKind.wrap IntKind.u64 (↑n : Int)), List.length l = List.length l, List.length l + (10 : Nat) ≤ (140737488355328 : Nat)]))) := by kernel_rfl
def blobW : List V → List Want := fun _ => [(true, .ints .u8), (false, .ints .u8)]
def gBlob : Sx.Loc := fun args bs => match args, bs with
  | [.v (.one (.slice 0 (.c 0) 1 (.s a) (.s _))), .v (.one (.slice 1 (.c 0) 1 (.s m) (.s _)))], [⟨true, .ints k l⟩, ⟨false, .ints k' b⟩] => match decide (k = .u8) && decide (k' = .u8) with
    | true => some (bsl 2 (l ++ vint (m : Nat) ++ b.take m).length (l ++ vint (m : Nat) ++ b.take m).length, [⟨true, .dead⟩, roB b, owB (l ++ vint (m : Nat) ++ b.take m)], [a = l.length, m ≤ b.length, l.length + m + 20 ≤ 140737488355328])
    | false => none
  | _, _ => none
end
section
open Go.ChangeShapes Go.WideShapes Go.ChangeAt Go.RowKit Go.Sx
theorem tabBl_ok : ∀ f g, tabBl f = some g → TabOk Try.prog f g := tabs_ok fun x hx => by
  simp only [List.mem_cons, List.not_mem_nil, or_false] at hx
  rcases hx with rfl
  exact uint_tab
theorem ndBl : (List.range 2 ++ [3]).Nodup := by decide
theorem blob_works (l b : List Int) (c n d : Nat) (hb : n ≤ b.length) (hl : l.length + n + 20 ≤ 140737488355328) : Works Try.prog 25 [bsl 0 l.length c, bsl 1 n d] [owB l, roB b] (bsl 2 (l ++ vint (n : Nat) ++ b.take n).length (l ++ vint (n : Nat) ++ b.take n).length) [⟨true, .dead⟩, roB b, owB (l ++ vint (n : Nat) ++ b.take n)] := by
  have q := congrFun (congrFun (congrFun (congrFun (congrFun bl1 l) b) c) n) d
  have ew : IntKind.wrap .u64 (n : Int) = ((n : Nat) : Int) := w64 (by omega) (by omega)
  have hv := vint_le (n := ((n : Nat) : Int)) ⟨by omega, by omega⟩
  have ht : (b.take n).length = n := by rw [List.length_take]; omega
  rw [ew, List.drop_zero] at q
  refine works_of (r := [3]) tabBl_ok q ⟨rfl, rfl, by omega, ?_, ?_, ⟨by omega, by omega⟩, rfl, by omega, trivial⟩ ndBl ?_ ?_
  · rw [List.length_append]; omega
  · rw [List.length_append]; omega
  · simp [bsl, leV, leV1, leC, N.v, List.range, List.range.loop, ht, Nat.add_assoc]
  · exact ⟨⟨fun h => h, trivial⟩, ⟨fun h => h, rfl, rfl⟩, ⟨fun h => h, rfl, rfl⟩, trivial⟩
theorem blob_tab : TabOk Try.prog 25 (loc blobW gBlob) := loc_ok fun xs bs v bs' ob hg hob hokb => by
  unfold gBlob at hg
  split at hg
  · rename_i a c m d k l k' b
    split at hg
    · rename_i hk
      rw [Bool.and_eq_true] at hk
      injection hg with hg; injection hg with e1 e2; injection e2 with e2 e3
      subst e1; subst e2; subst e3
      have h1 : k = .u8 := of_decide_eq_true hk.1
      have h2 : k' = .u8 := of_decide_eq_true hk.2
      subst h1; subst h2
      have ha := hob (a = l.length) (by simp)
      subst ha
      exact blob_works l b c m d (hob (m ≤ b.length) (by simp)) (hob (l.length + m + 20 ≤ 140737488355328) (by simp))
    · cases hg
  · cases hg
end
section
open Go.Sx
def effT : FuncId → Bool := fun f => Nat.beq f 11 || Nat.beq f 13 || Nat.beq f 25
def tabTl := tabs [(12, yes), (11, loc ownB1 (putL .u64 vint u64)), (13, loc ownB1 (putL .i64 svint i64)), (25, loc blobW gBlob), (14, loc frozen8 gCrc), (16, loc frozen8 gSeal), (17, loc frozen8 gUnseal), (20, loc wantRo gGet), (21, loc wantRo gGetI), (22, loc wantRo gGetB), (23, loc wantRo (putR .u64 vint u64)), (24, loc wantRo (putR .i64 svint i64)), (27, loc frozen8 gCrc), (28, loc frozen8 gSeal), (32, loc frozen8 gUnseal), (29, loc wantRo gGet), (30, loc wantRo gGetI), (31, loc wantRo gGetB)]
noncomputable def callTl (d : Nat) := callN Try.prog tabTl effT 100000 d
noncomputable def lwT (h : List Bool) (u m : Int) (l : List Int) (n c : Nat) (a k : Int) := obsOf (callTl 5 9 [si .u64 u, si .i64 m, bsl 0 n c, si .i64 a, si .i64 k] [roB l] h)
theorem bt0 : (fun (u m : Int) (l : List Int) (n c : Nat) (a k : Int) => lwT [true] u m l n c a k) = fun (u : Int) (m : Int) (l : List Int) (n : Nat) (c : Nat) (a : Int) (k : Int) => some ([decide ((300 : Int) < (↑n : Int)) = true]) := by kernel_rfl
theorem bt1 : (fun (u m : Int) (l : List Int) (n c : Nat) (a k : Int) => lwT [false, true, true, true, true, false, true, true, true, false, true, true, true, true, true, true, false, false, true, true, false, false, false, false, false, false, false, true, true, false, false, false, true, true, true, true, true, true, true] u m l n c a k) = fun (u : Int) (m : Int) (l : List Int) (n : Nat) (c : Nat) (a : Int) (k : Int) => some ([(List.map (fun (n : Int) ↦ UInt8.ofNat (Int.toNat n)) ([] ++ l) == List.map (fun (n : Int) ↦ UInt8.ofNat (Int.toNat n)) l) = true, (0 : Nat) = (0 : Nat), n = List.length l, (0 : Nat) = (0 : Nat), n = List.length ([] ++ l), decide (Prod.snd (unsealS (List.take n ([] ++ l))) = Prod.snd (unsealS (List.take n l))) = true, (List.map (fun (n : Int) ↦ UInt8.ofNat (Int.toNat n)) (Prod.fst (unsealS (List.take n ([] ++ l)))) == List.map (fun (n : Int) ↦ UInt8.ofNat (Int.toNat n)) (Prod.fst (unsealS (List.take n l)))) = true, (0 : Nat) = (0 : Nat), List.length (Prod.fst (unsealS (List.take n l))) = List.length (Prod.fst (unsealS (List.take n l))), (0 : Nat) = (0 : Nat), List.length (Prod.fst (unsealS (List.take n ([] ++ l)))) = List.length (Prod.fst (unsealS (List.take n ([] ++ l)))), n ≤ List.length l, n ≤ (1000000 : Nat), wf8 l, n ≤ List.length ([] ++ l), n ≤ (1000000 : Nat), wf8 ([] ++ l), (!decide (Prod.snd (Prod.snd (getB ([] ++ l) n a k)) = Prod.snd (Prod.snd (getB l n a k)))) = false, (!decide (Prod.fst (Prod.snd (getB ([] ++ l) n a k)) = Prod.fst (Prod.snd (getB l n a k)))) = false, (!List.map (fun (n : Int) ↦ UInt8.ofNat (Int.toNat n)) (Prod.fst (getB ([] ++ l) n a k)) == List.map (fun (n : Int) ↦ UInt8.ofNat (Int.toNat n)) (Prod.fst (getB l n a k))) = false, (0 : Nat) = (0 : Nat), List.length (Prod.fst (getB l n a k)) = List.length (Prod.fst (getB l n a k)), (0 : Nat) = (0 : Nat), List.length (Prod.fst (getB ([] ++ l) n a k)) = List.length (Prod.fst (getB ([] ++ l) n a k)), n ≤ List.length l, n ≤ (1000000000 : Nat), wfB l, i64 k, n ≤ List.length ([] ++ l), n ≤ (1000000000 : Nat), wfB ([] ++ l), i64 k, (!decide (Prod.snd (Prod.snd (getI ([] ++ l) n a)) = Prod.snd (Prod.snd (getI l n a)))) = false, (!decide (Prod.fst (Prod.snd (getI ([] ++ l) n a)) = Prod.fst (Prod.snd (getI l n a)))) = false, (!decide (Prod.fst (getI ([] ++ l) n a) = Prod.fst (getI l n a))) = false, n ≤ List.length l, n ≤ (1000000000 : Nat), wfB l, n ≤ List.length ([] ++ l), n ≤ (1000000000 : Nat), wfB ([] ++ l), (!decide (Prod.snd (Prod.snd (getU ([] ++ l) n a)) = Prod.snd (Prod.snd (getU l n a)))) = false, (!decide (Prod.fst (Prod.snd (getU ([] ++ l) n a)) = Prod.fst (Prod.snd (getU l n a)))) = false, (!decide (Prod.fst (getU ([] ++ l) n a) = Prod.fst (getU l n a))) = false, n ≤ List.length l, n ≤ (1000000000 : Nat), wfB l, n ≤ List.length ([] ++ l), n ≤ (1000000000 : Nat), wfB ([] ++ l), (!List.map (fun (n : Int) ↦ UInt8.ofNat (Int.toNat n)) (sealS (List.take n ([] ++ l))) == List.map (fun (n : Int) ↦ UInt8.ofNat (Int.toNat n)) (sealS (List.take n l))) = false, (0 : Nat) = (0 : Nat), Nat.add n (4 : Nat) = List.length (sealS (List.take n l)), n ≤ List.length l, n ≤ (1000000 : Nat), wf8 l, (0 : Nat) = (0 : Nat), Nat.add n (4 : Nat) = List.length (sealS (List.take n ([] ++ l))), n ≤ List.length ([] ++ l), n ≤ (1000000 : Nat), wf8 ([] ++ l), (!decide (crcS (List.take n ([] ++ l)) = crcS (List.take n l))) = false, n ≤ List.length l, n ≤ (1000000 : Nat), wf8 l, n ≤ List.length ([] ++ l), n ≤ (1000000 : Nat), wf8 ([] ++ l), (!List.map (fun (n : Int) ↦ UInt8.ofNat (Int.toNat n)) ([] ++ l ++ vint (↑n : Int) ++ List.take n ([] ++ l)) == List.map (fun (n : Int) ↦ UInt8.ofNat (Int.toNat n)) ([] ++ (l ++ vint (IntKind.wrap IntKind.u64 (↑n : Int))) ++ l)) = false, (0 : Nat) = (0 : Nat), Nat.add (List.length (l ++ vint (IntKind.wrap IntKind.u64 (↑n : Int)))) n = List.length ([] ++ (l ++ vint (IntKind.wrap IntKind.u64 (↑n : Int))) ++ l), (0 : Nat) = (0 : Nat), List.length (l ++ vint (IntKind.wrap IntKind.u64 (↑n : Int))) = List.length ([] ++ (l ++ vint (IntKind.wrap IntKind.u64 (↑n : Int)))), (0 : Nat) = (0 : Nat), n = List.length l, (List.length (l ++ vint (IntKind.wrap IntKind.u64 (↑n : Int))) + n) * (1 : Nat) ≤ (140737488355328 : Nat), List.length (l ++ vint (IntKind.wrap IntKind.u64 (↑n : Int))) + n ≤ (9223372036854775807 : Nat), (0 : Nat) = (0 : Nat), List.length (l ++ vint (IntKind.wrap IntKind.u64 (↑n : Int))) = List.length (l ++ vint (IntKind.wrap IntKind.u64 (↑n : Int))), List.length (l ++ vint (IntKind.wrap IntKind.u64 (↑n : Int))) * (1 : Nat) ≤ (140737488355328 : Nat), List.length (l ++ vint (IntKind.wrap IntKind.u64 (↑n : Int))) ≤ (9223372036854775807 : Nat), (0 : Int) ≤ (↑(List.length (l ++ vint (IntKind.wrap IntKind.u64 (↑n : Int)))) : Int) + (↑n : Int), Int.toNat ((↑(List.length (l ++ vint (IntKind.wrap IntKind.u64 (↑n : Int)))) : Int) + (↑n : Int)) * (1 : Nat) ≤ (140737488355328 : Nat), Int.toNat ((↑(List.length (l ++ vint (IntKind.wrap IntKind.u64 (↑n : Int)))) : Int) + (↑n : Int)) ≤ (9223372036854775807 : Nat), (-9223372036854775808 : Int) ≤ (↑(List.length (l ++ vint (IntKind.wrap IntKind.u64 (↑n : Int)))) : Int) + (↑n : Int) ∧ (↑(List.length (l ++ vint (IntKind.wrap IntKind.u64 (↑n : Int)))) : Int) + (↑n : Int) ≤ (9223372036854775807 : Int), u64 (IntKind.wrap IntKind.u64 (↑n : Int)), n = List.length l, List.length l + (10 : Nat) ≤ (140737488355328 : Nat), (0 : Nat) = (0 : Nat), List.length ([] ++ l ++ vint (↑n : Int) ++ List.take n ([] ++ l)) = List.length ([] ++ l ++ vint (↑n : Int) ++ List.take n ([] ++ l)), n = List.length ([] ++ l), n ≤ List.length ([] ++ l), List.length ([] ++ l) + n + (20 : Nat) ≤ (140737488355328 : Nat), (0 : Nat) = (0 : Nat), n = List.length l, n * (1 : Nat) ≤ (140737488355328 : Nat), n ≤ (9223372036854775807 : Nat), (!List.map (fun (n : Int) ↦ UInt8.ofNat (Int.toNat n)) ([] ++ l ++ svint m) == List.map (fun (n : Int) ↦ UInt8.ofNat (Int.toNat n)) (l ++ svint m)) = false, (0 : Nat) = (0 : Nat), List.length (l ++ svint m) = List.length (l ++ svint m), i64 m, n = List.length l, List.length l + (10 : Nat) ≤ (140737488355328 : Nat), (0 : Nat) = (0 : Nat), List.length ([] ++ l ++ svint m) = List.length ([] ++ l ++ svint m), i64 m, n = List.length ([] ++ l), List.length ([] ++ l) + (10 : Nat) ≤ (140737488355328 : Nat), (0 : Nat) = (0 : Nat), n = List.length l, n * (1 : Nat) ≤ (140737488355328 : Nat), n ≤ (9223372036854775807 : Nat), (!List.map (fun (n : Int) ↦ UInt8.ofNat (Int.toNat n)) ([] ++ l ++ vint u) == List.map (fun (n : Int) ↦ UInt8.ofNat (Int.toNat n)) (l ++ vint u)) = false, (0 : Nat) = (0 : Nat), List.length (l ++ vint u) = List.length (l ++ vint u), u64 u, n = List.length l, List.length l + (10 : Nat) ≤ (140737488355328 : Nat), (0 : Nat) = (0 : Nat), List.length ([] ++ l ++ vint u) = List.length ([] ++ l ++ vint u), u64 u, n = List.length ([] ++ l), List.length ([] ++ l) + (10 : Nat) ≤ (140737488355328 : Nat), (0 : Nat) = (0 : Nat), n = List.length l, n * (1 : Nat) ≤ (140737488355328 : Nat), n ≤ (9223372036854775807 : Nat), (0 : Nat) = (0 : Nat), n = List.length l, n * (1 : Nat) ≤ (140737488355328 : Nat), n ≤ (9223372036854775807 : Nat), decide ((300 : Int) < (↑n : Int)) = false]) := by kernel_rfl
end
section
open Go.ChangeShapes Go.WideShapes Go.ChangeAt Go.RowKit Go.Sx
section
variable {H : Type} {enc : TypeId × Value → H} {P : Program} {w : World} {base : Nat} {spare : Nat → Bool} {held : Bool}
theorem trodAll_five {t0 t1 t2 t3 t4 : TypeId} {args : Array Value} {ds : List (DataW H)} {ps : List MemPlace} (h : DataW.TrodAll enc P w base spare held [t0, t1, t2, t3, t4] args.toList ds ps) :
    ∃ v0 v1 v2 v3 v4 d0 d1 d2 d3 d4 p0 p1 p2 p3 p4, args = #[v0, v1, v2, v3, v4] ∧ ds = [d0, d1, d2, d3, d4] ∧ ps = p0 ++ p1 ++ p2 ++ p3 ++ p4 ∧ DataW.Trod enc P w base spare held t0 v0 d0 p0 ∧ DataW.Trod enc P w base spare held t1 v1 d1 p1 ∧
      DataW.Trod enc P w base spare held t2 v2 d2 p2 ∧ DataW.Trod enc P w base spare held t3 v3 d3 p3 ∧ DataW.Trod enc P w base spare held t4 v4 d4 p4 := by
  obtain ⟨v0, r0, d0, s0, p0, q0, hargs, rfl, rfl, h0, k0⟩ := trodAll_cons h
  obtain ⟨v1, r1, d1, s1, p1, q1, rfl, rfl, rfl, h1, k1⟩ := trodAll_cons k0
  obtain ⟨v2, r2, d2, s2, p2, q2, rfl, rfl, rfl, h2, k2⟩ := trodAll_cons k1
  obtain ⟨v3, r3, d3, s3, p3, q3, rfl, rfl, rfl, h3, k3⟩ := trodAll_cons k2
  obtain ⟨v4, r4, d4, s4, p4, q4, rfl, rfl, rfl, h4, k4⟩ := trodAll_cons k3
  obtain ⟨rfl, rfl, rfl⟩ := trodAll_nil k4
  exact ⟨v0, v1, v2, v3, v4, d0, d1, d2, d3, d4, p0, p1, p2, p3, p4, by cases args; simp_all, rfl, by simp, h0, h1, h2, h3, h4⟩
end
theorem tabTl_ok : ∀ f g, tabTl f = some g → TabOk Try.prog f g := tabs_ok fun x hx => by
  simp only [List.mem_cons, List.not_mem_nil, or_false] at hx
  rcases hx with rfl | rfl | rfl | rfl | rfl | rfl | rfl | rfl | rfl | rfl | rfl | rfl | rfl | rfl | rfl | rfl | rfl | rfl
  · exact yes_ok no_tabs awake_run
  · exact uint_tab
  · exact int_tab
  · exact blob_tab
  · exact crc_tab
  · exact seal_tab
  · exact unseal_tab
  · exact get_tab
  · exact geti_tab
  · exact getb_tab
  · exact ru_tab
  · exact ri_tab
  · exact rc_tab
  · exact rseal_tab
  · exact runseal_tab
  · exact getref_tab
  · exact getrefi_tab
  · exact getrefb_tab
theorem bt_ok (u m : Int) (l : List Int) (a k : Int) (hu : u64 u) (hm : i64 m) (hw : wf8 l) (hk : i64 k) (h3 : l.length ≤ 300) : ∃ ob, allP ob ∧
    lwT [false, true, true, true, true, false, true, true, true, false, true, true, true, true, true, true, false, false, true, true, false, false, false, false, false, false, false, true, true, false, false, false, true, true, true, true, true, true, true] u m l l.length l.length a k = some ob := by
  have q := congrFun (congrFun (congrFun (congrFun (congrFun (congrFun (congrFun bt1 u) m) l) l.length) l.length) a) k
  have ew : IntKind.wrap .u64 (l.length : Int) = ((l.length : Nat) : Int) := w64 (by omega) (by omega)
  have hv := vint_le (n := ((l.length : Nat) : Int)) ⟨by omega, by omega⟩
  have hsl := sealS_len l
  have hul : u64 ((l.length : Nat) : Int) := ⟨by omega, by omega⟩
  have hwb : wfB l := hw
  have hadd : ∀ x y : Nat, Nat.add x y = x + y := fun _ _ => rfl
  simp only [List.nil_append, List.take_length, ew, beq_self_eq_true, decide_true, Bool.not_true] at q
  refine ⟨_, ?_, q⟩
  simp only [allP, hadd, List.length_append, hsl]
  repeat' (first | exact trivial | exact hu | exact hm | exact hk | exact hw | exact hwb | exact hul | refine And.intro ?_ ?_)
  all_goals first | omega | exact decide_eq_false (by omega)
theorem bytesTells_calls (u m : Int) (l : List Int) (e : E) (v : Value) (a k : Int) {W0 : World} (wu : (Lit.int .u64 u).wf = true) (wm : (Lit.int .i64 m).wf = true)
    (r : readOnly W0 (e, roB l)) (w : ∀ n ∈ l, (Lit.int .u8 n).wf = true) (_m : l.length ≤ maxLen) (hu : ∀ (ρ : Env) (b : Nat), ρ[b]? = some e → (V.v (.one (.slice b (.c 0) 1 (.s l.length) (.s l.length)))).rel ρ v)
    (_wa : (Lit.int .i64 a).wf = true) (wk : (Lit.int .i64 k).wf = true)
    (W : World) (hW : W0 = W := by rfl) : Calls Try.prog 9 #[.int .u64 u, .int .i64 m, v, .int .i64 a, .int .i64 k] W fun e w' => e = .returned (.bool true) ∧ Below W.heap.size W w' := by
  subst hW
  have hm := mem_args (W := W0) [(e, roB l)] (by intro y hy; simp at hy; subst hy; exact r)
  have hus : relVs ([(e, roB l)].map (·.1)) [si .u64 u, si .i64 m, bsl 0 l.length l.length, si .i64 a, si .i64 k] [.int .u64 u, .int .i64 m, v, .int .i64 a, .int .i64 k] :=
    ⟨_, _, rfl, ⟨rfl, rfl⟩, _, _, rfl, ⟨rfl, rfl⟩, _, _, rfl, hu _ 0 rfl, _, _, rfl, ⟨rfl, rfl⟩, _, _, rfl, ⟨rfl, rfl⟩, rfl⟩
  have uu : u64 u := by
    simp [Lit.wf, IntKind.min, IntKind.max, IntKind.signed, IntKind.bits] at wu
    unfold u64; omega
  have um : i64 m := by
    simp [Lit.wf, IntKind.min, IntKind.max, IntKind.signed, IntKind.bits] at wm
    unfold i64; omega
  have uk : i64 k := by
    simp [Lit.wf, IntKind.min, IntKind.max, IntKind.signed, IntKind.bits] at wk
    unfold i64; omega
  have ul : wf8 l := fun x hx => by
    have := w x hx
    simp [Lit.wf, IntKind.min, IntKind.max, IntKind.signed, IntKind.bits] at this
    omega
  by_cases h3 : (300 : Int) < l.length
  · exact law_obs tabTl_ok (congrFun (congrFun (congrFun (congrFun (congrFun (congrFun (congrFun bt0 u) m) l) l.length) l.length) a) k) ⟨decide_eq_true h3, trivial⟩ hm hus
  · obtain ⟨ob, hob, q⟩ := bt_ok u m l a k uu um ul uk (by omega)
    exact law_obs tabTl_ok q hob hm hus

set_option maxRecDepth 100000 in
theorem bytesTells_lifted (os : Os) (started : os.Started) (H : Type) (enc : TypeId × Value → H) :
    ReturnsInHanded {} Try.checked os 9 .any (Rows.bytesTellsSpec.pre6 enc Try.prog Try.f9 Rows.bytesTellsRow.domain false) (Rows.bytesTellsSpec.post enc Try.prog Try.f9 false true false false) := by
  refine returnsInHanded_of_change (C := Try.checked) own started (by kernel_rfl) Try.func9
    (ChangeSpec.witness6 (enc := enc) (C := Try.checked) false ⟨#[], #[.int .u64 0, .int .i64 0, .slice none 0 0, .int .i64 0, .int .i64 0], []⟩ 8 (by kernel_rfl) (by kernel_rfl) (by kernel_rfl) (by kernel_rfl)) ?_
  intro W base args ds gs before hval0 hW hcnd _
  have hval : ∀ (j : Nat) t v, Try.f9.params[j]? = some t → args[j]? = some v → Value.okWide Try.prog W .any base t v := hval0
  have hW' := hW
  obtain ⟨p, q, hA0, hV, hbef, hfz, hnd⟩ := hW
  have hA : DataW.TrodAll enc Try.prog W 0 (fun _ => true) true Try.f9.params.toList args.toList ds p := hA0
  rw [Try.params9] at hA hval
  obtain ⟨v0, v1, v2, v3, v4, d0, d1, d2, d3, d4, p0, p1, p2, p3, p4, rfl, rfl, hp, h0, h1, h2, h3, h4⟩ := trodAll_five hA
  obtain ⟨a0, rfl, rfl, _, w0⟩ := open_int Try.underlying22 (hval 0 22 v0 rfl rfl) h0
  obtain ⟨a1, rfl, rfl, _, w1⟩ := open_int Try.underlying2 (hval 1 2 v1 rfl rfl) h1
  obtain ⟨a2, e2, r2, w2, m2, u2⟩ := one_ints (k := .u8) (d := 20) (by kernel_rfl) (hval 2 23 v2 rfl rfl) h2
  obtain ⟨a3, rfl, rfl, _, w3⟩ := open_int Try.underlying3 (hval 3 3 v3 rfl rfl) h3
  obtain ⟨a4, rfl, rfl, _, w4⟩ := open_int Try.underlying3 (hval 4 3 v4 rfl rfl) h4
  refine (bytesTells_calls a0 a1 a2 e2 v2 a3 a4 w0 w1 r2 w2 m2 u2 w3 w4 W).mono fun e W' ⟨he, hb⟩ => ?_
  subst he
  exact ⟨_, rfl, post_law laidOut (by rw [Try.params9]; decide +kernel) rfl rfl (by kernel_rfl) Try.underlying4 hW' hb⟩

theorem bytesTells_holds : Rows.BytesTellsSaid :=
  OpenClaim.holds_of_wide 9 Try.f9 rfl rfl rfl rfl rfl rfl rfl ⟨rfl, rfl, rfl, rfl, rfl⟩ rfl rfl rfl rfl rfl (by kernel_rfl) Try.func9 (by kernel_rfl)
    (of_decide_eq_true (by kernel_rfl)) (by unfold Func.isWrapper; first | (rw [if_pos (by decide +kernel)]; kernel_rfl) | (rw [if_neg (by decide +kernel)]; exact ⟨rfl, rfl⟩))
    (fun os started H enc _ => bytesTells_lifted os started H enc)
#print axioms bytesTells_holds
end
end Go.Proofs.Ytjjjpflnhagfcaa
