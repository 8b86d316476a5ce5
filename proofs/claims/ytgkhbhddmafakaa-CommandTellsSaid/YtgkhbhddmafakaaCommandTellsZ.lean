/- CommandTells: its runs. CommandTells is true of any command, any orders and any bytes. -/
import Derived.Test.YtgkhbhddmafakaaUd
import Derived.Test.YtgkhbhddmafakaaUb
namespace Go.Proofs.Ytgkhbhddmafakaa
section
open Go.Sx
def tabCt (G : GR) (O : GO) (F : GL) := tabs [(9, yes), (8, fresh gBytes), (12, fresh gBytes), (13, loc wantRo (gReadF G)), (14, loc wantRo (gReadF G)), (15, loc wantO (gOrdF O)), (16, loc wantO (gOrdF O)), (17, loc wantRo (gLst F)), (18, loc wantRo (gLst F)), (11, loc (fun _ => []) gRight), (19, loc (fun _ => []) gRight), (20, loc wantO2 gSame)]
noncomputable def ct (G : GR) (O : GO) (F : GL) (h : List Bool) (d x y z m : Int) (l : List (List Int)) (b : List Int) := obsOf (callN Try.prog (tabCt G O F) (fun _ => false) 100000 6 5 [cmdS d x y z m, slO 0 l.length l.length, bsl 1 b.length b.length] [roO l, roB b] h)
theorem ctL : (fun (G : GR) (O : GO) (F : GL) (d x y z m : Int) (l : List (List Int)) (b : List Int) => ct G O F [true] d x y z m l b) = fun (G : GR) (O : GO) (F : GL) (d : Int) (x : Int) (y : Int) (z : Int) (m : Int) (l : List (List Int)) (b : List Int) => some ([decide ((20000 : Int) < (↑(List.length b) : Int)) = true]) := by kernel_rfl
theorem ctY : (fun (G : GR) (O : GO) (F : GL) (d x y z m : Int) (l : List (List Int)) (b : List Int) => ct G O F [false, true, true, true, true, true, true, true, true, true, true, true, true, true, true] d x y z m l b) = fun (G : GR) (O : GO) (F : GL) (d : Int) (x : Int) (y : Int) (z : Int) (m : Int) (l : List (List Int)) (b : List Int) => some ([decide (Prod.snd (F b (List.length b)) = Prod.snd (F b (List.length b))) = true, decide (List.take (List.length (Prod.fst (F b (List.length b)))) (Prod.fst (F b (List.length b))) = List.take (List.length (Prod.fst (F b (List.length b)))) (Prod.fst (F b (List.length b)))) = true, List.length (Prod.fst (F b (List.length b))) ≤ List.length (Prod.fst (F b (List.length b))), List.length (Prod.fst (F b (List.length b))) ≤ List.length (Prod.fst (F b (List.length b))), List.length (Prod.fst (F b (List.length b))) ≤ (1000000000 : Nat), rows7 (Prod.fst (F b (List.length b))), rows7 (Prod.fst (F b (List.length b))), decide (Prod.snd (O (List.take (Int.toNat (if (1200 : Int) < (↑(List.length l) : Int) then (1200 : Int) else (↑(List.length l) : Int))) l)) = Prod.snd (O (List.take (Int.toNat (if (1200 : Int) < (↑(List.length l) : Int) then (1200 : Int) else (↑(List.length l) : Int))) l))) = true, (List.map (fun (n : Int) ↦ UInt8.ofNat (Int.toNat n)) (Prod.fst (O (List.take (Int.toNat (if (1200 : Int) < (↑(List.length l) : Int) then (1200 : Int) else (↑(List.length l) : Int))) l))) == List.map (fun (n : Int) ↦ UInt8.ofNat (Int.toNat n)) (Prod.fst (O (List.take (Int.toNat (if (1200 : Int) < (↑(List.length l) : Int) then (1200 : Int) else (↑(List.length l) : Int))) l)))) = true, (0 : Nat) = (0 : Nat), List.length (Prod.fst (O (List.take (Int.toNat (if (1200 : Int) < (↑(List.length l) : Int) then (1200 : Int) else (↑(List.length l) : Int))) l))) = List.length (Prod.fst (O (List.take (Int.toNat (if (1200 : Int) < (↑(List.length l) : Int) then (1200 : Int) else (↑(List.length l) : Int))) l))), (0 : Nat) = (0 : Nat), List.length (Prod.fst (O (List.take (Int.toNat (if (1200 : Int) < (↑(List.length l) : Int) then (1200 : Int) else (↑(List.length l) : Int))) l))) = List.length (Prod.fst (O (List.take (Int.toNat (if (1200 : Int) < (↑(List.length l) : Int) then (1200 : Int) else (↑(List.length l) : Int))) l))), decide (Prod.snd (G b (List.length b)) = Prod.snd (G b (List.length b))) = true, (decide (Cmd5.d (Prod.fst (G b (List.length b))) = Cmd5.d (Prod.fst (G b (List.length b)))) && (decide (Cmd5.A (Prod.fst (G b (List.length b))) = Cmd5.A (Prod.fst (G b (List.length b)))) && (decide (Cmd5.B (Prod.fst (G b (List.length b))) = Cmd5.B (Prod.fst (G b (List.length b)))) && (decide (Cmd5.C (Prod.fst (G b (List.length b))) = Cmd5.C (Prod.fst (G b (List.length b)))) && (decide (Cmd5.N (Prod.fst (G b (List.length b))) = Cmd5.N (Prod.fst (G b (List.length b)))) && true))))) = true, (List.map (fun (n : Int) ↦ UInt8.ofNat (Int.toNat n)) (cmdB d x y z m) == List.map (fun (n : Int) ↦ UInt8.ofNat (Int.toNat n)) (cmdB d x y z m)) = true, (0 : Nat) = (0 : Nat), List.length (cmdB d x y z m) = List.length (cmdB d x y z m), (0 : Nat) = (0 : Nat), List.length (cmdB d x y z m) = List.length (cmdB d x y z m), (rightF d x y z m == rightF d x y z m) = true, (0 : Int) ≤ d ∧ d < (256 : Int), (0 : Int) ≤ d ∧ d < (256 : Int), List.length b ≤ List.length b, List.length b ≤ (1000000000 : Nat), wfB b, List.length b ≤ List.length b, List.length b ≤ (1000000000 : Nat), wfB b, Int.toNat (if (1200 : Int) < (↑(List.length l) : Int) then (1200 : Int) else (↑(List.length l) : Int)) ≤ List.length l, wfO l, Int.toNat (if (1200 : Int) < (↑(List.length l) : Int) then (1200 : Int) else (↑(List.length l) : Int)) ≤ List.length l, wfO l, List.length b ≤ List.length b, List.length b ≤ (1000000000 : Nat), wfB b, List.length b ≤ List.length b, List.length b ≤ (1000000000 : Nat), wfB b, rightF d x y z m = true, (0 : Int) ≤ d ∧ d < (256 : Int), rightF d x y z m = true, (0 : Int) ≤ d ∧ d < (256 : Int), (0 : Int) ≤ if (1200 : Int) < (↑(List.length l) : Int) then (1200 : Int) else (↑(List.length l) : Int), (if (1200 : Int) < (↑(List.length l) : Int) then (1200 : Int) else (↑(List.length l) : Int)) ≤ (↑(List.length l) : Int), decide ((20000 : Int) < (↑(List.length b) : Int)) = false]) := by kernel_rfl
theorem ctN : (fun (G : GR) (O : GO) (F : GL) (d x y z m : Int) (l : List (List Int)) (b : List Int) => ct G O F [false, false, false, true, true, true, true, true, true, true, true, true] d x y z m l b) = fun (G : GR) (O : GO) (F : GL) (d : Int) (x : Int) (y : Int) (z : Int) (m : Int) (l : List (List Int)) (b : List Int) => some ([decide (Prod.snd (F b (List.length b)) = Prod.snd (F b (List.length b))) = true, decide (List.take (List.length (Prod.fst (F b (List.length b)))) (Prod.fst (F b (List.length b))) = List.take (List.length (Prod.fst (F b (List.length b)))) (Prod.fst (F b (List.length b)))) = true, List.length (Prod.fst (F b (List.length b))) ≤ List.length (Prod.fst (F b (List.length b))), List.length (Prod.fst (F b (List.length b))) ≤ List.length (Prod.fst (F b (List.length b))), List.length (Prod.fst (F b (List.length b))) ≤ (1000000000 : Nat), rows7 (Prod.fst (F b (List.length b))), rows7 (Prod.fst (F b (List.length b))), decide (Prod.snd (O (List.take (Int.toNat (if (1200 : Int) < (↑(List.length l) : Int) then (1200 : Int) else (↑(List.length l) : Int))) l)) = Prod.snd (O (List.take (Int.toNat (if (1200 : Int) < (↑(List.length l) : Int) then (1200 : Int) else (↑(List.length l) : Int))) l))) = true, (List.map (fun (n : Int) ↦ UInt8.ofNat (Int.toNat n)) (Prod.fst (O (List.take (Int.toNat (if (1200 : Int) < (↑(List.length l) : Int) then (1200 : Int) else (↑(List.length l) : Int))) l))) == List.map (fun (n : Int) ↦ UInt8.ofNat (Int.toNat n)) (Prod.fst (O (List.take (Int.toNat (if (1200 : Int) < (↑(List.length l) : Int) then (1200 : Int) else (↑(List.length l) : Int))) l)))) = true, (0 : Nat) = (0 : Nat), List.length (Prod.fst (O (List.take (Int.toNat (if (1200 : Int) < (↑(List.length l) : Int) then (1200 : Int) else (↑(List.length l) : Int))) l))) = List.length (Prod.fst (O (List.take (Int.toNat (if (1200 : Int) < (↑(List.length l) : Int) then (1200 : Int) else (↑(List.length l) : Int))) l))), (0 : Nat) = (0 : Nat), List.length (Prod.fst (O (List.take (Int.toNat (if (1200 : Int) < (↑(List.length l) : Int) then (1200 : Int) else (↑(List.length l) : Int))) l))) = List.length (Prod.fst (O (List.take (Int.toNat (if (1200 : Int) < (↑(List.length l) : Int) then (1200 : Int) else (↑(List.length l) : Int))) l))), decide (Prod.snd (G b (List.length b)) = Prod.snd (G b (List.length b))) = true, (decide (Cmd5.d (Prod.fst (G b (List.length b))) = Cmd5.d (Prod.fst (G b (List.length b)))) && (decide (Cmd5.A (Prod.fst (G b (List.length b))) = Cmd5.A (Prod.fst (G b (List.length b)))) && (decide (Cmd5.B (Prod.fst (G b (List.length b))) = Cmd5.B (Prod.fst (G b (List.length b)))) && (decide (Cmd5.C (Prod.fst (G b (List.length b))) = Cmd5.C (Prod.fst (G b (List.length b)))) && (decide (Cmd5.N (Prod.fst (G b (List.length b))) = Cmd5.N (Prod.fst (G b (List.length b)))) && true))))) = true, (rightF d x y z m == rightF d x y z m) = true, (0 : Int) ≤ d ∧ d < (256 : Int), (0 : Int) ≤ d ∧ d < (256 : Int), List.length b ≤ List.length b, List.length b ≤ (1000000000 : Nat), wfB b, List.length b ≤ List.length b, List.length b ≤ (1000000000 : Nat), wfB b, Int.toNat (if (1200 : Int) < (↑(List.length l) : Int) then (1200 : Int) else (↑(List.length l) : Int)) ≤ List.length l, wfO l, Int.toNat (if (1200 : Int) < (↑(List.length l) : Int) then (1200 : Int) else (↑(List.length l) : Int)) ≤ List.length l, wfO l, List.length b ≤ List.length b, List.length b ≤ (1000000000 : Nat), wfB b, List.length b ≤ List.length b, List.length b ≤ (1000000000 : Nat), wfB b, rightF d x y z m = false, (0 : Int) ≤ d ∧ d < (256 : Int), rightF d x y z m = false, (0 : Int) ≤ d ∧ d < (256 : Int), (0 : Int) ≤ if (1200 : Int) < (↑(List.length l) : Int) then (1200 : Int) else (↑(List.length l) : Int), (if (1200 : Int) < (↑(List.length l) : Int) then (1200 : Int) else (↑(List.length l) : Int)) ≤ (↑(List.length l) : Int), decide ((20000 : Int) < (↑(List.length b) : Int)) = false]) := by kernel_rfl
end
section
open Go.ChangeShapes Go.WideShapes Go.ChangeAt Go.RowKit Go.Sx
theorem ordF_tabO {f : FuncId} (h : TabOk Try.prog f (loc wantO gOrd)) : TabOk Try.prog f (loc wantO (gOrdF ordS)) := h
theorem gOrdF_eq : gOrdF ordS = gOrd := by
  funext args bs
  unfold gOrdF gOrd
  rfl
theorem readF_of {f : FuncId} (h : ∀ (l : List Int) (n c : Nat), n ≤ l.length → n ≤ 1000000000 → wfB l → Works Try.prog f [bsl 0 n c] [roB l] (tupC (readC l n) (readE l n)) [roB l]) : TabOk Try.prog f (loc wantRo (gReadF read2)) := loc_ok fun xs bs v bs' ob hg hob hokb => by
  unfold gReadF at hg
  split at hg
  · rename_i n c k l
    split at hg
    · rename_i hk
      injection hg with hg; injection hg with e1 e2; injection e2 with e2 e3
      subst e1; subst e2; subst e3
      have hk' : k = .u8 := of_decide_eq_true hk
      subst hk'
      exact h l n c (hob _ (by simp)) (hob (n ≤ 1000000000) (by simp)) (hob (wfB l) (by simp))
    · cases hg
  · cases hg
theorem tabCt_ok : ∀ f g, tabCt read2 ordS listS f = some g → TabOk Try.prog f g := tabs_ok fun x hx => by
  simp only [List.mem_cons, List.not_mem_nil, or_false] at hx
  rcases hx with rfl | rfl | rfl | rfl | rfl | rfl | rfl | rfl | rfl | rfl | rfl | rfl
  · exact yes_ok no_tabs awake_run
  · exact bytes_tab
  · exact bytesref_tab
  · exact readF_of read_works
  · exact readF_of readref_works
  · rw [gOrdF_eq]; exact ord_tab
  · rw [gOrdF_eq]; exact ordref_tab
  · exact list_tab
  · exact listref_tab
  · exact right_tab
  · exact rightref_tab
  · exact same_tab
theorem loopS_len (l : List Int) (n : Nat) : ∀ (k : Nat) (a : Int) (bad : Bool) (out : List (List Int)), rows7 out → rows7 (loopS l n k a bad out).1 ∧ (loopS l n k a bad out).1.length ≤ out.length + k
  | 0, _, _, _, h => ⟨h, Nat.le_refl _⟩
  | k + 1, a, bad, out, h => by
    unfold loopS
    split
    · refine ⟨h, ?_⟩
      show out.length ≤ _
      omega
    · have h2 : rows7 (out ++ [(stepL l n a bad).1]) := fun r hr => by
        rcases List.mem_append.1 hr with hr | hr
        · exact h r hr
        · rw [List.mem_singleton.1 hr]; exact ⟨_, _, _, _, _, _, _, rfl⟩
      obtain ⟨i1, i2⟩ := loopS_len l n k (stepL l n a bad).2.1 (stepL l n a bad).2.2 _ h2
      refine ⟨i1, ?_⟩
      rw [List.length_append, List.length_singleton] at i2
      omega
theorem listS_len {l : List Int} (hw : wfB l) (n : Nat) : rows7 (listS l n).1 ∧ (listS l n).1.length ≤ 1000 := by
  have h0 := numS_range hw n 0 false (m := 1000) (by decide)
  have h1 := loopS_len l n (numS l n 0 false 1000).1.toNat (numS l n 0 false 1000).2.1 (numS l n 0 false 1000).2.2 [] (fun r hr => by simp at hr)
  unfold listS finS
  split
  · exact ⟨fun r hr => by simp at hr, by simp⟩
  · refine ⟨h1.1, ?_⟩
    have := h1.2
    simp only [List.length_nil] at this
    show (loopS l n (numS l n 0 false 1000).1.toNat (numS l n 0 false 1000).2.1 (numS l n 0 false 1000).2.2 []).1.length ≤ 1000
    omega
theorem wf7 {l : List Int} (h : wfRow [.i64, .i64, .u8, .i64, .i64, .i64, .i64] l) : row7 l ∧ (0 ≤ l.getD 2 0 ∧ l.getD 2 0 < 256) := by
  match l, h with
  | [p, s, d, A, B, C, N], ⟨_, _, h2, _⟩ => exact ⟨⟨p, s, d, A, B, C, N, rfl⟩, wf_u8 h2⟩
theorem wfB_of {l : List Int} (h : ∀ n ∈ l, (Lit.int .u8 n).wf = true) : wfB l := fun x hx => by
  have := h x hx
  simp [Lit.wf, IntKind.min, IntKind.max, IntKind.signed, IntKind.bits] at this
  omega
set_option maxRecDepth 100000 in
set_option maxHeartbeats 8000000 in
theorem commandTells_calls (g : List Int) (l : List (List Int)) (e : E) (v : Value) (b : List Int) (e' : E) (v' : Value) {W0 : World} (wg : wfRow [.u8, .i64, .i64, .i64, .i64] g)
    (r : readOnly W0 (e, roO l)) (w : ∀ r ∈ l, wfRow [.i64, .i64, .u8, .i64, .i64, .i64, .i64] r) (_m : l.length ≤ maxLen) (u : ∀ (ρ : Env) (b : Nat), ρ[b]? = some e → (V.v (.one (.slice b (.c 0) 7 (.s l.length) (.s l.length)))).rel ρ v)
    (r' : readOnly W0 (e', roB b)) (w' : ∀ n ∈ b, (Lit.int .u8 n).wf = true) (_m' : b.length ≤ maxLen) (u' : ∀ (ρ : Env) (k : Nat), ρ[k]? = some e' → (V.v (.one (.slice k (.c 0) 1 (.s b.length) (.s b.length)))).rel ρ v')
    (W : World) (hW : W0 = W := by rfl) : Calls Try.prog 5 #[.agg (ivals [.u8, .i64, .i64, .i64, .i64] g).toArray, v, v'] W fun e w' => e = .returned (.bool true) ∧ Below W.heap.size W w' := by
  subst hW
  obtain ⟨d, A, B, C, N, rfl, hd, _⟩ := wf5 wg
  have hd := wf_u8 hd
  have hm := mem_args (W := W0) [(e, roO l), (e', roB b)] (by intro y hy; simp at hy; rcases hy with rfl | rfl; exact r; exact r')
  have hu : relVs ([(e, roO l), (e', roB b)].map (·.1)) [cmdS d A B C N, slO 0 l.length l.length, bsl 1 b.length b.length] [.agg (ivals [.u8, .i64, .i64, .i64, .i64] [d, A, B, C, N]).toArray, v, v'] := by
    obtain ⟨x, s, h1, h2, h3⟩ := cmd_rel (dc := .sint .u8 d) (d := d) A B C N rfl
    injection h1 with h1 h1'; subst h1; subst h1'
    exact ⟨_, _, rfl, h2, _, _, rfl, u _ 0 rfl, _, _, rfl, u' _ 1 rfl, rfl⟩
  have app : ∀ {X : Type} {f g : GR → GO → GL → Int → Int → Int → Int → Int → List (List Int) → List Int → X}, f = g → f read2 ordS listS d A B C N l b = g read2 ordS listS d A B C N l b := fun h => by rw [h]
  by_cases hb0 : (20000 : Int) < b.length
  · exact law_obs tabCt_ok (app ctL) ⟨decide_eq_true hb0, trivial⟩ hm hu
  have z0 : decide ((20000 : Int) < b.length) = false := decide_eq_false hb0
  have hwb := wfB_of w'
  have hwo : wfO l := fun x hx => (wf7 (w x hx)).2
  have hbl : b.length ≤ 1000000000 := by omega
  obtain ⟨s1, s2⟩ := listS_len hwb b.length
  have s3 : (listS b b.length).1.length ≤ 1000000000 := by omega
  have m1 : (0 : Int) ≤ if 1200 < (l.length : Int) then 1200 else (l.length : Int) := by split <;> omega
  have m2 : (if 1200 < (l.length : Int) then 1200 else (l.length : Int)) ≤ (l.length : Int) := by split <;> omega
  have m3 : Int.toNat (if 1200 < (l.length : Int) then 1200 else (l.length : Int)) ≤ l.length := by omega
  cases hr : rightF d A B C N with
  | true =>
    have q := app ctY
    generalize listS b b.length = F at q s1 s3
    generalize read2 b b.length = G at q
    generalize Int.toNat (if 1200 < (l.length : Int) then 1200 else (l.length : Int)) = n at q m3
    generalize ordS (l.take n) = O at q
    generalize cmdB d A B C N = X at q
    refine law_obs tabCt_ok q ?_ hm hu
    simp only [hr, allP, decide_true, beq_self_eq_true, Bool.and_self]
    repeat' (first | exact trivial | exact s1 | exact s3 | exact hd | exact hwb | exact hwo | exact m1 | exact m2 | exact m3 | exact hbl | exact z0 | exact Nat.le_refl _ | refine And.intro ?_ ?_)
  | false =>
    have q := app ctN
    generalize listS b b.length = F at q s1 s3
    generalize read2 b b.length = G at q
    generalize Int.toNat (if 1200 < (l.length : Int) then 1200 else (l.length : Int)) = n at q m3
    generalize ordS (l.take n) = O at q
    refine law_obs tabCt_ok q ?_ hm hu
    simp only [hr, allP, decide_true, beq_self_eq_true, Bool.and_self]
    repeat' (first | exact trivial | exact s1 | exact s3 | exact hd | exact hwb | exact hwo | exact m1 | exact m2 | exact m3 | exact hbl | exact z0 | exact Nat.le_refl _ | refine And.intro ?_ ?_)

set_option maxRecDepth 100000 in
theorem commandTells_lifted (os : Os) (started : os.Started) (H : Type) (enc : TypeId × Value → H) :
    ReturnsInHanded {} Try.checked os 5 .any (Rows.commandTellsSpec.pre6 enc Try.prog Try.f5 Rows.commandTellsRow.domain false) (Rows.commandTellsSpec.post enc Try.prog Try.f5 false true false false) := by
  refine returnsInHanded_of_change (C := Try.checked) own started (by kernel_rfl) Try.func5
    (ChangeSpec.witness6 (enc := enc) (C := Try.checked) false ⟨#[], #[.agg #[.int .u8 0, .int .i64 0, .int .i64 0, .int .i64 0, .int .i64 0], .slice none 0 0, .slice none 0 0], []⟩ 8 (by kernel_rfl) (by kernel_rfl) (by kernel_rfl) (by kernel_rfl)) ?_
  intro W base args ds gs before hval0 hW hcnd _
  have hval : ∀ (j : Nat) t v, Try.f5.params[j]? = some t → args[j]? = some v → Value.okWide Try.prog W .any base t v := hval0
  have hW' := hW
  obtain ⟨p, q, hA0, hV, hbef, hfz, hnd⟩ := hW
  have hA : DataW.TrodAll enc Try.prog W 0 (fun _ => true) true Try.f5.params.toList args.toList ds p := hA0
  rw [Try.params5] at hA hval
  obtain ⟨v0, v1, v2, d0, d1, d2, p0, p1, p2, rfl, rfl, hp, h0, h1, h2⟩ := trodAll_three hA
  obtain ⟨a0, w0, rfl⟩ := agg_ints (ks := [.u8, .i64, .i64, .i64, .i64]) (d := 20) (by kernel_rfl) (hval 0 24 v0 rfl rfl) h0
  obtain ⟨a1, e1, r1, w1, m1, u1⟩ := one_rows (ks := [.i64, .i64, .u8, .i64, .i64, .i64, .i64]) (d := 20) (by kernel_rfl) (hval 1 35 v1 rfl rfl) h1
  obtain ⟨a2, e2, r2, w2, m2, u2⟩ := one_ints (k := .u8) (d := 20) (by kernel_rfl) (hval 2 25 v2 rfl rfl) h2
  refine (commandTells_calls a0 a1 e1 v1 a2 e2 v2 w0 r1 w1 m1 u1 r2 w2 m2 u2 W).mono fun e W' ⟨he, hb⟩ => ?_
  subst he
  exact ⟨_, rfl, post_law laidOut (by rw [Try.params5]; decide +kernel) rfl rfl (by kernel_rfl) Try.underlying4 hW' hb⟩

theorem commandTells_holds : Rows.CommandTellsSaid :=
  OpenClaim.holds_of_wide 5 Try.f5 rfl rfl rfl rfl rfl rfl rfl ⟨rfl, rfl, rfl, rfl, rfl⟩ rfl rfl rfl rfl rfl (by kernel_rfl) Try.func5 (by kernel_rfl)
    (of_decide_eq_true (by kernel_rfl)) (by unfold Func.isWrapper; first | (rw [if_pos (by decide +kernel)]; kernel_rfl) | (rw [if_neg (by decide +kernel)]; exact ⟨rfl, rfl⟩))
    (fun os started H enc _ => commandTells_lifted os started H enc)
#print axioms commandTells_holds
end
end Go.Proofs.Ytgkhbhddmafakaa
