/- CommandBack is true of any command, any orders and any bytes, and leaves its arguments as they were. -/
import Derived.Test.YtgkhbhddmafakaaBackZ
namespace Go.Proofs.Ytgkhbhddmafakaa
open Go.ChangeShapes Go.WideShapes Go.ChangeAt Go.RowKit Go.Sx
theorem ordF_tab : TabOk Try.prog 15 (loc wantO (gOrdF ordS)) := loc_ok fun xs bs v bs' ob hg hob hokb => by
  unfold gOrdF at hg
  split at hg
  · rename_i n c ks l
    split at hg
    · rename_i hk
      injection hg with hg; injection hg with e1 e2; injection e2 with e2 e3
      subst e1; subst e2; subst e3
      have hk' : ks = ksO := of_decide_eq_true hk
      subst hk'
      exact ord_works l n c (hob _ (by simp)) (hob (wfO l) (by simp))
    · cases hg
  · cases hg
theorem tabK_ok : ∀ f g, tabK read2 ordS listS f = some g → TabOk Try.prog f g := tabs_ok fun x hx => by
  simp only [List.mem_cons, List.not_mem_nil, or_false] at hx
  rcases hx with rfl | rfl | rfl | rfl | rfl | rfl
  · exact yes_ok no_tabs awake_run
  · exact bytes_tab
  · exact readF_tab
  · exact ordF_tab
  · exact list_tab
  · exact same_tab
theorem wfB_cmd {d A B C N : Int} (hd : 0 ≤ d ∧ d < 256) : wfB (cmdB d A B C N) := isB_cmdB hd
theorem wfB_bytesO : ∀ {l : List (List Int)}, wfO l → wfB (bytesO l)
  | [], _ => fun x hx => by simp [bytesO] at hx
  | r :: t, h => by
    show isB (rowB r ++ bytesO t)
    refine isB_app ?_ (wfB_bytesO fun x hx => h x (by simp [hx]))
    unfold rowB
    exact isB_app (isB_app (isB_app (isB_vint _) (isB_vint _)) (isB_vint _)) (isB_cmdB (h r (by simp)))
theorem wfO_take {l : List (List Int)} (h : wfO l) (n : Nat) : wfO (l.take n) := fun r hr => h r (List.mem_of_mem_take hr)
theorem rows7_take {l : List (List Int)} (h : rows7 l) (n : Nat) : rows7 (l.take n) := fun r hr => h r (List.mem_of_mem_take hr)
/-- orders that have bytes are read from them -/
theorem ord_yes2 {l : List (List Int)} (h7 : rows7 l) (hw : wfO l) (h : (ordS l).2 = 0) : ∃ X : List Int, ordS l = (X, 0) ∧ listS X X.length = (l, 0) ∧ wfB X ∧ X.length ≤ 80000 := by
  unfold ordS at h ⊢
  by_cases hc : 1000 < l.length ∨ l.all rowOk = false
  · rw [if_pos hc] at h; cases h
  · rw [if_neg hc]
    have ha : l.all rowOk = true := by
      cases hq : l.all rowOk with
      | true => rfl
      | false => exact absurd (.inr hq) hc
    have hl : l.length ≤ 1000 := Nat.le_of_not_lt fun h => hc (.inl h)
    have hb := bytesO_len ha
    have hv := vint_le (n := ((l.length : Nat) : Int)) ⟨by omega, by omega⟩
    refine ⟨_, rfl, list_put h7 ha hl, isB_app (isB_vint _) (wfB_bytesO hw), ?_⟩
    rw [List.length_append]; omega
/-- bytes that are orders' are theirs -/
theorem list_yes2 {b : List Int} (hw : wfB b) (h : (listS b b.length).2 = 0) : ∃ rows : List (List Int), listS b b.length = (rows, 0) ∧ ordS rows = (b, 0) ∧ wfO rows ∧ rows.length ≤ 1000 := by
  obtain ⟨rows, h1, h2, h3, h4, h5, h6⟩ := list_inv hw h
  refine ⟨rows, Prod.ext h6 h, ?_, h4, h1⟩
  unfold ordS
  rw [if_neg (fun hc => by
    rcases hc with hc | hc
    · omega
    · rw [h3] at hc; cases hc), ← h5]
theorem list_no2 {b : List Int} (h : ¬ (listS b b.length).2 = 0) : (listS b b.length).1 = [] := by
  unfold listS finS at h ⊢
  split at h
  · rename_i hc
    rw [if_pos hc]
  · exact absurd rfl h
theorem t1K {p : Prop} [Decidable p] (h : p) : (!decide p) = false := by rw [decide_eq_true h]; rfl
theorem t2K {p : Prop} [Decidable p] (h : ¬ p) : (!decide p) = true := by rw [decide_eq_false h]; rfl
theorem beqK (x : List UInt8) : (x == x) = true := by simp
theorem nbeqK (x : List UInt8) : (!x == x) = false := by simp
theorem wf7 {l : List Int} (h : wfRow [.i64, .i64, .u8, .i64, .i64, .i64, .i64] l) : row7 l ∧ (0 ≤ l.getD 2 0 ∧ l.getD 2 0 < 256) := by
  match l, h with
  | [p, s, d, A, B, C, N], ⟨_, _, h2, _⟩ => exact ⟨⟨p, s, d, A, B, C, N, rfl⟩, wf_u8 h2⟩
theorem wfB_of {l : List Int} (h : ∀ n ∈ l, (Lit.int .u8 n).wf = true) : wfB l := fun x hx => by
  have := h x hx
  simp [Lit.wf, IntKind.min, IntKind.max, IntKind.signed, IntKind.bits] at this
  omega
set_option maxRecDepth 100000 in
set_option maxHeartbeats 8000000 in
theorem commandBack_calls (g : List Int) (l : List (List Int)) (e : E) (v : Value) (b : List Int) (e' : E) (v' : Value) {W0 : World} (wg : wfRow [.u8, .i64, .i64, .i64, .i64] g)
    (r : readOnly W0 (e, roO l)) (w : ∀ r ∈ l, wfRow [.i64, .i64, .u8, .i64, .i64, .i64, .i64] r) (_m : l.length ≤ maxLen) (u : ∀ (ρ : Env) (b : Nat), ρ[b]? = some e → (V.v (.one (.slice b (.c 0) 7 (.s l.length) (.s l.length)))).rel ρ v)
    (r' : readOnly W0 (e', roB b)) (w' : ∀ n ∈ b, (Lit.int .u8 n).wf = true) (_m' : b.length ≤ maxLen) (u' : ∀ (ρ : Env) (k : Nat), ρ[k]? = some e' → (V.v (.one (.slice k (.c 0) 1 (.s b.length) (.s b.length)))).rel ρ v')
    (W : World) (hW : W0 = W := by rfl) : Calls Try.prog 6 #[.agg (ivals [.u8, .i64, .i64, .i64, .i64] g).toArray, v, v'] W fun e w' => e = .returned (.bool true) ∧ Below W.heap.size W w' := by
  subst hW
  obtain ⟨d, A, B, C, N, rfl, hd, _⟩ := wf5 wg
  have hd := wf_u8 hd
  have hm := mem_args (W := W0) [(e, roO l), (e', roB b)] (by intro y hy; simp at hy; rcases hy with rfl | rfl; exact r; exact r')
  have hu : relVs ([(e, roO l), (e', roB b)].map (·.1)) [cmdS d A B C N, slO 0 l.length l.length, bsl 1 b.length b.length] [.agg (ivals [.u8, .i64, .i64, .i64, .i64] [d, A, B, C, N]).toArray, v, v'] := by
    obtain ⟨x, s, h1, h2, h3⟩ := cmd_rel (dc := .sint .u8 d) (d := d) A B C N rfl
    injection h1 with h1 h1'; subst h1; subst h1'
    exact ⟨_, _, rfl, h2, _, _, rfl, u _ 0 rfl, _, _, rfl, u' _ 1 rfl, rfl⟩
  have app : ∀ {X : Type} {f g : GR → GO → GL → Int → Int → Int → Int → Int → List (List Int) → List Int → X}, f = g → f read2 ordS listS d A B C N l b = g read2 ordS listS d A B C N l b := fun h => by rw [h]
  by_cases hb0 : (20000 : Int) < b.length
  · have q := app bkL
    simp only [bk, lwK] at q
    exact law_obs tabK_ok q ⟨decide_eq_true hb0, trivial⟩ hm hu
  have z0 : decide ((20000 : Int) < b.length) = false := decide_eq_false hb0
  have hwb := wfB_of w'
  have h7 : rows7 l := fun x hx => (wf7 (w x hx)).1
  have hwo : wfO l := fun x hx => (wf7 (w x hx)).2
  have hbl : b.length ≤ 1000000000 := by omega
  have m1 : (0 : Int) ≤ if 200 < (l.length : Int) then 200 else (l.length : Int) := by split <;> omega
  have m2 : (if 200 < (l.length : Int) then 200 else (l.length : Int)) ≤ (l.length : Int) := by split <;> omega
  obtain ⟨n2, hn2⟩ : ∃ n2, Int.toNat (if 200 < (l.length : Int) then 200 else (l.length : Int)) = n2 := ⟨_, rfl⟩
  have m3 : n2 ≤ l.length := by rw [← hn2]; split <;> omega
  have m4 : n2 ≤ 1000000000 := by rw [← hn2]; split <;> omega
  have h72 := rows7_take h7 n2
  have hwo2 := wfO_take hwo n2
  have hcw : wfB (cmdB d A B C N) := wfB_cmd hd
  have P1 : (rightF d A B C N = true ∧ read2 (cmdB d A B C N) (cmdB d A B C N).length = (⟨d, A, B, C, N⟩, 0) ∧ (cmdB d A B C N).length ≤ 1000000000) ∨ rightF d A B C N = false := by
    cases hr : rightF d A B C N with
    | true =>
      obtain ⟨q1, q2⟩ := read_put hr
      have := cmdB_len hr
      exact .inl ⟨rfl, Prod.ext q1 q2, by omega⟩
    | false => exact .inr rfl
  have P2 : (∃ d' A' B' C' N' : Int, read2 b b.length = (⟨d', A', B', C', N'⟩, 0) ∧ cmdB d' A' B' C' N' = b ∧ rightF d' A' B' C' N' = true ∧ (0 ≤ d' ∧ d' < 256)) ∨ ¬ (read2 b b.length).2 = 0 := by
    by_cases h2 : readE b b.length = 0
    · obtain ⟨d', A', B', C', N', q1, q2, q3, q4⟩ := read_inv hwb h2
      exact .inl ⟨d', A', B', C', N', Prod.ext q3 h2, q4.symm, q1, q2⟩
    · exact .inr h2
  have P3 : (∃ X : List Int, ordS (l.take n2) = (X, 0) ∧ listS X X.length = (l.take n2, 0) ∧ wfB X ∧ X.length ≤ 1000000000) ∨ ¬ (ordS (l.take n2)).2 = 0 := by
    by_cases h3 : (ordS (l.take n2)).2 = 0
    · obtain ⟨X, q1, q2, q3, q4⟩ := ord_yes2 h72 hwo2 h3
      exact .inl ⟨X, q1, q2, q3, by omega⟩
    · exact .inr h3
  have P4 : (∃ rows : List (List Int), listS b b.length = (rows, 0) ∧ ordS rows = (b, 0) ∧ wfO rows ∧ rows.length ≤ 1000) ∨ (¬ (listS b b.length).2 = 0 ∧ (listS b b.length).1 = []) := by
    by_cases h4 : (listS b b.length).2 = 0
    · exact .inl (list_yes2 hwb h4)
    · exact .inr ⟨h4, list_no2 h4⟩
  rcases P1 with ⟨a1, a2, a3⟩ | a1 <;> rcases P2 with ⟨d', A', B', C', N', b1, b2, b3, b4⟩ | b1 <;> rcases P3 with ⟨X, c1, c2, c3, c4⟩ | c1 <;> rcases P4 with ⟨rows, d1, d2, d3, d4⟩ | ⟨d1, d2⟩
  · have q := app bk1111
    simp only [bk, lwK] at q
    simp only [hn2, List.take_length, a2, b1, b2, c1, c2, d1, d2] at q
    refine law_obs tabK_ok q ?_ hm hu
    repeat' (first | exact allO_nil | refine allO_cons ?_ ?_)
    all_goals first | exact Eq.refl _ | exact Nat.le_refl _ | exact hwb | exact z0 | exact h7 | exact h72 | exact hwo | exact hbl | exact m1 | exact m2 | exact m3 | exact m4 | exact hd | exact hcw | exact a1 | exact a3 | exact t1K rfl | exact b3 | exact b4 | exact c3 | exact c4 | exact d3 | exact t1K rfl | exact decide_eq_true rfl | exact beqK _ | exact nbeqK _ | simp
  · have q := app bk1110
    simp only [bk, lwK] at q
    simp only [hn2, List.take_length, a2, b1, b2, c1, c2, d2] at q
    refine law_obs tabK_ok q ?_ hm hu
    repeat' (first | exact allO_nil | refine allO_cons ?_ ?_)
    all_goals first | exact Eq.refl _ | exact Nat.le_refl _ | exact hwb | exact z0 | exact h7 | exact h72 | exact hwo | exact hbl | exact m1 | exact m2 | exact m3 | exact m4 | exact hd | exact hcw | exact a1 | exact a3 | exact t1K rfl | exact b3 | exact b4 | exact c3 | exact c4 | exact t2K d1 | exact t1K rfl | exact decide_eq_true rfl | exact beqK _ | exact nbeqK _ | simp
  · have q := app bk1101
    simp only [bk, lwK] at q
    simp only [hn2, List.take_length, a2, b1, b2, d1, d2] at q
    refine law_obs tabK_ok q ?_ hm hu
    repeat' (first | exact allO_nil | refine allO_cons ?_ ?_)
    all_goals first | exact Eq.refl _ | exact Nat.le_refl _ | exact hwb | exact z0 | exact h7 | exact h72 | exact hwo | exact hbl | exact m1 | exact m2 | exact m3 | exact m4 | exact hd | exact hcw | exact a1 | exact a3 | exact t1K rfl | exact b3 | exact b4 | exact decide_eq_false c1 | exact d3 | exact t1K rfl | exact decide_eq_true rfl | exact beqK _ | exact nbeqK _ | simp
  · have q := app bk1100
    simp only [bk, lwK] at q
    simp only [hn2, List.take_length, a2, b1, b2, d2] at q
    refine law_obs tabK_ok q ?_ hm hu
    repeat' (first | exact allO_nil | refine allO_cons ?_ ?_)
    all_goals first | exact Eq.refl _ | exact Nat.le_refl _ | exact hwb | exact z0 | exact h7 | exact h72 | exact hwo | exact hbl | exact m1 | exact m2 | exact m3 | exact m4 | exact hd | exact hcw | exact a1 | exact a3 | exact t1K rfl | exact b3 | exact b4 | exact decide_eq_false c1 | exact t2K d1 | exact t1K rfl | exact decide_eq_true rfl | exact beqK _ | exact nbeqK _ | simp
  · have q := app bk1011
    simp only [bk, lwK] at q
    simp only [hn2, List.take_length, a2, c1, c2, d1, d2] at q
    refine law_obs tabK_ok q ?_ hm hu
    repeat' (first | exact allO_nil | refine allO_cons ?_ ?_)
    all_goals first | exact Eq.refl _ | exact Nat.le_refl _ | exact hwb | exact z0 | exact h7 | exact h72 | exact hwo | exact hbl | exact m1 | exact m2 | exact m3 | exact m4 | exact hd | exact hcw | exact a1 | exact a3 | exact t1K rfl | exact decide_eq_false b1 | exact c3 | exact c4 | exact d3 | exact t1K rfl | exact decide_eq_true rfl | exact beqK _ | exact nbeqK _ | simp
  · have q := app bk1010
    simp only [bk, lwK] at q
    simp only [hn2, List.take_length, a2, c1, c2, d2] at q
    refine law_obs tabK_ok q ?_ hm hu
    repeat' (first | exact allO_nil | refine allO_cons ?_ ?_)
    all_goals first | exact Eq.refl _ | exact Nat.le_refl _ | exact hwb | exact z0 | exact h7 | exact h72 | exact hwo | exact hbl | exact m1 | exact m2 | exact m3 | exact m4 | exact hd | exact hcw | exact a1 | exact a3 | exact t1K rfl | exact decide_eq_false b1 | exact c3 | exact c4 | exact t2K d1 | exact t1K rfl | exact decide_eq_true rfl | exact beqK _ | exact nbeqK _ | simp
  · have q := app bk1001
    simp only [bk, lwK] at q
    simp only [hn2, List.take_length, a2, d1, d2] at q
    refine law_obs tabK_ok q ?_ hm hu
    repeat' (first | exact allO_nil | refine allO_cons ?_ ?_)
    all_goals first | exact Eq.refl _ | exact Nat.le_refl _ | exact hwb | exact z0 | exact h7 | exact h72 | exact hwo | exact hbl | exact m1 | exact m2 | exact m3 | exact m4 | exact hd | exact hcw | exact a1 | exact a3 | exact t1K rfl | exact decide_eq_false b1 | exact decide_eq_false c1 | exact d3 | exact t1K rfl | exact decide_eq_true rfl | exact beqK _ | exact nbeqK _ | simp
  · have q := app bk1000
    simp only [bk, lwK] at q
    simp only [hn2, List.take_length, a2, d2] at q
    refine law_obs tabK_ok q ?_ hm hu
    repeat' (first | exact allO_nil | refine allO_cons ?_ ?_)
    all_goals first | exact Eq.refl _ | exact Nat.le_refl _ | exact hwb | exact z0 | exact h7 | exact h72 | exact hwo | exact hbl | exact m1 | exact m2 | exact m3 | exact m4 | exact hd | exact hcw | exact a1 | exact a3 | exact t1K rfl | exact decide_eq_false b1 | exact decide_eq_false c1 | exact t2K d1 | exact t1K rfl | exact decide_eq_true rfl | exact beqK _ | exact nbeqK _ | simp
  · have q := app bk0111
    simp only [bk, lwK] at q
    simp only [hn2, List.take_length, b1, b2, c1, c2, d1, d2] at q
    refine law_obs tabK_ok q ?_ hm hu
    repeat' (first | exact allO_nil | refine allO_cons ?_ ?_)
    all_goals first | exact Eq.refl _ | exact Nat.le_refl _ | exact hwb | exact z0 | exact h7 | exact h72 | exact hwo | exact hbl | exact m1 | exact m2 | exact m3 | exact m4 | exact hd | exact hcw | exact a1 | exact b3 | exact b4 | exact c3 | exact c4 | exact d3 | exact t1K rfl | exact decide_eq_true rfl | exact beqK _ | exact nbeqK _ | simp
  · have q := app bk0110
    simp only [bk, lwK] at q
    simp only [hn2, List.take_length, b1, b2, c1, c2, d2] at q
    refine law_obs tabK_ok q ?_ hm hu
    repeat' (first | exact allO_nil | refine allO_cons ?_ ?_)
    all_goals first | exact Eq.refl _ | exact Nat.le_refl _ | exact hwb | exact z0 | exact h7 | exact h72 | exact hwo | exact hbl | exact m1 | exact m2 | exact m3 | exact m4 | exact hd | exact hcw | exact a1 | exact b3 | exact b4 | exact c3 | exact c4 | exact t2K d1 | exact t1K rfl | exact decide_eq_true rfl | exact beqK _ | exact nbeqK _ | simp
  · have q := app bk0101
    simp only [bk, lwK] at q
    simp only [hn2, List.take_length, b1, b2, d1, d2] at q
    refine law_obs tabK_ok q ?_ hm hu
    repeat' (first | exact allO_nil | refine allO_cons ?_ ?_)
    all_goals first | exact Eq.refl _ | exact Nat.le_refl _ | exact hwb | exact z0 | exact h7 | exact h72 | exact hwo | exact hbl | exact m1 | exact m2 | exact m3 | exact m4 | exact hd | exact hcw | exact a1 | exact b3 | exact b4 | exact decide_eq_false c1 | exact d3 | exact t1K rfl | exact decide_eq_true rfl | exact beqK _ | exact nbeqK _ | simp
  · have q := app bk0100
    simp only [bk, lwK] at q
    simp only [hn2, List.take_length, b1, b2, d2] at q
    refine law_obs tabK_ok q ?_ hm hu
    repeat' (first | exact allO_nil | refine allO_cons ?_ ?_)
    all_goals first | exact Eq.refl _ | exact Nat.le_refl _ | exact hwb | exact z0 | exact h7 | exact h72 | exact hwo | exact hbl | exact m1 | exact m2 | exact m3 | exact m4 | exact hd | exact hcw | exact a1 | exact b3 | exact b4 | exact decide_eq_false c1 | exact t2K d1 | exact t1K rfl | exact decide_eq_true rfl | exact beqK _ | exact nbeqK _ | simp
  · have q := app bk0011
    simp only [bk, lwK] at q
    simp only [hn2, List.take_length, c1, c2, d1, d2] at q
    refine law_obs tabK_ok q ?_ hm hu
    repeat' (first | exact allO_nil | refine allO_cons ?_ ?_)
    all_goals first | exact Eq.refl _ | exact Nat.le_refl _ | exact hwb | exact z0 | exact h7 | exact h72 | exact hwo | exact hbl | exact m1 | exact m2 | exact m3 | exact m4 | exact hd | exact hcw | exact a1 | exact decide_eq_false b1 | exact c3 | exact c4 | exact d3 | exact t1K rfl | exact decide_eq_true rfl | exact beqK _ | exact nbeqK _ | simp
  · have q := app bk0010
    simp only [bk, lwK] at q
    simp only [hn2, List.take_length, c1, c2, d2] at q
    refine law_obs tabK_ok q ?_ hm hu
    repeat' (first | exact allO_nil | refine allO_cons ?_ ?_)
    all_goals first | exact Eq.refl _ | exact Nat.le_refl _ | exact hwb | exact z0 | exact h7 | exact h72 | exact hwo | exact hbl | exact m1 | exact m2 | exact m3 | exact m4 | exact hd | exact hcw | exact a1 | exact decide_eq_false b1 | exact c3 | exact c4 | exact t2K d1 | exact t1K rfl | exact decide_eq_true rfl | exact beqK _ | exact nbeqK _ | simp
  · have q := app bk0001
    simp only [bk, lwK] at q
    simp only [hn2, List.take_length, d1, d2] at q
    refine law_obs tabK_ok q ?_ hm hu
    repeat' (first | exact allO_nil | refine allO_cons ?_ ?_)
    all_goals first | exact Eq.refl _ | exact Nat.le_refl _ | exact hwb | exact z0 | exact h7 | exact h72 | exact hwo | exact hbl | exact m1 | exact m2 | exact m3 | exact m4 | exact hd | exact hcw | exact a1 | exact decide_eq_false b1 | exact decide_eq_false c1 | exact d3 | exact t1K rfl | exact decide_eq_true rfl | exact beqK _ | exact nbeqK _ | simp
  · have q := app bk0000
    simp only [bk, lwK] at q
    simp only [hn2, List.take_length, d2] at q
    refine law_obs tabK_ok q ?_ hm hu
    repeat' (first | exact allO_nil | refine allO_cons ?_ ?_)
    all_goals first | exact Eq.refl _ | exact Nat.le_refl _ | exact hwb | exact z0 | exact h7 | exact h72 | exact hwo | exact hbl | exact m1 | exact m2 | exact m3 | exact m4 | exact hd | exact hcw | exact a1 | exact decide_eq_false b1 | exact decide_eq_false c1 | exact t2K d1 | exact t1K rfl | exact decide_eq_true rfl | exact beqK _ | exact nbeqK _ | simp

set_option maxRecDepth 100000 in
theorem commandBack_lifted (os : Os) (started : os.Started) (H : Type) (enc : TypeId × Value → H) :
    ReturnsInHanded {} Try.checked os 6 .any (Rows.commandBackSpec.pre6 enc Try.prog Try.f6 Rows.commandBackRow.domain false) (Rows.commandBackSpec.post enc Try.prog Try.f6 false true false false) := by
  refine returnsInHanded_of_change (C := Try.checked) own started (by kernel_rfl) Try.func6
    (ChangeSpec.witness6 (enc := enc) (C := Try.checked) false ⟨#[], #[.agg #[.int .u8 0, .int .i64 0, .int .i64 0, .int .i64 0, .int .i64 0], .slice none 0 0, .slice none 0 0], []⟩ 8 (by kernel_rfl) (by kernel_rfl) (by kernel_rfl) (by kernel_rfl)) ?_
  intro W base args ds gs before hval0 hW hcnd _
  have hval : ∀ (j : Nat) t v, Try.f6.params[j]? = some t → args[j]? = some v → Value.okWide Try.prog W .any base t v := hval0
  have hW' := hW
  obtain ⟨p, q, hA0, hV, hbef, hfz, hnd⟩ := hW
  have hA : DataW.TrodAll enc Try.prog W 0 (fun _ => true) true Try.f6.params.toList args.toList ds p := hA0
  rw [Try.params6] at hA hval
  obtain ⟨v0, v1, v2, d0, d1, d2, p0, p1, p2, rfl, rfl, hp, h0, h1, h2⟩ := trodAll_three hA
  obtain ⟨a0, w0, rfl⟩ := agg_ints (ks := [.u8, .i64, .i64, .i64, .i64]) (d := 20) (by kernel_rfl) (hval 0 24 v0 rfl rfl) h0
  obtain ⟨a1, e1, r1, w1, m1, u1⟩ := one_rows (ks := [.i64, .i64, .u8, .i64, .i64, .i64, .i64]) (d := 20) (by kernel_rfl) (hval 1 35 v1 rfl rfl) h1
  obtain ⟨a2, e2, r2, w2, m2, u2⟩ := one_ints (k := .u8) (d := 20) (by kernel_rfl) (hval 2 25 v2 rfl rfl) h2
  refine (commandBack_calls a0 a1 e1 v1 a2 e2 v2 w0 r1 w1 m1 u1 r2 w2 m2 u2 W).mono fun e W' ⟨he, hb⟩ => ?_
  subst he
  exact ⟨_, rfl, post_law laidOut (by rw [Try.params6]; decide +kernel) rfl rfl (by kernel_rfl) Try.underlying4 hW' hb⟩

theorem commandBack_holds : Rows.CommandBackSaid :=
  OpenClaim.holds_of_wide 6 Try.f6 rfl rfl rfl rfl rfl rfl rfl ⟨rfl, rfl, rfl, rfl, rfl⟩ rfl rfl rfl rfl rfl (by kernel_rfl) Try.func6 (by kernel_rfl)
    (of_decide_eq_true (by kernel_rfl)) (by unfold Func.isWrapper; first | (rw [if_pos (by decide +kernel)]; kernel_rfl) | (rw [if_neg (by decide +kernel)]; exact ⟨rfl, rfl⟩))
    (fun os started H enc _ => commandBack_lifted os started H enc)
#print axioms commandBack_holds

end Go.Proofs.Ytgkhbhddmafakaa
