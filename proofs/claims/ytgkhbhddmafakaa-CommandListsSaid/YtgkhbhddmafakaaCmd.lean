/- What command.Bytes comes to. -/
import Derived.Test.YtgkhbhddmafakaaRight
import Derived.Test.YtgkhbhddmafakaaPrefix
namespace Go.Proofs.Ytgkhbhddmafakaa
open Go.ChangeShapes Go.WideShapes Go.ChangeAt Go.RowKit Go.Sx
def tabB := tabs [(11, loc (fun _ => []) gRight), (21, loc ownB1 (putL .i64 svint i64))]
noncomputable def callB (d : Nat) := callN Try.prog tabB (fun f => Nat.beq f 21) 100000 d
theorem tabB_ok : ∀ f g, tabB f = some g → TabOk Try.prog f g := tabs_ok fun x hx => by
  simp only [List.mem_cons, List.not_mem_nil, or_false] at hx
  rcases hx with rfl | rfl
  · exact right_tab
  · exact int_tab
def cmdS (d A B C N : Int) : V := cmd (.sint .u8 d) A B C N
def cmdB (d A B C N : Int) : List Int := [d] ++ svint A ++ svint B ++ svint C ++ svint N
def bsV (b : Nat) (l : List Int) : V1 := .one (.slice b (.c 0) 1 (.s l.length) (.s l.length))
theorem bNo : (fun d A B C N => retV [] (callB 3 8 [cmdS d A B C N] [] [true])) = fun d A B C N => some (.tup [.one .nils, .one (.int .i64 109)], [], [(!rightF d A B C N) = true, 0 ≤ d ∧ d < 256]) := by kernel_rfl
theorem bYes : (fun d A B C N => retV [5] (callB 3 8 [cmdS d A B C N] [] [false])) = fun d A B C N => some (.tup [bsV 5 (cmdB d A B C N), .one (.int .i64 0)], [⟨true, .ints .u8 (cmdB d A B C N)⟩],
  [i64 N, ([d] ++ svint A ++ svint B ++ svint C).length = ([d] ++ svint A ++ svint B ++ svint C).length, ([d] ++ svint A ++ svint B ++ svint C).length + 10 ≤ 140737488355328, i64 C, ([d] ++ svint A ++ svint B).length = ([d] ++ svint A ++ svint B).length, ([d] ++ svint A ++ svint B).length + 10 ≤ 140737488355328,
   i64 B, ([d] ++ svint A).length = ([d] ++ svint A).length, ([d] ++ svint A).length + 10 ≤ 140737488355328, i64 A, 1 = [d].length, [d].length + 10 ≤ 140737488355328, (!rightF d A B C N) = false, 0 ≤ d ∧ d < 256]) := by kernel_rfl
theorem inR_le {k : Nat} {n : Int} (h : inR k n = true) : -1 ≤ n ∧ n ≤ 1073741824 := by
  simp only [inR, Bool.and_eq_true, decide_eq_true_eq] at h
  have h1 : -1 ≤ loL k := by unfold loL; split <;> omega
  have h2 : hiL k ≤ 1073741824 := by unfold hiL; split <;> omega
  omega
theorem right_le {d A B C N : Int} (h : rightF d A B C N = true) : (-1 ≤ A ∧ A ≤ 1073741824) ∧ (-1 ≤ B ∧ B ≤ 1073741824) ∧ (-1 ≤ C ∧ C ≤ 1073741824) ∧ (-1 ≤ N ∧ N ≤ 1073741824) := by
  unfold rightF at h
  split at h
  · simp only [Bool.and_eq_true] at h
    exact ⟨inR_le h.1, inR_le h.2.1, inR_le h.2.2.1, inR_le h.2.2.2⟩
  · cases h
theorem cmdB_len {d A B C N : Int} (h : rightF d A B C N = true) : (cmdB d A B C N).length ≤ 41 := by
  obtain ⟨h1, h2, h3, h4⟩ := right_le h
  have a := svint_le (n := A) ⟨by omega, by omega⟩
  have b := svint_le (n := B) ⟨by omega, by omega⟩
  have c := svint_le (n := C) ⟨by omega, by omega⟩
  have e := svint_le (n := N) ⟨by omega, by omega⟩
  simp only [cmdB, List.length_append, List.length_singleton]
  omega
def gBytes : List V → List Bool → Option Made := fun args h => match args, h with
  | [v], true :: h' => match cmdOf (canV v) with
    | some (d, A, B, C, N) => some (.tup [bsV 0 (cmdB d A B C N), .one (.int .i64 0)], [⟨true, .ints .u8 (cmdB d A B C N)⟩], h', [rightF d A B C N = true, 0 ≤ d ∧ d < 256])
    | none => none
  | [v], false :: h' => match cmdOf (canV v) with
    | some (d, A, B, C, N) => some (.tup [.one .nils, .one (.int .i64 109)], [], h', [rightF d A B C N = false, 0 ≤ d ∧ d < 256])
    | none => none
  | _, _ => none
theorem gBytes_ok {f : FuncId} (h1 : ∀ d A B C N, 0 ≤ d ∧ d < 256 → rightF d A B C N = true → Makes Try.prog f [.agg #[.int .u8 d, .int .i64 A, .int .i64 B, .int .i64 C, .int .i64 N]] (.tup [bsV 0 (cmdB d A B C N), .one (.int .i64 0)]) [⟨true, .ints .u8 (cmdB d A B C N)⟩])
    (h2 : ∀ d A B C N, 0 ≤ d ∧ d < 256 → rightF d A B C N = false → Makes Try.prog f [.agg #[.int .u8 d, .int .i64 A, .int .i64 B, .int .i64 C, .int .i64 N]] (.tup [.one .nils, .one (.int .i64 109)]) []) : TabOk Try.prog f (fresh gBytes) := fresh_ok fun args h v bs h' ob hg hob => by
  have key : ∀ {v0 : V} {d A B C N : Int} {ρ : Env} {us : List Value}, cmdOf (canV v0) = some (d, A, B, C, N) → relVs ρ [v0] us → us = [.agg #[.int .u8 d, .int .i64 A, .int .i64 B, .int .i64 C, .int .i64 N]] := by
    intro v0 d A B C N ρ us hc hu
    obtain ⟨u, s, rfl, k1, k2⟩ := hu
    simp only [relVs] at k2; subst k2
    rw [cmdOf_rel hc (canV_rel k1)]
  unfold gBytes at hg
  split at hg
  · split at hg
    · rename_i d A B C N hc
      injection hg with hg; injection hg with e1 e2; injection e2 with e2 e3; injection e3 with e3 e4
      subst e1; subst e2; subst e3; subst e4
      refine ⟨rfl, fun ρ us hu => ?_⟩
      rw [key hc hu]
      exact h1 d A B C N (hob _ (by simp)) (hob _ (by simp))
    · cases hg
  · split at hg
    · rename_i d A B C N hc
      injection hg with hg; injection hg with e1 e2; injection e2 with e2 e3; injection e3 with e3 e4
      subst e1; subst e2; subst e3; subst e4
      refine ⟨rfl, fun ρ us hu => ?_⟩
      rw [key hc hu]
      exact h2 d A B C N (hob _ (by simp)) (hob _ (by simp))
    · cases hg
  · cases hg
theorem bytes_tab : TabOk Try.prog 8 (fresh gBytes) := gBytes_ok
  (fun d A B C N hd hr => by
    obtain ⟨h1, h2, h3, h4⟩ := right_le hr
    have hl := cmdB_len hr
    refine makes_of (v := .tup [bsV 0 (cmdB d A B C N), .one (.int .i64 0)]) (bs := [⟨true, .ints .u8 (cmdB d A B C N)⟩]) tabB_ok (congrFun (congrFun (congrFun (congrFun (congrFun bYes d) A) B) C) N) ?_ (by simp)
      ⟨⟨rfl, rfl, rfl, rfl, Nat.le_refl _, Nat.le_refl _⟩, ⟨rfl, rfl⟩, trivial⟩ ⟨⟨fun h => h, rfl, rfl⟩, trivial⟩ (cmd_rel (dc := .sint .u8 d) A B C N rfl)
    simp only [cmdB, List.length_append, List.length_singleton] at hl
    simp only [allP, List.length_append, List.length_singleton, hr]
    simp [i64, hd]
    omega)
  (fun d A B C N hd hr => makes_of (v := .tup [.one .nils, .one (.int .i64 109)]) (bs := []) tabB_ok (congrFun (congrFun (congrFun (congrFun (congrFun bNo d) A) B) C) N) (by simp [allP, hr, hd]) (by simp)
    ⟨trivial, ⟨rfl, rfl⟩, trivial⟩ trivial (cmd_rel (dc := .sint .u8 d) A B C N rfl))
/-- a command's bytes are no beginning of another's -/
theorem cmdB_prefix {d A B C N d' A' B' C' N' : Int} {r s : List Int} (h : cmdB d A B C N ++ r = cmdB d' A' B' C' N' ++ s) : d = d' ∧ A = A' ∧ B = B' ∧ C = C' ∧ N = N' ∧ r = s := by
  simp only [cmdB, List.append_assoc, List.cons_append, List.nil_append, List.cons.injEq] at h
  obtain ⟨h0, h⟩ := h
  obtain ⟨h1, h⟩ := svint_prefix h
  obtain ⟨h2, h⟩ := svint_prefix h
  obtain ⟨h3, h⟩ := svint_prefix h
  obtain ⟨h4, h⟩ := svint_prefix h
  exact ⟨h0, h1, h2, h3, h4, h⟩
theorem isB_cmdB {d A B C N : Int} (hd : 0 ≤ d ∧ d < 256) : isB (cmdB d A B C N) := by
  unfold cmdB
  refine isB_app (isB_app (isB_app (isB_app ?_ (isB_svint _)) (isB_svint _)) (isB_svint _)) (isB_svint _)
  intro x hx
  simp at hx; subst hx; exact hd
end Go.Proofs.Ytgkhbhddmafakaa
