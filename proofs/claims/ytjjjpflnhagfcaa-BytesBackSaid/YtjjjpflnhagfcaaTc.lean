/- bytes.Blob: its run. -/
import Derived.Test.YtjjjpflnhagfcaaTb
namespace Go.Proofs.Ytjjjpflnhagfcaa
open Go.Sx
def tabBl := tabs [(11, loc ownB1 (putL .u64 vint u64))]
noncomputable def callBl (d : Nat) := callN Try.prog tabBl (fun f => Nat.beq f 11) 100000 d
theorem bl1 : (fun (l b : List Int) (c n d : Nat) => retV [0, 1, 3] (callBl 4 25 [bsl 0 l.length c, bsl 1 n d] [owB l, roB b] [true, false])) = fun (l : List Int) (b : List Int) (c : Nat) (n : Nat) (d : Nat) => some (((V.v (V1.one (C.slice ((3 : Nat)) (N.c ((0 : Nat))) ((1 : Nat)) (N.s (List.length (l ++ vint (IntKind.wrap IntKind.u64 (↑n : Int))) + n)) (N.s (List.length (l ++ vint (IntKind.wrap IntKind.u64 (↑n : Int))) + n))))), ([(SB.mk (true) (Cells.dead)), (SB.mk (false) (Cells.ints (IntKind.u8) (b))), (SB.mk (true) (Cells.ints (IntKind.u8) (l ++ vint (IntKind.wrap IntKind.u64 (↑n : Int)) ++ List.take n (List.drop (0 : Nat) b))))], [(0 : Nat) = (0 : Nat), List.length (l ++ vint (IntKind.wrap IntKind.u64 (↑n : Int))) = List.length (l ++ vint (IntKind.wrap IntKind.u64 (↑n : Int))), (0 : Nat) + n ≤ List.length b, (List.length (l ++ vint (IntKind.wrap IntKind.u64 (↑n : Int))) + n) * (1 : Nat) ≤ (140737488355328 : Nat), List.length (l ++ vint (IntKind.wrap IntKind.u64 (↑n : Int))) + n ≤ (9223372036854775807 : Nat), u64 (IntKind.wrap IntKind.u64 (↑n : Int)), List.length l = List.length l, List.length l + (10 : Nat) ≤ (140737488355328 : Nat)]))) := by kernel_rfl
def blobW : List V → List Want := fun _ => [(true, .ints .u8), (false, .ints .u8)]
def gBlob : Sx.Loc := fun args bs => match args, bs with
  | [.v (.one (.slice 0 (.c 0) 1 (.s a) (.s _))), .v (.one (.slice 1 (.c 0) 1 (.s m) (.s _)))], [⟨true, .ints k l⟩, ⟨false, .ints k' b⟩] => match decide (k = .u8) && decide (k' = .u8) with
    | true => some (bsl 2 (l ++ vint (m : Nat) ++ b.take m).length (l ++ vint (m : Nat) ++ b.take m).length, [⟨true, .dead⟩, roB b, owB (l ++ vint (m : Nat) ++ b.take m)], [a = l.length, m ≤ b.length, l.length + m + 20 ≤ 140737488355328])
    | false => none
  | _, _ => none
end Go.Proofs.Ytjjjpflnhagfcaa
namespace Go.Proofs.Ytjjjpflnhagfcaa
open Go.ChangeShapes Go.WideShapes Go.ChangeAt Go.RowKit Go.Sx
theorem tabBl_ok : ∀ f g, tabBl f = some g → TabOk Try.prog f g := tabs_ok fun x hx => by
  simp only [List.mem_cons, List.not_mem_nil, or_false] at hx
  rcases hx with rfl
  exact uint_tab
theorem ndBl : (List.range 2 ++ [3]).Nodup := by decide
theorem blob_works (l b : List Int) (c n d : Nat) (hb : n ≤ b.length) (hl : l.length + n + 20 ≤ 140737488355328) : Works Try.prog 25 [bsl 0 l.length c, bsl 1 n d] [owB l, roB b] (bsl 2 (l ++ vint (n : Nat) ++ b.take n).length (l ++ vint (n : Nat) ++ b.take n).length) [⟨true, .dead⟩, roB b, owB (l ++ vint (n : Nat) ++ b.take n)] := by
  have q := congrFun (congrFun (congrFun (congrFun (congrFun bl1 l) b) c) n) d
  have ew : IntKind.wrap .u64 (n : Int) = ((n : Nat) : Int) := w64 (by omega) (by omega)
  have hv := vint_le (n := ((n : Nat) : Int)) ⟨by omega, by omega⟩
  have ht : (b.take n).length = n := by rw [List.length_take]; omega
  rw [ew, List.drop_zero] at q
  refine works_of (r := [3]) tabBl_ok q ⟨rfl, rfl, by omega, ?_, ?_, ⟨by omega, by omega⟩, rfl, by omega, trivial⟩ ndBl ?_ ?_
  · rw [List.length_append]; omega
  · rw [List.length_append]; omega
  · simp [bsl, leV, leV1, leC, N.v, List.range, List.range.loop, ht, Nat.add_assoc]
  · exact ⟨⟨fun h => h, trivial⟩, ⟨fun h => h, rfl, rfl⟩, ⟨fun h => h, rfl, rfl⟩, trivial⟩
theorem blob_tab : TabOk Try.prog 25 (loc blobW gBlob) := loc_ok fun xs bs v bs' ob hg hob hokb => by
  unfold gBlob at hg
  split at hg
  · rename_i a c m d k l k' b
    split at hg
    · rename_i hk
      rw [Bool.and_eq_true] at hk
      injection hg with hg; injection hg with e1 e2; injection e2 with e2 e3
      subst e1; subst e2; subst e3
      have h1 : k = .u8 := of_decide_eq_true hk.1
      have h2 : k' = .u8 := of_decide_eq_true hk.2
      subst h1; subst h2
      have ha := hob (a = l.length) (by simp)
      subst ha
      exact blob_works l b c m d (hob (m ≤ b.length) (by simp)) (hob (l.length + m + 20 ≤ 140737488355328) (by simp))
    · cases hg
  · cases hg
end Go.Proofs.Ytjjjpflnhagfcaa
