/- ShaStill: its runs. Laws of two lists of bytes: what they share. strings.Repeat: the shelf's contract, laid at this program. ShaBlock: its runs. ShaBlock is true of any key, bytes and number of noughts. -/
import Derived.Test.YtlboenjdbgkofaaZaD
import Derived.Test.YtlboenjdbgkofaaSxAF
import Derived.Test.YtlboenjdbgkofaaRows
import Derived.Shelf.Strings.Repeat
namespace Go.Proofs.Ytlboenjdbgkofaa
section
open Go.Sx
def tabL := tabs [(10, loc wantH gOf), (12, loc wantM gHm), (14, yesT)]
def bls (b n c : Nat) : V := .v (.one (.slice b (.c 0) 1 (.s n) (.s c)))
noncomputable def lwL (f : FuncId) (args : List V) (m : List SB) (h : List Bool) := obsOf (callN Try.prog tabL (fun _ => false) 100000 6 f args m h)
theorem st0 : (fun (a b : List Int) => lwL 6 [bls 0 a.length a.length, bls 1 b.length b.length] [roH a, roH b] [true]) = fun (a : List Int) (b : List Int) => some ([decide ((500 : Int) < (↑(List.length a) : Int)) = true]) := by kernel_rfl
theorem st1 : (fun (a b : List Int) => lwL 6 [bls 0 a.length a.length, bls 1 b.length b.length] [roH a, roH b] [false, true]) = fun (a : List Int) (b : List Int) => some ([decide ((500 : Int) < (↑(List.length b) : Int)) = true, decide ((500 : Int) < (↑(List.length a) : Int)) = false]) := by kernel_rfl
theorem st2 : (fun (a b : List Int) => lwL 6 [bls 0 a.length a.length, bls 1 b.length b.length] [roH a, roH b] [false, false, true, true, true, true, false, false, false, true, true, true, true, true, true]) = fun (a : List Int) (b : List Int) => some ([(List.map (fun (n : Int) ↦ UInt8.ofNat (Int.toNat n)) ([] ++ b ++ [(77 : Int), (42 : Int), (99 : Int), (17 : Int)]) == List.map (fun (n : Int) ↦ UInt8.ofNat (Int.toNat n)) b ++ Array.toList (ByteArray.data { data := #[OfNat.ofNat (77 : Nat), OfNat.ofNat (42 : Nat), OfNat.ofNat (99 : Nat), OfNat.ofNat (17 : Nat)] })) = true, List.length (List.map (fun (n : Int) ↦ UInt8.ofNat (Int.toNat n)) b) + (4 : Nat) ≤ (9223372036854775807 : Nat), (0 : Nat) = (0 : Nat), List.length b = List.length b, (0 : Nat) = (0 : Nat), Int.toNat ((↑(Int.toNat (↑(List.length b) : Int)) : Int) + (4 : Int)) = List.length ([] ++ b ++ [(77 : Int), (42 : Int), (99 : Int), (17 : Int)]), (0 : Int) ≤ (↑(Int.toNat (↑(List.length b) : Int)) : Int) + (4 : Int), (↑(Int.toNat (↑(List.length b) : Int)) : Int) + (4 : Int) ≤ (↑(Nat.add (List.length b) (4 : Nat)) : Int), (-9223372036854775808 : Int) ≤ (↑(Int.toNat (↑(List.length b) : Int)) : Int) + (4 : Int) ∧ (↑(Int.toNat (↑(List.length b) : Int)) : Int) + (4 : Int) ≤ (9223372036854775807 : Int), (List.map (fun (n : Int) ↦ UInt8.ofNat (Int.toNat n)) ([] ++ a ++ [(77 : Int), (42 : Int), (99 : Int), (17 : Int)]) == List.map (fun (n : Int) ↦ UInt8.ofNat (Int.toNat n)) a ++ Array.toList (ByteArray.data { data := #[OfNat.ofNat (77 : Nat), OfNat.ofNat (42 : Nat), OfNat.ofNat (99 : Nat), OfNat.ofNat (17 : Nat)] })) = true, List.length (List.map (fun (n : Int) ↦ UInt8.ofNat (Int.toNat n)) a) + (4 : Nat) ≤ (9223372036854775807 : Nat), (0 : Nat) = (0 : Nat), List.length a = List.length a, (0 : Nat) = (0 : Nat), Int.toNat ((↑(Int.toNat (↑(List.length a) : Int)) : Int) + (4 : Int)) = List.length ([] ++ a ++ [(77 : Int), (42 : Int), (99 : Int), (17 : Int)]), (0 : Int) ≤ (↑(Int.toNat (↑(List.length a) : Int)) : Int) + (4 : Int), (↑(Int.toNat (↑(List.length a) : Int)) : Int) + (4 : Int) ≤ (↑(Nat.add (List.length a) (4 : Nat)) : Int), (-9223372036854775808 : Int) ≤ (↑(Int.toNat (↑(List.length a) : Int)) : Int) + (4 : Int) ∧ (↑(Int.toNat (↑(List.length a) : Int)) : Int) + (4 : Int) ≤ (9223372036854775807 : Int), (!decide (ci (hmacN (partN ([] ++ a ++ [(77 : Int), (42 : Int), (99 : Int), (17 : Int)]) (0 : Nat) (Int.toNat (↑(List.length a) : Int))) (partN ([] ++ a ++ [(77 : Int), (42 : Int), (99 : Int), (17 : Int)]) (0 : Nat) (Int.toNat (↑(List.length a) : Int)))) = ci (hmacN (partN a (0 : Nat) (List.length a)) (partN a (0 : Nat) (List.length a))))) = false, List.length (ci (hmacN (partN ([] ++ a ++ [(77 : Int), (42 : Int), (99 : Int), (17 : Int)]) (0 : Nat) (Int.toNat (↑(List.length a) : Int))) (partN ([] ++ a ++ [(77 : Int), (42 : Int), (99 : Int), (17 : Int)]) (0 : Nat) (Int.toNat (↑(List.length a) : Int))))) = (32 : Nat), List.length (ci (hmacN (partN a (0 : Nat) (List.length a)) (partN a (0 : Nat) (List.length a)))) = (32 : Nat), u8L a, (0 : Nat) + List.length a ≤ List.length a, (0 : Nat) + List.length a ≤ List.length a, List.length a ≤ (500000000 : Nat), u8L ([] ++ a ++ [(77 : Int), (42 : Int), (99 : Int), (17 : Int)]), (0 : Nat) + Int.toNat (↑(List.length a) : Int) ≤ List.length ([] ++ a ++ [(77 : Int), (42 : Int), (99 : Int), (17 : Int)]), (0 : Nat) + Int.toNat (↑(List.length a) : Int) ≤ List.length ([] ++ a ++ [(77 : Int), (42 : Int), (99 : Int), (17 : Int)]), List.length ([] ++ a ++ [(77 : Int), (42 : Int), (99 : Int), (17 : Int)]) ≤ (500000000 : Nat), (!decide (ci (hmacN (partN ([] ++ a ++ [(77 : Int), (42 : Int), (99 : Int), (17 : Int)]) (0 : Nat) (Int.toNat (↑(List.length a) : Int))) (partN ([] ++ b ++ [(77 : Int), (42 : Int), (99 : Int), (17 : Int)]) (0 : Nat) (Int.toNat (↑(List.length b) : Int)))) = ci (hmacN (partN a (0 : Nat) (List.length a)) (partN b (0 : Nat) (List.length b))))) = false, List.length (ci (hmacN (partN ([] ++ a ++ [(77 : Int), (42 : Int), (99 : Int), (17 : Int)]) (0 : Nat) (Int.toNat (↑(List.length a) : Int))) (partN ([] ++ b ++ [(77 : Int), (42 : Int), (99 : Int), (17 : Int)]) (0 : Nat) (Int.toNat (↑(List.length b) : Int))))) = (32 : Nat), List.length (ci (hmacN (partN a (0 : Nat) (List.length a)) (partN b (0 : Nat) (List.length b)))) = (32 : Nat), u8L ([] ++ a ++ [(77 : Int), (42 : Int), (99 : Int), (17 : Int)]), u8L ([] ++ b ++ [(77 : Int), (42 : Int), (99 : Int), (17 : Int)]), (0 : Nat) + Int.toNat (↑(List.length a) : Int) ≤ List.length ([] ++ a ++ [(77 : Int), (42 : Int), (99 : Int), (17 : Int)]), (0 : Nat) + Int.toNat (↑(List.length b) : Int) ≤ List.length ([] ++ b ++ [(77 : Int), (42 : Int), (99 : Int), (17 : Int)]), List.length ([] ++ a ++ [(77 : Int), (42 : Int), (99 : Int), (17 : Int)]) ≤ (500000000 : Nat), List.length ([] ++ b ++ [(77 : Int), (42 : Int), (99 : Int), (17 : Int)]) ≤ (500000000 : Nat), List.length (ci (hmacN (partN a (0 : Nat) (List.length a)) (partN b (0 : Nat) (List.length b)))) = (32 : Nat), (!decide (ci (shaN (partN ([] ++ a ++ [(77 : Int), (42 : Int), (99 : Int), (17 : Int)]) (0 : Nat) (Int.toNat (↑(List.length a) : Int)))) = ci (shaN (partN a (0 : Nat) (List.length a))))) = false, List.length (ci (shaN (partN ([] ++ a ++ [(77 : Int), (42 : Int), (99 : Int), (17 : Int)]) (0 : Nat) (Int.toNat (↑(List.length a) : Int))))) = (32 : Nat), List.length (ci (shaN (partN a (0 : Nat) (List.length a)))) = (32 : Nat), u8L ([] ++ a ++ [(77 : Int), (42 : Int), (99 : Int), (17 : Int)]), (0 : Nat) + Int.toNat (↑(List.length a) : Int) ≤ List.length ([] ++ a ++ [(77 : Int), (42 : Int), (99 : Int), (17 : Int)]), List.length ([] ++ a ++ [(77 : Int), (42 : Int), (99 : Int), (17 : Int)]) ≤ (1000000000 : Nat), List.length (ci (shaN (partN a (0 : Nat) (List.length a)))) = (32 : Nat), u8L b, u8L a, (0 : Nat) + List.length b ≤ List.length b, (0 : Nat) + List.length a ≤ List.length a, List.length b ≤ (500000000 : Nat), List.length a ≤ (500000000 : Nat), u8L b, (0 : Nat) + List.length b ≤ List.length b, List.length b ≤ (1000000000 : Nat), (0 : Int) ≤ (↑(List.length b) : Int), (↑(List.length b) : Int) ≤ (↑(Nat.add (List.length b) (4 : Nat)) : Int), (0 : Nat) = (0 : Nat), List.length b = List.length ([] ++ b), (List.length b + (4 : Nat)) * (1 : Nat) ≤ (140737488355328 : Nat), List.length b + (4 : Nat) ≤ (9223372036854775807 : Nat), (0 : Nat) = (0 : Nat), List.length b = List.length b, List.length b * (1 : Nat) ≤ (140737488355328 : Nat), List.length b ≤ (9223372036854775807 : Nat), (0 : Int) ≤ (↑(List.length a) : Int), (↑(List.length a) : Int) ≤ (↑(Nat.add (List.length a) (4 : Nat)) : Int), (0 : Nat) = (0 : Nat), List.length a = List.length ([] ++ a), (List.length a + (4 : Nat)) * (1 : Nat) ≤ (140737488355328 : Nat), List.length a + (4 : Nat) ≤ (9223372036854775807 : Nat), (0 : Nat) = (0 : Nat), List.length a = List.length a, List.length a * (1 : Nat) ≤ (140737488355328 : Nat), List.length a ≤ (9223372036854775807 : Nat), List.length (ci (hmacN (partN a (0 : Nat) (List.length a)) (partN b (0 : Nat) (List.length b)))) = (32 : Nat), List.length (ci (hmacN (partN a (0 : Nat) (List.length a)) (partN b (0 : Nat) (List.length b)))) = (32 : Nat), List.length (ci (shaN (partN a (0 : Nat) (List.length a)))) = (32 : Nat), List.length (ci (shaN (partN a (0 : Nat) (List.length a)))) = (32 : Nat), u8L a, u8L b, (0 : Nat) + List.length a ≤ List.length a, (0 : Nat) + List.length b ≤ List.length b, List.length a ≤ (500000000 : Nat), List.length b ≤ (500000000 : Nat), u8L a, (0 : Nat) + List.length a ≤ List.length a, List.length a ≤ (1000000000 : Nat), decide ((500 : Int) < (↑(List.length b) : Int)) = false, decide ((500 : Int) < (↑(List.length a) : Int)) = false]) := by kernel_rfl
end
section
open Go.ChangeShapes Go.WideShapes Go.ChangeAt Go.RowKit Go.Sx
theorem tabL_ok : ∀ f g, tabL f = some g → TabOk Try.prog f g := tabs_ok fun x hx => by
  simp only [List.mem_cons, List.not_mem_nil, or_false] at hx
  rcases hx with rfl | rfl | rfl
  · exact of_tab
  · exact hm_tab
  · exact yes_tab
theorem u8L_wf {l : List Int} (h : ∀ n ∈ l, (Lit.int .u8 n).wf = true) : u8L l := fun x hx => by
  have := h x hx
  simp [Lit.wf, IntKind.min, IntKind.max, IntKind.signed, IntKind.bits] at this
  omega
theorem partN_front (a t : List Int) : partN (a ++ t) 0 a.length = partN a 0 a.length := by
  unfold partN
  rw [List.drop_zero, List.drop_zero, List.take_left, List.take_length]
theorem u8L_app {a t : List Int} (ha : u8L a) (ht : u8L t) : u8L (a ++ t) := fun x hx => by
  rcases List.mem_append.1 hx with h | h
  · exact ha x h
  · exact ht x h
end
section
open Go Go.Proofs Go.RowKit Go.Sx Go.Shelf
def repRen : Ren := ⟨fun | 99 => 39 | 105 => 22 | 165 => 40 | 166 => 41 | 169 => 43 | 170 => 42 | 206 => 58 | 212 => 38 | 240 => 59 | 241 => 60 | 263 => 56 | 264 => 57 | 276 => 64 | 277 => 65 | n => n, fun | 0 => 0 | 3 => 3 | 4 => 4 | 5 => 5 | 9 => 9 | 20 => 20 | 37 => 22 | 46 => 63 | 51 => 43 | 53 => 49 | 70 => 66 | 72 => 68 | 75 => 71 | 76 => 72 | 109 => 64 | 127 => 91 | 146 => 87 | 148 => 89 | 164 => 94 | 80 => 75 | n => n, fun n => n⟩
theorem repLays : Lays.n105 Try.prog repRen := {
  mixed := by kernel_rfl
  f99 := Try.func39.trans (congrArg some (by kernel_rfl))
  f105 := Try.func22.trans (congrArg some (by kernel_rfl))
  f165 := Try.func40.trans (congrArg some (by kernel_rfl))
  f166 := Try.func41.trans (congrArg some (by kernel_rfl))
  f169 := Try.func43.trans (congrArg some (by kernel_rfl))
  f170 := Try.func42.trans (congrArg some (by kernel_rfl))
  f206 := Try.func58.trans (congrArg some (by kernel_rfl))
  f212 := Try.func38.trans (congrArg some (by kernel_rfl))
  f240 := Try.func59.trans (congrArg some (by kernel_rfl))
  f241 := Try.func60.trans (congrArg some (by kernel_rfl))
  f263 := Try.func56.trans (congrArg some (by kernel_rfl))
  f264 := Try.func57.trans (congrArg some (by kernel_rfl))
  f276 := Try.func64.trans (congrArg some (by kernel_rfl))
  f277 := Try.func65.trans (congrArg some (by kernel_rfl))
  t0 := Try.underlying0
  a0 := Try.isAgg0
  z0 := Try.sizeOf0
  v0 := Try.zeroValue0
  t3 := Try.underlying3
  a3 := Try.isAgg3
  z3 := Try.sizeOf3
  v3 := Try.zeroValue3
  t4 := Try.underlying4
  a4 := Try.isAgg4
  z4 := Try.sizeOf4
  v4 := Try.zeroValue4
  t5 := Try.underlying5
  a5 := Try.isAgg5
  z5 := Try.sizeOf5
  v5 := Try.zeroValue5
  t9 := Try.underlying9
  a9 := Try.isAgg9
  z9 := Try.sizeOf9
  v9 := Try.zeroValue9
  t20 := Try.underlying20
  a20 := Try.isAgg20
  z20 := Try.sizeOf20
  v20 := Try.zeroValue20
  t37 := Try.underlying22
  a37 := Try.isAgg22
  z37 := Try.sizeOf22
  v37 := Try.zeroValue22
  t46 := Try.underlying63
  a46 := Try.isAgg63
  z46 := Try.sizeOf63
  v46 := Try.zeroValue63
  t51 := Try.underlying43
  a51 := Try.isAgg43
  z51 := Try.sizeOf43
  v51 := Try.zeroValue43
  t53 := Try.underlying49
  a53 := Try.isAgg49
  z53 := Try.sizeOf49
  v53 := Try.zeroValue49
  t70 := Try.underlying66
  a70 := Try.isAgg66
  z70 := Try.sizeOf66
  v70 := Try.zeroValue66
  t72 := Try.underlying68
  a72 := Try.isAgg68
  z72 := Try.sizeOf68
  v72 := Try.zeroValue68
  t75 := Try.underlying71
  a75 := Try.isAgg71
  z75 := Try.sizeOf71
  v75 := Try.zeroValue71
  t76 := Try.underlying72
  a76 := Try.isAgg72
  z76 := Try.sizeOf72
  v76 := Try.zeroValue72
  t109 := Try.underlying64
  a109 := Try.isAgg64
  z109 := Try.sizeOf64
  v109 := Try.zeroValue64
  t127 := Try.underlying91
  a127 := Try.isAgg91
  z127 := Try.sizeOf91
  v127 := Try.zeroValue91
  t146 := Try.underlying87
  a146 := Try.isAgg87
  z146 := Try.sizeOf87
  v146 := Try.zeroValue87
  t148 := Try.underlying89
  a148 := Try.isAgg89
  z148 := Try.sizeOf89
  v148 := Try.zeroValue89
  t164 := Try.underlying94
  a164 := Try.isAgg94
  z164 := Try.sizeOf94
  v164 := Try.zeroValue94
}
theorem repExtra : Builder.Extra Try.prog repRen := {
  sizeBuilder := by kernel_rfl
  liesBuilder := by kernel_rfl
  t5 := Try.underlying5
  a5 := Try.isAgg5
  z5 := Try.sizeOf5
  v5 := Try.zeroValue5
  infoByte := by kernel_rfl
  cellsByte := by kernel_rfl
  sizeByte := by kernel_rfl
  neB5 := by decide }
theorem memRel_below {w w' : World} (h : Below w.heap.size w w') : MemRel [] (upto w) w w' [] where
  below := ⟨h.os, h.tape, h.output, h.size, h.block⟩
  base := fun k hk => Nat.lt_of_lt_of_le hk h.size
  len := rfl
  blk := fun i e s h => by simp at h
  own := fun i e s h => by simp at h
  sep := fun i j e e' s s' _ h => by simp at h
  maps := fun i e s kk l h => by simp at h
  msep := fun i j e e' s s' kk kk' l l' _ h => by simp at h
def repT := fresh fun args h => match args with
  | [a, b] => match svOf a, ivs [.i64] [b] with
    | some x, some [n] => some (.v (.one (.sstr (Lib.repeatL x n.toNat))), [], h, [0 ≤ n, n ≤ 9223372036854775807, x.length * n.toNat ≤ 140737488355328])
    | _, _ => none
  | _ => none
theorem rep_tab : TabOk Try.prog 22 repT := fresh_ok fun args h v bs h' ob hg hob => by
  split at hg
  · split at hg
    · rename_i a b _ _ x n hx hn
      injection hg with hg; injection hg with e1 e2; injection e2 with e2 e3; injection e3 with e3 e4
      subst e1; subst e2; subst e3; subst e4
      have h0 : 0 ≤ n := hob (0 ≤ n) (by simp)
      have h1 : n ≤ 9223372036854775807 := hob (n ≤ 9223372036854775807) (by simp)
      have h2 : x.length * n.toNat ≤ 140737488355328 := hob (x.length * n.toNat ≤ 140737488355328) (by simp)
      refine ⟨rfl, fun ρ us hu w => ?_⟩
      obtain ⟨u1, s1, rfl, r1, u2, s2, rfl, r2, rfl⟩ := hu
      rw [svOf_rel hx r1, ivOf_rel' hn r2]
      obtain ⟨c, rfl⟩ : ∃ c : Nat, n = (c : Int) := ⟨n.toNat, by omega⟩
      rw [Int.toNat_natCast] at h2 ⊢
      refine (Any.strings_Repeat repLays repExtra ⟨x.toArray⟩ c w (by omega) (by show x.toArray.size * c ≤ _; simpa using h2)).mono fun e w' ⟨he, hw⟩ => ?_
      exact ⟨_, [], he, ⟨rfl, rfl⟩, memRel_below hw⟩
    · cases hg
  · cases hg
end
section
open Go.Sx
def tabB := tabs [(10, loc wantH gOf), (12, loc wantM gHm), (14, yesT), (22, repT)]
noncomputable def lwB (f : FuncId) (args : List V) (m : List SB) (h : List Bool) := obsOf (callN Try.prog tabB (fun _ => false) 100000 6 f args m h)
def u8v (n : Int) : V := .v (.one (.sint .u8 n))
def toU (l : List Int) : List UInt8 := l.map fun n => UInt8.ofNat (Int.toNat n)
def rpN (c : Nat) : List UInt8 := Go.Lib.repeatL (Array.toList (ByteArray.data { data := #[(0 : UInt8)] })) c
def bkK (s : List UInt8) (c : Nat) : List Int := (s ++ rpN c).map fun (x : UInt8) => (x.toNat : Int)
def bkH (a b : List Int) : List Int := ci (hmacN (partN a 0 a.length) (partN b 0 b.length))
def bkQ (s : List UInt8) (a b : List Int) (x : Int) : List Prop := [(!decide (ci (hmacN (partN (bkK s x.toNat) 0 (s ++ rpN x.toNat).length) (partN b 0 b.length)) = bkH a b)) = false,
  (ci (hmacN (partN (bkK s x.toNat) 0 (s ++ rpN x.toNat).length) (partN b 0 b.length))).length = 32, (bkH a b).length = 32, u8L (bkK s x.toNat), u8L b, 0 + (s ++ rpN x.toNat).length ≤ (bkK s x.toNat).length, 0 + b.length ≤ b.length,
  (bkK s x.toNat).length ≤ 500000000, b.length ≤ 500000000, (s ++ rpN x.toNat).length ≤ 9223372036854775807, s.length + (rpN x.toNat).length ≤ 9223372036854775807, 0 ≤ x, x ≤ 9223372036854775807, 1 * x.toNat ≤ 140737488355328, (bkH a b).length = 32]
def bkR (a b : List Int) : List Prop := [(0 : Nat) = 0, a.length = a.length, (bkH a b).length = 32, (bkH a b).length = 32, u8L a, u8L b, 0 + a.length ≤ a.length, 0 + b.length ≤ b.length, a.length ≤ 500000000, b.length ≤ 500000000, decide ((1000 : Int) < (b.length : Int)) = false, decide ((250 : Int) < (a.length : Int)) = false]
def bkS (s : List UInt8) (a b : List Int) (n : Int) (q : List Prop) : List Prop := bkQ s a b (64 - (s.length : Int)) ++ (bkQ s a b (Int.tmod n (64 - (s.length : Int) + 1)) ++ (bkQ s a b 0 ++ ([64 - (s.length : Int) + 1 ≠ 0,
  (-9223372036854775808 : Int) ≤ 64 - (s.length : Int) + 1 ∧ 64 - (s.length : Int) + 1 ≤ 9223372036854775807, (-9223372036854775808 : Int) ≤ n ∧ n ≤ 9223372036854775807, (-9223372036854775808 : Int) ≤ 64 - (s.length : Int) ∧ 64 - (s.length : Int) ≤ 9223372036854775807] ++ (q ++ bkR a b))))
def bkL (a : List Int) : List Prop := [(0 : Nat) = 0, 32 = (ci (shaN (partN a 0 a.length))).length, 32 ≤ (ci (shaN (partN a 0 a.length))).length, (ci (shaN (partN a 0 a.length))).length = 32, (ci (shaN (partN a 0 a.length))).length = 32, u8L a, 0 + a.length ≤ a.length, a.length ≤ 1000000000, decide ((64 : Int) < (a.length : Int)) = true]
theorem bk0 : (fun (a b : List Int) (n : Int) => lwB 9 [bls 0 a.length a.length, bls 1 b.length b.length, u8v n] [roH a, roH b] [true]) = fun (a b : List Int) (_ : Int) => some [decide ((250 : Int) < (a.length : Int)) = true] := by kernel_rfl
theorem bk1 : (fun (a b : List Int) (n : Int) => lwB 9 [bls 0 a.length a.length, bls 1 b.length b.length, u8v n] [roH a, roH b] [false, true]) = fun (a b : List Int) (_ : Int) => some [decide ((1000 : Int) < (b.length : Int)) = true, decide ((250 : Int) < (a.length : Int)) = false] := by kernel_rfl
theorem bk20 : (fun (a b : List Int) (n : Int) => lwB 9 [bls 0 a.length a.length, bls 1 b.length b.length, u8v n] [roH a, roH b] [false, false, true, false, false, false, false]) = fun (a : List Int) (b : List Int) (n : Int) => some ([(!decide (ci (hmacN (partN (bkK (toU a) (Int.toNat ((64 : Int) - (↑(List.length (toU a)) : Int)))) (0 : Nat) (List.length (toU a ++ rpN (Int.toNat ((64 : Int) - (↑(List.length (toU a)) : Int)))))) (partN b (0 : Nat) (List.length b))) = bkH a b)) = false, List.length (ci (hmacN (partN (bkK (toU a) (Int.toNat ((64 : Int) - (↑(List.length (toU a)) : Int)))) (0 : Nat) (List.length (toU a ++ rpN (Int.toNat ((64 : Int) - (↑(List.length (toU a)) : Int)))))) (partN b (0 : Nat) (List.length b)))) = (32 : Nat), List.length (bkH a b) = (32 : Nat), u8L (bkK (toU a) (Int.toNat ((64 : Int) - (↑(List.length (toU a)) : Int)))), u8L b, (0 : Nat) + List.length (toU a ++ rpN (Int.toNat ((64 : Int) - (↑(List.length (toU a)) : Int)))) ≤ List.length (bkK (toU a) (Int.toNat ((64 : Int) - (↑(List.length (toU a)) : Int)))), (0 : Nat) + List.length b ≤ List.length b, List.length (bkK (toU a) (Int.toNat ((64 : Int) - (↑(List.length (toU a)) : Int)))) ≤ (500000000 : Nat), List.length b ≤ (500000000 : Nat), List.length (toU a ++ rpN (Int.toNat ((64 : Int) - (↑(List.length (toU a)) : Int)))) ≤ (9223372036854775807 : Nat), List.length (toU a) + List.length (rpN (Int.toNat ((64 : Int) - (↑(List.length (toU a)) : Int)))) ≤ (9223372036854775807 : Nat), (0 : Int) ≤ (64 : Int) - (↑(List.length (toU a)) : Int), (64 : Int) - (↑(List.length (toU a)) : Int) ≤ (9223372036854775807 : Int), (1 : Nat) * Int.toNat ((64 : Int) - (↑(List.length (toU a)) : Int)) ≤ (140737488355328 : Nat), List.length (bkH a b) = (32 : Nat), (!decide (ci (hmacN (partN (bkK (toU a) (Int.toNat (Int.tmod n ((64 : Int) - (↑(List.length (toU a)) : Int) + (1 : Int))))) (0 : Nat) (List.length (toU a ++ rpN (Int.toNat (Int.tmod n ((64 : Int) - (↑(List.length (toU a)) : Int) + (1 : Int))))))) (partN b (0 : Nat) (List.length b))) = bkH a b)) = false, List.length (ci (hmacN (partN (bkK (toU a) (Int.toNat (Int.tmod n ((64 : Int) - (↑(List.length (toU a)) : Int) + (1 : Int))))) (0 : Nat) (List.length (toU a ++ rpN (Int.toNat (Int.tmod n ((64 : Int) - (↑(List.length (toU a)) : Int) + (1 : Int))))))) (partN b (0 : Nat) (List.length b)))) = (32 : Nat), List.length (bkH a b) = (32 : Nat), u8L (bkK (toU a) (Int.toNat (Int.tmod n ((64 : Int) - (↑(List.length (toU a)) : Int) + (1 : Int))))), u8L b, (0 : Nat) + List.length (toU a ++ rpN (Int.toNat (Int.tmod n ((64 : Int) - (↑(List.length (toU a)) : Int) + (1 : Int))))) ≤ List.length (bkK (toU a) (Int.toNat (Int.tmod n ((64 : Int) - (↑(List.length (toU a)) : Int) + (1 : Int))))), (0 : Nat) + List.length b ≤ List.length b, List.length (bkK (toU a) (Int.toNat (Int.tmod n ((64 : Int) - (↑(List.length (toU a)) : Int) + (1 : Int))))) ≤ (500000000 : Nat), List.length b ≤ (500000000 : Nat), List.length (toU a ++ rpN (Int.toNat (Int.tmod n ((64 : Int) - (↑(List.length (toU a)) : Int) + (1 : Int))))) ≤ (9223372036854775807 : Nat), List.length (toU a) + List.length (rpN (Int.toNat (Int.tmod n ((64 : Int) - (↑(List.length (toU a)) : Int) + (1 : Int))))) ≤ (9223372036854775807 : Nat), (0 : Int) ≤ Int.tmod n ((64 : Int) - (↑(List.length (toU a)) : Int) + (1 : Int)), Int.tmod n ((64 : Int) - (↑(List.length (toU a)) : Int) + (1 : Int)) ≤ (9223372036854775807 : Int), (1 : Nat) * Int.toNat (Int.tmod n ((64 : Int) - (↑(List.length (toU a)) : Int) + (1 : Int))) ≤ (140737488355328 : Nat), List.length (bkH a b) = (32 : Nat), (!decide (ci (hmacN (partN (bkK (toU a) (0 : Nat)) (0 : Nat) (List.length (toU a ++ rpN (0 : Nat)))) (partN b (0 : Nat) (List.length b))) = bkH a b)) = false, List.length (ci (hmacN (partN (bkK (toU a) (0 : Nat)) (0 : Nat) (List.length (toU a ++ rpN (0 : Nat)))) (partN b (0 : Nat) (List.length b)))) = (32 : Nat), List.length (bkH a b) = (32 : Nat), u8L (bkK (toU a) (0 : Nat)), u8L b, (0 : Nat) + List.length (toU a ++ rpN (0 : Nat)) ≤ List.length (bkK (toU a) (0 : Nat)), (0 : Nat) + List.length b ≤ List.length b, List.length (bkK (toU a) (0 : Nat)) ≤ (500000000 : Nat), List.length b ≤ (500000000 : Nat), List.length (toU a ++ rpN (0 : Nat)) ≤ (9223372036854775807 : Nat), List.length (toU a) + (0 : Nat) ≤ (9223372036854775807 : Nat), (0 : Int) ≤ (0 : Int), (0 : Int) ≤ (9223372036854775807 : Int), (0 : Nat) ≤ (140737488355328 : Nat), List.length (bkH a b) = (32 : Nat), (64 : Int) - (↑(List.length (toU a)) : Int) + (1 : Int) ≠ (0 : Int), (-9223372036854775808 : Int) ≤ (64 : Int) - (↑(List.length (toU a)) : Int) + (1 : Int) ∧ (64 : Int) - (↑(List.length (toU a)) : Int) + (1 : Int) ≤ (9223372036854775807 : Int), (-9223372036854775808 : Int) ≤ n ∧ n ≤ (9223372036854775807 : Int), (-9223372036854775808 : Int) ≤ (64 : Int) - (↑(List.length (toU a)) : Int) ∧ (64 : Int) - (↑(List.length (toU a)) : Int) ≤ (9223372036854775807 : Int), decide ((64 : Int) < (↑(List.length a) : Int)) = false, (0 : Nat) = (0 : Nat), List.length a = List.length a, List.length (bkH a b) = (32 : Nat), List.length (bkH a b) = (32 : Nat), u8L a, u8L b, (0 : Nat) + List.length a ≤ List.length a, (0 : Nat) + List.length b ≤ List.length b, List.length a ≤ (500000000 : Nat), List.length b ≤ (500000000 : Nat), decide ((1000 : Int) < (↑(List.length b) : Int)) = false, decide ((250 : Int) < (↑(List.length a) : Int)) = false]) := by kernel_rfl
theorem bk2 (a b : List Int) (n : Int) : lwB 9 [bls 0 a.length a.length, bls 1 b.length b.length, u8v n] [roH a, roH b] [false, false, true, false, false, false, false] = some (bkS (toU a) a b n [decide ((64 : Int) < (a.length : Int)) = false]) := congrFun (congrFun (congrFun bk20 a) b) n
theorem bk30 : (fun (a b : List Int) (n : Int) => lwB 9 [bls 0 a.length a.length, bls 1 b.length b.length, u8v n] [roH a, roH b] [false, false, true, true, true, false, false, false]) = fun (a : List Int) (b : List Int) (n : Int) => some ([(!decide (ci (hmacN (partN (bkK (toU (ci (shaN (partN a (0 : Nat) (List.length a))))) (Int.toNat ((64 : Int) - (↑(List.length (toU (ci (shaN (partN a (0 : Nat) (List.length a)))))) : Int)))) (0 : Nat) (List.length (toU (ci (shaN (partN a (0 : Nat) (List.length a)))) ++ rpN (Int.toNat ((64 : Int) - (↑(List.length (toU (ci (shaN (partN a (0 : Nat) (List.length a)))))) : Int)))))) (partN b (0 : Nat) (List.length b))) = bkH a b)) = false, List.length (ci (hmacN (partN (bkK (toU (ci (shaN (partN a (0 : Nat) (List.length a))))) (Int.toNat ((64 : Int) - (↑(List.length (toU (ci (shaN (partN a (0 : Nat) (List.length a)))))) : Int)))) (0 : Nat) (List.length (toU (ci (shaN (partN a (0 : Nat) (List.length a)))) ++ rpN (Int.toNat ((64 : Int) - (↑(List.length (toU (ci (shaN (partN a (0 : Nat) (List.length a)))))) : Int)))))) (partN b (0 : Nat) (List.length b)))) = (32 : Nat), List.length (bkH a b) = (32 : Nat), u8L (bkK (toU (ci (shaN (partN a (0 : Nat) (List.length a))))) (Int.toNat ((64 : Int) - (↑(List.length (toU (ci (shaN (partN a (0 : Nat) (List.length a)))))) : Int)))), u8L b, (0 : Nat) + List.length (toU (ci (shaN (partN a (0 : Nat) (List.length a)))) ++ rpN (Int.toNat ((64 : Int) - (↑(List.length (toU (ci (shaN (partN a (0 : Nat) (List.length a)))))) : Int)))) ≤ List.length (bkK (toU (ci (shaN (partN a (0 : Nat) (List.length a))))) (Int.toNat ((64 : Int) - (↑(List.length (toU (ci (shaN (partN a (0 : Nat) (List.length a)))))) : Int)))), (0 : Nat) + List.length b ≤ List.length b, List.length (bkK (toU (ci (shaN (partN a (0 : Nat) (List.length a))))) (Int.toNat ((64 : Int) - (↑(List.length (toU (ci (shaN (partN a (0 : Nat) (List.length a)))))) : Int)))) ≤ (500000000 : Nat), List.length b ≤ (500000000 : Nat), List.length (toU (ci (shaN (partN a (0 : Nat) (List.length a)))) ++ rpN (Int.toNat ((64 : Int) - (↑(List.length (toU (ci (shaN (partN a (0 : Nat) (List.length a)))))) : Int)))) ≤ (9223372036854775807 : Nat), List.length (toU (ci (shaN (partN a (0 : Nat) (List.length a))))) + List.length (rpN (Int.toNat ((64 : Int) - (↑(List.length (toU (ci (shaN (partN a (0 : Nat) (List.length a)))))) : Int)))) ≤ (9223372036854775807 : Nat), (0 : Int) ≤ (64 : Int) - (↑(List.length (toU (ci (shaN (partN a (0 : Nat) (List.length a)))))) : Int), (64 : Int) - (↑(List.length (toU (ci (shaN (partN a (0 : Nat) (List.length a)))))) : Int) ≤ (9223372036854775807 : Int), (1 : Nat) * Int.toNat ((64 : Int) - (↑(List.length (toU (ci (shaN (partN a (0 : Nat) (List.length a)))))) : Int)) ≤ (140737488355328 : Nat), List.length (bkH a b) = (32 : Nat), (!decide (ci (hmacN (partN (bkK (toU (ci (shaN (partN a (0 : Nat) (List.length a))))) (Int.toNat (Int.tmod n ((64 : Int) - (↑(List.length (toU (ci (shaN (partN a (0 : Nat) (List.length a)))))) : Int) + (1 : Int))))) (0 : Nat) (List.length (toU (ci (shaN (partN a (0 : Nat) (List.length a)))) ++ rpN (Int.toNat (Int.tmod n ((64 : Int) - (↑(List.length (toU (ci (shaN (partN a (0 : Nat) (List.length a)))))) : Int) + (1 : Int))))))) (partN b (0 : Nat) (List.length b))) = bkH a b)) = false, List.length (ci (hmacN (partN (bkK (toU (ci (shaN (partN a (0 : Nat) (List.length a))))) (Int.toNat (Int.tmod n ((64 : Int) - (↑(List.length (toU (ci (shaN (partN a (0 : Nat) (List.length a)))))) : Int) + (1 : Int))))) (0 : Nat) (List.length (toU (ci (shaN (partN a (0 : Nat) (List.length a)))) ++ rpN (Int.toNat (Int.tmod n ((64 : Int) - (↑(List.length (toU (ci (shaN (partN a (0 : Nat) (List.length a)))))) : Int) + (1 : Int))))))) (partN b (0 : Nat) (List.length b)))) = (32 : Nat), List.length (bkH a b) = (32 : Nat), u8L (bkK (toU (ci (shaN (partN a (0 : Nat) (List.length a))))) (Int.toNat (Int.tmod n ((64 : Int) - (↑(List.length (toU (ci (shaN (partN a (0 : Nat) (List.length a)))))) : Int) + (1 : Int))))), u8L b, (0 : Nat) + List.length (toU (ci (shaN (partN a (0 : Nat) (List.length a)))) ++ rpN (Int.toNat (Int.tmod n ((64 : Int) - (↑(List.length (toU (ci (shaN (partN a (0 : Nat) (List.length a)))))) : Int) + (1 : Int))))) ≤ List.length (bkK (toU (ci (shaN (partN a (0 : Nat) (List.length a))))) (Int.toNat (Int.tmod n ((64 : Int) - (↑(List.length (toU (ci (shaN (partN a (0 : Nat) (List.length a)))))) : Int) + (1 : Int))))), (0 : Nat) + List.length b ≤ List.length b, List.length (bkK (toU (ci (shaN (partN a (0 : Nat) (List.length a))))) (Int.toNat (Int.tmod n ((64 : Int) - (↑(List.length (toU (ci (shaN (partN a (0 : Nat) (List.length a)))))) : Int) + (1 : Int))))) ≤ (500000000 : Nat), List.length b ≤ (500000000 : Nat), List.length (toU (ci (shaN (partN a (0 : Nat) (List.length a)))) ++ rpN (Int.toNat (Int.tmod n ((64 : Int) - (↑(List.length (toU (ci (shaN (partN a (0 : Nat) (List.length a)))))) : Int) + (1 : Int))))) ≤ (9223372036854775807 : Nat), List.length (toU (ci (shaN (partN a (0 : Nat) (List.length a))))) + List.length (rpN (Int.toNat (Int.tmod n ((64 : Int) - (↑(List.length (toU (ci (shaN (partN a (0 : Nat) (List.length a)))))) : Int) + (1 : Int))))) ≤ (9223372036854775807 : Nat), (0 : Int) ≤ Int.tmod n ((64 : Int) - (↑(List.length (toU (ci (shaN (partN a (0 : Nat) (List.length a)))))) : Int) + (1 : Int)), Int.tmod n ((64 : Int) - (↑(List.length (toU (ci (shaN (partN a (0 : Nat) (List.length a)))))) : Int) + (1 : Int)) ≤ (9223372036854775807 : Int), (1 : Nat) * Int.toNat (Int.tmod n ((64 : Int) - (↑(List.length (toU (ci (shaN (partN a (0 : Nat) (List.length a)))))) : Int) + (1 : Int))) ≤ (140737488355328 : Nat), List.length (bkH a b) = (32 : Nat), (!decide (ci (hmacN (partN (bkK (toU (ci (shaN (partN a (0 : Nat) (List.length a))))) (0 : Nat)) (0 : Nat) (List.length (toU (ci (shaN (partN a (0 : Nat) (List.length a)))) ++ rpN (0 : Nat)))) (partN b (0 : Nat) (List.length b))) = bkH a b)) = false, List.length (ci (hmacN (partN (bkK (toU (ci (shaN (partN a (0 : Nat) (List.length a))))) (0 : Nat)) (0 : Nat) (List.length (toU (ci (shaN (partN a (0 : Nat) (List.length a)))) ++ rpN (0 : Nat)))) (partN b (0 : Nat) (List.length b)))) = (32 : Nat), List.length (bkH a b) = (32 : Nat), u8L (bkK (toU (ci (shaN (partN a (0 : Nat) (List.length a))))) (0 : Nat)), u8L b, (0 : Nat) + List.length (toU (ci (shaN (partN a (0 : Nat) (List.length a)))) ++ rpN (0 : Nat)) ≤ List.length (bkK (toU (ci (shaN (partN a (0 : Nat) (List.length a))))) (0 : Nat)), (0 : Nat) + List.length b ≤ List.length b, List.length (bkK (toU (ci (shaN (partN a (0 : Nat) (List.length a))))) (0 : Nat)) ≤ (500000000 : Nat), List.length b ≤ (500000000 : Nat), List.length (toU (ci (shaN (partN a (0 : Nat) (List.length a)))) ++ rpN (0 : Nat)) ≤ (9223372036854775807 : Nat), List.length (toU (ci (shaN (partN a (0 : Nat) (List.length a))))) + (0 : Nat) ≤ (9223372036854775807 : Nat), (0 : Int) ≤ (0 : Int), (0 : Int) ≤ (9223372036854775807 : Int), (0 : Nat) ≤ (140737488355328 : Nat), List.length (bkH a b) = (32 : Nat), (64 : Int) - (↑(List.length (toU (ci (shaN (partN a (0 : Nat) (List.length a)))))) : Int) + (1 : Int) ≠ (0 : Int), (-9223372036854775808 : Int) ≤ (64 : Int) - (↑(List.length (toU (ci (shaN (partN a (0 : Nat) (List.length a)))))) : Int) + (1 : Int) ∧ (64 : Int) - (↑(List.length (toU (ci (shaN (partN a (0 : Nat) (List.length a)))))) : Int) + (1 : Int) ≤ (9223372036854775807 : Int), (-9223372036854775808 : Int) ≤ n ∧ n ≤ (9223372036854775807 : Int), (-9223372036854775808 : Int) ≤ (64 : Int) - (↑(List.length (toU (ci (shaN (partN a (0 : Nat) (List.length a)))))) : Int) ∧ (64 : Int) - (↑(List.length (toU (ci (shaN (partN a (0 : Nat) (List.length a)))))) : Int) ≤ (9223372036854775807 : Int), (0 : Nat) = (0 : Nat), (32 : Nat) = List.length (ci (shaN (partN a (0 : Nat) (List.length a)))), (32 : Nat) ≤ List.length (ci (shaN (partN a (0 : Nat) (List.length a)))), List.length (ci (shaN (partN a (0 : Nat) (List.length a)))) = (32 : Nat), List.length (ci (shaN (partN a (0 : Nat) (List.length a)))) = (32 : Nat), u8L a, (0 : Nat) + List.length a ≤ List.length a, List.length a ≤ (1000000000 : Nat), decide ((64 : Int) < (↑(List.length a) : Int)) = true, (0 : Nat) = (0 : Nat), List.length a = List.length a, List.length (bkH a b) = (32 : Nat), List.length (bkH a b) = (32 : Nat), u8L a, u8L b, (0 : Nat) + List.length a ≤ List.length a, (0 : Nat) + List.length b ≤ List.length b, List.length a ≤ (500000000 : Nat), List.length b ≤ (500000000 : Nat), decide ((1000 : Int) < (↑(List.length b) : Int)) = false, decide ((250 : Int) < (↑(List.length a) : Int)) = false]) := by kernel_rfl
theorem bk3 (a b : List Int) (n : Int) : lwB 9 [bls 0 a.length a.length, bls 1 b.length b.length, u8v n] [roH a, roH b] [false, false, true, true, true, false, false, false] = some (bkS (toU (ci (shaN (partN a 0 a.length)))) a b n (bkL a)) := congrFun (congrFun (congrFun bk30 a) b) n
end
section
open Go.ChangeShapes Go.WideShapes Go.ChangeAt Go.RowKit Go.Sx
theorem tabB_ok : ∀ f g, tabB f = some g → TabOk Try.prog f g := tabs_ok fun x hx => by
  simp only [List.mem_cons, List.not_mem_nil, or_false] at hx
  rcases hx with rfl | rfl | rfl | rfl
  · exact of_tab
  · exact hm_tab
  · exact yes_tab
  · exact rep_tab
theorem hkN_zeros {k : List Nat} {z : Nat} (h : k.length + z ≤ 64) : blN (k ++ List.replicate z 0) = blN k := by
  unfold blN hkN
  rw [if_neg (by simp; omega), if_neg (by omega), List.append_assoc, List.length_append, List.length_replicate, List.replicate_append_replicate, show z + (64 - (k.length + z)) = 64 - k.length by omega]
theorem hmacN_zeros {k x : List Nat} {z : Nat} (h : k.length + z ≤ 64) : hmacN (k ++ List.replicate z 0) x = hmacN k x := by
  unfold hmacN
  rw [hkN_zeros h]
theorem hmacN_hash {k x : List Nat} (h : 64 < k.length) : hmacN (shaN k) x = hmacN k x := by
  have e : blN (shaN k) = blN k := by
    unfold blN
    have : hkN (shaN k) = hkN k := by
      unfold hkN
      rw [if_neg (by rw [shaN_len]; decide), if_pos h]
    rw [this]
  unfold hmacN
  rw [e]
theorem there_back {l : List Int} (h : u8L l) : List.map (fun (x : UInt8) => (x.toNat : Int)) (List.map (fun (n : Int) => UInt8.ofNat (Int.toNat n)) l) = l := by
  rw [List.map_map]
  conv => rhs; rw [← List.map_id l]
  refine List.map_congr_left fun n hn => ?_
  have := h n hn
  show ((UInt8.ofNat n.toNat).toNat : Int) = n
  rw [UInt8.toNat_ofNat', Nat.mod_eq_of_lt (by omega)]
  omega
theorem rep_nul : ∀ c : Nat, Lib.repeatL (ByteArray.data { data := #[(0 : UInt8)] }).toList c = List.replicate c (0 : UInt8)
  | 0 => rfl
  | c + 1 => by
    show _ :: Lib.repeatL _ c = _
    rw [rep_nul c]; rfl
theorem nul_back (c : Nat) : List.map (fun (x : UInt8) => (x.toNat : Int)) (List.replicate c (0 : UInt8)) = List.replicate c (0 : Int) := by
  rw [List.map_replicate]; rfl
theorem key_part {l : List Int} {z : Nat} : partN (l ++ List.replicate z (0 : Int)) 0 (l.length + z) = partN l 0 l.length ++ List.replicate z 0 := by
  unfold partN nats
  rw [List.drop_zero, List.drop_zero, List.take_length, List.take_of_length_le (by simp), List.map_append, List.map_replicate]
  rfl
theorem u8L_zeros {l : List Int} (h : u8L l) (z : Nat) : u8L (l ++ List.replicate z 0) := u8L_app h fun x hx => by
  have := List.eq_of_mem_replicate hx; omega
theorem bkQ_ok {a b l : List Int} (x : Int) (ul : u8L l) (ub : u8L b) (h0 : 0 ≤ x) (h64 : l.length + x.toNat ≤ 64) (lb : b.length ≤ 1000)
    (hH : hmacN (partN l 0 l.length) (partN b 0 b.length) = hmacN (partN a 0 a.length) (partN b 0 b.length)) : ∀ p ∈ bkQ (toU l) a b x, p := by
  have e1 : bkK (toU l) x.toNat = l ++ List.replicate x.toNat 0 := by
    unfold bkK toU rpN
    rw [rep_nul, List.map_append, nul_back, there_back ul]
  have e2 : (rpN x.toNat).length = x.toNat := by unfold rpN; rw [rep_nul, List.length_replicate]
  have e3 : (toU l).length = l.length := by unfold toU; rw [List.length_map]
  have e4 : (toU l ++ rpN x.toNat).length = l.length + x.toNat := by rw [List.length_append, e2, e3]
  have eh : hmacN (partN (l ++ List.replicate x.toNat 0) 0 (l.length + x.toNat)) (partN b 0 b.length) = hmacN (partN a 0 a.length) (partN b 0 b.length) := by
    rw [key_part, hmacN_zeros (by rw [partN_len (by omega)]; exact h64), hH]
  have hl : (bkH a b).length = 32 := by unfold bkH; rw [ci_len]; exact hmacN_len _ _
  have u1 := u8L_zeros ul x.toNat
  have hz : x ≤ 9223372036854775807 := by omega
  have hd : (!decide (ci (hmacN (partN a 0 a.length) (partN b 0 b.length)) = bkH a b)) = false := by
    rw [show bkH a b = ci (hmacN (partN a 0 a.length) (partN b 0 b.length)) from rfl, decide_eq_true rfl]; rfl
  have hc : (ci (hmacN (partN a 0 a.length) (partN b 0 b.length))).length = 32 := hl
  unfold bkQ
  rw [e1, e4, eh, e2, e3]
  refine allP_mem ?_
  simp only [allP, List.length_append, List.length_replicate]
  exact ⟨hd, hc, hl, u1, ub, by omega, by omega, by omega, by omega, by omega, by omega, h0, hz, by omega, hl, trivial⟩
theorem bkR_ok {a b : List Int} (ua : u8L a) (ub : u8L b) (la : a.length ≤ 250) (lb : b.length ≤ 1000) : ∀ p ∈ bkR a b, p := by
  have hl : (bkH a b).length = 32 := by unfold bkH; rw [ci_len]; exact hmacN_len _ _
  refine allP_mem ?_
  unfold bkR
  exact ⟨rfl, rfl, hl, hl, ua, ub, by omega, by omega, by omega, by omega, decide_eq_false (by omega), decide_eq_false (by omega), trivial⟩
theorem bkS_ok {a b l : List Int} {n : Int} {q : List Prop} (ua : u8L a) (ul : u8L l) (ub : u8L b) (h64 : l.length ≤ 64) (la : a.length ≤ 250) (lb : b.length ≤ 1000) (n0 : 0 ≤ n) (n1 : n ≤ 255)
    (hH : hmacN (partN l 0 l.length) (partN b 0 b.length) = hmacN (partN a 0 a.length) (partN b 0 b.length)) (hq : ∀ p ∈ q, p) : ∀ p ∈ bkS (toU l) a b n q, p := by
  have e3 : (toU l).length = l.length := by unfold toU; rw [List.length_map]
  have m0 : 0 ≤ Int.tmod n (64 - (l.length : Int) + 1) := Int.tmod_nonneg _ n0
  have m1 : Int.tmod n (64 - (l.length : Int) + 1) < 64 - (l.length : Int) + 1 := Int.tmod_lt_of_pos _ (by omega)
  intro p hp
  unfold bkS at hp
  rw [e3] at hp
  rcases List.mem_append.1 hp with hp | hp
  · exact bkQ_ok _ ul ub (by omega) (by omega) lb hH p hp
  rcases List.mem_append.1 hp with hp | hp
  · exact bkQ_ok _ ul ub m0 (by omega) lb hH p hp
  rcases List.mem_append.1 hp with hp | hp
  · exact bkQ_ok _ ul ub (by omega) (by simpa using h64) lb hH p hp
  rcases List.mem_append.1 hp with hp | hp
  · refine allP_mem ?_ p hp
    exact ⟨by omega, ⟨by omega, by omega⟩, ⟨by omega, by omega⟩, ⟨by omega, by omega⟩, trivial⟩
  rcases List.mem_append.1 hp with hp | hp
  · exact hq p hp
  · exact bkR_ok ua ub la lb p hp
theorem shaBlock_calls (a : List Int) (e : E) (v : Value) (b : List Int) (e' : E) (v' : Value) (n : Int) {W0 : World}
    (r : readOnly W0 (e, roH a)) (w : ∀ n ∈ a, (Lit.int .u8 n).wf = true) (_m : a.length ≤ maxLen) (u : ∀ (ρ : Env) (b : Nat), ρ[b]? = some e → (V.v (.one (.slice b (.c 0) 1 (.s a.length) (.s a.length)))).rel ρ v)
    (r' : readOnly W0 (e', roH b)) (w' : ∀ n ∈ b, (Lit.int .u8 n).wf = true) (_m' : b.length ≤ maxLen) (u' : ∀ (ρ : Env) (c : Nat), ρ[c]? = some e' → (V.v (.one (.slice c (.c 0) 1 (.s b.length) (.s b.length)))).rel ρ v')
    (wn : (Lit.int .u8 n).wf = true)
    (W : World) (hW : W0 = W := by rfl) : Calls Try.prog 9 #[v, v', .int .u8 n] W fun e w' => e = .returned (.bool true) ∧ Below W.heap.size W w' := by
  subst hW
  have hm := mem_args (W := W0) [(e, roH a), (e', roH b)] (by intro y hy; simp at hy; rcases hy with rfl | rfl; exact r; exact r')
  have hu : relVs ([(e, roH a), (e', roH b)].map (·.1)) [bls 0 a.length a.length, bls 1 b.length b.length, u8v n] [v, v', .int .u8 n] := ⟨_, _, rfl, u _ 0 rfl, _, _, rfl, u' _ 1 rfl, _, _, rfl, ⟨rfl, rfl⟩, rfl⟩
  have ua := u8L_wf w
  have ub := u8L_wf w'
  have un := u8L_wf (l := [n]) (fun x hx => by rw [List.mem_singleton.1 hx]; exact wn) n (by simp)
  by_cases h0 : (250 : Int) < a.length
  · exact law_obs tabB_ok (congrFun (congrFun (congrFun bk0 a) b) n) ⟨decide_eq_true h0, trivial⟩ hm hu
  by_cases h1 : (1000 : Int) < b.length
  · exact law_obs tabB_ok (congrFun (congrFun (congrFun bk1 a) b) n) ⟨decide_eq_true h1, decide_eq_false h0, trivial⟩ hm hu
  by_cases h2 : (64 : Int) < a.length
  · have hA : (partN a 0 a.length).length = a.length := partN_len (by omega)
    have hs := shaN_len (partN a 0 a.length)
    refine law_obs tabB_ok (bk3 a b n) (allP_of (bkS_ok ua (ci_u8 (shaN_wf _)) ub (by rw [ci_len, hs]; decide) (by omega) (by omega) (by omega) (by omega) ?_ ?_)) hm hu
    · rw [ci_len, partN_whole rfl, hmacN_hash (by omega)]
    · refine allP_mem ?_
      unfold bkL
      simp only [allP, ci_len, hs]
      repeat' (first | exact trivial | exact ua | exact decide_eq_true h2 | refine And.intro ?_ ?_)
      all_goals omega
  · refine law_obs tabB_ok (bk2 a b n) (allP_of (bkS_ok ua ua ub (by omega) (by omega) (by omega) (by omega) (by omega) rfl ?_)) hm hu
    intro p hp
    rw [List.mem_singleton.1 hp]
    exact decide_eq_false h2

set_option maxRecDepth 100000 in
theorem shaBlock_lifted (os : Os) (started : os.Started) (H : Type) (enc : TypeId × Value → H) :
    ReturnsInHanded {} Try.checked os 9 .any (Rows.shaBlockSpec.pre6 enc Try.prog Try.f9 Rows.shaBlockRow.domain false) (Rows.shaBlockSpec.post enc Try.prog Try.f9 false true false false) := by
  refine returnsInHanded_of_change (C := Try.checked) own started (by kernel_rfl) Try.func9
    (ChangeSpec.witness6 (enc := enc) (C := Try.checked) false ⟨#[], #[.slice none 0 0, .slice none 0 0, .int .u8 0], []⟩ 8 (by kernel_rfl) (by kernel_rfl) (by kernel_rfl) (by kernel_rfl)) ?_
  intro W base args ds gs before hval0 hW hcnd _
  have hval : ∀ (j : Nat) t v, Try.f9.params[j]? = some t → args[j]? = some v → Value.okWide Try.prog W .any base t v := hval0
  have hW' := hW
  obtain ⟨p, q, hA0, hV, hbef, hfz, hnd⟩ := hW
  have hA : DataW.TrodAll enc Try.prog W 0 (fun _ => true) true Try.f9.params.toList args.toList ds p := hA0
  rw [Try.params9] at hA hval
  obtain ⟨v0, v1, v2, d0, d1, d2, p0, p1, p2, rfl, rfl, hp, h0, h1, h2⟩ := trodAll_three hA
  obtain ⟨a0, e0, r0, w0, m0, u0⟩ := one_ints (k := .u8) (d := 20) (by kernel_rfl) (hval 0 22 v0 rfl rfl) h0
  obtain ⟨a1, e1, r1, w1, m1, u1⟩ := one_ints (k := .u8) (d := 20) (by kernel_rfl) (hval 1 22 v1 rfl rfl) h1
  obtain ⟨a2, rfl, rfl, _, w2⟩ := open_int Try.underlying5 (hval 2 5 v2 rfl rfl) h2
  refine (shaBlock_calls a0 e0 v0 a1 e1 v1 a2 r0 w0 m0 u0 r1 w1 m1 u1 w2 W).mono fun e W' ⟨he, hb⟩ => ?_
  subst he
  exact ⟨_, rfl, post_law laidOut (by rw [Try.params9]; decide +kernel) rfl rfl (by kernel_rfl) Try.underlying4 hW' hb⟩

theorem shaBlock_holds : Rows.ShaBlockSaid :=
  OpenClaim.holds_of_wide 9 Try.f9 rfl rfl rfl rfl rfl rfl rfl ⟨rfl, rfl, rfl, rfl, rfl⟩ rfl rfl rfl rfl rfl (by kernel_rfl) Try.func9 (by kernel_rfl)
    (of_decide_eq_true (by kernel_rfl)) (by unfold Func.isWrapper; first | (rw [if_pos (by decide +kernel)]; kernel_rfl) | (rw [if_neg (by decide +kernel)]; exact ⟨rfl, rfl⟩))
    (fun os started H enc _ => shaBlock_lifted os started H enc)
#print axioms shaBlock_holds
end
end Go.Proofs.Ytlboenjdbgkofaa
