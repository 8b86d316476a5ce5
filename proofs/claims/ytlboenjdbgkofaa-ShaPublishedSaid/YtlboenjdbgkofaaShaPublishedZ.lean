/- ShaStill: its runs. Laws of two lists of bytes: what they share. strings.Repeat: the shelf's contract, laid at this program. ShaPublished: its run. The hash of a million letters. ShaPublished: the hashes that it asks. ShaPublished is true. -/
import Derived.Test.YtlboenjdbgkofaaZaD
import Derived.Test.YtlboenjdbgkofaaSxAF
import Derived.Test.YtlboenjdbgkofaaRows
import Derived.Shelf.Strings.Repeat
import Derived.Test.YtlboenjdbgkofaaPb0
import Derived.Test.YtlboenjdbgkofaaPb1
namespace Go.Proofs.Ytlboenjdbgkofaa
section
open Go.Sx
def tabL := tabs [(10, loc wantH gOf), (12, loc wantM gHm), (14, yesT)]
def bls (b n c : Nat) : V := .v (.one (.slice b (.c 0) 1 (.s n) (.s c)))
noncomputable def lwL (f : FuncId) (args : List V) (m : List SB) (h : List Bool) := obsOf (callN Try.prog tabL (fun _ => false) 100000 6 f args m h)
theorem st0 : (fun (a b : List Int) => lwL 6 [bls 0 a.length a.length, bls 1 b.length b.length] [roH a, roH b] [true]) = fun (a : List Int) (b : List Int) => some ([decide ((500 : Int) < (↑(List.length a) : Int)) = true]) := by kernel_rfl
theorem st1 : (fun (a b : List Int) => lwL 6 [bls 0 a.length a.length, bls 1 b.length b.length] [roH a, roH b] [false, true]) = fun (a : List Int) (b : List Int) => some ([decide ((500 : Int) < (↑(List.length b) : Int)) = true, decide ((500 : Int) < (↑(List.length a) : Int)) = false]) := by kernel_rfl
theorem st2 : (fun (a b : List Int) => lwL 6 [bls 0 a.length a.length, bls 1 b.length b.length] [roH a, roH b] [false, false, true, true, true, true, false, false, false, true, true, true, true, true, true]) = fun (a : List Int) (b : List Int) => some ([(List.map (fun (n : Int) ↦ UInt8.ofNat (Int.toNat n)) ([] ++ b ++ [(77 : Int), (42 : Int), (99 : Int), (17 : Int)]) == List.map (fun (n : Int) ↦ UInt8.ofNat (Int.toNat n)) b ++ Array.toList (ByteArray.data { data := #[OfNat.ofNat (77 : Nat), OfNat.ofNat (42 : Nat), OfNat.ofNat (99 : Nat), OfNat.ofNat (17 : Nat)] })) = true, List.length (List.map (fun (n : Int) ↦ UInt8.ofNat (Int.toNat n)) b) + (4 : Nat) ≤ (9223372036854775807 : Nat), (0 : Nat) = (0 : Nat), List.length b = List.length b, (0 : Nat) = (0 : Nat), Int.toNat ((↑(Int.toNat (↑(List.length b) : Int)) : Int) + (4 : Int)) = List.length ([] ++ b ++ [(77 : Int), (42 : Int), (99 : Int), (17 : Int)]), (0 : Int) ≤ (↑(Int.toNat (↑(List.length b) : Int)) : Int) + (4 : Int), (↑(Int.toNat (↑(List.length b) : Int)) : Int) + (4 : Int) ≤ (↑(Nat.add (List.length b) (4 : Nat)) : Int), (-9223372036854775808 : Int) ≤ (↑(Int.toNat (↑(List.length b) : Int)) : Int) + (4 : Int) ∧ (↑(Int.toNat (↑(List.length b) : Int)) : Int) + (4 : Int) ≤ (9223372036854775807 : Int), (List.map (fun (n : Int) ↦ UInt8.ofNat (Int.toNat n)) ([] ++ a ++ [(77 : Int), (42 : Int), (99 : Int), (17 : Int)]) == List.map (fun (n : Int) ↦ UInt8.ofNat (Int.toNat n)) a ++ Array.toList (ByteArray.data { data := #[OfNat.ofNat (77 : Nat), OfNat.ofNat (42 : Nat), OfNat.ofNat (99 : Nat), OfNat.ofNat (17 : Nat)] })) = true, List.length (List.map (fun (n : Int) ↦ UInt8.ofNat (Int.toNat n)) a) + (4 : Nat) ≤ (9223372036854775807 : Nat), (0 : Nat) = (0 : Nat), List.length a = List.length a, (0 : Nat) = (0 : Nat), Int.toNat ((↑(Int.toNat (↑(List.length a) : Int)) : Int) + (4 : Int)) = List.length ([] ++ a ++ [(77 : Int), (42 : Int), (99 : Int), (17 : Int)]), (0 : Int) ≤ (↑(Int.toNat (↑(List.length a) : Int)) : Int) + (4 : Int), (↑(Int.toNat (↑(List.length a) : Int)) : Int) + (4 : Int) ≤ (↑(Nat.add (List.length a) (4 : Nat)) : Int), (-9223372036854775808 : Int) ≤ (↑(Int.toNat (↑(List.length a) : Int)) : Int) + (4 : Int) ∧ (↑(Int.toNat (↑(List.length a) : Int)) : Int) + (4 : Int) ≤ (9223372036854775807 : Int), (!decide (ci (hmacN (partN ([] ++ a ++ [(77 : Int), (42 : Int), (99 : Int), (17 : Int)]) (0 : Nat) (Int.toNat (↑(List.length a) : Int))) (partN ([] ++ a ++ [(77 : Int), (42 : Int), (99 : Int), (17 : Int)]) (0 : Nat) (Int.toNat (↑(List.length a) : Int)))) = ci (hmacN (partN a (0 : Nat) (List.length a)) (partN a (0 : Nat) (List.length a))))) = false, List.length (ci (hmacN (partN ([] ++ a ++ [(77 : Int), (42 : Int), (99 : Int), (17 : Int)]) (0 : Nat) (Int.toNat (↑(List.length a) : Int))) (partN ([] ++ a ++ [(77 : Int), (42 : Int), (99 : Int), (17 : Int)]) (0 : Nat) (Int.toNat (↑(List.length a) : Int))))) = (32 : Nat), List.length (ci (hmacN (partN a (0 : Nat) (List.length a)) (partN a (0 : Nat) (List.length a)))) = (32 : Nat), u8L a, (0 : Nat) + List.length a ≤ List.length a, (0 : Nat) + List.length a ≤ List.length a, List.length a ≤ (500000000 : Nat), u8L ([] ++ a ++ [(77 : Int), (42 : Int), (99 : Int), (17 : Int)]), (0 : Nat) + Int.toNat (↑(List.length a) : Int) ≤ List.length ([] ++ a ++ [(77 : Int), (42 : Int), (99 : Int), (17 : Int)]), (0 : Nat) + Int.toNat (↑(List.length a) : Int) ≤ List.length ([] ++ a ++ [(77 : Int), (42 : Int), (99 : Int), (17 : Int)]), List.length ([] ++ a ++ [(77 : Int), (42 : Int), (99 : Int), (17 : Int)]) ≤ (500000000 : Nat), (!decide (ci (hmacN (partN ([] ++ a ++ [(77 : Int), (42 : Int), (99 : Int), (17 : Int)]) (0 : Nat) (Int.toNat (↑(List.length a) : Int))) (partN ([] ++ b ++ [(77 : Int), (42 : Int), (99 : Int), (17 : Int)]) (0 : Nat) (Int.toNat (↑(List.length b) : Int)))) = ci (hmacN (partN a (0 : Nat) (List.length a)) (partN b (0 : Nat) (List.length b))))) = false, List.length (ci (hmacN (partN ([] ++ a ++ [(77 : Int), (42 : Int), (99 : Int), (17 : Int)]) (0 : Nat) (Int.toNat (↑(List.length a) : Int))) (partN ([] ++ b ++ [(77 : Int), (42 : Int), (99 : Int), (17 : Int)]) (0 : Nat) (Int.toNat (↑(List.length b) : Int))))) = (32 : Nat), List.length (ci (hmacN (partN a (0 : Nat) (List.length a)) (partN b (0 : Nat) (List.length b)))) = (32 : Nat), u8L ([] ++ a ++ [(77 : Int), (42 : Int), (99 : Int), (17 : Int)]), u8L ([] ++ b ++ [(77 : Int), (42 : Int), (99 : Int), (17 : Int)]), (0 : Nat) + Int.toNat (↑(List.length a) : Int) ≤ List.length ([] ++ a ++ [(77 : Int), (42 : Int), (99 : Int), (17 : Int)]), (0 : Nat) + Int.toNat (↑(List.length b) : Int) ≤ List.length ([] ++ b ++ [(77 : Int), (42 : Int), (99 : Int), (17 : Int)]), List.length ([] ++ a ++ [(77 : Int), (42 : Int), (99 : Int), (17 : Int)]) ≤ (500000000 : Nat), List.length ([] ++ b ++ [(77 : Int), (42 : Int), (99 : Int), (17 : Int)]) ≤ (500000000 : Nat), List.length (ci (hmacN (partN a (0 : Nat) (List.length a)) (partN b (0 : Nat) (List.length b)))) = (32 : Nat), (!decide (ci (shaN (partN ([] ++ a ++ [(77 : Int), (42 : Int), (99 : Int), (17 : Int)]) (0 : Nat) (Int.toNat (↑(List.length a) : Int)))) = ci (shaN (partN a (0 : Nat) (List.length a))))) = false, List.length (ci (shaN (partN ([] ++ a ++ [(77 : Int), (42 : Int), (99 : Int), (17 : Int)]) (0 : Nat) (Int.toNat (↑(List.length a) : Int))))) = (32 : Nat), List.length (ci (shaN (partN a (0 : Nat) (List.length a)))) = (32 : Nat), u8L ([] ++ a ++ [(77 : Int), (42 : Int), (99 : Int), (17 : Int)]), (0 : Nat) + Int.toNat (↑(List.length a) : Int) ≤ List.length ([] ++ a ++ [(77 : Int), (42 : Int), (99 : Int), (17 : Int)]), List.length ([] ++ a ++ [(77 : Int), (42 : Int), (99 : Int), (17 : Int)]) ≤ (1000000000 : Nat), List.length (ci (shaN (partN a (0 : Nat) (List.length a)))) = (32 : Nat), u8L b, u8L a, (0 : Nat) + List.length b ≤ List.length b, (0 : Nat) + List.length a ≤ List.length a, List.length b ≤ (500000000 : Nat), List.length a ≤ (500000000 : Nat), u8L b, (0 : Nat) + List.length b ≤ List.length b, List.length b ≤ (1000000000 : Nat), (0 : Int) ≤ (↑(List.length b) : Int), (↑(List.length b) : Int) ≤ (↑(Nat.add (List.length b) (4 : Nat)) : Int), (0 : Nat) = (0 : Nat), List.length b = List.length ([] ++ b), (List.length b + (4 : Nat)) * (1 : Nat) ≤ (140737488355328 : Nat), List.length b + (4 : Nat) ≤ (9223372036854775807 : Nat), (0 : Nat) = (0 : Nat), List.length b = List.length b, List.length b * (1 : Nat) ≤ (140737488355328 : Nat), List.length b ≤ (9223372036854775807 : Nat), (0 : Int) ≤ (↑(List.length a) : Int), (↑(List.length a) : Int) ≤ (↑(Nat.add (List.length a) (4 : Nat)) : Int), (0 : Nat) = (0 : Nat), List.length a = List.length ([] ++ a), (List.length a + (4 : Nat)) * (1 : Nat) ≤ (140737488355328 : Nat), List.length a + (4 : Nat) ≤ (9223372036854775807 : Nat), (0 : Nat) = (0 : Nat), List.length a = List.length a, List.length a * (1 : Nat) ≤ (140737488355328 : Nat), List.length a ≤ (9223372036854775807 : Nat), List.length (ci (hmacN (partN a (0 : Nat) (List.length a)) (partN b (0 : Nat) (List.length b)))) = (32 : Nat), List.length (ci (hmacN (partN a (0 : Nat) (List.length a)) (partN b (0 : Nat) (List.length b)))) = (32 : Nat), List.length (ci (shaN (partN a (0 : Nat) (List.length a)))) = (32 : Nat), List.length (ci (shaN (partN a (0 : Nat) (List.length a)))) = (32 : Nat), u8L a, u8L b, (0 : Nat) + List.length a ≤ List.length a, (0 : Nat) + List.length b ≤ List.length b, List.length a ≤ (500000000 : Nat), List.length b ≤ (500000000 : Nat), u8L a, (0 : Nat) + List.length a ≤ List.length a, List.length a ≤ (1000000000 : Nat), decide ((500 : Int) < (↑(List.length b) : Int)) = false, decide ((500 : Int) < (↑(List.length a) : Int)) = false]) := by kernel_rfl
end
section
open Go.ChangeShapes Go.WideShapes Go.ChangeAt Go.RowKit Go.Sx
theorem tabL_ok : ∀ f g, tabL f = some g → TabOk Try.prog f g := tabs_ok fun x hx => by
  simp only [List.mem_cons, List.not_mem_nil, or_false] at hx
  rcases hx with rfl | rfl | rfl
  · exact of_tab
  · exact hm_tab
  · exact yes_tab
theorem u8L_wf {l : List Int} (h : ∀ n ∈ l, (Lit.int .u8 n).wf = true) : u8L l := fun x hx => by
  have := h x hx
  simp [Lit.wf, IntKind.min, IntKind.max, IntKind.signed, IntKind.bits] at this
  omega
theorem partN_front (a t : List Int) : partN (a ++ t) 0 a.length = partN a 0 a.length := by
  unfold partN
  rw [List.drop_zero, List.drop_zero, List.take_left, List.take_length]
theorem u8L_app {a t : List Int} (ha : u8L a) (ht : u8L t) : u8L (a ++ t) := fun x hx => by
  rcases List.mem_append.1 hx with h | h
  · exact ha x h
  · exact ht x h
end
section
open Go Go.Proofs Go.RowKit Go.Sx Go.Shelf
def repRen : Ren := ⟨fun | 99 => 39 | 105 => 22 | 165 => 40 | 166 => 41 | 169 => 43 | 170 => 42 | 206 => 58 | 212 => 38 | 240 => 59 | 241 => 60 | 263 => 56 | 264 => 57 | 276 => 64 | 277 => 65 | n => n, fun | 0 => 0 | 3 => 3 | 4 => 4 | 5 => 5 | 9 => 9 | 20 => 20 | 37 => 22 | 46 => 63 | 51 => 43 | 53 => 49 | 70 => 66 | 72 => 68 | 75 => 71 | 76 => 72 | 109 => 64 | 127 => 91 | 146 => 87 | 148 => 89 | 164 => 94 | 80 => 75 | n => n, fun n => n⟩
theorem repLays : Lays.n105 Try.prog repRen := {
  mixed := by kernel_rfl
  f99 := Try.func39.trans (congrArg some (by kernel_rfl))
  f105 := Try.func22.trans (congrArg some (by kernel_rfl))
  f165 := Try.func40.trans (congrArg some (by kernel_rfl))
  f166 := Try.func41.trans (congrArg some (by kernel_rfl))
  f169 := Try.func43.trans (congrArg some (by kernel_rfl))
  f170 := Try.func42.trans (congrArg some (by kernel_rfl))
  f206 := Try.func58.trans (congrArg some (by kernel_rfl))
  f212 := Try.func38.trans (congrArg some (by kernel_rfl))
  f240 := Try.func59.trans (congrArg some (by kernel_rfl))
  f241 := Try.func60.trans (congrArg some (by kernel_rfl))
  f263 := Try.func56.trans (congrArg some (by kernel_rfl))
  f264 := Try.func57.trans (congrArg some (by kernel_rfl))
  f276 := Try.func64.trans (congrArg some (by kernel_rfl))
  f277 := Try.func65.trans (congrArg some (by kernel_rfl))
  t0 := Try.underlying0
  a0 := Try.isAgg0
  z0 := Try.sizeOf0
  v0 := Try.zeroValue0
  t3 := Try.underlying3
  a3 := Try.isAgg3
  z3 := Try.sizeOf3
  v3 := Try.zeroValue3
  t4 := Try.underlying4
  a4 := Try.isAgg4
  z4 := Try.sizeOf4
  v4 := Try.zeroValue4
  t5 := Try.underlying5
  a5 := Try.isAgg5
  z5 := Try.sizeOf5
  v5 := Try.zeroValue5
  t9 := Try.underlying9
  a9 := Try.isAgg9
  z9 := Try.sizeOf9
  v9 := Try.zeroValue9
  t20 := Try.underlying20
  a20 := Try.isAgg20
  z20 := Try.sizeOf20
  v20 := Try.zeroValue20
  t37 := Try.underlying22
  a37 := Try.isAgg22
  z37 := Try.sizeOf22
  v37 := Try.zeroValue22
  t46 := Try.underlying63
  a46 := Try.isAgg63
  z46 := Try.sizeOf63
  v46 := Try.zeroValue63
  t51 := Try.underlying43
  a51 := Try.isAgg43
  z51 := Try.sizeOf43
  v51 := Try.zeroValue43
  t53 := Try.underlying49
  a53 := Try.isAgg49
  z53 := Try.sizeOf49
  v53 := Try.zeroValue49
  t70 := Try.underlying66
  a70 := Try.isAgg66
  z70 := Try.sizeOf66
  v70 := Try.zeroValue66
  t72 := Try.underlying68
  a72 := Try.isAgg68
  z72 := Try.sizeOf68
  v72 := Try.zeroValue68
  t75 := Try.underlying71
  a75 := Try.isAgg71
  z75 := Try.sizeOf71
  v75 := Try.zeroValue71
  t76 := Try.underlying72
  a76 := Try.isAgg72
  z76 := Try.sizeOf72
  v76 := Try.zeroValue72
  t109 := Try.underlying64
  a109 := Try.isAgg64
  z109 := Try.sizeOf64
  v109 := Try.zeroValue64
  t127 := Try.underlying91
  a127 := Try.isAgg91
  z127 := Try.sizeOf91
  v127 := Try.zeroValue91
  t146 := Try.underlying87
  a146 := Try.isAgg87
  z146 := Try.sizeOf87
  v146 := Try.zeroValue87
  t148 := Try.underlying89
  a148 := Try.isAgg89
  z148 := Try.sizeOf89
  v148 := Try.zeroValue89
  t164 := Try.underlying94
  a164 := Try.isAgg94
  z164 := Try.sizeOf94
  v164 := Try.zeroValue94
}
theorem repExtra : Builder.Extra Try.prog repRen := {
  sizeBuilder := by kernel_rfl
  liesBuilder := by kernel_rfl
  t5 := Try.underlying5
  a5 := Try.isAgg5
  z5 := Try.sizeOf5
  v5 := Try.zeroValue5
  infoByte := by kernel_rfl
  cellsByte := by kernel_rfl
  sizeByte := by kernel_rfl
  neB5 := by decide }
theorem memRel_below {w w' : World} (h : Below w.heap.size w w') : MemRel [] (upto w) w w' [] where
  below := ⟨h.os, h.tape, h.output, h.size, h.block⟩
  base := fun k hk => Nat.lt_of_lt_of_le hk h.size
  len := rfl
  blk := fun i e s h => by simp at h
  own := fun i e s h => by simp at h
  sep := fun i j e e' s s' _ h => by simp at h
  maps := fun i e s kk l h => by simp at h
  msep := fun i j e e' s s' kk kk' l l' _ h => by simp at h
def repT := fresh fun args h => match args with
  | [a, b] => match svOf a, ivs [.i64] [b] with
    | some x, some [n] => some (.v (.one (.sstr (Lib.repeatL x n.toNat))), [], h, [0 ≤ n, n ≤ 9223372036854775807, x.length * n.toNat ≤ 140737488355328])
    | _, _ => none
  | _ => none
theorem rep_tab : TabOk Try.prog 22 repT := fresh_ok fun args h v bs h' ob hg hob => by
  split at hg
  · split at hg
    · rename_i a b _ _ x n hx hn
      injection hg with hg; injection hg with e1 e2; injection e2 with e2 e3; injection e3 with e3 e4
      subst e1; subst e2; subst e3; subst e4
      have h0 : 0 ≤ n := hob (0 ≤ n) (by simp)
      have h1 : n ≤ 9223372036854775807 := hob (n ≤ 9223372036854775807) (by simp)
      have h2 : x.length * n.toNat ≤ 140737488355328 := hob (x.length * n.toNat ≤ 140737488355328) (by simp)
      refine ⟨rfl, fun ρ us hu w => ?_⟩
      obtain ⟨u1, s1, rfl, r1, u2, s2, rfl, r2, rfl⟩ := hu
      rw [svOf_rel hx r1, ivOf_rel' hn r2]
      obtain ⟨c, rfl⟩ : ∃ c : Nat, n = (c : Int) := ⟨n.toNat, by omega⟩
      rw [Int.toNat_natCast] at h2 ⊢
      refine (Any.strings_Repeat repLays repExtra ⟨x.toArray⟩ c w (by omega) (by show x.toArray.size * c ≤ _; simpa using h2)).mono fun e w' ⟨he, hw⟩ => ?_
      exact ⟨_, [], he, ⟨rfl, rfl⟩, memRel_below hw⟩
    · cases hg
  · cases hg
end
section
open Go.Sx
/-! the contracts, with the functions left open: so the kernel reckons no hash -/
def gOfV (sh : List Nat → List Nat) : Sx.Loc := fun args bs => match args, bs with
  | [.v (.one (.slice 0 i 1 n _))], [⟨false, .ints .u8 b⟩] => some (.v (.aggi .u8 (ci (sh (partN b i.v n.v)))), [roH b], [u8L b, i.v + n.v ≤ b.length, b.length ≤ 1000000000])
  | _, _ => none
def gHmV (hm : List Nat → List Nat → List Nat) : Sx.Loc := fun args bs => match args, bs with
  | [.v (.one (.slice 0 i 1 n _)), .v (.one (.slice 1 j 1 m _))], [⟨false, .ints .u8 b⟩, ⟨false, .ints .u8 c⟩] => some (.v (.aggi .u8 (ci (hm (partN b i.v n.v) (partN c j.v m.v)))), [roH b, roH c], [u8L b, u8L c, i.v + n.v ≤ b.length, j.v + m.v ≤ c.length, b.length ≤ 500000000, c.length ≤ 500000000])
  | [.v (.one (.slice 0 i 1 n _)), .v (.one (.slice 0 j 1 m _))], [⟨false, .ints .u8 b⟩] => some (.v (.aggi .u8 (ci (hm (partN b i.v n.v) (partN b j.v m.v)))), [roH b], [u8L b, i.v + n.v ≤ b.length, j.v + m.v ≤ b.length, b.length ≤ 500000000])
  | _, _ => none
def hexTV (hx : List Nat → List UInt8) := fresh fun args h => match args with
  | [a] => match arrV .u8 a with
    | some (_, l) => some (.v (.one (.sstr (hx (nats l)))), [], h, [u8L l, l.length = 32])
    | none => none
  | _ => none
def repTV (rp : List UInt8 → Nat → List UInt8) := fresh fun args h => match args with
  | [a, b] => match svOf a, ivs [.i64] [b] with
    | some x, some [n] => some (.v (.one (.sstr (rp x n.toNat))), [], h, [0 ≤ n, n ≤ 9223372036854775807, x.length * n.toNat ≤ 140737488355328])
    | _, _ => none
  | _ => none
def tabPV (sh : List Nat → List Nat) (hm : List Nat → List Nat → List Nat) (hx : List Nat → List UInt8) (rp : List UInt8 → Nat → List UInt8) := tabs [(10, loc wantH (gOfV sh)), (12, loc wantM (gHmV hm)), (15, hexTV hx), (14, yesT), (22, repTV rp)]
noncomputable def lwP (sh : List Nat → List Nat) (hm : List Nat → List Nat → List Nat) (hx : List Nat → List UInt8) (rp : List UInt8 → Nat → List UInt8) (f : FuncId) (args : List V) (m : List SB) (h : List Bool) := obsOf (callN Try.prog (tabPV sh hm hx rp) (fun _ => false) 100000 6 f args m h)
theorem pu0 : (fun (sh : List Nat → List Nat) (hm : List Nat → List Nat → List Nat) (hx : List Nat → List UInt8) (rp : List UInt8 → Nat → List UInt8) => lwP sh hm hx rp 8 [] [] [true, true, true, true, true, true]) = fun (sh : List Nat → List Nat) (hm : List Nat → List Nat → List Nat) (hx : List Nat → List UInt8) (rp : List UInt8 → Nat → List UInt8) => some ([(hx (nats (ci (hm (partN (List.map (fun (x : UInt8) ↦ (↑(UInt8.toNat x) : Int)) (rp (Array.toList (ByteArray.data { data := #[OfNat.ofNat (170 : Nat)] })) (131 : Nat))) (0 : Nat) (List.length (rp (Array.toList (ByteArray.data { data := #[OfNat.ofNat (170 : Nat)] })) (131 : Nat)))) (partN [(84 : Int), (101 : Int), (115 : Int), (116 : Int), (32 : Int), (85 : Int), (115 : Int), (105 : Int), (110 : Int), (103 : Int), (32 : Int), (76 : Int), (97 : Int), (114 : Int), (103 : Int), (101 : Int), (114 : Int), (32 : Int), (84 : Int), (104 : Int), (97 : Int), (110 : Int), (32 : Int), (66 : Int), (108 : Int), (111 : Int), (99 : Int), (107 : Int), (45 : Int), (83 : Int), (105 : Int), (122 : Int), (101 : Int), (32 : Int), (75 : Int), (101 : Int), (121 : Int), (32 : Int), (45 : Int), (32 : Int), (72 : Int), (97 : Int), (115 : Int), (104 : Int), (32 : Int), (75 : Int), (101 : Int), (121 : Int), (32 : Int), (70 : Int), (105 : Int), (114 : Int), (115 : Int), (116 : Int)] (0 : Nat) (54 : Nat))))) == Array.toList (ByteArray.data { data := #[OfNat.ofNat (54 : Nat), OfNat.ofNat (48 : Nat), OfNat.ofNat (101 : Nat), OfNat.ofNat (52 : Nat), OfNat.ofNat (51 : Nat), OfNat.ofNat (49 : Nat), OfNat.ofNat (53 : Nat), OfNat.ofNat (57 : Nat), OfNat.ofNat (49 : Nat), OfNat.ofNat (101 : Nat), OfNat.ofNat (101 : Nat), OfNat.ofNat (48 : Nat), OfNat.ofNat (98 : Nat), OfNat.ofNat (54 : Nat), OfNat.ofNat (55 : Nat), OfNat.ofNat (102 : Nat), OfNat.ofNat (48 : Nat), OfNat.ofNat (100 : Nat), OfNat.ofNat (56 : Nat), OfNat.ofNat (97 : Nat), OfNat.ofNat (50 : Nat), OfNat.ofNat (54 : Nat), OfNat.ofNat (97 : Nat), OfNat.ofNat (97 : Nat), OfNat.ofNat (99 : Nat), OfNat.ofNat (98 : Nat), OfNat.ofNat (102 : Nat), OfNat.ofNat (53 : Nat), OfNat.ofNat (98 : Nat), OfNat.ofNat (55 : Nat), OfNat.ofNat (55 : Nat), OfNat.ofNat (102 : Nat), OfNat.ofNat (56 : Nat), OfNat.ofNat (101 : Nat), OfNat.ofNat (48 : Nat), OfNat.ofNat (98 : Nat), OfNat.ofNat (99 : Nat), OfNat.ofNat (54 : Nat), OfNat.ofNat (50 : Nat), OfNat.ofNat (49 : Nat), OfNat.ofNat (51 : Nat), OfNat.ofNat (55 : Nat), OfNat.ofNat (50 : Nat), OfNat.ofNat (56 : Nat), OfNat.ofNat (99 : Nat), OfNat.ofNat (53 : Nat), OfNat.ofNat (49 : Nat), OfNat.ofNat (52 : Nat), OfNat.ofNat (48 : Nat), OfNat.ofNat (53 : Nat), OfNat.ofNat (52 : Nat), OfNat.ofNat (54 : Nat), OfNat.ofNat (48 : Nat), OfNat.ofNat (52 : Nat), OfNat.ofNat (48 : Nat), OfNat.ofNat (102 : Nat), OfNat.ofNat (48 : Nat), OfNat.ofNat (101 : Nat), OfNat.ofNat (101 : Nat), OfNat.ofNat (51 : Nat), OfNat.ofNat (55 : Nat), OfNat.ofNat (102 : Nat), OfNat.ofNat (53 : Nat), OfNat.ofNat (52 : Nat)] })) = true, u8L (ci (hm (partN (List.map (fun (x : UInt8) ↦ (↑(UInt8.toNat x) : Int)) (rp (Array.toList (ByteArray.data { data := #[OfNat.ofNat (170 : Nat)] })) (131 : Nat))) (0 : Nat) (List.length (rp (Array.toList (ByteArray.data { data := #[OfNat.ofNat (170 : Nat)] })) (131 : Nat)))) (partN [(84 : Int), (101 : Int), (115 : Int), (116 : Int), (32 : Int), (85 : Int), (115 : Int), (105 : Int), (110 : Int), (103 : Int), (32 : Int), (76 : Int), (97 : Int), (114 : Int), (103 : Int), (101 : Int), (114 : Int), (32 : Int), (84 : Int), (104 : Int), (97 : Int), (110 : Int), (32 : Int), (66 : Int), (108 : Int), (111 : Int), (99 : Int), (107 : Int), (45 : Int), (83 : Int), (105 : Int), (122 : Int), (101 : Int), (32 : Int), (75 : Int), (101 : Int), (121 : Int), (32 : Int), (45 : Int), (32 : Int), (72 : Int), (97 : Int), (115 : Int), (104 : Int), (32 : Int), (75 : Int), (101 : Int), (121 : Int), (32 : Int), (70 : Int), (105 : Int), (114 : Int), (115 : Int), (116 : Int)] (0 : Nat) (54 : Nat)))), List.length (ci (hm (partN (List.map (fun (x : UInt8) ↦ (↑(UInt8.toNat x) : Int)) (rp (Array.toList (ByteArray.data { data := #[OfNat.ofNat (170 : Nat)] })) (131 : Nat))) (0 : Nat) (List.length (rp (Array.toList (ByteArray.data { data := #[OfNat.ofNat (170 : Nat)] })) (131 : Nat)))) (partN [(84 : Int), (101 : Int), (115 : Int), (116 : Int), (32 : Int), (85 : Int), (115 : Int), (105 : Int), (110 : Int), (103 : Int), (32 : Int), (76 : Int), (97 : Int), (114 : Int), (103 : Int), (101 : Int), (114 : Int), (32 : Int), (84 : Int), (104 : Int), (97 : Int), (110 : Int), (32 : Int), (66 : Int), (108 : Int), (111 : Int), (99 : Int), (107 : Int), (45 : Int), (83 : Int), (105 : Int), (122 : Int), (101 : Int), (32 : Int), (75 : Int), (101 : Int), (121 : Int), (32 : Int), (45 : Int), (32 : Int), (72 : Int), (97 : Int), (115 : Int), (104 : Int), (32 : Int), (75 : Int), (101 : Int), (121 : Int), (32 : Int), (70 : Int), (105 : Int), (114 : Int), (115 : Int), (116 : Int)] (0 : Nat) (54 : Nat)))) = (32 : Nat), u8L (List.map (fun (x : UInt8) ↦ (↑(UInt8.toNat x) : Int)) (rp (Array.toList (ByteArray.data { data := #[OfNat.ofNat (170 : Nat)] })) (131 : Nat))), u8L [(84 : Int), (101 : Int), (115 : Int), (116 : Int), (32 : Int), (85 : Int), (115 : Int), (105 : Int), (110 : Int), (103 : Int), (32 : Int), (76 : Int), (97 : Int), (114 : Int), (103 : Int), (101 : Int), (114 : Int), (32 : Int), (84 : Int), (104 : Int), (97 : Int), (110 : Int), (32 : Int), (66 : Int), (108 : Int), (111 : Int), (99 : Int), (107 : Int), (45 : Int), (83 : Int), (105 : Int), (122 : Int), (101 : Int), (32 : Int), (75 : Int), (101 : Int), (121 : Int), (32 : Int), (45 : Int), (32 : Int), (72 : Int), (97 : Int), (115 : Int), (104 : Int), (32 : Int), (75 : Int), (101 : Int), (121 : Int), (32 : Int), (70 : Int), (105 : Int), (114 : Int), (115 : Int), (116 : Int)], (0 : Nat) + List.length (rp (Array.toList (ByteArray.data { data := #[OfNat.ofNat (170 : Nat)] })) (131 : Nat)) ≤ List.length (List.map (fun (x : UInt8) ↦ (↑(UInt8.toNat x) : Int)) (rp (Array.toList (ByteArray.data { data := #[OfNat.ofNat (170 : Nat)] })) (131 : Nat))), (54 : Nat) ≤ (54 : Nat), List.length (List.map (fun (x : UInt8) ↦ (↑(UInt8.toNat x) : Int)) (rp (Array.toList (ByteArray.data { data := #[OfNat.ofNat (170 : Nat)] })) (131 : Nat))) ≤ (500000000 : Nat), (54 : Nat) ≤ (500000000 : Nat), List.length (rp (Array.toList (ByteArray.data { data := #[OfNat.ofNat (170 : Nat)] })) (131 : Nat)) ≤ (9223372036854775807 : Nat), (0 : Int) ≤ (131 : Int), (131 : Int) ≤ (9223372036854775807 : Int), (131 : Nat) ≤ (140737488355328 : Nat), (hx (nats (ci (hm (partN (List.map (fun (x : UInt8) ↦ (↑(UInt8.toNat x) : Int)) (rp (Array.toList (ByteArray.data { data := #[OfNat.ofNat (170 : Nat)] })) (20 : Nat))) (0 : Nat) (List.length (rp (Array.toList (ByteArray.data { data := #[OfNat.ofNat (170 : Nat)] })) (20 : Nat)))) (partN (List.map (fun (x : UInt8) ↦ (↑(UInt8.toNat x) : Int)) (rp (Array.toList (ByteArray.data { data := #[OfNat.ofNat (221 : Nat)] })) (50 : Nat))) (0 : Nat) (List.length (rp (Array.toList (ByteArray.data { data := #[OfNat.ofNat (221 : Nat)] })) (50 : Nat))))))) == Array.toList (ByteArray.data { data := #[OfNat.ofNat (55 : Nat), OfNat.ofNat (55 : Nat), OfNat.ofNat (51 : Nat), OfNat.ofNat (101 : Nat), OfNat.ofNat (97 : Nat), OfNat.ofNat (57 : Nat), OfNat.ofNat (49 : Nat), OfNat.ofNat (101 : Nat), OfNat.ofNat (51 : Nat), OfNat.ofNat (54 : Nat), OfNat.ofNat (56 : Nat), OfNat.ofNat (48 : Nat), OfNat.ofNat (48 : Nat), OfNat.ofNat (101 : Nat), OfNat.ofNat (52 : Nat), OfNat.ofNat (54 : Nat), OfNat.ofNat (56 : Nat), OfNat.ofNat (53 : Nat), OfNat.ofNat (52 : Nat), OfNat.ofNat (100 : Nat), OfNat.ofNat (98 : Nat), OfNat.ofNat (56 : Nat), OfNat.ofNat (101 : Nat), OfNat.ofNat (98 : Nat), OfNat.ofNat (100 : Nat), OfNat.ofNat (48 : Nat), OfNat.ofNat (57 : Nat), OfNat.ofNat (49 : Nat), OfNat.ofNat (56 : Nat), OfNat.ofNat (49 : Nat), OfNat.ofNat (97 : Nat), OfNat.ofNat (55 : Nat), OfNat.ofNat (50 : Nat), OfNat.ofNat (57 : Nat), OfNat.ofNat (53 : Nat), OfNat.ofNat (57 : Nat), OfNat.ofNat (48 : Nat), OfNat.ofNat (57 : Nat), OfNat.ofNat (56 : Nat), OfNat.ofNat (98 : Nat), OfNat.ofNat (51 : Nat), OfNat.ofNat (101 : Nat), OfNat.ofNat (102 : Nat), OfNat.ofNat (56 : Nat), OfNat.ofNat (99 : Nat), OfNat.ofNat (49 : Nat), OfNat.ofNat (50 : Nat), OfNat.ofNat (50 : Nat), OfNat.ofNat (100 : Nat), OfNat.ofNat (57 : Nat), OfNat.ofNat (54 : Nat), OfNat.ofNat (51 : Nat), OfNat.ofNat (53 : Nat), OfNat.ofNat (53 : Nat), OfNat.ofNat (49 : Nat), OfNat.ofNat (52 : Nat), OfNat.ofNat (99 : Nat), OfNat.ofNat (101 : Nat), OfNat.ofNat (100 : Nat), OfNat.ofNat (53 : Nat), OfNat.ofNat (54 : Nat), OfNat.ofNat (53 : Nat), OfNat.ofNat (102 : Nat), OfNat.ofNat (101 : Nat)] })) = true, u8L (ci (hm (partN (List.map (fun (x : UInt8) ↦ (↑(UInt8.toNat x) : Int)) (rp (Array.toList (ByteArray.data { data := #[OfNat.ofNat (170 : Nat)] })) (20 : Nat))) (0 : Nat) (List.length (rp (Array.toList (ByteArray.data { data := #[OfNat.ofNat (170 : Nat)] })) (20 : Nat)))) (partN (List.map (fun (x : UInt8) ↦ (↑(UInt8.toNat x) : Int)) (rp (Array.toList (ByteArray.data { data := #[OfNat.ofNat (221 : Nat)] })) (50 : Nat))) (0 : Nat) (List.length (rp (Array.toList (ByteArray.data { data := #[OfNat.ofNat (221 : Nat)] })) (50 : Nat)))))), List.length (ci (hm (partN (List.map (fun (x : UInt8) ↦ (↑(UInt8.toNat x) : Int)) (rp (Array.toList (ByteArray.data { data := #[OfNat.ofNat (170 : Nat)] })) (20 : Nat))) (0 : Nat) (List.length (rp (Array.toList (ByteArray.data { data := #[OfNat.ofNat (170 : Nat)] })) (20 : Nat)))) (partN (List.map (fun (x : UInt8) ↦ (↑(UInt8.toNat x) : Int)) (rp (Array.toList (ByteArray.data { data := #[OfNat.ofNat (221 : Nat)] })) (50 : Nat))) (0 : Nat) (List.length (rp (Array.toList (ByteArray.data { data := #[OfNat.ofNat (221 : Nat)] })) (50 : Nat)))))) = (32 : Nat), u8L (List.map (fun (x : UInt8) ↦ (↑(UInt8.toNat x) : Int)) (rp (Array.toList (ByteArray.data { data := #[OfNat.ofNat (170 : Nat)] })) (20 : Nat))), u8L (List.map (fun (x : UInt8) ↦ (↑(UInt8.toNat x) : Int)) (rp (Array.toList (ByteArray.data { data := #[OfNat.ofNat (221 : Nat)] })) (50 : Nat))), (0 : Nat) + List.length (rp (Array.toList (ByteArray.data { data := #[OfNat.ofNat (170 : Nat)] })) (20 : Nat)) ≤ List.length (List.map (fun (x : UInt8) ↦ (↑(UInt8.toNat x) : Int)) (rp (Array.toList (ByteArray.data { data := #[OfNat.ofNat (170 : Nat)] })) (20 : Nat))), (0 : Nat) + List.length (rp (Array.toList (ByteArray.data { data := #[OfNat.ofNat (221 : Nat)] })) (50 : Nat)) ≤ List.length (List.map (fun (x : UInt8) ↦ (↑(UInt8.toNat x) : Int)) (rp (Array.toList (ByteArray.data { data := #[OfNat.ofNat (221 : Nat)] })) (50 : Nat))), List.length (List.map (fun (x : UInt8) ↦ (↑(UInt8.toNat x) : Int)) (rp (Array.toList (ByteArray.data { data := #[OfNat.ofNat (170 : Nat)] })) (20 : Nat))) ≤ (500000000 : Nat), List.length (List.map (fun (x : UInt8) ↦ (↑(UInt8.toNat x) : Int)) (rp (Array.toList (ByteArray.data { data := #[OfNat.ofNat (221 : Nat)] })) (50 : Nat))) ≤ (500000000 : Nat), List.length (rp (Array.toList (ByteArray.data { data := #[OfNat.ofNat (221 : Nat)] })) (50 : Nat)) ≤ (9223372036854775807 : Nat), List.length (rp (Array.toList (ByteArray.data { data := #[OfNat.ofNat (170 : Nat)] })) (20 : Nat)) ≤ (9223372036854775807 : Nat), (0 : Int) ≤ (50 : Int), (50 : Int) ≤ (9223372036854775807 : Int), (50 : Nat) ≤ (140737488355328 : Nat), (0 : Int) ≤ (20 : Int), (20 : Int) ≤ (9223372036854775807 : Int), (20 : Nat) ≤ (140737488355328 : Nat), (hx (nats (ci (hm (partN (List.map (fun (x : UInt8) ↦ (↑(UInt8.toNat x) : Int)) (rp (Array.toList (ByteArray.data { data := #[OfNat.ofNat (11 : Nat)] })) (20 : Nat))) (0 : Nat) (List.length (rp (Array.toList (ByteArray.data { data := #[OfNat.ofNat (11 : Nat)] })) (20 : Nat)))) (partN [(72 : Int), (105 : Int), (32 : Int), (84 : Int), (104 : Int), (101 : Int), (114 : Int), (101 : Int)] (0 : Nat) (8 : Nat))))) == Array.toList (ByteArray.data { data := #[OfNat.ofNat (98 : Nat), OfNat.ofNat (48 : Nat), OfNat.ofNat (51 : Nat), OfNat.ofNat (52 : Nat), OfNat.ofNat (52 : Nat), OfNat.ofNat (99 : Nat), OfNat.ofNat (54 : Nat), OfNat.ofNat (49 : Nat), OfNat.ofNat (100 : Nat), OfNat.ofNat (56 : Nat), OfNat.ofNat (100 : Nat), OfNat.ofNat (98 : Nat), OfNat.ofNat (51 : Nat), OfNat.ofNat (56 : Nat), OfNat.ofNat (53 : Nat), OfNat.ofNat (51 : Nat), OfNat.ofNat (53 : Nat), OfNat.ofNat (99 : Nat), OfNat.ofNat (97 : Nat), OfNat.ofNat (56 : Nat), OfNat.ofNat (97 : Nat), OfNat.ofNat (102 : Nat), OfNat.ofNat (99 : Nat), OfNat.ofNat (101 : Nat), OfNat.ofNat (97 : Nat), OfNat.ofNat (102 : Nat), OfNat.ofNat (48 : Nat), OfNat.ofNat (98 : Nat), OfNat.ofNat (102 : Nat), OfNat.ofNat (49 : Nat), OfNat.ofNat (50 : Nat), OfNat.ofNat (98 : Nat), OfNat.ofNat (56 : Nat), OfNat.ofNat (56 : Nat), OfNat.ofNat (49 : Nat), OfNat.ofNat (100 : Nat), OfNat.ofNat (99 : Nat), OfNat.ofNat (50 : Nat), OfNat.ofNat (48 : Nat), OfNat.ofNat (48 : Nat), OfNat.ofNat (99 : Nat), OfNat.ofNat (57 : Nat), OfNat.ofNat (56 : Nat), OfNat.ofNat (51 : Nat), OfNat.ofNat (51 : Nat), OfNat.ofNat (100 : Nat), OfNat.ofNat (97 : Nat), OfNat.ofNat (55 : Nat), OfNat.ofNat (50 : Nat), OfNat.ofNat (54 : Nat), OfNat.ofNat (101 : Nat), OfNat.ofNat (57 : Nat), OfNat.ofNat (51 : Nat), OfNat.ofNat (55 : Nat), OfNat.ofNat (54 : Nat), OfNat.ofNat (99 : Nat), OfNat.ofNat (50 : Nat), OfNat.ofNat (101 : Nat), OfNat.ofNat (51 : Nat), OfNat.ofNat (50 : Nat), OfNat.ofNat (99 : Nat), OfNat.ofNat (102 : Nat), OfNat.ofNat (102 : Nat), OfNat.ofNat (55 : Nat)] })) = true, u8L (ci (hm (partN (List.map (fun (x : UInt8) ↦ (↑(UInt8.toNat x) : Int)) (rp (Array.toList (ByteArray.data { data := #[OfNat.ofNat (11 : Nat)] })) (20 : Nat))) (0 : Nat) (List.length (rp (Array.toList (ByteArray.data { data := #[OfNat.ofNat (11 : Nat)] })) (20 : Nat)))) (partN [(72 : Int), (105 : Int), (32 : Int), (84 : Int), (104 : Int), (101 : Int), (114 : Int), (101 : Int)] (0 : Nat) (8 : Nat)))), List.length (ci (hm (partN (List.map (fun (x : UInt8) ↦ (↑(UInt8.toNat x) : Int)) (rp (Array.toList (ByteArray.data { data := #[OfNat.ofNat (11 : Nat)] })) (20 : Nat))) (0 : Nat) (List.length (rp (Array.toList (ByteArray.data { data := #[OfNat.ofNat (11 : Nat)] })) (20 : Nat)))) (partN [(72 : Int), (105 : Int), (32 : Int), (84 : Int), (104 : Int), (101 : Int), (114 : Int), (101 : Int)] (0 : Nat) (8 : Nat)))) = (32 : Nat), u8L (List.map (fun (x : UInt8) ↦ (↑(UInt8.toNat x) : Int)) (rp (Array.toList (ByteArray.data { data := #[OfNat.ofNat (11 : Nat)] })) (20 : Nat))), u8L [(72 : Int), (105 : Int), (32 : Int), (84 : Int), (104 : Int), (101 : Int), (114 : Int), (101 : Int)], (0 : Nat) + List.length (rp (Array.toList (ByteArray.data { data := #[OfNat.ofNat (11 : Nat)] })) (20 : Nat)) ≤ List.length (List.map (fun (x : UInt8) ↦ (↑(UInt8.toNat x) : Int)) (rp (Array.toList (ByteArray.data { data := #[OfNat.ofNat (11 : Nat)] })) (20 : Nat))), (8 : Nat) ≤ (8 : Nat), List.length (List.map (fun (x : UInt8) ↦ (↑(UInt8.toNat x) : Int)) (rp (Array.toList (ByteArray.data { data := #[OfNat.ofNat (11 : Nat)] })) (20 : Nat))) ≤ (500000000 : Nat), (8 : Nat) ≤ (500000000 : Nat), List.length (rp (Array.toList (ByteArray.data { data := #[OfNat.ofNat (11 : Nat)] })) (20 : Nat)) ≤ (9223372036854775807 : Nat), (0 : Int) ≤ (20 : Int), (20 : Int) ≤ (9223372036854775807 : Int), (20 : Nat) ≤ (140737488355328 : Nat), (hx (nats (ci (sh (partN (List.map (fun (x : UInt8) ↦ (↑(UInt8.toNat x) : Int)) (rp (Array.toList (ByteArray.data { data := #[OfNat.ofNat (97 : Nat)] })) (1000000 : Nat))) (0 : Nat) (List.length (rp (Array.toList (ByteArray.data { data := #[OfNat.ofNat (97 : Nat)] })) (1000000 : Nat))))))) == Array.toList (ByteArray.data { data := #[OfNat.ofNat (99 : Nat), OfNat.ofNat (100 : Nat), OfNat.ofNat (99 : Nat), OfNat.ofNat (55 : Nat), OfNat.ofNat (54 : Nat), OfNat.ofNat (101 : Nat), OfNat.ofNat (53 : Nat), OfNat.ofNat (99 : Nat), OfNat.ofNat (57 : Nat), OfNat.ofNat (57 : Nat), OfNat.ofNat (49 : Nat), OfNat.ofNat (52 : Nat), OfNat.ofNat (102 : Nat), OfNat.ofNat (98 : Nat), OfNat.ofNat (57 : Nat), OfNat.ofNat (50 : Nat), OfNat.ofNat (56 : Nat), OfNat.ofNat (49 : Nat), OfNat.ofNat (97 : Nat), OfNat.ofNat (49 : Nat), OfNat.ofNat (99 : Nat), OfNat.ofNat (55 : Nat), OfNat.ofNat (101 : Nat), OfNat.ofNat (50 : Nat), OfNat.ofNat (56 : Nat), OfNat.ofNat (52 : Nat), OfNat.ofNat (100 : Nat), OfNat.ofNat (55 : Nat), OfNat.ofNat (51 : Nat), OfNat.ofNat (101 : Nat), OfNat.ofNat (54 : Nat), OfNat.ofNat (55 : Nat), OfNat.ofNat (102 : Nat), OfNat.ofNat (49 : Nat), OfNat.ofNat (56 : Nat), OfNat.ofNat (48 : Nat), OfNat.ofNat (57 : Nat), OfNat.ofNat (97 : Nat), OfNat.ofNat (52 : Nat), OfNat.ofNat (56 : Nat), OfNat.ofNat (97 : Nat), OfNat.ofNat (52 : Nat), OfNat.ofNat (57 : Nat), OfNat.ofNat (55 : Nat), OfNat.ofNat (50 : Nat), OfNat.ofNat (48 : Nat), OfNat.ofNat (48 : Nat), OfNat.ofNat (101 : Nat), OfNat.ofNat (48 : Nat), OfNat.ofNat (52 : Nat), OfNat.ofNat (54 : Nat), OfNat.ofNat (100 : Nat), OfNat.ofNat (51 : Nat), OfNat.ofNat (57 : Nat), OfNat.ofNat (99 : Nat), OfNat.ofNat (99 : Nat), OfNat.ofNat (99 : Nat), OfNat.ofNat (55 : Nat), OfNat.ofNat (49 : Nat), OfNat.ofNat (49 : Nat), OfNat.ofNat (50 : Nat), OfNat.ofNat (99 : Nat), OfNat.ofNat (100 : Nat), OfNat.ofNat (48 : Nat)] })) = true, u8L (ci (sh (partN (List.map (fun (x : UInt8) ↦ (↑(UInt8.toNat x) : Int)) (rp (Array.toList (ByteArray.data { data := #[OfNat.ofNat (97 : Nat)] })) (1000000 : Nat))) (0 : Nat) (List.length (rp (Array.toList (ByteArray.data { data := #[OfNat.ofNat (97 : Nat)] })) (1000000 : Nat)))))), List.length (ci (sh (partN (List.map (fun (x : UInt8) ↦ (↑(UInt8.toNat x) : Int)) (rp (Array.toList (ByteArray.data { data := #[OfNat.ofNat (97 : Nat)] })) (1000000 : Nat))) (0 : Nat) (List.length (rp (Array.toList (ByteArray.data { data := #[OfNat.ofNat (97 : Nat)] })) (1000000 : Nat)))))) = (32 : Nat), u8L (List.map (fun (x : UInt8) ↦ (↑(UInt8.toNat x) : Int)) (rp (Array.toList (ByteArray.data { data := #[OfNat.ofNat (97 : Nat)] })) (1000000 : Nat))), (0 : Nat) + List.length (rp (Array.toList (ByteArray.data { data := #[OfNat.ofNat (97 : Nat)] })) (1000000 : Nat)) ≤ List.length (List.map (fun (x : UInt8) ↦ (↑(UInt8.toNat x) : Int)) (rp (Array.toList (ByteArray.data { data := #[OfNat.ofNat (97 : Nat)] })) (1000000 : Nat))), List.length (List.map (fun (x : UInt8) ↦ (↑(UInt8.toNat x) : Int)) (rp (Array.toList (ByteArray.data { data := #[OfNat.ofNat (97 : Nat)] })) (1000000 : Nat))) ≤ (1000000000 : Nat), List.length (rp (Array.toList (ByteArray.data { data := #[OfNat.ofNat (97 : Nat)] })) (1000000 : Nat)) ≤ (9223372036854775807 : Nat), (0 : Int) ≤ (1000000 : Int), (1000000 : Int) ≤ (9223372036854775807 : Int), (1000000 : Nat) ≤ (140737488355328 : Nat), (hx (nats (ci (sh (partN [(97 : Int), (98 : Int), (99 : Int), (100 : Int), (98 : Int), (99 : Int), (100 : Int), (101 : Int), (99 : Int), (100 : Int), (101 : Int), (102 : Int), (100 : Int), (101 : Int), (102 : Int), (103 : Int), (101 : Int), (102 : Int), (103 : Int), (104 : Int), (102 : Int), (103 : Int), (104 : Int), (105 : Int), (103 : Int), (104 : Int), (105 : Int), (106 : Int), (104 : Int), (105 : Int), (106 : Int), (107 : Int), (105 : Int), (106 : Int), (107 : Int), (108 : Int), (106 : Int), (107 : Int), (108 : Int), (109 : Int), (107 : Int), (108 : Int), (109 : Int), (110 : Int), (108 : Int), (109 : Int), (110 : Int), (111 : Int), (109 : Int), (110 : Int), (111 : Int), (112 : Int), (110 : Int), (111 : Int), (112 : Int), (113 : Int)] (0 : Nat) (56 : Nat))))) == Array.toList (ByteArray.data { data := #[OfNat.ofNat (50 : Nat), OfNat.ofNat (52 : Nat), OfNat.ofNat (56 : Nat), OfNat.ofNat (100 : Nat), OfNat.ofNat (54 : Nat), OfNat.ofNat (97 : Nat), OfNat.ofNat (54 : Nat), OfNat.ofNat (49 : Nat), OfNat.ofNat (100 : Nat), OfNat.ofNat (50 : Nat), OfNat.ofNat (48 : Nat), OfNat.ofNat (54 : Nat), OfNat.ofNat (51 : Nat), OfNat.ofNat (56 : Nat), OfNat.ofNat (98 : Nat), OfNat.ofNat (56 : Nat), OfNat.ofNat (101 : Nat), OfNat.ofNat (53 : Nat), OfNat.ofNat (99 : Nat), OfNat.ofNat (48 : Nat), OfNat.ofNat (50 : Nat), OfNat.ofNat (54 : Nat), OfNat.ofNat (57 : Nat), OfNat.ofNat (51 : Nat), OfNat.ofNat (48 : Nat), OfNat.ofNat (99 : Nat), OfNat.ofNat (51 : Nat), OfNat.ofNat (101 : Nat), OfNat.ofNat (54 : Nat), OfNat.ofNat (48 : Nat), OfNat.ofNat (51 : Nat), OfNat.ofNat (57 : Nat), OfNat.ofNat (97 : Nat), OfNat.ofNat (51 : Nat), OfNat.ofNat (51 : Nat), OfNat.ofNat (99 : Nat), OfNat.ofNat (101 : Nat), OfNat.ofNat (52 : Nat), OfNat.ofNat (53 : Nat), OfNat.ofNat (57 : Nat), OfNat.ofNat (54 : Nat), OfNat.ofNat (52 : Nat), OfNat.ofNat (102 : Nat), OfNat.ofNat (102 : Nat), OfNat.ofNat (50 : Nat), OfNat.ofNat (49 : Nat), OfNat.ofNat (54 : Nat), OfNat.ofNat (55 : Nat), OfNat.ofNat (102 : Nat), OfNat.ofNat (54 : Nat), OfNat.ofNat (101 : Nat), OfNat.ofNat (99 : Nat), OfNat.ofNat (101 : Nat), OfNat.ofNat (100 : Nat), OfNat.ofNat (100 : Nat), OfNat.ofNat (52 : Nat), OfNat.ofNat (49 : Nat), OfNat.ofNat (57 : Nat), OfNat.ofNat (100 : Nat), OfNat.ofNat (98 : Nat), OfNat.ofNat (48 : Nat), OfNat.ofNat (54 : Nat), OfNat.ofNat (99 : Nat), OfNat.ofNat (49 : Nat)] })) = true, u8L (ci (sh (partN [(97 : Int), (98 : Int), (99 : Int), (100 : Int), (98 : Int), (99 : Int), (100 : Int), (101 : Int), (99 : Int), (100 : Int), (101 : Int), (102 : Int), (100 : Int), (101 : Int), (102 : Int), (103 : Int), (101 : Int), (102 : Int), (103 : Int), (104 : Int), (102 : Int), (103 : Int), (104 : Int), (105 : Int), (103 : Int), (104 : Int), (105 : Int), (106 : Int), (104 : Int), (105 : Int), (106 : Int), (107 : Int), (105 : Int), (106 : Int), (107 : Int), (108 : Int), (106 : Int), (107 : Int), (108 : Int), (109 : Int), (107 : Int), (108 : Int), (109 : Int), (110 : Int), (108 : Int), (109 : Int), (110 : Int), (111 : Int), (109 : Int), (110 : Int), (111 : Int), (112 : Int), (110 : Int), (111 : Int), (112 : Int), (113 : Int)] (0 : Nat) (56 : Nat)))), List.length (ci (sh (partN [(97 : Int), (98 : Int), (99 : Int), (100 : Int), (98 : Int), (99 : Int), (100 : Int), (101 : Int), (99 : Int), (100 : Int), (101 : Int), (102 : Int), (100 : Int), (101 : Int), (102 : Int), (103 : Int), (101 : Int), (102 : Int), (103 : Int), (104 : Int), (102 : Int), (103 : Int), (104 : Int), (105 : Int), (103 : Int), (104 : Int), (105 : Int), (106 : Int), (104 : Int), (105 : Int), (106 : Int), (107 : Int), (105 : Int), (106 : Int), (107 : Int), (108 : Int), (106 : Int), (107 : Int), (108 : Int), (109 : Int), (107 : Int), (108 : Int), (109 : Int), (110 : Int), (108 : Int), (109 : Int), (110 : Int), (111 : Int), (109 : Int), (110 : Int), (111 : Int), (112 : Int), (110 : Int), (111 : Int), (112 : Int), (113 : Int)] (0 : Nat) (56 : Nat)))) = (32 : Nat), u8L [(97 : Int), (98 : Int), (99 : Int), (100 : Int), (98 : Int), (99 : Int), (100 : Int), (101 : Int), (99 : Int), (100 : Int), (101 : Int), (102 : Int), (100 : Int), (101 : Int), (102 : Int), (103 : Int), (101 : Int), (102 : Int), (103 : Int), (104 : Int), (102 : Int), (103 : Int), (104 : Int), (105 : Int), (103 : Int), (104 : Int), (105 : Int), (106 : Int), (104 : Int), (105 : Int), (106 : Int), (107 : Int), (105 : Int), (106 : Int), (107 : Int), (108 : Int), (106 : Int), (107 : Int), (108 : Int), (109 : Int), (107 : Int), (108 : Int), (109 : Int), (110 : Int), (108 : Int), (109 : Int), (110 : Int), (111 : Int), (109 : Int), (110 : Int), (111 : Int), (112 : Int), (110 : Int), (111 : Int), (112 : Int), (113 : Int)], (56 : Nat) ≤ (56 : Nat), (56 : Nat) ≤ (1000000000 : Nat)]) := by kernel_rfl
end
section
theorem it_at (n : Nat) (s t : S8) (h : itK kwA n s.a s.b s.c s.d s.e s.f s.g s.h = t) : itS kwA n s = t := by rw [← itK_eq]; exact h
theorem mil_all : itS kwA 15625 ⟨1779033703, 3144134277, 1013904242, 2773480762, 1359893119, 2600822924, 528734635, 1541459225⟩ = ⟨2061136107, 1745259042, 791610055, 2140370626, 1884297759, 3529239238, 671294972, 693152569⟩ := by
  rw [show 15625 = 1000 + 14625 from rfl, itS_add, it_at 1000 ⟨1779033703, 3144134277, 1013904242, 2773480762, 1359893119, 2600822924, 528734635, 1541459225⟩ ⟨592955532, 2302009565, 1748763303, 620342633, 184731725, 2631534163, 3459837949, 3784806294⟩ mil0]
  rw [show 14625 = 1000 + 13625 from rfl, itS_add, it_at 1000 ⟨592955532, 2302009565, 1748763303, 620342633, 184731725, 2631534163, 3459837949, 3784806294⟩ ⟨2432425355, 3561878610, 792915513, 120060592, 1730627794, 3100338481, 1484380738, 2413567509⟩ mil1]
  rw [show 13625 = 1000 + 12625 from rfl, itS_add, it_at 1000 ⟨2432425355, 3561878610, 792915513, 120060592, 1730627794, 3100338481, 1484380738, 2413567509⟩ ⟨3693792429, 3228489383, 1920063468, 1159363938, 1995865486, 3899395093, 1070489690, 3818696068⟩ mil2]
  rw [show 12625 = 1000 + 11625 from rfl, itS_add, it_at 1000 ⟨3693792429, 3228489383, 1920063468, 1159363938, 1995865486, 3899395093, 1070489690, 3818696068⟩ ⟨2905972929, 1349376393, 1639850357, 1032224573, 4087654825, 844508927, 142727850, 1826949263⟩ mil3]
  rw [show 11625 = 1000 + 10625 from rfl, itS_add, it_at 1000 ⟨2905972929, 1349376393, 1639850357, 1032224573, 4087654825, 844508927, 142727850, 1826949263⟩ ⟨4101075154, 129573525, 758111687, 2809097055, 2946173745, 4125254953, 3590949913, 2694474649⟩ mil4]
  rw [show 10625 = 1000 + 9625 from rfl, itS_add, it_at 1000 ⟨4101075154, 129573525, 758111687, 2809097055, 2946173745, 4125254953, 3590949913, 2694474649⟩ ⟨4254606125, 2806188846, 3777365106, 2684039259, 2563108456, 3262562783, 1651969283, 215006605⟩ mil5]
  rw [show 9625 = 1000 + 8625 from rfl, itS_add, it_at 1000 ⟨4254606125, 2806188846, 3777365106, 2684039259, 2563108456, 3262562783, 1651969283, 215006605⟩ ⟨2886889284, 2599971770, 2205939323, 3855558067, 1633335210, 3181097314, 2286572733, 563518467⟩ mil6]
  rw [show 8625 = 1000 + 7625 from rfl, itS_add, it_at 1000 ⟨2886889284, 2599971770, 2205939323, 3855558067, 1633335210, 3181097314, 2286572733, 563518467⟩ ⟨365602951, 4150781828, 1268961766, 2892834699, 688178498, 3951390503, 324146750, 394001364⟩ mil7]
  rw [show 7625 = 1000 + 6625 from rfl, itS_add, it_at 1000 ⟨365602951, 4150781828, 1268961766, 2892834699, 688178498, 3951390503, 324146750, 394001364⟩ ⟨3818293026, 673805928, 2454018847, 276474797, 3429612345, 1781107536, 3881786715, 3255356261⟩ mil8]
  rw [show 6625 = 1000 + 5625 from rfl, itS_add, it_at 1000 ⟨3818293026, 673805928, 2454018847, 276474797, 3429612345, 1781107536, 3881786715, 3255356261⟩ ⟨1482359619, 3053920332, 2218581276, 956914467, 3284847132, 1532092920, 4107310820, 2931061524⟩ mil9]
  rw [show 5625 = 1000 + 4625 from rfl, itS_add, it_at 1000 ⟨1482359619, 3053920332, 2218581276, 956914467, 3284847132, 1532092920, 4107310820, 2931061524⟩ ⟨4096498801, 2730981357, 368208555, 2288836688, 2318021256, 4247003884, 1096726684, 2260101034⟩ mil10]
  rw [show 4625 = 1000 + 3625 from rfl, itS_add, it_at 1000 ⟨4096498801, 2730981357, 368208555, 2288836688, 2318021256, 4247003884, 1096726684, 2260101034⟩ ⟨1452105697, 332993037, 4062823241, 378816347, 216171789, 2684076044, 1651074104, 495955238⟩ mil11]
  rw [show 3625 = 1000 + 2625 from rfl, itS_add, it_at 1000 ⟨1452105697, 332993037, 4062823241, 378816347, 216171789, 2684076044, 1651074104, 495955238⟩ ⟨1928082961, 2860961623, 1904690592, 997958037, 4255195384, 1882369429, 3945749460, 2719203343⟩ mil12]
  rw [show 2625 = 1000 + 1625 from rfl, itS_add, it_at 1000 ⟨1928082961, 2860961623, 1904690592, 997958037, 4255195384, 1882369429, 3945749460, 2719203343⟩ ⟨2321800416, 2572043633, 3343100340, 3876063791, 4094606593, 839583183, 1226381485, 762067512⟩ mil13]
  rw [show 1625 = 1000 + 625 from rfl, itS_add, it_at 1000 ⟨2321800416, 2572043633, 3343100340, 3876063791, 4094606593, 839583183, 1226381485, 762067512⟩ ⟨3286924927, 1855780753, 2608627564, 176370035, 705989294, 1480277143, 2994088020, 951416902⟩ mil14]
  exact it_at 625 ⟨3286924927, 1855780753, 2608627564, 176370035, 705989294, 1480277143, 2994088020, 951416902⟩ ⟨2061136107, 1745259042, 791610055, 2140370626, 1884297759, 3529239238, 671294972, 693152569⟩ mil15
theorem kwA_eq : kwA = (List.range 64).map fun i => (RN.getD i 0 + (scN (ldN (List.replicate 64 97) 64) 48).getD i 0) % 4294967296 := by kernel_rfl
theorem s8S0 : s8 S0N = ⟨1779033703, 3144134277, 1013904242, 2773480762, 1359893119, 2600822924, 528734635, 1541459225⟩ := by kernel_rfl
/-- a block of letters -/
theorem wk_a {s : S8} (ha : s.a < 4294967296) (he : s.e < 4294967296) : wk8 RN s (List.replicate 64 97) = ad8 s (kwA.foldl frW s) := by
  unfold wk8
  rw [kwA_eq, (fold_eq (R := RN) (w := scN (ldN (List.replicate 64 97) 64) 48) ha he 64).1]
theorem itS_succ (l : List Nat) : ∀ (n : Nat) (s : S8), itS l (n + 1) s = ad8 (itS l n s) (l.foldl frW (itS l n s))
  | 0, _ => rfl
  | n + 1, s => itS_succ l n (ad8 s (l.foldl frW s))
theorem s8_of_l (s : S8) : s8 s.l = s := rfl
theorem ad8_lt (s t : S8) : (ad8 s t).a < 4294967296 ∧ (ad8 s t).e < 4294967296 := ⟨m32_lt _, m32_lt _⟩
theorem bk_a {x : List Nat} {N : Nat} (hx : ∀ i, i < 64 * N → x.getD i 0 = 97) : ∀ k, k ≤ N → bkN RN S0N x k = (itS kwA k (s8 S0N)).l ∧ (itS kwA k (s8 S0N)).a < 4294967296 ∧ (itS kwA k (s8 S0N)).e < 4294967296
  | 0, _ => ⟨(s8_l S0_len).symm, by rw [s8S0]; decide, by rw [s8S0]; decide⟩
  | k + 1, h => by
    obtain ⟨h1, h2, h3⟩ := bk_a hx k (by omega)
    rw [itS_succ]
    refine ⟨?_, ad8_lt _ _⟩
    show wkN RN (bkN RN S0N x k) (x.drop (64 * k)) = _
    have e : wkN RN (bkN RN S0N x k) (x.drop (64 * k)) = wkN RN (bkN RN S0N x k) (List.replicate 64 97) := wkN_congr fun i hi => by
      rw [drop_getD, hx (64 * k + i) (by omega), List.getD_eq_getElem?_getD, List.getElem?_replicate, if_pos hi]
      rfl
    rw [e, wkN_eq (bkN_len S0_len k), h1, s8_of_l, wk_a h2 h3]
theorem last_block : wkN RN (S8.l ⟨2061136107, 1745259042, 791610055, 2140370626, 1884297759, 3529239238, 671294972, 693152569⟩) ([128] ++ (List.replicate 55 0 ++ lenN 1000000)) = S8.l ⟨3452399196, 2568289170, 2174863330, 2228698727, 4051737160, 2761367566, 74267084, 3339791568⟩ := by kernel_rfl
theorem out_fin : outN (S8.l ⟨3452399196, 2568289170, 2174863330, 2228698727, 4051737160, 2761367566, 74267084, 3339791568⟩) = [205, 199, 110, 92, 153, 20, 251, 146, 129, 161, 199, 226, 132, 215, 62, 103, 241, 128, 154, 72, 164, 151, 32, 14, 4, 109, 57, 204, 199, 17, 44, 208] := by kernel_rfl
theorem million {x : List Nat} (hl : x.length = 1000000) (hx : ∀ i, i < 1000000 → x.getD i 0 = 97) : shaN x = [205, 199, 110, 92, 153, 20, 251, 146, 129, 161, 199, 226, 132, 215, 62, 103, 241, 128, 154, 72, 164, 151, 32, 14, 4, 109, 57, 204, 199, 17, 44, 208] := by
  have hp : (padN x).length = 64 * 15626 := by rw [padN_len, hl]; decide
  have ha := (bk_a (x := padN x) (N := 15625) (fun i hi => by rw [padN_get (by omega), hx i (by omega)]) 15625 (Nat.le_refl _)).1
  have hs : shaN x = outN (bkN RN S0N (padN x) 15626) := by
    show outN (bkN RN S0N (padN x) ((padN x).length / 64)) = _
    rw [hp]
  have hb : bkN RN S0N (padN x) 15626 = wkN RN (bkN RN S0N (padN x) 15625) ((padN x).drop (64 * 15625)) := rfl
  have ht := padN_tail x
  rw [hl] at ht
  have hd : x.drop (64 * (1000000 / 64)) = [] := List.drop_of_length_le (by rw [hl]; decide)
  rw [hd, List.nil_append] at ht
  have hz : zN 1000000 = 55 := by decide
  rw [hz] at ht
  rw [hs, hb, ha, s8S0, mil_all, show 64 * 15625 = 64 * (1000000 / 64) from rfl, ht, last_block, out_fin]
end
section
open Go.ChangeShapes Go.WideShapes Go.ChangeAt Go.RowKit Go.Sx
theorem rep_b (v : UInt8) : ∀ c : Nat, Lib.repeatL (Array.toList (ByteArray.data { data := #[v] })) c = List.replicate c v
  | 0 => rfl
  | c + 1 => by
    show _ :: Lib.repeatL _ c = _
    rw [rep_b v c]; rfl
theorem part_rep (v : UInt8) (c : Nat) : partN (List.map (fun (x : UInt8) => (x.toNat : Int)) (List.replicate c v)) 0 c = List.replicate c v.toNat := by
  unfold partN nats
  rw [List.drop_zero, List.map_replicate, List.take_of_length_le (by rw [List.length_replicate]; exact Nat.le_refl _), List.map_replicate]
  rfl
theorem getD_rep {n c i : Nat} (h : i < c) : (List.replicate c n).getD i 0 = n := by
  rw [List.getD_eq_getElem?_getD, List.getElem?_replicate, if_pos h]; rfl
theorem pe0 : (hexN (nats (ci (hmacN (partN (List.map (fun (x : UInt8) ↦ (↑(UInt8.toNat x) : Int)) (Lib.repeatL (Array.toList (ByteArray.data { data := #[(170 : UInt8)] })) (131 : Nat))) (0 : Nat) ((131 : Nat))) (partN [(84 : Int), 101, 115, 116, 32, 85, 115, 105, 110, 103, 32, 76, 97, 114, 103, 101, 114, 32, 84, 104, 97, 110, 32, 66, 108, 111, 99, 107, 45, 83, 105, 122, 101, 32, 75, 101, 121, 32, 45, 32, 72, 97, 115, 104, 32, 75, 101, 121, 32, 70, 105, 114, 115, 116] (0 : Nat) (54 : Nat))))) == Array.toList (ByteArray.data { data := #[(54 : UInt8), 48, 101, 52, 51, 49, 53, 57, 49, 101, 101, 48, 98, 54, 55, 102, 48, 100, 56, 97, 50, 54, 97, 97, 99, 98, 102, 53, 98, 55, 55, 102, 56, 101, 48, 98, 99, 54, 50, 49, 51, 55, 50, 56, 99, 53, 49, 52, 48, 53, 52, 54, 48, 52, 48, 102, 48, 101, 101, 51, 55, 102, 53, 52] })) = true := by kernel_rfl
theorem pe1 : (hexN (nats (ci (hmacN (partN (List.map (fun (x : UInt8) ↦ (↑(UInt8.toNat x) : Int)) (Lib.repeatL (Array.toList (ByteArray.data { data := #[(170 : UInt8)] })) (20 : Nat))) (0 : Nat) ((20 : Nat))) (partN (List.map (fun (x : UInt8) ↦ (↑(UInt8.toNat x) : Int)) (Lib.repeatL (Array.toList (ByteArray.data { data := #[(221 : UInt8)] })) (50 : Nat))) (0 : Nat) ((50 : Nat)))))) == Array.toList (ByteArray.data { data := #[(55 : UInt8), 55, 51, 101, 97, 57, 49, 101, 51, 54, 56, 48, 48, 101, 52, 54, 56, 53, 52, 100, 98, 56, 101, 98, 100, 48, 57, 49, 56, 49, 97, 55, 50, 57, 53, 57, 48, 57, 56, 98, 51, 101, 102, 56, 99, 49, 50, 50, 100, 57, 54, 51, 53, 53, 49, 52, 99, 101, 100, 53, 54, 53, 102, 101] })) = true := by kernel_rfl
theorem pe2 : (hexN (nats (ci (hmacN (partN (List.map (fun (x : UInt8) ↦ (↑(UInt8.toNat x) : Int)) (Lib.repeatL (Array.toList (ByteArray.data { data := #[(11 : UInt8)] })) (20 : Nat))) (0 : Nat) ((20 : Nat))) (partN [(72 : Int), 105, 32, 84, 104, 101, 114, 101] (0 : Nat) (8 : Nat))))) == Array.toList (ByteArray.data { data := #[(98 : UInt8), 48, 51, 52, 52, 99, 54, 49, 100, 56, 100, 98, 51, 56, 53, 51, 53, 99, 97, 56, 97, 102, 99, 101, 97, 102, 48, 98, 102, 49, 50, 98, 56, 56, 49, 100, 99, 50, 48, 48, 99, 57, 56, 51, 51, 100, 97, 55, 50, 54, 101, 57, 51, 55, 54, 99, 50, 101, 51, 50, 99, 102, 102, 55] })) = true := by kernel_rfl
theorem pe3 : (hexN (nats (ci (shaN (partN (List.map (fun (x : UInt8) ↦ (↑(UInt8.toNat x) : Int)) (Lib.repeatL (Array.toList (ByteArray.data { data := #[(97 : UInt8)] })) (1000000 : Nat))) (0 : Nat) ((1000000 : Nat)))))) == Array.toList (ByteArray.data { data := #[(99 : UInt8), 100, 99, 55, 54, 101, 53, 99, 57, 57, 49, 52, 102, 98, 57, 50, 56, 49, 97, 49, 99, 55, 101, 50, 56, 52, 100, 55, 51, 101, 54, 55, 102, 49, 56, 48, 57, 97, 52, 56, 97, 52, 57, 55, 50, 48, 48, 101, 48, 52, 54, 100, 51, 57, 99, 99, 99, 55, 49, 49, 50, 99, 100, 48] })) = true := by
  rw [rep_b, part_rep, show UInt8.toNat 97 = 97 from rfl, million (List.length_replicate ..) (fun i hi => getD_rep hi), nats_ci]
  kernel_rfl
theorem pe4 : (hexN (nats (ci (shaN (partN [(97 : Int), 98, 99, 100, 98, 99, 100, 101, 99, 100, 101, 102, 100, 101, 102, 103, 101, 102, 103, 104, 102, 103, 104, 105, 103, 104, 105, 106, 104, 105, 106, 107, 105, 106, 107, 108, 106, 107, 108, 109, 107, 108, 109, 110, 108, 109, 110, 111, 109, 110, 111, 112, 110, 111, 112, 113] (0 : Nat) (56 : Nat))))) == Array.toList (ByteArray.data { data := #[(50 : UInt8), 52, 56, 100, 54, 97, 54, 49, 100, 50, 48, 54, 51, 56, 98, 56, 101, 53, 99, 48, 50, 54, 57, 51, 48, 99, 51, 101, 54, 48, 51, 57, 97, 51, 51, 99, 101, 52, 53, 57, 54, 52, 102, 102, 50, 49, 54, 55, 102, 54, 101, 99, 101, 100, 100, 52, 49, 57, 100, 98, 48, 54, 99, 49] })) = true := by kernel_rfl
theorem pub_obs (sh : List Nat → List Nat) (hm : List Nat → List Nat → List Nat) (hx : List Nat → List UInt8) (rp : List UInt8 → Nat → List UInt8)
    (hl : ∀ (v : UInt8) (c : Nat), (rp (Array.toList (ByteArray.data { data := #[v] })) c).length = c) (hu : ∀ (v : UInt8) (c : Nat), u8L (List.map (fun (x : UInt8) => (x.toNat : Int)) (rp (Array.toList (ByteArray.data { data := #[v] })) c)))
    (su : ∀ x, u8L (ci (sh x))) (sl : ∀ x, (ci (sh x)).length = 32) (mu : ∀ k x, u8L (ci (hm k x))) (ml : ∀ k x, (ci (hm k x)).length = 32)
    (e0 : (hx (nats (ci (hm (partN (List.map (fun (x : UInt8) ↦ (↑(UInt8.toNat x) : Int)) (rp (Array.toList (ByteArray.data { data := #[(170 : UInt8)] })) (131 : Nat))) (0 : Nat) ((131 : Nat))) (partN [(84 : Int), 101, 115, 116, 32, 85, 115, 105, 110, 103, 32, 76, 97, 114, 103, 101, 114, 32, 84, 104, 97, 110, 32, 66, 108, 111, 99, 107, 45, 83, 105, 122, 101, 32, 75, 101, 121, 32, 45, 32, 72, 97, 115, 104, 32, 75, 101, 121, 32, 70, 105, 114, 115, 116] (0 : Nat) (54 : Nat))))) == Array.toList (ByteArray.data { data := #[(54 : UInt8), 48, 101, 52, 51, 49, 53, 57, 49, 101, 101, 48, 98, 54, 55, 102, 48, 100, 56, 97, 50, 54, 97, 97, 99, 98, 102, 53, 98, 55, 55, 102, 56, 101, 48, 98, 99, 54, 50, 49, 51, 55, 50, 56, 99, 53, 49, 52, 48, 53, 52, 54, 48, 52, 48, 102, 48, 101, 101, 51, 55, 102, 53, 52] })) = true)
    (e1 : (hx (nats (ci (hm (partN (List.map (fun (x : UInt8) ↦ (↑(UInt8.toNat x) : Int)) (rp (Array.toList (ByteArray.data { data := #[(170 : UInt8)] })) (20 : Nat))) (0 : Nat) ((20 : Nat))) (partN (List.map (fun (x : UInt8) ↦ (↑(UInt8.toNat x) : Int)) (rp (Array.toList (ByteArray.data { data := #[(221 : UInt8)] })) (50 : Nat))) (0 : Nat) ((50 : Nat)))))) == Array.toList (ByteArray.data { data := #[(55 : UInt8), 55, 51, 101, 97, 57, 49, 101, 51, 54, 56, 48, 48, 101, 52, 54, 56, 53, 52, 100, 98, 56, 101, 98, 100, 48, 57, 49, 56, 49, 97, 55, 50, 57, 53, 57, 48, 57, 56, 98, 51, 101, 102, 56, 99, 49, 50, 50, 100, 57, 54, 51, 53, 53, 49, 52, 99, 101, 100, 53, 54, 53, 102, 101] })) = true)
    (e2 : (hx (nats (ci (hm (partN (List.map (fun (x : UInt8) ↦ (↑(UInt8.toNat x) : Int)) (rp (Array.toList (ByteArray.data { data := #[(11 : UInt8)] })) (20 : Nat))) (0 : Nat) ((20 : Nat))) (partN [(72 : Int), 105, 32, 84, 104, 101, 114, 101] (0 : Nat) (8 : Nat))))) == Array.toList (ByteArray.data { data := #[(98 : UInt8), 48, 51, 52, 52, 99, 54, 49, 100, 56, 100, 98, 51, 56, 53, 51, 53, 99, 97, 56, 97, 102, 99, 101, 97, 102, 48, 98, 102, 49, 50, 98, 56, 56, 49, 100, 99, 50, 48, 48, 99, 57, 56, 51, 51, 100, 97, 55, 50, 54, 101, 57, 51, 55, 54, 99, 50, 101, 51, 50, 99, 102, 102, 55] })) = true)
    (e3 : (hx (nats (ci (sh (partN (List.map (fun (x : UInt8) ↦ (↑(UInt8.toNat x) : Int)) (rp (Array.toList (ByteArray.data { data := #[(97 : UInt8)] })) (1000000 : Nat))) (0 : Nat) ((1000000 : Nat)))))) == Array.toList (ByteArray.data { data := #[(99 : UInt8), 100, 99, 55, 54, 101, 53, 99, 57, 57, 49, 52, 102, 98, 57, 50, 56, 49, 97, 49, 99, 55, 101, 50, 56, 52, 100, 55, 51, 101, 54, 55, 102, 49, 56, 48, 57, 97, 52, 56, 97, 52, 57, 55, 50, 48, 48, 101, 48, 52, 54, 100, 51, 57, 99, 99, 99, 55, 49, 49, 50, 99, 100, 48] })) = true)
    (e4 : (hx (nats (ci (sh (partN [(97 : Int), 98, 99, 100, 98, 99, 100, 101, 99, 100, 101, 102, 100, 101, 102, 103, 101, 102, 103, 104, 102, 103, 104, 105, 103, 104, 105, 106, 104, 105, 106, 107, 105, 106, 107, 108, 106, 107, 108, 109, 107, 108, 109, 110, 108, 109, 110, 111, 109, 110, 111, 112, 110, 111, 112, 113] (0 : Nat) (56 : Nat))))) == Array.toList (ByteArray.data { data := #[(50 : UInt8), 52, 56, 100, 54, 97, 54, 49, 100, 50, 48, 54, 51, 56, 98, 56, 101, 53, 99, 48, 50, 54, 57, 51, 48, 99, 51, 101, 54, 48, 51, 57, 97, 51, 51, 99, 101, 52, 53, 57, 54, 52, 102, 102, 50, 49, 54, 55, 102, 54, 101, 99, 101, 100, 100, 52, 49, 57, 100, 98, 48, 54, 99, 49] })) = true)
    : ∃ l, lwP sh hm hx rp 8 [] [] [true, true, true, true, true, true] = some l ∧ allP l := by
  refine ⟨_, congrFun (congrFun (congrFun (congrFun pu0 sh) hm) hx) rp, ?_⟩
  simp only [allP, List.length_map, hl, sl, ml]
  repeat' (first | exact trivial | exact su _ | exact mu _ _ | exact hu _ _ | exact u8L_of (by decide) | exact e0 | exact e1 | exact e2 | exact e3 | exact e4 | refine And.intro ?_ ?_)
  all_goals omega
end
section
open Go.ChangeShapes Go.WideShapes Go.ChangeAt Go.RowKit Go.Sx
theorem tabP_ok : ∀ f g, tabPV shaN hmacN hexN Lib.repeatL f = some g → TabOk Try.prog f g := tabs_ok fun x hx => by
  simp only [List.mem_cons, List.not_mem_nil, or_false] at hx
  rcases hx with rfl | rfl | rfl | rfl | rfl
  · exact of_tab
  · exact hm_tab
  · exact hex_tab
  · exact yes_tab
  · exact rep_tab
theorem shaPublished_calls (W : World) : Calls Try.prog 8 #[] W fun e w' => e = .returned (.bool true) ∧ Below W.heap.size W w' := by
  obtain ⟨l, hl, hob⟩ := pub_obs shaN hmacN hexN Lib.repeatL (fun v c => by rw [rep_b, List.length_replicate]) (fun v c => by
    rw [rep_b, List.map_replicate]
    intro x hx
    have := List.eq_of_mem_replicate hx
    have hv := v.toNat_lt
    rw [this]
    exact ⟨Int.natCast_nonneg _, by omega⟩)
    (fun x => ci_u8 (shaN_wf x)) (fun x => by rw [ci_len, shaN_len]) (fun k x => ci_u8 (hmacN_wf k x)) (fun k x => by rw [ci_len, hmacN_len]) pe0 pe1 pe2 pe3 pe4
  exact law_obs (us := []) tabP_ok hl hob (MemRel.nil W) rfl

set_option maxRecDepth 100000 in
theorem shaPublished_lifted (os : Os) (started : os.Started) (H : Type) (enc : TypeId × Value → H) :
    ReturnsInHanded {} Try.checked os 8 .any (Rows.shaPublishedSpec.pre6 enc Try.prog Try.f8 Rows.shaPublishedRow.domain false) (Rows.shaPublishedSpec.post enc Try.prog Try.f8 false true false false) := by
  refine returnsInHanded_of_change (C := Try.checked) own started (by kernel_rfl) Try.func8
    (ChangeSpec.witness6 (enc := enc) (C := Try.checked) false ⟨#[], #[], []⟩ 8 (by kernel_rfl) (by kernel_rfl) (by kernel_rfl) (by kernel_rfl)) ?_
  intro W base args ds gs before hval0 hW hcnd _
  have hval : ∀ (j : Nat) t v, Try.f8.params[j]? = some t → args[j]? = some v → Value.okWide Try.prog W .any base t v := hval0
  have hW' := hW
  obtain ⟨p, q, hA0, hV, hbef, hfz, hnd⟩ := hW
  have hA : DataW.TrodAll enc Try.prog W 0 (fun _ => true) true Try.f8.params.toList args.toList ds p := hA0
  rw [Try.params8] at hA
  have hargs : args = #[] := by
    have : args.toList = [] := by
      cases h : args.toList with
      | nil => rfl
      | cons x r => rw [h] at hA; exact hA.elim
    simpa using this
  subst hargs
  have hds : ds = [] := by
    cases ds with
    | nil => rfl
    | cons _ _ => exact hA.elim
  subst hds
  refine (shaPublished_calls W).mono fun e W' ⟨he, hb⟩ => ?_
  subst he
  exact ⟨_, rfl, post_law laidOut (by rw [Try.params8]; decide +kernel) rfl rfl (by kernel_rfl) Try.underlying4 hW' hb⟩

theorem shaPublished_holds : Rows.ShaPublishedSaid :=
  OpenClaim.holds_of_wide 8 Try.f8 rfl rfl rfl rfl rfl rfl rfl ⟨rfl, rfl, rfl, rfl, rfl⟩ rfl rfl rfl rfl rfl (by kernel_rfl) Try.func8 (by kernel_rfl)
    (of_decide_eq_true (by kernel_rfl)) (by unfold Func.isWrapper; first | (rw [if_pos (by decide +kernel)]; kernel_rfl) | (rw [if_neg (by decide +kernel)]; exact ⟨rfl, rfl⟩))
    (fun os started H enc _ => shaPublished_lifted os started H enc)
#print axioms shaPublished_holds
end
end Go.Proofs.Ytlboenjdbgkofaa
