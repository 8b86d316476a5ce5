/- ShaStill: its runs. Laws of two lists of bytes: what they share. ShaFixed: its runs. ShaFixed is true. -/
import Derived.Test.YtlboenjdbgkofaaZaD
import Derived.Test.YtlboenjdbgkofaaZrC
namespace Go.Proofs.Ytlboenjdbgkofaa
section
open Go.Sx
def tabL := tabs [(10, loc wantH gOf), (12, loc wantM gHm), (14, yesT)]
def bls (b n c : Nat) : V := .v (.one (.slice b (.c 0) 1 (.s n) (.s c)))
noncomputable def lwL (f : FuncId) (args : List V) (m : List SB) (h : List Bool) := obsOf (callN Try.prog tabL (fun _ => false) 100000 6 f args m h)
theorem st0 : (fun (a b : List Int) => lwL 6 [bls 0 a.length a.length, bls 1 b.length b.length] [roH a, roH b] [true]) = fun (a : List Int) (b : List Int) => some ([decide ((500 : Int) < (↑(List.length a) : Int)) = true]) := by kernel_rfl
theorem st1 : (fun (a b : List Int) => lwL 6 [bls 0 a.length a.length, bls 1 b.length b.length] [roH a, roH b] [false, true]) = fun (a : List Int) (b : List Int) => some ([decide ((500 : Int) < (↑(List.length b) : Int)) = true, decide ((500 : Int) < (↑(List.length a) : Int)) = false]) := by kernel_rfl
theorem st2 : (fun (a b : List Int) => lwL 6 [bls 0 a.length a.length, bls 1 b.length b.length] [roH a, roH b] [false, false, true, true, true, true, false, false, false, true, true, true, true, true, true]) = fun (a : List Int) (b : List Int) => some ([(List.map (fun (n : Int) ↦ UInt8.ofNat (Int.toNat n)) ([] ++ b ++ [(77 : Int), (42 : Int), (99 : Int), (17 : Int)]) == List.map (fun (n : Int) ↦ UInt8.ofNat (Int.toNat n)) b ++ Array.toList (ByteArray.data { data := #[OfNat.ofNat (77 : Nat), OfNat.ofNat (42 : Nat), OfNat.ofNat (99 : Nat), OfNat.ofNat (17 : Nat)] })) = true, List.length (List.map (fun (n : Int) ↦ UInt8.ofNat (Int.toNat n)) b) + (4 : Nat) ≤ (9223372036854775807 : Nat), (0 : Nat) = (0 : Nat), List.length b = List.length b, (0 : Nat) = (0 : Nat), Int.toNat ((↑(Int.toNat (↑(List.length b) : Int)) : Int) + (4 : Int)) = List.length ([] ++ b ++ [(77 : Int), (42 : Int), (99 : Int), (17 : Int)]), (0 : Int) ≤ (↑(Int.toNat (↑(List.length b) : Int)) : Int) + (4 : Int), (↑(Int.toNat (↑(List.length b) : Int)) : Int) + (4 : Int) ≤ (↑(Nat.add (List.length b) (4 : Nat)) : Int), (-9223372036854775808 : Int) ≤ (↑(Int.toNat (↑(List.length b) : Int)) : Int) + (4 : Int) ∧ (↑(Int.toNat (↑(List.length b) : Int)) : Int) + (4 : Int) ≤ (9223372036854775807 : Int), (List.map (fun (n : Int) ↦ UInt8.ofNat (Int.toNat n)) ([] ++ a ++ [(77 : Int), (42 : Int), (99 : Int), (17 : Int)]) == List.map (fun (n : Int) ↦ UInt8.ofNat (Int.toNat n)) a ++ Array.toList (ByteArray.data { data := #[OfNat.ofNat (77 : Nat), OfNat.ofNat (42 : Nat), OfNat.ofNat (99 : Nat), OfNat.ofNat (17 : Nat)] })) = true, List.length (List.map (fun (n : Int) ↦ UInt8.ofNat (Int.toNat n)) a) + (4 : Nat) ≤ (9223372036854775807 : Nat), (0 : Nat) = (0 : Nat), List.length a = List.length a, (0 : Nat) = (0 : Nat), Int.toNat ((↑(Int.toNat (↑(List.length a) : Int)) : Int) + (4 : Int)) = List.length ([] ++ a ++ [(77 : Int), (42 : Int), (99 : Int), (17 : Int)]), (0 : Int) ≤ (↑(Int.toNat (↑(List.length a) : Int)) : Int) + (4 : Int), (↑(Int.toNat (↑(List.length a) : Int)) : Int) + (4 : Int) ≤ (↑(Nat.add (List.length a) (4 : Nat)) : Int), (-9223372036854775808 : Int) ≤ (↑(Int.toNat (↑(List.length a) : Int)) : Int) + (4 : Int) ∧ (↑(Int.toNat (↑(List.length a) : Int)) : Int) + (4 : Int) ≤ (9223372036854775807 : Int), (!decide (ci (hmacN (partN ([] ++ a ++ [(77 : Int), (42 : Int), (99 : Int), (17 : Int)]) (0 : Nat) (Int.toNat (↑(List.length a) : Int))) (partN ([] ++ a ++ [(77 : Int), (42 : Int), (99 : Int), (17 : Int)]) (0 : Nat) (Int.toNat (↑(List.length a) : Int)))) = ci (hmacN (partN a (0 : Nat) (List.length a)) (partN a (0 : Nat) (List.length a))))) = false, List.length (ci (hmacN (partN ([] ++ a ++ [(77 : Int), (42 : Int), (99 : Int), (17 : Int)]) (0 : Nat) (Int.toNat (↑(List.length a) : Int))) (partN ([] ++ a ++ [(77 : Int), (42 : Int), (99 : Int), (17 : Int)]) (0 : Nat) (Int.toNat (↑(List.length a) : Int))))) = (32 : Nat), List.length (ci (hmacN (partN a (0 : Nat) (List.length a)) (partN a (0 : Nat) (List.length a)))) = (32 : Nat), u8L a, (0 : Nat) + List.length a ≤ List.length a, (0 : Nat) + List.length a ≤ List.length a, List.length a ≤ (500000000 : Nat), u8L ([] ++ a ++ [(77 : Int), (42 : Int), (99 : Int), (17 : Int)]), (0 : Nat) + Int.toNat (↑(List.length a) : Int) ≤ List.length ([] ++ a ++ [(77 : Int), (42 : Int), (99 : Int), (17 : Int)]), (0 : Nat) + Int.toNat (↑(List.length a) : Int) ≤ List.length ([] ++ a ++ [(77 : Int), (42 : Int), (99 : Int), (17 : Int)]), List.length ([] ++ a ++ [(77 : Int), (42 : Int), (99 : Int), (17 : Int)]) ≤ (500000000 : Nat), (!decide (ci (hmacN (partN ([] ++ a ++ [(77 : Int), (42 : Int), (99 : Int), (17 : Int)]) (0 : Nat) (Int.toNat (↑(List.length a) : Int))) (partN ([] ++ b ++ [(77 : Int), (42 : Int), (99 : Int), (17 : Int)]) (0 : Nat) (Int.toNat (↑(List.length b) : Int)))) = ci (hmacN (partN a (0 : Nat) (List.length a)) (partN b (0 : Nat) (List.length b))))) = false, List.length (ci (hmacN (partN ([] ++ a ++ [(77 : Int), (42 : Int), (99 : Int), (17 : Int)]) (0 : Nat) (Int.toNat (↑(List.length a) : Int))) (partN ([] ++ b ++ [(77 : Int), (42 : Int), (99 : Int), (17 : Int)]) (0 : Nat) (Int.toNat (↑(List.length b) : Int))))) = (32 : Nat), List.length (ci (hmacN (partN a (0 : Nat) (List.length a)) (partN b (0 : Nat) (List.length b)))) = (32 : Nat), u8L ([] ++ a ++ [(77 : Int), (42 : Int), (99 : Int), (17 : Int)]), u8L ([] ++ b ++ [(77 : Int), (42 : Int), (99 : Int), (17 : Int)]), (0 : Nat) + Int.toNat (↑(List.length a) : Int) ≤ List.length ([] ++ a ++ [(77 : Int), (42 : Int), (99 : Int), (17 : Int)]), (0 : Nat) + Int.toNat (↑(List.length b) : Int) ≤ List.length ([] ++ b ++ [(77 : Int), (42 : Int), (99 : Int), (17 : Int)]), List.length ([] ++ a ++ [(77 : Int), (42 : Int), (99 : Int), (17 : Int)]) ≤ (500000000 : Nat), List.length ([] ++ b ++ [(77 : Int), (42 : Int), (99 : Int), (17 : Int)]) ≤ (500000000 : Nat), List.length (ci (hmacN (partN a (0 : Nat) (List.length a)) (partN b (0 : Nat) (List.length b)))) = (32 : Nat), (!decide (ci (shaN (partN ([] ++ a ++ [(77 : Int), (42 : Int), (99 : Int), (17 : Int)]) (0 : Nat) (Int.toNat (↑(List.length a) : Int)))) = ci (shaN (partN a (0 : Nat) (List.length a))))) = false, List.length (ci (shaN (partN ([] ++ a ++ [(77 : Int), (42 : Int), (99 : Int), (17 : Int)]) (0 : Nat) (Int.toNat (↑(List.length a) : Int))))) = (32 : Nat), List.length (ci (shaN (partN a (0 : Nat) (List.length a)))) = (32 : Nat), u8L ([] ++ a ++ [(77 : Int), (42 : Int), (99 : Int), (17 : Int)]), (0 : Nat) + Int.toNat (↑(List.length a) : Int) ≤ List.length ([] ++ a ++ [(77 : Int), (42 : Int), (99 : Int), (17 : Int)]), List.length ([] ++ a ++ [(77 : Int), (42 : Int), (99 : Int), (17 : Int)]) ≤ (1000000000 : Nat), List.length (ci (shaN (partN a (0 : Nat) (List.length a)))) = (32 : Nat), u8L b, u8L a, (0 : Nat) + List.length b ≤ List.length b, (0 : Nat) + List.length a ≤ List.length a, List.length b ≤ (500000000 : Nat), List.length a ≤ (500000000 : Nat), u8L b, (0 : Nat) + List.length b ≤ List.length b, List.length b ≤ (1000000000 : Nat), (0 : Int) ≤ (↑(List.length b) : Int), (↑(List.length b) : Int) ≤ (↑(Nat.add (List.length b) (4 : Nat)) : Int), (0 : Nat) = (0 : Nat), List.length b = List.length ([] ++ b), (List.length b + (4 : Nat)) * (1 : Nat) ≤ (140737488355328 : Nat), List.length b + (4 : Nat) ≤ (9223372036854775807 : Nat), (0 : Nat) = (0 : Nat), List.length b = List.length b, List.length b * (1 : Nat) ≤ (140737488355328 : Nat), List.length b ≤ (9223372036854775807 : Nat), (0 : Int) ≤ (↑(List.length a) : Int), (↑(List.length a) : Int) ≤ (↑(Nat.add (List.length a) (4 : Nat)) : Int), (0 : Nat) = (0 : Nat), List.length a = List.length ([] ++ a), (List.length a + (4 : Nat)) * (1 : Nat) ≤ (140737488355328 : Nat), List.length a + (4 : Nat) ≤ (9223372036854775807 : Nat), (0 : Nat) = (0 : Nat), List.length a = List.length a, List.length a * (1 : Nat) ≤ (140737488355328 : Nat), List.length a ≤ (9223372036854775807 : Nat), List.length (ci (hmacN (partN a (0 : Nat) (List.length a)) (partN b (0 : Nat) (List.length b)))) = (32 : Nat), List.length (ci (hmacN (partN a (0 : Nat) (List.length a)) (partN b (0 : Nat) (List.length b)))) = (32 : Nat), List.length (ci (shaN (partN a (0 : Nat) (List.length a)))) = (32 : Nat), List.length (ci (shaN (partN a (0 : Nat) (List.length a)))) = (32 : Nat), u8L a, u8L b, (0 : Nat) + List.length a ≤ List.length a, (0 : Nat) + List.length b ≤ List.length b, List.length a ≤ (500000000 : Nat), List.length b ≤ (500000000 : Nat), u8L a, (0 : Nat) + List.length a ≤ List.length a, List.length a ≤ (1000000000 : Nat), decide ((500 : Int) < (↑(List.length b) : Int)) = false, decide ((500 : Int) < (↑(List.length a) : Int)) = false]) := by kernel_rfl
end
section
open Go.ChangeShapes Go.WideShapes Go.ChangeAt Go.RowKit Go.Sx
theorem tabL_ok : ∀ f g, tabL f = some g → TabOk Try.prog f g := tabs_ok fun x hx => by
  simp only [List.mem_cons, List.not_mem_nil, or_false] at hx
  rcases hx with rfl | rfl | rfl
  · exact of_tab
  · exact hm_tab
  · exact yes_tab
theorem u8L_wf {l : List Int} (h : ∀ n ∈ l, (Lit.int .u8 n).wf = true) : u8L l := fun x hx => by
  have := h x hx
  simp [Lit.wf, IntKind.min, IntKind.max, IntKind.signed, IntKind.bits] at this
  omega
theorem partN_front (a t : List Int) : partN (a ++ t) 0 a.length = partN a 0 a.length := by
  unfold partN
  rw [List.drop_zero, List.drop_zero, List.take_left, List.take_length]
theorem u8L_app {a t : List Int} (ha : u8L a) (ht : u8L t) : u8L (a ++ t) := fun x hx => by
  rcases List.mem_append.1 hx with h | h
  · exact ha x h
  · exact ht x h
end
section
open Go.Sx
noncomputable def F0 := loopN Try.prog 3 0
noncomputable def F1 := loopN Try.prog 3 1
noncomputable def F2 := loopN Try.prog 3 2
noncomputable def EF1 : List Item := .code (.loop F1.1) :: F1.2
noncomputable def KF1 : List Item := .inLoop F1.1 :: F1.2
noncomputable def EF2 : List Item := .code (.loop F2.1) :: F2.2
noncomputable def KF2 : List Item := .inLoop F2.1 :: F2.2
def tabF := tabs [(10, loc wantH gOf), (12, loc wantM gHm), (11, loc wantH gRf), (13, loc wantM gRh), (14, yesT)]
noncomputable def callFx (d : Nat) := callN Try.prog tabF (fun _ => false) 100000 d
def s200 : V := .v (.one (.slice 0 (.c 0) 1 (.c 200) (.c 200)))
def TF1 (l : List Int) (i : Nat) (h : List Bool) : St := ⟨[(1, s200), (3, si .i64 i)], [oB l], h, []⟩
def TF2 (l : List Int) (i : Nat) (h : List Bool) : St := ⟨[(1, s200), (4, si .i64 i)], [oB l], h, []⟩
noncomputable def runF (x : Go.Code × List Item) (lim : Nat) (ls : List Bool) (S : St) := run Try.prog (callFx 6) (fun _ => false) (fnF 3) lim 100000 ls (.code x.1 :: .inLoop x.1 :: x.2) S
theorem fxE : (fun (u : Nat) => stopV [1, 3] [0] (run Try.prog (callFx 6) (fun _ => false) (fnF 3) 0 100000 [true, false] [.code (bodyF 3)] ⟨argSlots 0 [], [], [], []⟩)) = fun (_ : Nat) => some ((EF1, ([(((1 : Nat)), (V.v (V1.one (C.slice ((0 : Nat)) (N.c ((0 : Nat))) ((1 : Nat)) (N.c ((200 : Nat))) (N.c ((200 : Nat))))))), (((3 : Nat)), (V.v (V1.one (C.int (IntKind.i64) ((1 : Int))))))], ([(SB.mk (true) (Cells.exp [(C.int (IntKind.u8) ((0 : Int))), (C.int (IntKind.u8) ((37 : Int))), (C.int (IntKind.u8) ((74 : Int))), (C.int (IntKind.u8) ((112 : Int))), (C.int (IntKind.u8) ((151 : Int))), (C.int (IntKind.u8) ((190 : Int))), (C.int (IntKind.u8) ((229 : Int))), (C.int (IntKind.u8) ((12 : Int))), (C.int (IntKind.u8) ((52 : Int))), (C.int (IntKind.u8) ((93 : Int))), (C.int (IntKind.u8) ((134 : Int))), (C.int (IntKind.u8) ((175 : Int))), (C.int (IntKind.u8) ((216 : Int))), (C.int (IntKind.u8) ((2 : Int))), (C.int (IntKind.u8) ((45 : Int))), (C.int (IntKind.u8) ((88 : Int))), (C.int (IntKind.u8) ((131 : Int))), (C.int (IntKind.u8) ((174 : Int))), (C.int (IntKind.u8) ((218 : Int))), (C.int (IntKind.u8) ((7 : Int))), (C.int (IntKind.u8) ((52 : Int))), (C.int (IntKind.u8) ((97 : Int))), (C.int (IntKind.u8) ((142 : Int))), (C.int (IntKind.u8) ((188 : Int))), (C.int (IntKind.u8) ((235 : Int))), (C.int (IntKind.u8) ((26 : Int))), (C.int (IntKind.u8) ((73 : Int))), (C.int (IntKind.u8) ((120 : Int))), (C.int (IntKind.u8) ((168 : Int))), (C.int (IntKind.u8) ((217 : Int))), (C.int (IntKind.u8) ((10 : Int))), (C.int (IntKind.u8) ((59 : Int))), (C.int (IntKind.u8) ((108 : Int))), (C.int (IntKind.u8) ((158 : Int))), (C.int (IntKind.u8) ((209 : Int))), (C.int (IntKind.u8) ((4 : Int))), (C.int (IntKind.u8) ((55 : Int))), (C.int (IntKind.u8) ((106 : Int))), (C.int (IntKind.u8) ((158 : Int))), (C.int (IntKind.u8) ((211 : Int))), (C.int (IntKind.u8) ((8 : Int))), (C.int (IntKind.u8) ((61 : Int))), (C.int (IntKind.u8) ((114 : Int))), (C.int (IntKind.u8) ((168 : Int))), (C.int (IntKind.u8) ((223 : Int))), (C.int (IntKind.u8) ((22 : Int))), (C.int (IntKind.u8) ((77 : Int))), (C.int (IntKind.u8) ((132 : Int))), (C.int (IntKind.u8) ((188 : Int))), (C.int (IntKind.u8) ((245 : Int))), (C.int (IntKind.u8) ((46 : Int))), (C.int (IntKind.u8) ((103 : Int))), (C.int (IntKind.u8) ((160 : Int))), (C.int (IntKind.u8) ((218 : Int))), (C.int (IntKind.u8) ((21 : Int))), (C.int (IntKind.u8) ((80 : Int))), (C.int (IntKind.u8) ((139 : Int))), (C.int (IntKind.u8) ((198 : Int))), (C.int (IntKind.u8) ((2 : Int))), (C.int (IntKind.u8) ((63 : Int))), (C.int (IntKind.u8) ((124 : Int))), (C.int (IntKind.u8) ((185 : Int))), (C.int (IntKind.u8) ((246 : Int))), (C.int (IntKind.u8) ((52 : Int))), (C.int (IntKind.u8) ((115 : Int))), (C.int (IntKind.u8) ((178 : Int))), (C.int (IntKind.u8) ((241 : Int))), (C.int (IntKind.u8) ((48 : Int))), (C.int (IntKind.u8) ((112 : Int))), (C.int (IntKind.u8) ((177 : Int))), (C.int (IntKind.u8) ((242 : Int))), (C.int (IntKind.u8) ((51 : Int))), (C.int (IntKind.u8) ((116 : Int))), (C.int (IntKind.u8) ((182 : Int))), (C.int (IntKind.u8) ((249 : Int))), (C.int (IntKind.u8) ((60 : Int))), (C.int (IntKind.u8) ((127 : Int))), (C.int (IntKind.u8) ((194 : Int))), (C.int (IntKind.u8) ((6 : Int))), (C.int (IntKind.u8) ((75 : Int))), (C.int (IntKind.u8) ((144 : Int))), (C.int (IntKind.u8) ((213 : Int))), (C.int (IntKind.u8) ((26 : Int))), (C.int (IntKind.u8) ((96 : Int))), (C.int (IntKind.u8) ((167 : Int))), (C.int (IntKind.u8) ((238 : Int))), (C.int (IntKind.u8) ((53 : Int))), (C.int (IntKind.u8) ((124 : Int))), (C.int (IntKind.u8) ((196 : Int))), (C.int (IntKind.u8) ((13 : Int))), (C.int (IntKind.u8) ((86 : Int))), (C.int (IntKind.u8) ((159 : Int))), (C.int (IntKind.u8) ((232 : Int))), (C.int (IntKind.u8) ((50 : Int))), (C.int (IntKind.u8) ((125 : Int))), (C.int (IntKind.u8) ((200 : Int))), (C.int (IntKind.u8) ((19 : Int))), (C.int (IntKind.u8) ((94 : Int))), (C.int (IntKind.u8) ((170 : Int))), (C.int (IntKind.u8) ((247 : Int))), (C.int (IntKind.u8) ((68 : Int))), (C.int (IntKind.u8) ((145 : Int))), (C.int (IntKind.u8) ((222 : Int))), (C.int (IntKind.u8) ((44 : Int))), (C.int (IntKind.u8) ((123 : Int))), (C.int (IntKind.u8) ((202 : Int))), (C.int (IntKind.u8) ((25 : Int))), (C.int (IntKind.u8) ((104 : Int))), (C.int (IntKind.u8) ((184 : Int))), (C.int (IntKind.u8) ((9 : Int))), (C.int (IntKind.u8) ((90 : Int))), (C.int (IntKind.u8) ((171 : Int))), (C.int (IntKind.u8) ((252 : Int))), (C.int (IntKind.u8) ((78 : Int))), (C.int (IntKind.u8) ((161 : Int))), (C.int (IntKind.u8) ((244 : Int))), (C.int (IntKind.u8) ((71 : Int))), (C.int (IntKind.u8) ((154 : Int))), (C.int (IntKind.u8) ((238 : Int))), (C.int (IntKind.u8) ((67 : Int))), (C.int (IntKind.u8) ((152 : Int))), (C.int (IntKind.u8) ((237 : Int))), (C.int (IntKind.u8) ((66 : Int))), (C.int (IntKind.u8) ((152 : Int))), (C.int (IntKind.u8) ((239 : Int))), (C.int (IntKind.u8) ((70 : Int))), (C.int (IntKind.u8) ((157 : Int))), (C.int (IntKind.u8) ((244 : Int))), (C.int (IntKind.u8) ((76 : Int))), (C.int (IntKind.u8) ((165 : Int))), (C.int (IntKind.u8) ((254 : Int))), (C.int (IntKind.u8) ((87 : Int))), (C.int (IntKind.u8) ((176 : Int))), (C.int (IntKind.u8) ((10 : Int))), (C.int (IntKind.u8) ((101 : Int))), (C.int (IntKind.u8) ((192 : Int))), (C.int (IntKind.u8) ((27 : Int))), (C.int (IntKind.u8) ((118 : Int))), (C.int (IntKind.u8) ((210 : Int))), (C.int (IntKind.u8) ((47 : Int))), (C.int (IntKind.u8) ((140 : Int))), (C.int (IntKind.u8) ((233 : Int))), (C.int (IntKind.u8) ((70 : Int))), (C.int (IntKind.u8) ((164 : Int))), (C.int (IntKind.u8) ((3 : Int))), (C.int (IntKind.u8) ((98 : Int))), (C.int (IntKind.u8) ((193 : Int))), (C.int (IntKind.u8) ((32 : Int))), (C.int (IntKind.u8) ((128 : Int))), (C.int (IntKind.u8) ((225 : Int))), (C.int (IntKind.u8) ((66 : Int))), (C.int (IntKind.u8) ((163 : Int))), (C.int (IntKind.u8) ((4 : Int))), (C.int (IntKind.u8) ((102 : Int))), (C.int (IntKind.u8) ((201 : Int))), (C.int (IntKind.u8) ((44 : Int))), (C.int (IntKind.u8) ((143 : Int))), (C.int (IntKind.u8) ((242 : Int))), (C.int (IntKind.u8) ((86 : Int))), (C.int (IntKind.u8) ((187 : Int))), (C.int (IntKind.u8) ((32 : Int))), (C.int (IntKind.u8) ((133 : Int))), (C.int (IntKind.u8) ((234 : Int))), (C.int (IntKind.u8) ((80 : Int))), (C.int (IntKind.u8) ((183 : Int))), (C.int (IntKind.u8) ((30 : Int))), (C.int (IntKind.u8) ((133 : Int))), (C.int (IntKind.u8) ((236 : Int))), (C.int (IntKind.u8) ((84 : Int))), (C.int (IntKind.u8) ((189 : Int))), (C.int (IntKind.u8) ((38 : Int))), (C.int (IntKind.u8) ((143 : Int))), (C.int (IntKind.u8) ((248 : Int))), (C.int (IntKind.u8) ((98 : Int))), (C.int (IntKind.u8) ((205 : Int))), (C.int (IntKind.u8) ((56 : Int))), (C.int (IntKind.u8) ((163 : Int))), (C.int (IntKind.u8) ((14 : Int))), (C.int (IntKind.u8) ((122 : Int))), (C.int (IntKind.u8) ((231 : Int))), (C.int (IntKind.u8) ((84 : Int))), (C.int (IntKind.u8) ((193 : Int))), (C.int (IntKind.u8) ((46 : Int))), (C.int (IntKind.u8) ((156 : Int))), (C.int (IntKind.u8) ((11 : Int))), (C.int (IntKind.u8) ((122 : Int))), (C.int (IntKind.u8) ((233 : Int))), (C.int (IntKind.u8) ((88 : Int))), (C.int (IntKind.u8) ((200 : Int))), (C.int (IntKind.u8) ((57 : Int))), (C.int (IntKind.u8) ((170 : Int))), (C.int (IntKind.u8) ((27 : Int))), (C.int (IntKind.u8) ((140 : Int))), (C.int (IntKind.u8) ((254 : Int))), (C.int (IntKind.u8) ((113 : Int))), (C.int (IntKind.u8) ((228 : Int))), (C.int (IntKind.u8) ((87 : Int))), (C.int (IntKind.u8) ((202 : Int))), (C.int (IntKind.u8) ((62 : Int))), (C.int (IntKind.u8) ((179 : Int)))]))], [])))) := by kernel_rfl
theorem fx1R : (fun (l : List Int) (i : Nat) => stopV [1, 3] [0] (runF F1 (F1.2.length + 1) [] (TF1 l i [true, false]))) = fun (l : List Int) (i : Nat) => some ((KF1, ([(((1 : Nat)), (V.v (V1.one (C.slice ((0 : Nat)) (N.c ((0 : Nat))) ((1 : Nat)) (N.c ((200 : Nat))) (N.c ((200 : Nat))))))), (((3 : Nat)), (V.v (V1.one (C.sint (IntKind.i64) ((↑i : Int) + (1 : Int))))))], ([(SB.mk (true) (Cells.ints (IntKind.u8) (l)))], [(-9223372036854775808 : Int) ≤ (↑i : Int) + (1 : Int) ∧ (↑i : Int) + (1 : Int) ≤ (9223372036854775807 : Int), (!decide (ci (shaN (partN l (0 : Nat) (i))) = ci (shaN (partN l (0 : Nat) (i))))) = false, List.length (ci (shaN (partN l (0 : Nat) (i)))) = (32 : Nat), List.length (ci (shaN (partN l (0 : Nat) (i)))) = (32 : Nat), u8L l, i ≤ List.length l, i ≤ (1000000000 : Nat), u8L l, (0 : Nat) + i ≤ List.length l, List.length l ≤ (1000000000 : Nat), (0 : Int) ≤ (↑i : Int), (↑i : Int) ≤ (200 : Int), (0 : Int) ≤ (↑i : Int), (↑i : Int) ≤ (200 : Int), decide ((↑i : Int) ≤ (200 : Int)) = true])))) := by kernel_rfl
theorem fx1X : (fun (l : List Int) (i : Nat) => stopV [1, 4] [0] (runF F1 0 [false] (TF1 l i [false]))) = fun (l : List Int) (i : Nat) => some ((EF2, ([(((1 : Nat)), (V.v (V1.one (C.slice ((0 : Nat)) (N.c ((0 : Nat))) ((1 : Nat)) (N.c ((200 : Nat))) (N.c ((200 : Nat))))))), (((4 : Nat)), (V.v (V1.one (C.int (IntKind.i64) ((50 : Int))))))], ([(SB.mk (true) (Cells.ints (IntKind.u8) (l)))], [decide ((↑i : Int) ≤ (200 : Int)) = false])))) := by kernel_rfl
theorem fx2R : (fun (l : List Int) (i : Nat) => stopV [1, 4] [0] (runF F2 (F2.2.length + 1) [] (TF2 l i [true, false]))) = fun (l : List Int) (i : Nat) => some ((KF2, ([(((1 : Nat)), (V.v (V1.one (C.slice ((0 : Nat)) (N.c ((0 : Nat))) ((1 : Nat)) (N.c ((200 : Nat))) (N.c ((200 : Nat))))))), (((4 : Nat)), (V.v (V1.one (C.sint (IntKind.i64) ((↑i : Int) + (1 : Int))))))], ([(SB.mk (true) (Cells.ints (IntKind.u8) (l)))], [(-9223372036854775808 : Int) ≤ (↑i : Int) + (1 : Int) ∧ (↑i : Int) + (1 : Int) ≤ (9223372036854775807 : Int), (!decide (ci (hmacN (partN l (0 : Nat) (i)) (partN l (i) (Nat.sub (Int.toNat ((↑i : Int) + (9 : Int))) (i)))) = ci (hmacN (partN l (0 : Nat) (i)) (partN l (i) (Nat.sub (Int.toNat ((↑i : Int) + (9 : Int))) (i)))))) = false, List.length (ci (hmacN (partN l (0 : Nat) (i)) (partN l (i) (Nat.sub (Int.toNat ((↑i : Int) + (9 : Int))) (i))))) = (32 : Nat), List.length (ci (hmacN (partN l (0 : Nat) (i)) (partN l (i) (Nat.sub (Int.toNat ((↑i : Int) + (9 : Int))) (i))))) = (32 : Nat), u8L l, i ≤ List.length l, i + Nat.sub (Int.toNat ((↑i : Int) + (9 : Int))) (i) ≤ List.length l, List.length l ≤ (500000000 : Nat), u8L l, (0 : Nat) + i ≤ List.length l, i + Nat.sub (Int.toNat ((↑i : Int) + (9 : Int))) (i) ≤ List.length l, List.length l ≤ (500000000 : Nat), (0 : Int) ≤ (↑i : Int) + (9 : Int), (↑i : Int) + (9 : Int) ≤ (200 : Int), (0 : Int) ≤ (↑i : Int), (↑i : Int) ≤ (↑(Int.toNat ((↑i : Int) + (9 : Int))) : Int), (-9223372036854775808 : Int) ≤ (↑i : Int) + (9 : Int) ∧ (↑i : Int) + (9 : Int) ≤ (9223372036854775807 : Int), (0 : Int) ≤ (↑i : Int), (↑i : Int) ≤ (200 : Int), (0 : Int) ≤ (↑i : Int) + (9 : Int), (↑i : Int) + (9 : Int) ≤ (200 : Int), (0 : Int) ≤ (↑i : Int), (↑i : Int) ≤ (↑(Int.toNat ((↑i : Int) + (9 : Int))) : Int), (-9223372036854775808 : Int) ≤ (↑i : Int) + (9 : Int) ∧ (↑i : Int) + (9 : Int) ≤ (9223372036854775807 : Int), (0 : Int) ≤ (↑i : Int), (↑i : Int) ≤ (200 : Int), decide ((↑i : Int) < (80 : Int)) = true])))) := by kernel_rfl
theorem fx2X : (fun (l : List Int) (i : Nat) => obsO (runF F2 0 [] (TF2 l i [false]))) = fun (_ : List Int) (i : Nat) => some ([decide ((↑i : Int) < (80 : Int)) = false]) := by kernel_rfl
end
section
open Go.ChangeShapes Go.WideShapes Go.ChangeAt Go.RowKit Go.Sx
theorem tabF_ok : ∀ f g, tabF f = some g → TabOk Try.prog f g := tabs_ok fun x hx => by
  simp only [List.mem_cons, List.not_mem_nil, or_false] at hx
  rcases hx with rfl | rfl | rfl | rfl | rfl
  · exact of_tab
  · exact hm_tab
  · exact rf_tab
  · exact rh_tab
  · exact yes_tab
theorem callFx_ok (d : Nat) : CallOk Try.prog (callFx d) := callN_sound tabF_ok d
theorem funFx : Try.prog.funcs[3]? = some (fnF 3) := by kernel_rfl
theorem bodFx : (fnF 3).body = some (bodyF 3) := by kernel_rfl
theorem tmpFx : 0 ≤ (fnF 3).ntmps := Nat.zero_le _
theorem nd0F : (List.range 0 ++ [0]).Nodup := by decide
/-- the 200 bytes -/
def fxL : List Int := (List.range 200).map fun i => (((37 * i + i * i / 5) % 256 : Nat) : Int)
theorem fxL_len : fxL.length = 200 := by unfold fxL; rw [List.length_map, List.length_range]
theorem fxL_u8 : u8L fxL := u8L_of (by decide +kernel)
set_option maxRecDepth 10000 in
theorem shaFixed_calls (W : World) : Calls Try.prog 3 #[] W fun e w' => e = .returned (.bool true) ∧ Below W.heap.size W w' := by
  refine calls_goes (ρ0 := []) (args := []) (m := []) (h := []) (ob := []) funFx bodFx (by exact tmpFx) (us := []) (MemRel.nil W) rfl fun a w hr => ?_
  have len := fxL_len
  have uL := fxL_u8
  -- the keys
  have second : ∀ ρ' a w, RelD [] ([] ++ ρ') (upto W) W (fnF 3).ntmps (TF2 fxL 50 []) a w → Goes Try.prog 3 (fun e w' => e = .returned (.bool true) ∧ Below W.heap.size W w') (.code (.loop F2.1) :: F2.2) a w := by
    intro ρ' a w hr
    refine loop3_goes (ρ := []) (I := Nat) (eff := fun _ => false) (Inv := fun i h => TF2 fxL i h) (good := fun i => 50 ≤ i ∧ i ≤ 80) (μ := fun i => 80 - i) (callFx_ok 6) funFx (fun _ _ => ⟨rfl, rfl⟩) ?_ (i := 50) (by omega) hr
    intro i hi
    by_cases hlt : i < 80
    · have q := congrFun (congrFun fx2R fxL) i
      have e9 : Int.toNat ((i : Int) + 9) = i + 9 := by omega
      have e9' : Nat.sub (i + 9) i = 9 := by show i + 9 - i = 9; omega
      rw [e9, e9'] at q
      have hmm : (!decide (ci (hmacN (partN fxL 0 i) (partN fxL i 9)) = ci (hmacN (partN fxL 0 i) (partN fxL i 9)))) = false := by rw [decide_eq_true rfl]; rfl
      have h32 : (ci (hmacN (partN fxL 0 i) (partN fxL i 9))).length = 32 := by rw [ci_len, hmacN_len]
      refine .round [true, false] [] _ _ [1, 4] [0] _ _ _ (i + 1) q ?_ ⟨nd0F, ?_, ?_⟩ (by omega) (by omega)
      · repeat' (first | exact trivial | exact uL | exact hmm | exact h32 | refine And.intro ?_ ?_)
        all_goals first | omega | exact decide_eq_true (by omega)
      · exact ⟨⟨rfl, rfl, rfl, rfl, rfl, Nat.le_refl _, Nat.le_refl _⟩, ⟨rfl, rfl, by omega⟩, trivial⟩
      · exact ⟨⟨fun h => h, rfl, rfl⟩, trivial⟩
    · refine .any fun ρ' a w hr' => ?_
      exact goes_true (ρ0 := []) (callFx_ok 6) funFx (congrFun (congrFun fx2X fxL) i) ⟨decide_eq_false (by omega), trivial⟩ (fun w' hk => ⟨rfl, hk.toBelow⟩) (hr'.hints (S' := TF2 fxL i [false]) rfl rfl)
  -- the first so many bytes
  refine goes_stop (ρ0 := []) (r := [0]) (k' := EF1) (T := TF1 fxL 1 []) (callFx_ok 6) funFx (congrFun fxE 0) trivial ⟨nd0F, ?_, ?_⟩ (fun ρ2 a2 w2 h2 => ?_) (hr.hints (S' := ⟨argSlots 0 [], [], [], []⟩) rfl rfl)
  · exact ⟨⟨rfl, rfl, rfl, rfl, rfl, Nat.le_refl _, Nat.le_refl _⟩, ⟨rfl, rfl, rfl⟩, trivial⟩
  · exact ⟨⟨fun h => h, leL_sint (by decide +kernel)⟩, trivial⟩
  refine loop3_goes (ρ := []) (I := Nat) (eff := fun _ => false) (Inv := fun i h => TF1 fxL i h) (good := fun i => 1 ≤ i ∧ i ≤ 201) (μ := fun i => 201 - i) (callFx_ok 6) funFx (fun _ _ => ⟨rfl, rfl⟩) ?_ (i := 1) (by omega) h2
  intro i hi
  by_cases hlt : i ≤ 200
  · have q := congrFun (congrFun fx1R fxL) i
    have hss : (!decide (ci (shaN (partN fxL 0 i)) = ci (shaN (partN fxL 0 i)))) = false := by rw [decide_eq_true rfl]; rfl
    have h32 : (ci (shaN (partN fxL 0 i))).length = 32 := by rw [ci_len, shaN_len]
    refine .round [true, false] [] _ _ [1, 3] [0] _ _ _ (i + 1) q ?_ ⟨nd0F, ?_, ?_⟩ (by omega) (by omega)
    · repeat' (first | exact trivial | exact uL | exact hss | exact h32 | refine And.intro ?_ ?_)
      all_goals first | omega | exact decide_eq_true (by omega)
    · exact ⟨⟨rfl, rfl, rfl, rfl, rfl, Nat.le_refl _, Nat.le_refl _⟩, ⟨rfl, rfl, by omega⟩, trivial⟩
    · exact ⟨⟨fun h => h, rfl, rfl⟩, trivial⟩
  · refine .any fun ρ' a w hr' => ?_
    refine goes_stop (ρ0 := []) (r := [0]) (k' := EF2) (T := TF2 fxL 50 []) (callFx_ok 6) funFx (congrFun (congrFun fx1X fxL) i) ⟨decide_eq_false (by omega), trivial⟩ ⟨nd0F, ?_, ?_⟩ second (hr'.hints (S' := TF1 fxL i [false]) rfl rfl)
    · exact ⟨⟨rfl, rfl, rfl, rfl, rfl, Nat.le_refl _, Nat.le_refl _⟩, ⟨rfl, rfl, rfl⟩, trivial⟩
    · exact ⟨⟨fun h => h, rfl, rfl⟩, trivial⟩

set_option maxRecDepth 100000 in
theorem shaFixed_lifted (os : Os) (started : os.Started) (H : Type) (enc : TypeId × Value → H) :
    ReturnsInHanded {} Try.checked os 3 .any (Rows.shaFixedSpec.pre6 enc Try.prog Try.f3 Rows.shaFixedRow.domain false) (Rows.shaFixedSpec.post enc Try.prog Try.f3 false true false false) := by
  refine returnsInHanded_of_change (C := Try.checked) own started (by kernel_rfl) Try.func3
    (ChangeSpec.witness6 (enc := enc) (C := Try.checked) false ⟨#[], #[], []⟩ 8 (by kernel_rfl) (by kernel_rfl) (by kernel_rfl) (by kernel_rfl)) ?_
  intro W base args ds gs before hval0 hW hcnd _
  have hval : ∀ (j : Nat) t v, Try.f3.params[j]? = some t → args[j]? = some v → Value.okWide Try.prog W .any base t v := hval0
  have hW' := hW
  obtain ⟨p, q, hA0, hV, hbef, hfz, hnd⟩ := hW
  have hA : DataW.TrodAll enc Try.prog W 0 (fun _ => true) true Try.f3.params.toList args.toList ds p := hA0
  rw [Try.params3] at hA
  have hargs : args = #[] := by
    have : args.toList = [] := by
      cases h : args.toList with
      | nil => rfl
      | cons x r => rw [h] at hA; exact hA.elim
    simpa using this
  subst hargs
  have hds : ds = [] := by
    cases ds with
    | nil => rfl
    | cons _ _ => exact hA.elim
  subst hds
  refine (shaFixed_calls W).mono fun e W' ⟨he, hb⟩ => ?_
  subst he
  exact ⟨_, rfl, post_law laidOut (by rw [Try.params3]; decide +kernel) rfl rfl (by kernel_rfl) Try.underlying4 hW' hb⟩

theorem shaFixed_holds : Rows.ShaFixedSaid :=
  OpenClaim.holds_of_wide 3 Try.f3 rfl rfl rfl rfl rfl rfl rfl ⟨rfl, rfl, rfl, rfl, rfl⟩ rfl rfl rfl rfl rfl (by kernel_rfl) Try.func3 (by kernel_rfl)
    (of_decide_eq_true (by kernel_rfl)) (by unfold Func.isWrapper; first | (rw [if_pos (by decide +kernel)]; kernel_rfl) | (rw [if_neg (by decide +kernel)]; exact ⟨rfl, rfl⟩))
    (fun os started H enc _ => shaFixed_lifted os started H enc)
#print axioms shaFixed_holds
end
end Go.Proofs.Ytlboenjdbgkofaa
