/-
  No cell of these rows narrows 'for every input' (looked for: loops, veiled, ifaces, maps, wideKeys, modest, calm, conditions, laid).
  DERIVED. THE GIVEN ROWS OF THIS SEAT. 7 by the template 'for every input the law returns true; each argument reads behind the call as it read before'; 0 by the template 'total and deterministic' (their statements: YtlboenjdbgkofaaTotals.lean).
  GIVEN WITH THE SEED: the statements are not yours to turn. If you find one false, say at which input.
  Laid BY PROGRAM, IN A SANDBOX (cutbox-rows.mjs): the forced cells as the released guide's own fill.sh prints them over the translation 9ae7360611bc34bb… (all of the seat's roots in one cut). By AI agents, Wed Nov 11 2026. No macro, syntax, notation, axiom, sorry.
-/
import Derived.Test.YtlboenjdbgkofaaChecked
import GoSem.Claim
import GoSem.ClaimJoined
import GoSem.ClaimMapViews
import Derived.JoinedTies
import Derived.KernelRfl
namespace Go.Proofs.Ytlboenjdbgkofaa
/- THE CELL 'sum', in the pinned program and in every row, IS THE sha256 OF THE DUMP (.gsa) THAT YtlboenjdbgkofaaProg.lean LOADS. Nothing in Lean hashes anything: it is a label: what it is worth is what the hold of that sum in a sandbox is worth. -/
noncomputable def Try.pinned : Pinned := { name := "ytlboenjdbgkofaa", sum := "9ae7360611bc34bb428ce189c03be99a247b8af757df48539cc4884bcdec1406", checked := Try.checked }
namespace Rows
def none {H : Type} : Left H := { results := [], args := [] }

/-- 'homesteadlaw02.ShaFixed': WHATEVER THE INPUT: true; the input reads as it did. -/
def shaFixedSpec : ChangeSpec := { name := "shaFixed", fn := fun _ => fun
  | [] => { results := [.lit (.bool true)], args := [] }
  | _ => none }
def shaFixedRow : OpenClaim := { program := "ytlboenjdbgkofaa", sum := "9ae7360611bc34bb428ce189c03be99a247b8af757df48539cc4884bcdec1406", func := "homestead/homesteadlaw02.ShaFixed", spec := "shaFixed", unfollowed := true, recurses := true, named := ["math/bits.divideError", "math/bits.overflowError"], apart := false }
def ShaFixedSaid : Prop := shaFixedRow.holds Try.pinned (OpenSpec.ofChange shaFixedSpec)

/-- ITS FALSE NEIGHBOUR: 'it returns false'. Refute it at one input. -/
def shaFixedWrong : ChangeSpec := { name := "shaFixed", fn := fun _ => fun
  | [] => { results := [.lit (.bool false)], args := [] }
  | _ => none }
def ShaFixedWrongFalsely : Prop := shaFixedRow.holds Try.pinned (OpenSpec.ofChange shaFixedWrong)

/-- 'homesteadlaw02.ShaTells': WHATEVER THE INPUT: true; the input reads as it did. -/
def shaTellsSpec : ChangeSpec := { name := "shaTells", fn := fun _ => fun
  | [d1, d2, d3] => { results := [.lit (.bool true)], args := [d1, d2, d3] }
  | _ => none }
def shaTellsRow : OpenClaim := { program := "ytlboenjdbgkofaa", sum := "9ae7360611bc34bb428ce189c03be99a247b8af757df48539cc4884bcdec1406", func := "homestead/homesteadlaw02.ShaTells", spec := "shaTells", unfollowed := true, recurses := true, named := ["math/bits.divideError", "math/bits.overflowError"], apart := false }
def ShaTellsSaid : Prop := shaTellsRow.holds Try.pinned (OpenSpec.ofChange shaTellsSpec)

/-- ITS FALSE NEIGHBOUR: 'it returns false'. Refute it at one input. -/
def shaTellsWrong : ChangeSpec := { name := "shaTells", fn := fun _ => fun
  | [d1, d2, d3] => { results := [.lit (.bool false)], args := [d1, d2, d3] }
  | _ => none }
def ShaTellsWrongFalsely : Prop := shaTellsRow.holds Try.pinned (OpenSpec.ofChange shaTellsWrong)

/-- 'homesteadlaw02.ShaOuter': WHATEVER THE INPUT: true; the input reads as it did. -/
def shaOuterSpec : ChangeSpec := { name := "shaOuter", fn := fun _ => fun
  | [d1, d2] => { results := [.lit (.bool true)], args := [d1, d2] }
  | _ => none }
def shaOuterRow : OpenClaim := { program := "ytlboenjdbgkofaa", sum := "9ae7360611bc34bb428ce189c03be99a247b8af757df48539cc4884bcdec1406", func := "homestead/homesteadlaw02.ShaOuter", spec := "shaOuter", unfollowed := true, recurses := true, named := ["math/bits.divideError", "math/bits.overflowError"], apart := false }
def ShaOuterSaid : Prop := shaOuterRow.holds Try.pinned (OpenSpec.ofChange shaOuterSpec)

/-- ITS FALSE NEIGHBOUR: 'it returns false'. Refute it at one input. -/
def shaOuterWrong : ChangeSpec := { name := "shaOuter", fn := fun _ => fun
  | [d1, d2] => { results := [.lit (.bool false)], args := [d1, d2] }
  | _ => none }
def ShaOuterWrongFalsely : Prop := shaOuterRow.holds Try.pinned (OpenSpec.ofChange shaOuterWrong)

/-- 'homesteadlaw02.ShaStill': WHATEVER THE INPUT: true; the input reads as it did. -/
def shaStillSpec : ChangeSpec := { name := "shaStill", fn := fun _ => fun
  | [d1, d2] => { results := [.lit (.bool true)], args := [d1, d2] }
  | _ => none }
def shaStillRow : OpenClaim := { program := "ytlboenjdbgkofaa", sum := "9ae7360611bc34bb428ce189c03be99a247b8af757df48539cc4884bcdec1406", func := "homestead/homesteadlaw02.ShaStill", spec := "shaStill", unfollowed := true, recurses := true, named := ["math/bits.divideError", "math/bits.overflowError"], apart := false }
def ShaStillSaid : Prop := shaStillRow.holds Try.pinned (OpenSpec.ofChange shaStillSpec)

/-- ITS FALSE NEIGHBOUR: 'it returns false'. Refute it at one input. -/
def shaStillWrong : ChangeSpec := { name := "shaStill", fn := fun _ => fun
  | [d1, d2] => { results := [.lit (.bool false)], args := [d1, d2] }
  | _ => none }
def ShaStillWrongFalsely : Prop := shaStillRow.holds Try.pinned (OpenSpec.ofChange shaStillWrong)

/-- 'homesteadlaw02.ShaOrder': WHATEVER THE INPUT: true; the input reads as it did. -/
def shaOrderSpec : ChangeSpec := { name := "shaOrder", fn := fun _ => fun
  | [d1, d2] => { results := [.lit (.bool true)], args := [d1, d2] }
  | _ => none }
def shaOrderRow : OpenClaim := { program := "ytlboenjdbgkofaa", sum := "9ae7360611bc34bb428ce189c03be99a247b8af757df48539cc4884bcdec1406", func := "homestead/homesteadlaw02.ShaOrder", spec := "shaOrder", inPlace := ["internal/bytealg.abigen_runtime_cmpstring", "internal/bytealg.IndexByteString"], unfollowed := true, recurses := true, named := ["math/bits.divideError", "math/bits.overflowError"], apart := false }
def ShaOrderSaid : Prop := shaOrderRow.holds Try.pinned (OpenSpec.ofChange shaOrderSpec)

/-- ITS FALSE NEIGHBOUR: 'it returns false'. Refute it at one input. -/
def shaOrderWrong : ChangeSpec := { name := "shaOrder", fn := fun _ => fun
  | [d1, d2] => { results := [.lit (.bool false)], args := [d1, d2] }
  | _ => none }
def ShaOrderWrongFalsely : Prop := shaOrderRow.holds Try.pinned (OpenSpec.ofChange shaOrderWrong)

/-- 'homesteadlaw02.ShaPublished': WHATEVER THE INPUT: true; the input reads as it did. -/
def shaPublishedSpec : ChangeSpec := { name := "shaPublished", fn := fun _ => fun
  | [] => { results := [.lit (.bool true)], args := [] }
  | _ => none }
def shaPublishedRow : OpenClaim := { program := "ytlboenjdbgkofaa", sum := "9ae7360611bc34bb428ce189c03be99a247b8af757df48539cc4884bcdec1406", func := "homestead/homesteadlaw02.ShaPublished", spec := "shaPublished", inPlace := ["internal/abi.NoEscape", "internal/bytealg.MakeNoZero"], unfollowed := true, recurses := true, named := ["math/bits.divideError", "math/bits.overflowError"], apart := false }
def ShaPublishedSaid : Prop := shaPublishedRow.holds Try.pinned (OpenSpec.ofChange shaPublishedSpec)

/-- ITS FALSE NEIGHBOUR: 'it returns false'. Refute it at one input. -/
def shaPublishedWrong : ChangeSpec := { name := "shaPublished", fn := fun _ => fun
  | [] => { results := [.lit (.bool false)], args := [] }
  | _ => none }
def ShaPublishedWrongFalsely : Prop := shaPublishedRow.holds Try.pinned (OpenSpec.ofChange shaPublishedWrong)

/-- 'homesteadlaw02.ShaBlock': WHATEVER THE INPUT: true; the input reads as it did. -/
def shaBlockSpec : ChangeSpec := { name := "shaBlock", fn := fun _ => fun
  | [d1, d2, d3] => { results := [.lit (.bool true)], args := [d1, d2, d3] }
  | _ => none }
def shaBlockRow : OpenClaim := { program := "ytlboenjdbgkofaa", sum := "9ae7360611bc34bb428ce189c03be99a247b8af757df48539cc4884bcdec1406", func := "homestead/homesteadlaw02.ShaBlock", spec := "shaBlock", inPlace := ["internal/abi.NoEscape", "internal/bytealg.MakeNoZero"], unfollowed := true, recurses := true, named := ["math/bits.divideError", "math/bits.overflowError"], apart := false }
def ShaBlockSaid : Prop := shaBlockRow.holds Try.pinned (OpenSpec.ofChange shaBlockSpec)

/-- ITS FALSE NEIGHBOUR: 'it returns false'. Refute it at one input. -/
def shaBlockWrong : ChangeSpec := { name := "shaBlock", fn := fun _ => fun
  | [d1, d2, d3] => { results := [.lit (.bool false)], args := [d1, d2, d3] }
  | _ => none }
def ShaBlockWrongFalsely : Prop := shaBlockRow.holds Try.pinned (OpenSpec.ofChange shaBlockWrong)

/- THE SECOND FORM. 'bulk': how many values and letters a reading holds, each counted each time it is reached (what is shared counts as often as it is met; a slice's spare places count too). A statement '..UptoSaid' is the law's where the arguments, and the package variables that the reading takes, are together of bulk at most 1048576: NARROWER than '..Said'. Prove '..Said' where nothing that the law and all that it calls make is longer than what came in: it says more and counts as full. Else prove '..UptoSaid'. A law counts once. -/
mutual
def uptoBulk {H : Type} : DataW H → Nat
  | .lit (.string bytes) => bytes.length + 1
  | .lit _ => 1
  | .nil => 1
  | .ptr d => uptoBulk d + 1
  | .slice elems spare => uptoBulkAll elems + uptoBulkAll spare + 1
  | .agg parts => uptoBulkAll parts + 1
  | .iface _ d => uptoBulk d + 1
  | .map entries => uptoBulkEntries entries + 1
  | .held _ => 1
def uptoBulkAll {H : Type} : List (DataW H) → Nat
  | [] => 0
  | d :: r => uptoBulk d + uptoBulkAll r
def uptoBulkEntries {H : Type} : List (Lit × DataW H) → Nat
  | [] => 0
  | x :: r => uptoBulkEntry x + uptoBulkEntries r
def uptoBulkEntry {H : Type} : Lit × DataW H → Nat
  | (.string bytes, d) => bytes.length + uptoBulk d + 1
  | (_, d) => uptoBulk d + 1
 end
def uptoSmall : (H : Type) → List (DataW H) → Bool := fun _ ds => decide (uptoBulkAll ds ≤ 1048576)
def OpenSpec.upto (s : _root_.Go.ChangeSpec) : _root_.Go.OpenSpec := { _root_.Go.OpenSpec.ofChange s with cond := some uptoSmall }

/-- 'homesteadlaw02.ShaFixed', WHERE WHAT IT READS IS OF BULK AT MOST 1048576: true; the input reads as it did. -/
def shaFixedUptoRow : OpenClaim := { program := "ytlboenjdbgkofaa", sum := "9ae7360611bc34bb428ce189c03be99a247b8af757df48539cc4884bcdec1406", func := "homestead/homesteadlaw02.ShaFixed", spec := "shaFixed", unfollowed := true, recurses := true, named := ["math/bits.divideError", "math/bits.overflowError"], apart := false, narrowed := true }
def ShaFixedUptoSaid : Prop := shaFixedUptoRow.holds Try.pinned (OpenSpec.upto shaFixedSpec)

/-- 'homesteadlaw02.ShaTells', WHERE WHAT IT READS IS OF BULK AT MOST 1048576: true; the input reads as it did. -/
def shaTellsUptoRow : OpenClaim := { program := "ytlboenjdbgkofaa", sum := "9ae7360611bc34bb428ce189c03be99a247b8af757df48539cc4884bcdec1406", func := "homestead/homesteadlaw02.ShaTells", spec := "shaTells", unfollowed := true, recurses := true, named := ["math/bits.divideError", "math/bits.overflowError"], apart := false, narrowed := true }
def ShaTellsUptoSaid : Prop := shaTellsUptoRow.holds Try.pinned (OpenSpec.upto shaTellsSpec)

/-- 'homesteadlaw02.ShaOuter', WHERE WHAT IT READS IS OF BULK AT MOST 1048576: true; the input reads as it did. -/
def shaOuterUptoRow : OpenClaim := { program := "ytlboenjdbgkofaa", sum := "9ae7360611bc34bb428ce189c03be99a247b8af757df48539cc4884bcdec1406", func := "homestead/homesteadlaw02.ShaOuter", spec := "shaOuter", unfollowed := true, recurses := true, named := ["math/bits.divideError", "math/bits.overflowError"], apart := false, narrowed := true }
def ShaOuterUptoSaid : Prop := shaOuterUptoRow.holds Try.pinned (OpenSpec.upto shaOuterSpec)

/-- 'homesteadlaw02.ShaStill', WHERE WHAT IT READS IS OF BULK AT MOST 1048576: true; the input reads as it did. -/
def shaStillUptoRow : OpenClaim := { program := "ytlboenjdbgkofaa", sum := "9ae7360611bc34bb428ce189c03be99a247b8af757df48539cc4884bcdec1406", func := "homestead/homesteadlaw02.ShaStill", spec := "shaStill", unfollowed := true, recurses := true, named := ["math/bits.divideError", "math/bits.overflowError"], apart := false, narrowed := true }
def ShaStillUptoSaid : Prop := shaStillUptoRow.holds Try.pinned (OpenSpec.upto shaStillSpec)

/-- 'homesteadlaw02.ShaOrder', WHERE WHAT IT READS IS OF BULK AT MOST 1048576: true; the input reads as it did. -/
def shaOrderUptoRow : OpenClaim := { program := "ytlboenjdbgkofaa", sum := "9ae7360611bc34bb428ce189c03be99a247b8af757df48539cc4884bcdec1406", func := "homestead/homesteadlaw02.ShaOrder", spec := "shaOrder", inPlace := ["internal/bytealg.abigen_runtime_cmpstring", "internal/bytealg.IndexByteString"], unfollowed := true, recurses := true, named := ["math/bits.divideError", "math/bits.overflowError"], apart := false, narrowed := true }
def ShaOrderUptoSaid : Prop := shaOrderUptoRow.holds Try.pinned (OpenSpec.upto shaOrderSpec)

/-- 'homesteadlaw02.ShaPublished', WHERE WHAT IT READS IS OF BULK AT MOST 1048576: true; the input reads as it did. -/
def shaPublishedUptoRow : OpenClaim := { program := "ytlboenjdbgkofaa", sum := "9ae7360611bc34bb428ce189c03be99a247b8af757df48539cc4884bcdec1406", func := "homestead/homesteadlaw02.ShaPublished", spec := "shaPublished", inPlace := ["internal/abi.NoEscape", "internal/bytealg.MakeNoZero"], unfollowed := true, recurses := true, named := ["math/bits.divideError", "math/bits.overflowError"], apart := false, narrowed := true }
def ShaPublishedUptoSaid : Prop := shaPublishedUptoRow.holds Try.pinned (OpenSpec.upto shaPublishedSpec)

/-- 'homesteadlaw02.ShaBlock', WHERE WHAT IT READS IS OF BULK AT MOST 1048576: true; the input reads as it did. -/
def shaBlockUptoRow : OpenClaim := { program := "ytlboenjdbgkofaa", sum := "9ae7360611bc34bb428ce189c03be99a247b8af757df48539cc4884bcdec1406", func := "homestead/homesteadlaw02.ShaBlock", spec := "shaBlock", inPlace := ["internal/abi.NoEscape", "internal/bytealg.MakeNoZero"], unfollowed := true, recurses := true, named := ["math/bits.divideError", "math/bits.overflowError"], apart := false, narrowed := true }
def ShaBlockUptoSaid : Prop := shaBlockUptoRow.holds Try.pinned (OpenSpec.upto shaBlockSpec)

end Rows
end Go.Proofs.Ytlboenjdbgkofaa
