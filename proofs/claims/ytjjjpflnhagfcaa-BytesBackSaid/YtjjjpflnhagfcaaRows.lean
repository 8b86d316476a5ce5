/-
  No cell of these rows narrows 'for every input' (looked for: loops, veiled, ifaces, maps, wideKeys, modest, calm, conditions, laid).
  DERIVED. THE GIVEN ROWS OF THIS SEAT. 8 by the template 'for every input the law returns true; each argument reads behind the call as it read before'; 0 by the template 'total and deterministic' (their statements: YtjjjpflnhagfcaaTotals.lean).
  GIVEN WITH THE SEED: the statements are not yours to turn. If you find one false, say at which input.
  Laid BY PROGRAM, IN A SANDBOX (cutbox-rows.mjs): the forced cells as the released guide's own fill.sh prints them over the translation 601cf6874def41a3… (all of the seat's roots in one cut). By AI agents, Wed Nov 11 2026. No macro, syntax, notation, axiom, sorry.
-/
import Derived.Test.YtjjjpflnhagfcaaChecked
import GoSem.Claim
import GoSem.ClaimJoined
import GoSem.ClaimMapViews
import Derived.JoinedTies
import Derived.KernelRfl
namespace Go.Proofs.Ytjjjpflnhagfcaa
/- THE CELL 'sum', in the pinned program and in every row, IS THE sha256 OF THE DUMP (.gsa) THAT YtjjjpflnhagfcaaProg.lean LOADS. Nothing in Lean hashes anything: it is a label: what it is worth is what the hold of that sum in a sandbox is worth. -/
noncomputable def Try.pinned : Pinned := { name := "ytjjjpflnhagfcaa", sum := "601cf6874def41a313b67b9e7c69e995bbb6fa92aad8022c38b575573cf7ce8d", checked := Try.checked }
namespace Rows
def none {H : Type} : Left H := { results := [], args := [] }

/-- 'homesteadlaw01.BytesLadder': WHATEVER THE INPUT: true; the input reads as it did. -/
def bytesLadderSpec : ChangeSpec := { name := "bytesLadder", fn := fun _ => fun
  | [d1, d2] => { results := [.lit (.bool true)], args := [d1, d2] }
  | _ => none }
def bytesLadderRow : OpenClaim := { program := "ytjjjpflnhagfcaa", sum := "601cf6874def41a313b67b9e7c69e995bbb6fa92aad8022c38b575573cf7ce8d", func := "homestead/homesteadlaw01.BytesLadder", spec := "bytesLadder", unfollowed := true, recurses := true, apart := false }
def BytesLadderSaid : Prop := bytesLadderRow.holds Try.pinned (OpenSpec.ofChange bytesLadderSpec)

/-- ITS FALSE NEIGHBOUR: 'it returns false'. Refute it at one input. -/
def bytesLadderWrong : ChangeSpec := { name := "bytesLadder", fn := fun _ => fun
  | [d1, d2] => { results := [.lit (.bool false)], args := [d1, d2] }
  | _ => none }
def BytesLadderWrongFalsely : Prop := bytesLadderRow.holds Try.pinned (OpenSpec.ofChange bytesLadderWrong)

/-- 'homesteadlaw01.BytesCompare': WHATEVER THE INPUT: true; the input reads as it did. -/
def bytesCompareSpec : ChangeSpec := { name := "bytesCompare", fn := fun _ => fun
  | [d1, d2] => { results := [.lit (.bool true)], args := [d1, d2] }
  | _ => none }
def bytesCompareRow : OpenClaim := { program := "ytjjjpflnhagfcaa", sum := "601cf6874def41a313b67b9e7c69e995bbb6fa92aad8022c38b575573cf7ce8d", func := "homestead/homesteadlaw01.BytesCompare", spec := "bytesCompare", unfollowed := true, recurses := true, apart := false }
def BytesCompareSaid : Prop := bytesCompareRow.holds Try.pinned (OpenSpec.ofChange bytesCompareSpec)

/-- ITS FALSE NEIGHBOUR: 'it returns false'. Refute it at one input. -/
def bytesCompareWrong : ChangeSpec := { name := "bytesCompare", fn := fun _ => fun
  | [d1, d2] => { results := [.lit (.bool false)], args := [d1, d2] }
  | _ => none }
def BytesCompareWrongFalsely : Prop := bytesCompareRow.holds Try.pinned (OpenSpec.ofChange bytesCompareWrong)

/-- 'homesteadlaw01.BytesMirror': WHATEVER THE INPUT: true; the input reads as it did. -/
def bytesMirrorSpec : ChangeSpec := { name := "bytesMirror", fn := fun _ => fun
  | [d] => { results := [.lit (.bool true)], args := [d] }
  | _ => none }
def bytesMirrorRow : OpenClaim := { program := "ytjjjpflnhagfcaa", sum := "601cf6874def41a313b67b9e7c69e995bbb6fa92aad8022c38b575573cf7ce8d", func := "homestead/homesteadlaw01.BytesMirror", spec := "bytesMirror", unfollowed := true, recurses := true, apart := false }
def BytesMirrorSaid : Prop := bytesMirrorRow.holds Try.pinned (OpenSpec.ofChange bytesMirrorSpec)

/-- ITS FALSE NEIGHBOUR: 'it returns false'. Refute it at one input. -/
def bytesMirrorWrong : ChangeSpec := { name := "bytesMirror", fn := fun _ => fun
  | [d] => { results := [.lit (.bool false)], args := [d] }
  | _ => none }
def BytesMirrorWrongFalsely : Prop := bytesMirrorRow.holds Try.pinned (OpenSpec.ofChange bytesMirrorWrong)

/-- 'homesteadlaw01.BytesResidue': WHATEVER THE INPUT: true; the input reads as it did. -/
def bytesResidueSpec : ChangeSpec := { name := "bytesResidue", fn := fun _ => fun
  | [d] => { results := [.lit (.bool true)], args := [d] }
  | _ => none }
def bytesResidueRow : OpenClaim := { program := "ytjjjpflnhagfcaa", sum := "601cf6874def41a313b67b9e7c69e995bbb6fa92aad8022c38b575573cf7ce8d", func := "homestead/homesteadlaw01.BytesResidue", spec := "bytesResidue", unfollowed := true, recurses := true, apart := false }
def BytesResidueSaid : Prop := bytesResidueRow.holds Try.pinned (OpenSpec.ofChange bytesResidueSpec)

/-- ITS FALSE NEIGHBOUR: 'it returns false'. Refute it at one input. -/
def bytesResidueWrong : ChangeSpec := { name := "bytesResidue", fn := fun _ => fun
  | [d] => { results := [.lit (.bool false)], args := [d] }
  | _ => none }
def BytesResidueWrongFalsely : Prop := bytesResidueRow.holds Try.pinned (OpenSpec.ofChange bytesResidueWrong)

/-- 'homesteadlaw01.BytesTwo': WHATEVER THE INPUT: true; the input reads as it did. -/
def bytesTwoSpec : ChangeSpec := { name := "bytesTwo", fn := fun _ => fun
  | [d1, d2, d3] => { results := [.lit (.bool true)], args := [d1, d2, d3] }
  | _ => none }
def bytesTwoRow : OpenClaim := { program := "ytjjjpflnhagfcaa", sum := "601cf6874def41a313b67b9e7c69e995bbb6fa92aad8022c38b575573cf7ce8d", func := "homestead/homesteadlaw01.BytesTwo", spec := "bytesTwo", unfollowed := true, recurses := true, apart := false }
def BytesTwoSaid : Prop := bytesTwoRow.holds Try.pinned (OpenSpec.ofChange bytesTwoSpec)

/-- ITS FALSE NEIGHBOUR: 'it returns false'. Refute it at one input. -/
def bytesTwoWrong : ChangeSpec := { name := "bytesTwo", fn := fun _ => fun
  | [d1, d2, d3] => { results := [.lit (.bool false)], args := [d1, d2, d3] }
  | _ => none }
def BytesTwoWrongFalsely : Prop := bytesTwoRow.holds Try.pinned (OpenSpec.ofChange bytesTwoWrong)

/-- 'homesteadlaw01.BytesFixed': WHATEVER THE INPUT: true; the input reads as it did. -/
def bytesFixedSpec : ChangeSpec := { name := "bytesFixed", fn := fun _ => fun
  | [] => { results := [.lit (.bool true)], args := [] }
  | _ => none }
def bytesFixedRow : OpenClaim := { program := "ytjjjpflnhagfcaa", sum := "601cf6874def41a313b67b9e7c69e995bbb6fa92aad8022c38b575573cf7ce8d", func := "homestead/homesteadlaw01.BytesFixed", spec := "bytesFixed", unfollowed := true, recurses := true, apart := false }
def BytesFixedSaid : Prop := bytesFixedRow.holds Try.pinned (OpenSpec.ofChange bytesFixedSpec)

/-- ITS FALSE NEIGHBOUR: 'it returns false'. Refute it at one input. -/
def bytesFixedWrong : ChangeSpec := { name := "bytesFixed", fn := fun _ => fun
  | [] => { results := [.lit (.bool false)], args := [] }
  | _ => none }
def BytesFixedWrongFalsely : Prop := bytesFixedRow.holds Try.pinned (OpenSpec.ofChange bytesFixedWrong)

/-- 'homesteadlaw01.BytesTells': WHATEVER THE INPUT: true; the input reads as it did. -/
def bytesTellsSpec : ChangeSpec := { name := "bytesTells", fn := fun _ => fun
  | [d1, d2, d3, d4, d5] => { results := [.lit (.bool true)], args := [d1, d2, d3, d4, d5] }
  | _ => none }
def bytesTellsRow : OpenClaim := { program := "ytjjjpflnhagfcaa", sum := "601cf6874def41a313b67b9e7c69e995bbb6fa92aad8022c38b575573cf7ce8d", func := "homestead/homesteadlaw01.BytesTells", spec := "bytesTells", unfollowed := true, recurses := true, apart := false }
def BytesTellsSaid : Prop := bytesTellsRow.holds Try.pinned (OpenSpec.ofChange bytesTellsSpec)

/-- ITS FALSE NEIGHBOUR: 'it returns false'. Refute it at one input. -/
def bytesTellsWrong : ChangeSpec := { name := "bytesTells", fn := fun _ => fun
  | [d1, d2, d3, d4, d5] => { results := [.lit (.bool false)], args := [d1, d2, d3, d4, d5] }
  | _ => none }
def BytesTellsWrongFalsely : Prop := bytesTellsRow.holds Try.pinned (OpenSpec.ofChange bytesTellsWrong)

/-- 'homesteadlaw01.BytesBack': WHATEVER THE INPUT: true; the input reads as it did. -/
def bytesBackSpec : ChangeSpec := { name := "bytesBack", fn := fun _ => fun
  | [d1, d2, d3] => { results := [.lit (.bool true)], args := [d1, d2, d3] }
  | _ => none }
def bytesBackRow : OpenClaim := { program := "ytjjjpflnhagfcaa", sum := "601cf6874def41a313b67b9e7c69e995bbb6fa92aad8022c38b575573cf7ce8d", func := "homestead/homesteadlaw01.BytesBack", spec := "bytesBack", unfollowed := true, recurses := true, apart := false }
def BytesBackSaid : Prop := bytesBackRow.holds Try.pinned (OpenSpec.ofChange bytesBackSpec)

/-- ITS FALSE NEIGHBOUR: 'it returns false'. Refute it at one input. -/
def bytesBackWrong : ChangeSpec := { name := "bytesBack", fn := fun _ => fun
  | [d1, d2, d3] => { results := [.lit (.bool false)], args := [d1, d2, d3] }
  | _ => none }
def BytesBackWrongFalsely : Prop := bytesBackRow.holds Try.pinned (OpenSpec.ofChange bytesBackWrong)

/- THE SECOND FORM. 'bulk': how many values and letters a reading holds, each counted each time it is reached (what is shared counts as often as it is met; a slice's spare places count too). A statement '..UptoSaid' is the law's where the arguments, and the package variables that the reading takes, are together of bulk at most 1048576: NARROWER than '..Said'. Prove '..Said' where nothing that the law and all that it calls make is longer than what came in: it says more and counts as full. Else prove '..UptoSaid'. A law counts once. -/
mutual
def uptoBulk {H : Type} : DataW H → Nat
  | .lit (.string bytes) => bytes.length + 1
  | .lit _ => 1
  | .nil => 1
  | .ptr d => uptoBulk d + 1
  | .slice elems spare => uptoBulkAll elems + uptoBulkAll spare + 1
  | .agg parts => uptoBulkAll parts + 1
  | .iface _ d => uptoBulk d + 1
  | .map entries => uptoBulkEntries entries + 1
  | .held _ => 1
def uptoBulkAll {H : Type} : List (DataW H) → Nat
  | [] => 0
  | d :: r => uptoBulk d + uptoBulkAll r
def uptoBulkEntries {H : Type} : List (Lit × DataW H) → Nat
  | [] => 0
  | x :: r => uptoBulkEntry x + uptoBulkEntries r
def uptoBulkEntry {H : Type} : Lit × DataW H → Nat
  | (.string bytes, d) => bytes.length + uptoBulk d + 1
  | (_, d) => uptoBulk d + 1
 end
def uptoSmall : (H : Type) → List (DataW H) → Bool := fun _ ds => decide (uptoBulkAll ds ≤ 1048576)
def OpenSpec.upto (s : _root_.Go.ChangeSpec) : _root_.Go.OpenSpec := { _root_.Go.OpenSpec.ofChange s with cond := some uptoSmall }

/-- 'homesteadlaw01.BytesLadder', WHERE WHAT IT READS IS OF BULK AT MOST 1048576: true; the input reads as it did. -/
def bytesLadderUptoRow : OpenClaim := { program := "ytjjjpflnhagfcaa", sum := "601cf6874def41a313b67b9e7c69e995bbb6fa92aad8022c38b575573cf7ce8d", func := "homestead/homesteadlaw01.BytesLadder", spec := "bytesLadder", unfollowed := true, recurses := true, apart := false, narrowed := true }
def BytesLadderUptoSaid : Prop := bytesLadderUptoRow.holds Try.pinned (OpenSpec.upto bytesLadderSpec)

/-- 'homesteadlaw01.BytesCompare', WHERE WHAT IT READS IS OF BULK AT MOST 1048576: true; the input reads as it did. -/
def bytesCompareUptoRow : OpenClaim := { program := "ytjjjpflnhagfcaa", sum := "601cf6874def41a313b67b9e7c69e995bbb6fa92aad8022c38b575573cf7ce8d", func := "homestead/homesteadlaw01.BytesCompare", spec := "bytesCompare", unfollowed := true, recurses := true, apart := false, narrowed := true }
def BytesCompareUptoSaid : Prop := bytesCompareUptoRow.holds Try.pinned (OpenSpec.upto bytesCompareSpec)

/-- 'homesteadlaw01.BytesMirror', WHERE WHAT IT READS IS OF BULK AT MOST 1048576: true; the input reads as it did. -/
def bytesMirrorUptoRow : OpenClaim := { program := "ytjjjpflnhagfcaa", sum := "601cf6874def41a313b67b9e7c69e995bbb6fa92aad8022c38b575573cf7ce8d", func := "homestead/homesteadlaw01.BytesMirror", spec := "bytesMirror", unfollowed := true, recurses := true, apart := false, narrowed := true }
def BytesMirrorUptoSaid : Prop := bytesMirrorUptoRow.holds Try.pinned (OpenSpec.upto bytesMirrorSpec)

/-- 'homesteadlaw01.BytesResidue', WHERE WHAT IT READS IS OF BULK AT MOST 1048576: true; the input reads as it did. -/
def bytesResidueUptoRow : OpenClaim := { program := "ytjjjpflnhagfcaa", sum := "601cf6874def41a313b67b9e7c69e995bbb6fa92aad8022c38b575573cf7ce8d", func := "homestead/homesteadlaw01.BytesResidue", spec := "bytesResidue", unfollowed := true, recurses := true, apart := false, narrowed := true }
def BytesResidueUptoSaid : Prop := bytesResidueUptoRow.holds Try.pinned (OpenSpec.upto bytesResidueSpec)

/-- 'homesteadlaw01.BytesTwo', WHERE WHAT IT READS IS OF BULK AT MOST 1048576: true; the input reads as it did. -/
def bytesTwoUptoRow : OpenClaim := { program := "ytjjjpflnhagfcaa", sum := "601cf6874def41a313b67b9e7c69e995bbb6fa92aad8022c38b575573cf7ce8d", func := "homestead/homesteadlaw01.BytesTwo", spec := "bytesTwo", unfollowed := true, recurses := true, apart := false, narrowed := true }
def BytesTwoUptoSaid : Prop := bytesTwoUptoRow.holds Try.pinned (OpenSpec.upto bytesTwoSpec)

/-- 'homesteadlaw01.BytesFixed', WHERE WHAT IT READS IS OF BULK AT MOST 1048576: true; the input reads as it did. -/
def bytesFixedUptoRow : OpenClaim := { program := "ytjjjpflnhagfcaa", sum := "601cf6874def41a313b67b9e7c69e995bbb6fa92aad8022c38b575573cf7ce8d", func := "homestead/homesteadlaw01.BytesFixed", spec := "bytesFixed", unfollowed := true, recurses := true, apart := false, narrowed := true }
def BytesFixedUptoSaid : Prop := bytesFixedUptoRow.holds Try.pinned (OpenSpec.upto bytesFixedSpec)

/-- 'homesteadlaw01.BytesTells', WHERE WHAT IT READS IS OF BULK AT MOST 1048576: true; the input reads as it did. -/
def bytesTellsUptoRow : OpenClaim := { program := "ytjjjpflnhagfcaa", sum := "601cf6874def41a313b67b9e7c69e995bbb6fa92aad8022c38b575573cf7ce8d", func := "homestead/homesteadlaw01.BytesTells", spec := "bytesTells", unfollowed := true, recurses := true, apart := false, narrowed := true }
def BytesTellsUptoSaid : Prop := bytesTellsUptoRow.holds Try.pinned (OpenSpec.upto bytesTellsSpec)

/-- 'homesteadlaw01.BytesBack', WHERE WHAT IT READS IS OF BULK AT MOST 1048576: true; the input reads as it did. -/
def bytesBackUptoRow : OpenClaim := { program := "ytjjjpflnhagfcaa", sum := "601cf6874def41a313b67b9e7c69e995bbb6fa92aad8022c38b575573cf7ce8d", func := "homestead/homesteadlaw01.BytesBack", spec := "bytesBack", unfollowed := true, recurses := true, apart := false, narrowed := true }
def BytesBackUptoSaid : Prop := bytesBackUptoRow.holds Try.pinned (OpenSpec.upto bytesBackSpec)

end Rows
end Go.Proofs.Ytjjjpflnhagfcaa
