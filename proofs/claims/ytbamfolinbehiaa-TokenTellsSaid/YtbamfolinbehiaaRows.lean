/-
  No cell of these rows narrows 'for every input' (looked for: loops, veiled, ifaces, maps, wideKeys, modest, calm, conditions, laid).
  DERIVED. THE GIVEN ROWS OF THIS SEAT. 5 by the template 'for every input the law returns true; each argument reads behind the call as it read before'; 0 by the template 'total and deterministic' (their statements: YtbamfolinbehiaaTotals.lean).
  GIVEN WITH THE SEED: the statements are not yours to turn. If you find one false, say at which input.
  Laid BY PROGRAM, IN A SANDBOX (cutbox-rows.mjs): the forced cells as the released guide's own fill.sh prints them over the translation 6d70f4b1bcaeb244… (all of the seat's roots in one cut). By AI agents, Wed Nov 11 2026. No macro, syntax, notation, axiom, sorry.
-/
import Derived.Test.YtbamfolinbehiaaChecked
import GoSem.Claim
import GoSem.ClaimJoined
import GoSem.ClaimMapViews
import Derived.JoinedTies
import Derived.KernelRfl
namespace Go.Proofs.Ytbamfolinbehiaa
/- THE CELL 'sum', in the pinned program and in every row, IS THE sha256 OF THE DUMP (.gsa) THAT YtbamfolinbehiaaProg.lean LOADS. Nothing in Lean hashes anything: it is a label: what it is worth is what the hold of that sum in a sandbox is worth. -/
noncomputable def Try.pinned : Pinned := { name := "ytbamfolinbehiaa", sum := "6d70f4b1bcaeb244d0a1e95dca2259c528ee3ef499b4a123dff28cbe857394f4", checked := Try.checked }
namespace Rows
def none {H : Type} : Left H := { results := [], args := [] }

/-- 'homesteadlaw22.TextBounds': WHATEVER THE INPUT: true; the input reads as it did. -/
def textBoundsSpec : ChangeSpec := { name := "textBounds", fn := fun _ => fun
  | [d1, d2, d3] => { results := [.lit (.bool true)], args := [d1, d2, d3] }
  | _ => none }
def textBoundsRow : OpenClaim := { program := "ytbamfolinbehiaa", sum := "6d70f4b1bcaeb244d0a1e95dca2259c528ee3ef499b4a123dff28cbe857394f4", func := "homestead/homesteadlaw22.TextBounds", spec := "textBounds", unfollowed := true, recurses := true, named := ["math/bits.divideError", "math/bits.overflowError"], apart := false }
def TextBoundsSaid : Prop := textBoundsRow.holds Try.pinned (OpenSpec.ofChange textBoundsSpec)

/-- ITS FALSE NEIGHBOUR: 'it returns false'. Refute it at one input. -/
def textBoundsWrong : ChangeSpec := { name := "textBounds", fn := fun _ => fun
  | [d1, d2, d3] => { results := [.lit (.bool false)], args := [d1, d2, d3] }
  | _ => none }
def TextBoundsWrongFalsely : Prop := textBoundsRow.holds Try.pinned (OpenSpec.ofChange textBoundsWrong)

/-- 'homesteadlaw22.TextApart': WHATEVER THE INPUT: true; the input reads as it did. -/
def textApartSpec : ChangeSpec := { name := "textApart", fn := fun _ => fun
  | [d1, d2, d3] => { results := [.lit (.bool true)], args := [d1, d2, d3] }
  | _ => none }
def textApartRow : OpenClaim := { program := "ytbamfolinbehiaa", sum := "6d70f4b1bcaeb244d0a1e95dca2259c528ee3ef499b4a123dff28cbe857394f4", func := "homestead/homesteadlaw22.TextApart", spec := "textApart", unfollowed := true, recurses := true, named := ["math/bits.divideError", "math/bits.overflowError"], apart := false }
def TextApartSaid : Prop := textApartRow.holds Try.pinned (OpenSpec.ofChange textApartSpec)

/-- ITS FALSE NEIGHBOUR: 'it returns false'. Refute it at one input. -/
def textApartWrong : ChangeSpec := { name := "textApart", fn := fun _ => fun
  | [d1, d2, d3] => { results := [.lit (.bool false)], args := [d1, d2, d3] }
  | _ => none }
def TextApartWrongFalsely : Prop := textApartRow.holds Try.pinned (OpenSpec.ofChange textApartWrong)

/-- 'homesteadlaw22.TokenApart': WHATEVER THE INPUT: true; the input reads as it did. -/
def tokenApartSpec : ChangeSpec := { name := "tokenApart", fn := fun _ => fun
  | [d1, d2, d3] => { results := [.lit (.bool true)], args := [d1, d2, d3] }
  | _ => none }
def tokenApartRow : OpenClaim := { program := "ytbamfolinbehiaa", sum := "6d70f4b1bcaeb244d0a1e95dca2259c528ee3ef499b4a123dff28cbe857394f4", func := "homestead/homesteadlaw22.TokenApart", spec := "tokenApart", unfollowed := true, recurses := true, named := ["math/bits.divideError", "math/bits.overflowError"], apart := false }
def TokenApartSaid : Prop := tokenApartRow.holds Try.pinned (OpenSpec.ofChange tokenApartSpec)

/-- ITS FALSE NEIGHBOUR: 'it returns false'. Refute it at one input. -/
def tokenApartWrong : ChangeSpec := { name := "tokenApart", fn := fun _ => fun
  | [d1, d2, d3] => { results := [.lit (.bool false)], args := [d1, d2, d3] }
  | _ => none }
def TokenApartWrongFalsely : Prop := tokenApartRow.holds Try.pinned (OpenSpec.ofChange tokenApartWrong)

/-- 'homesteadlaw22.TokenTells': WHATEVER THE INPUT: true; the input reads as it did. -/
def tokenTellsSpec : ChangeSpec := { name := "tokenTells", fn := fun _ => fun
  | [d1, d2] => { results := [.lit (.bool true)], args := [d1, d2] }
  | _ => none }
def tokenTellsRow : OpenClaim := { program := "ytbamfolinbehiaa", sum := "6d70f4b1bcaeb244d0a1e95dca2259c528ee3ef499b4a123dff28cbe857394f4", func := "homestead/homesteadlaw22.TokenTells", spec := "tokenTells", unfollowed := true, recurses := true, named := ["math/bits.divideError", "math/bits.overflowError"], apart := false }
def TokenTellsSaid : Prop := tokenTellsRow.holds Try.pinned (OpenSpec.ofChange tokenTellsSpec)

/-- ITS FALSE NEIGHBOUR: 'it returns false'. Refute it at one input. -/
def tokenTellsWrong : ChangeSpec := { name := "tokenTells", fn := fun _ => fun
  | [d1, d2] => { results := [.lit (.bool false)], args := [d1, d2] }
  | _ => none }
def TokenTellsWrongFalsely : Prop := tokenTellsRow.holds Try.pinned (OpenSpec.ofChange tokenTellsWrong)

/-- 'homesteadlaw22.TokenBinds': WHATEVER THE INPUT: true; the input reads as it did. -/
def tokenBindsSpec : ChangeSpec := { name := "tokenBinds", fn := fun _ => fun
  | [d1, d2, d3] => { results := [.lit (.bool true)], args := [d1, d2, d3] }
  | _ => none }
def tokenBindsRow : OpenClaim := { program := "ytbamfolinbehiaa", sum := "6d70f4b1bcaeb244d0a1e95dca2259c528ee3ef499b4a123dff28cbe857394f4", func := "homestead/homesteadlaw22.TokenBinds", spec := "tokenBinds", unfollowed := true, recurses := true, named := ["math/bits.divideError", "math/bits.overflowError"], apart := false }
def TokenBindsSaid : Prop := tokenBindsRow.holds Try.pinned (OpenSpec.ofChange tokenBindsSpec)

/-- ITS FALSE NEIGHBOUR: 'it returns false'. Refute it at one input. -/
def tokenBindsWrong : ChangeSpec := { name := "tokenBinds", fn := fun _ => fun
  | [d1, d2, d3] => { results := [.lit (.bool false)], args := [d1, d2, d3] }
  | _ => none }
def TokenBindsWrongFalsely : Prop := tokenBindsRow.holds Try.pinned (OpenSpec.ofChange tokenBindsWrong)

/- THE SECOND FORM. 'bulk': how many values and letters a reading holds, each counted each time it is reached (what is shared counts as often as it is met; a slice's spare places count too). A statement '..UptoSaid' is the law's where the arguments, and the package variables that the reading takes, are together of bulk at most 1048576: NARROWER than '..Said'. Prove '..Said' where nothing that the law and all that it calls make is longer than what came in: it says more and counts as full. Else prove '..UptoSaid'. A law counts once. -/
mutual
def uptoBulk {H : Type} : DataW H → Nat
  | .lit (.string bytes) => bytes.length + 1
  | .lit _ => 1
  | .nil => 1
  | .ptr d => uptoBulk d + 1
  | .slice elems spare => uptoBulkAll elems + uptoBulkAll spare + 1
  | .agg parts => uptoBulkAll parts + 1
  | .iface _ d => uptoBulk d + 1
  | .map entries => uptoBulkEntries entries + 1
  | .held _ => 1
def uptoBulkAll {H : Type} : List (DataW H) → Nat
  | [] => 0
  | d :: r => uptoBulk d + uptoBulkAll r
def uptoBulkEntries {H : Type} : List (Lit × DataW H) → Nat
  | [] => 0
  | x :: r => uptoBulkEntry x + uptoBulkEntries r
def uptoBulkEntry {H : Type} : Lit × DataW H → Nat
  | (.string bytes, d) => bytes.length + uptoBulk d + 1
  | (_, d) => uptoBulk d + 1
 end
def uptoSmall : (H : Type) → List (DataW H) → Bool := fun _ ds => decide (uptoBulkAll ds ≤ 1048576)
def OpenSpec.upto (s : _root_.Go.ChangeSpec) : _root_.Go.OpenSpec := { _root_.Go.OpenSpec.ofChange s with cond := some uptoSmall }

/-- 'homesteadlaw22.TextBounds', WHERE WHAT IT READS IS OF BULK AT MOST 1048576: true; the input reads as it did. -/
def textBoundsUptoRow : OpenClaim := { program := "ytbamfolinbehiaa", sum := "6d70f4b1bcaeb244d0a1e95dca2259c528ee3ef499b4a123dff28cbe857394f4", func := "homestead/homesteadlaw22.TextBounds", spec := "textBounds", unfollowed := true, recurses := true, named := ["math/bits.divideError", "math/bits.overflowError"], apart := false, narrowed := true }
def TextBoundsUptoSaid : Prop := textBoundsUptoRow.holds Try.pinned (OpenSpec.upto textBoundsSpec)

/-- 'homesteadlaw22.TextApart', WHERE WHAT IT READS IS OF BULK AT MOST 1048576: true; the input reads as it did. -/
def textApartUptoRow : OpenClaim := { program := "ytbamfolinbehiaa", sum := "6d70f4b1bcaeb244d0a1e95dca2259c528ee3ef499b4a123dff28cbe857394f4", func := "homestead/homesteadlaw22.TextApart", spec := "textApart", unfollowed := true, recurses := true, named := ["math/bits.divideError", "math/bits.overflowError"], apart := false, narrowed := true }
def TextApartUptoSaid : Prop := textApartUptoRow.holds Try.pinned (OpenSpec.upto textApartSpec)

/-- 'homesteadlaw22.TokenApart', WHERE WHAT IT READS IS OF BULK AT MOST 1048576: true; the input reads as it did. -/
def tokenApartUptoRow : OpenClaim := { program := "ytbamfolinbehiaa", sum := "6d70f4b1bcaeb244d0a1e95dca2259c528ee3ef499b4a123dff28cbe857394f4", func := "homestead/homesteadlaw22.TokenApart", spec := "tokenApart", unfollowed := true, recurses := true, named := ["math/bits.divideError", "math/bits.overflowError"], apart := false, narrowed := true }
def TokenApartUptoSaid : Prop := tokenApartUptoRow.holds Try.pinned (OpenSpec.upto tokenApartSpec)

/-- 'homesteadlaw22.TokenTells', WHERE WHAT IT READS IS OF BULK AT MOST 1048576: true; the input reads as it did. -/
def tokenTellsUptoRow : OpenClaim := { program := "ytbamfolinbehiaa", sum := "6d70f4b1bcaeb244d0a1e95dca2259c528ee3ef499b4a123dff28cbe857394f4", func := "homestead/homesteadlaw22.TokenTells", spec := "tokenTells", unfollowed := true, recurses := true, named := ["math/bits.divideError", "math/bits.overflowError"], apart := false, narrowed := true }
def TokenTellsUptoSaid : Prop := tokenTellsUptoRow.holds Try.pinned (OpenSpec.upto tokenTellsSpec)

/-- 'homesteadlaw22.TokenBinds', WHERE WHAT IT READS IS OF BULK AT MOST 1048576: true; the input reads as it did. -/
def tokenBindsUptoRow : OpenClaim := { program := "ytbamfolinbehiaa", sum := "6d70f4b1bcaeb244d0a1e95dca2259c528ee3ef499b4a123dff28cbe857394f4", func := "homestead/homesteadlaw22.TokenBinds", spec := "tokenBinds", unfollowed := true, recurses := true, named := ["math/bits.divideError", "math/bits.overflowError"], apart := false, narrowed := true }
def TokenBindsUptoSaid : Prop := tokenBindsUptoRow.holds Try.pinned (OpenSpec.upto tokenBindsSpec)

end Rows
end Go.Proofs.Ytbamfolinbehiaa
