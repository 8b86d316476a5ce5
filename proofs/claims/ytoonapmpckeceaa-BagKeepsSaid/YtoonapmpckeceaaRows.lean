/-
  No cell of these rows narrows 'for every input' (looked for: loops, veiled, ifaces, maps, wideKeys, modest, calm, conditions, laid).
  DERIVED. THE GIVEN ROWS OF THIS SEAT. 6 by the template 'for every input the law returns true; each argument reads behind the call as it read before'; 0 by the template 'total and deterministic' (their statements: YtoonapmpckeceaaTotals.lean).
  GIVEN WITH THE SEED: the statements are not yours to turn. If you find one false, say at which input.
  Laid BY PROGRAM, IN A SANDBOX (cutbox-rows.mjs): the forced cells as the released guide's own fill.sh prints them over the translation e601ca97a366ab37… (all of the seat's roots in one cut). By AI agents, Wed Nov 11 2026. No macro, syntax, notation, axiom, sorry.
-/
import Derived.Test.YtoonapmpckeceaaChecked
import GoSem.Claim
import GoSem.ClaimJoined
import GoSem.ClaimMapViews
import Derived.JoinedTies
import Derived.KernelRfl
namespace Go.Proofs.Ytoonapmpckeceaa
/- THE CELL 'sum', in the pinned program and in every row, IS THE sha256 OF THE DUMP (.gsa) THAT YtoonapmpckeceaaProg.lean LOADS. Nothing in Lean hashes anything: it is a label: what it is worth is what the hold of that sum in a sandbox is worth. -/
noncomputable def Try.pinned : Pinned := { name := "ytoonapmpckeceaa", sum := "e601ca97a366ab37ac0e770acad23385ee36eb38e90c4a9fa3b96ac3e3f9577a", checked := Try.checked }
namespace Rows
def none {H : Type} : Left H := { results := [], args := [] }

/-- 'homesteadlaw09.BagRoom': WHATEVER THE INPUT: true; the input reads as it did. -/
def bagRoomSpec : ChangeSpec := { name := "bagRoom", fn := fun _ => fun
  | [d1, d2, d3] => { results := [.lit (.bool true)], args := [d1, d2, d3] }
  | _ => none }
def bagRoomRow : OpenClaim := { program := "ytoonapmpckeceaa", sum := "e601ca97a366ab37ac0e770acad23385ee36eb38e90c4a9fa3b96ac3e3f9577a", func := "homestead/homesteadlaw09.BagRoom", spec := "bagRoom", unfollowed := true, recurses := true, apart := false }
def BagRoomSaid : Prop := bagRoomRow.holds Try.pinned (OpenSpec.ofChange bagRoomSpec)

/-- ITS FALSE NEIGHBOUR: 'it returns false'. Refute it at one input. -/
def bagRoomWrong : ChangeSpec := { name := "bagRoom", fn := fun _ => fun
  | [d1, d2, d3] => { results := [.lit (.bool false)], args := [d1, d2, d3] }
  | _ => none }
def BagRoomWrongFalsely : Prop := bagRoomRow.holds Try.pinned (OpenSpec.ofChange bagRoomWrong)

/-- 'homesteadlaw09.BagParts': WHATEVER THE INPUT: true; the input reads as it did. -/
def bagPartsSpec : ChangeSpec := { name := "bagParts", fn := fun _ => fun
  | [d1, d2, d3] => { results := [.lit (.bool true)], args := [d1, d2, d3] }
  | _ => none }
def bagPartsRow : OpenClaim := { program := "ytoonapmpckeceaa", sum := "e601ca97a366ab37ac0e770acad23385ee36eb38e90c4a9fa3b96ac3e3f9577a", func := "homestead/homesteadlaw09.BagParts", spec := "bagParts", unfollowed := true, recurses := true, apart := false }
def BagPartsSaid : Prop := bagPartsRow.holds Try.pinned (OpenSpec.ofChange bagPartsSpec)

/-- ITS FALSE NEIGHBOUR: 'it returns false'. Refute it at one input. -/
def bagPartsWrong : ChangeSpec := { name := "bagParts", fn := fun _ => fun
  | [d1, d2, d3] => { results := [.lit (.bool false)], args := [d1, d2, d3] }
  | _ => none }
def BagPartsWrongFalsely : Prop := bagPartsRow.holds Try.pinned (OpenSpec.ofChange bagPartsWrong)

/-- 'homesteadlaw09.BagBack': WHATEVER THE INPUT: true; the input reads as it did. -/
def bagBackSpec : ChangeSpec := { name := "bagBack", fn := fun _ => fun
  | [d1, d2, d3] => { results := [.lit (.bool true)], args := [d1, d2, d3] }
  | _ => none }
def bagBackRow : OpenClaim := { program := "ytoonapmpckeceaa", sum := "e601ca97a366ab37ac0e770acad23385ee36eb38e90c4a9fa3b96ac3e3f9577a", func := "homestead/homesteadlaw09.BagBack", spec := "bagBack", unfollowed := true, recurses := true, apart := false }
def BagBackSaid : Prop := bagBackRow.holds Try.pinned (OpenSpec.ofChange bagBackSpec)

/-- ITS FALSE NEIGHBOUR: 'it returns false'. Refute it at one input. -/
def bagBackWrong : ChangeSpec := { name := "bagBack", fn := fun _ => fun
  | [d1, d2, d3] => { results := [.lit (.bool false)], args := [d1, d2, d3] }
  | _ => none }
def BagBackWrongFalsely : Prop := bagBackRow.holds Try.pinned (OpenSpec.ofChange bagBackWrong)

/-- 'homesteadlaw09.BagKeeps': WHATEVER THE INPUT: true; the input reads as it did. -/
def bagKeepsSpec : ChangeSpec := { name := "bagKeeps", fn := fun _ => fun
  | [d1, d2, d3] => { results := [.lit (.bool true)], args := [d1, d2, d3] }
  | _ => none }
def bagKeepsRow : OpenClaim := { program := "ytoonapmpckeceaa", sum := "e601ca97a366ab37ac0e770acad23385ee36eb38e90c4a9fa3b96ac3e3f9577a", func := "homestead/homesteadlaw09.BagKeeps", spec := "bagKeeps", unfollowed := true, recurses := true, apart := false }
def BagKeepsSaid : Prop := bagKeepsRow.holds Try.pinned (OpenSpec.ofChange bagKeepsSpec)

/-- ITS FALSE NEIGHBOUR: 'it returns false'. Refute it at one input. -/
def bagKeepsWrong : ChangeSpec := { name := "bagKeeps", fn := fun _ => fun
  | [d1, d2, d3] => { results := [.lit (.bool false)], args := [d1, d2, d3] }
  | _ => none }
def BagKeepsWrongFalsely : Prop := bagKeepsRow.holds Try.pinned (OpenSpec.ofChange bagKeepsWrong)

/-- 'homesteadlaw09.BagErrors': WHATEVER THE INPUT: true; the input reads as it did. -/
def bagErrorsSpec : ChangeSpec := { name := "bagErrors", fn := fun _ => fun
  | [d1, d2, d3] => { results := [.lit (.bool true)], args := [d1, d2, d3] }
  | _ => none }
def bagErrorsRow : OpenClaim := { program := "ytoonapmpckeceaa", sum := "e601ca97a366ab37ac0e770acad23385ee36eb38e90c4a9fa3b96ac3e3f9577a", func := "homestead/homesteadlaw09.BagErrors", spec := "bagErrors", unfollowed := true, recurses := true, apart := false }
def BagErrorsSaid : Prop := bagErrorsRow.holds Try.pinned (OpenSpec.ofChange bagErrorsSpec)

/-- ITS FALSE NEIGHBOUR: 'it returns false'. Refute it at one input. -/
def bagErrorsWrong : ChangeSpec := { name := "bagErrors", fn := fun _ => fun
  | [d1, d2, d3] => { results := [.lit (.bool false)], args := [d1, d2, d3] }
  | _ => none }
def BagErrorsWrongFalsely : Prop := bagErrorsRow.holds Try.pinned (OpenSpec.ofChange bagErrorsWrong)

/-- 'homesteadlaw09.BagAll': WHATEVER THE INPUT: true; the input reads as it did. -/
def bagAllSpec : ChangeSpec := { name := "bagAll", fn := fun _ => fun
  | [d1, d2] => { results := [.lit (.bool true)], args := [d1, d2] }
  | _ => none }
def bagAllRow : OpenClaim := { program := "ytoonapmpckeceaa", sum := "e601ca97a366ab37ac0e770acad23385ee36eb38e90c4a9fa3b96ac3e3f9577a", func := "homestead/homesteadlaw09.BagAll", spec := "bagAll", unfollowed := true, recurses := true, apart := false }
def BagAllSaid : Prop := bagAllRow.holds Try.pinned (OpenSpec.ofChange bagAllSpec)

/-- ITS FALSE NEIGHBOUR: 'it returns false'. Refute it at one input. -/
def bagAllWrong : ChangeSpec := { name := "bagAll", fn := fun _ => fun
  | [d1, d2] => { results := [.lit (.bool false)], args := [d1, d2] }
  | _ => none }
def BagAllWrongFalsely : Prop := bagAllRow.holds Try.pinned (OpenSpec.ofChange bagAllWrong)

/- THE SECOND FORM. 'bulk': how many values and letters a reading holds, each counted each time it is reached (what is shared counts as often as it is met; a slice's spare places count too). A statement '..UptoSaid' is the law's where the arguments, and the package variables that the reading takes, are together of bulk at most 1048576: NARROWER than '..Said'. Prove '..Said' where nothing that the law and all that it calls make is longer than what came in: it says more and counts as full. Else prove '..UptoSaid'. A law counts once. -/
mutual
def uptoBulk {H : Type} : DataW H → Nat
  | .lit (.string bytes) => bytes.length + 1
  | .lit _ => 1
  | .nil => 1
  | .ptr d => uptoBulk d + 1
  | .slice elems spare => uptoBulkAll elems + uptoBulkAll spare + 1
  | .agg parts => uptoBulkAll parts + 1
  | .iface _ d => uptoBulk d + 1
  | .map entries => uptoBulkEntries entries + 1
  | .held _ => 1
def uptoBulkAll {H : Type} : List (DataW H) → Nat
  | [] => 0
  | d :: r => uptoBulk d + uptoBulkAll r
def uptoBulkEntries {H : Type} : List (Lit × DataW H) → Nat
  | [] => 0
  | x :: r => uptoBulkEntry x + uptoBulkEntries r
def uptoBulkEntry {H : Type} : Lit × DataW H → Nat
  | (.string bytes, d) => bytes.length + uptoBulk d + 1
  | (_, d) => uptoBulk d + 1
 end
def uptoSmall : (H : Type) → List (DataW H) → Bool := fun _ ds => decide (uptoBulkAll ds ≤ 1048576)
def OpenSpec.upto (s : _root_.Go.ChangeSpec) : _root_.Go.OpenSpec := { _root_.Go.OpenSpec.ofChange s with cond := some uptoSmall }

/-- 'homesteadlaw09.BagRoom', WHERE WHAT IT READS IS OF BULK AT MOST 1048576: true; the input reads as it did. -/
def bagRoomUptoRow : OpenClaim := { program := "ytoonapmpckeceaa", sum := "e601ca97a366ab37ac0e770acad23385ee36eb38e90c4a9fa3b96ac3e3f9577a", func := "homestead/homesteadlaw09.BagRoom", spec := "bagRoom", unfollowed := true, recurses := true, apart := false, narrowed := true }
def BagRoomUptoSaid : Prop := bagRoomUptoRow.holds Try.pinned (OpenSpec.upto bagRoomSpec)

/-- 'homesteadlaw09.BagParts', WHERE WHAT IT READS IS OF BULK AT MOST 1048576: true; the input reads as it did. -/
def bagPartsUptoRow : OpenClaim := { program := "ytoonapmpckeceaa", sum := "e601ca97a366ab37ac0e770acad23385ee36eb38e90c4a9fa3b96ac3e3f9577a", func := "homestead/homesteadlaw09.BagParts", spec := "bagParts", unfollowed := true, recurses := true, apart := false, narrowed := true }
def BagPartsUptoSaid : Prop := bagPartsUptoRow.holds Try.pinned (OpenSpec.upto bagPartsSpec)

/-- 'homesteadlaw09.BagBack', WHERE WHAT IT READS IS OF BULK AT MOST 1048576: true; the input reads as it did. -/
def bagBackUptoRow : OpenClaim := { program := "ytoonapmpckeceaa", sum := "e601ca97a366ab37ac0e770acad23385ee36eb38e90c4a9fa3b96ac3e3f9577a", func := "homestead/homesteadlaw09.BagBack", spec := "bagBack", unfollowed := true, recurses := true, apart := false, narrowed := true }
def BagBackUptoSaid : Prop := bagBackUptoRow.holds Try.pinned (OpenSpec.upto bagBackSpec)

/-- 'homesteadlaw09.BagKeeps', WHERE WHAT IT READS IS OF BULK AT MOST 1048576: true; the input reads as it did. -/
def bagKeepsUptoRow : OpenClaim := { program := "ytoonapmpckeceaa", sum := "e601ca97a366ab37ac0e770acad23385ee36eb38e90c4a9fa3b96ac3e3f9577a", func := "homestead/homesteadlaw09.BagKeeps", spec := "bagKeeps", unfollowed := true, recurses := true, apart := false, narrowed := true }
def BagKeepsUptoSaid : Prop := bagKeepsUptoRow.holds Try.pinned (OpenSpec.upto bagKeepsSpec)

/-- 'homesteadlaw09.BagErrors', WHERE WHAT IT READS IS OF BULK AT MOST 1048576: true; the input reads as it did. -/
def bagErrorsUptoRow : OpenClaim := { program := "ytoonapmpckeceaa", sum := "e601ca97a366ab37ac0e770acad23385ee36eb38e90c4a9fa3b96ac3e3f9577a", func := "homestead/homesteadlaw09.BagErrors", spec := "bagErrors", unfollowed := true, recurses := true, apart := false, narrowed := true }
def BagErrorsUptoSaid : Prop := bagErrorsUptoRow.holds Try.pinned (OpenSpec.upto bagErrorsSpec)

/-- 'homesteadlaw09.BagAll', WHERE WHAT IT READS IS OF BULK AT MOST 1048576: true; the input reads as it did. -/
def bagAllUptoRow : OpenClaim := { program := "ytoonapmpckeceaa", sum := "e601ca97a366ab37ac0e770acad23385ee36eb38e90c4a9fa3b96ac3e3f9577a", func := "homestead/homesteadlaw09.BagAll", spec := "bagAll", unfollowed := true, recurses := true, apart := false, narrowed := true }
def BagAllUptoSaid : Prop := bagAllUptoRow.holds Try.pinned (OpenSpec.upto bagAllSpec)

end Rows
end Go.Proofs.Ytoonapmpckeceaa
