/-
  No cell of these rows narrows 'for every input' (looked for: loops, veiled, ifaces, maps, wideKeys, modest, calm, conditions, laid).
  DERIVED. THE GIVEN ROWS OF THIS SEAT. 5 by the template 'for every input the law returns true; each argument reads behind the call as it read before'; 0 by the template 'total and deterministic' (their statements: YtgkhbhddmafakaaTotals.lean).
  GIVEN WITH THE SEED: the statements are not yours to turn. If you find one false, say at which input.
  Laid BY PROGRAM, IN A SANDBOX (cutbox-rows.mjs): the forced cells as the released guide's own fill.sh prints them over the translation 0ac4488622fa2f25… (all of the seat's roots in one cut). By AI agents, Wed Nov 11 2026. No macro, syntax, notation, axiom, sorry.
-/
import Derived.Test.YtgkhbhddmafakaaChecked
import GoSem.Claim
import GoSem.ClaimJoined
import GoSem.ClaimMapViews
import Derived.JoinedTies
import Derived.KernelRfl
namespace Go.Proofs.Ytgkhbhddmafakaa
/- THE CELL 'sum', in the pinned program and in every row, IS THE sha256 OF THE DUMP (.gsa) THAT YtgkhbhddmafakaaProg.lean LOADS. Nothing in Lean hashes anything: it is a label: what it is worth is what the hold of that sum in a sandbox is worth. -/
noncomputable def Try.pinned : Pinned := { name := "ytgkhbhddmafakaa", sum := "0ac4488622fa2f25885d8d42fdf0ee7d22b8b3773b0406a475867081311ff753", checked := Try.checked }
namespace Rows
def none {H : Type} : Left H := { results := [], args := [] }

/-- 'homesteadlaw15.CommandApart': WHATEVER THE INPUT: true; the input reads as it did. -/
def commandApartSpec : ChangeSpec := { name := "commandApart", fn := fun _ => fun
  | [d1, d2] => { results := [.lit (.bool true)], args := [d1, d2] }
  | _ => none }
def commandApartRow : OpenClaim := { program := "ytgkhbhddmafakaa", sum := "0ac4488622fa2f25885d8d42fdf0ee7d22b8b3773b0406a475867081311ff753", func := "homestead/homesteadlaw15.CommandApart", spec := "commandApart", unfollowed := true, recurses := true, apart := false }
def CommandApartSaid : Prop := commandApartRow.holds Try.pinned (OpenSpec.ofChange commandApartSpec)

/-- ITS FALSE NEIGHBOUR: 'it returns false'. Refute it at one input. -/
def commandApartWrong : ChangeSpec := { name := "commandApart", fn := fun _ => fun
  | [d1, d2] => { results := [.lit (.bool false)], args := [d1, d2] }
  | _ => none }
def CommandApartWrongFalsely : Prop := commandApartRow.holds Try.pinned (OpenSpec.ofChange commandApartWrong)

/-- 'homesteadlaw15.CommandBounds': WHATEVER THE INPUT: true; the input reads as it did. -/
def commandBoundsSpec : ChangeSpec := { name := "commandBounds", fn := fun _ => fun
  | [d1, d2, d3] => { results := [.lit (.bool true)], args := [d1, d2, d3] }
  | _ => none }
def commandBoundsRow : OpenClaim := { program := "ytgkhbhddmafakaa", sum := "0ac4488622fa2f25885d8d42fdf0ee7d22b8b3773b0406a475867081311ff753", func := "homestead/homesteadlaw15.CommandBounds", spec := "commandBounds", unfollowed := true, recurses := true, apart := false }
def CommandBoundsSaid : Prop := commandBoundsRow.holds Try.pinned (OpenSpec.ofChange commandBoundsSpec)

/-- ITS FALSE NEIGHBOUR: 'it returns false'. Refute it at one input. -/
def commandBoundsWrong : ChangeSpec := { name := "commandBounds", fn := fun _ => fun
  | [d1, d2, d3] => { results := [.lit (.bool false)], args := [d1, d2, d3] }
  | _ => none }
def CommandBoundsWrongFalsely : Prop := commandBoundsRow.holds Try.pinned (OpenSpec.ofChange commandBoundsWrong)

/-- 'homesteadlaw15.CommandTells': WHATEVER THE INPUT: true; the input reads as it did. -/
def commandTellsSpec : ChangeSpec := { name := "commandTells", fn := fun _ => fun
  | [d1, d2, d3] => { results := [.lit (.bool true)], args := [d1, d2, d3] }
  | _ => none }
def commandTellsRow : OpenClaim := { program := "ytgkhbhddmafakaa", sum := "0ac4488622fa2f25885d8d42fdf0ee7d22b8b3773b0406a475867081311ff753", func := "homestead/homesteadlaw15.CommandTells", spec := "commandTells", unfollowed := true, recurses := true, apart := false }
def CommandTellsSaid : Prop := commandTellsRow.holds Try.pinned (OpenSpec.ofChange commandTellsSpec)

/-- ITS FALSE NEIGHBOUR: 'it returns false'. Refute it at one input. -/
def commandTellsWrong : ChangeSpec := { name := "commandTells", fn := fun _ => fun
  | [d1, d2, d3] => { results := [.lit (.bool false)], args := [d1, d2, d3] }
  | _ => none }
def CommandTellsWrongFalsely : Prop := commandTellsRow.holds Try.pinned (OpenSpec.ofChange commandTellsWrong)

/-- 'homesteadlaw15.CommandBack': WHATEVER THE INPUT: true; the input reads as it did. -/
def commandBackSpec : ChangeSpec := { name := "commandBack", fn := fun _ => fun
  | [d1, d2, d3] => { results := [.lit (.bool true)], args := [d1, d2, d3] }
  | _ => none }
def commandBackRow : OpenClaim := { program := "ytgkhbhddmafakaa", sum := "0ac4488622fa2f25885d8d42fdf0ee7d22b8b3773b0406a475867081311ff753", func := "homestead/homesteadlaw15.CommandBack", spec := "commandBack", unfollowed := true, recurses := true, apart := false }
def CommandBackSaid : Prop := commandBackRow.holds Try.pinned (OpenSpec.ofChange commandBackSpec)

/-- ITS FALSE NEIGHBOUR: 'it returns false'. Refute it at one input. -/
def commandBackWrong : ChangeSpec := { name := "commandBack", fn := fun _ => fun
  | [d1, d2, d3] => { results := [.lit (.bool false)], args := [d1, d2, d3] }
  | _ => none }
def CommandBackWrongFalsely : Prop := commandBackRow.holds Try.pinned (OpenSpec.ofChange commandBackWrong)

/-- 'homesteadlaw15.CommandLists': WHATEVER THE INPUT: true; the input reads as it did. -/
def commandListsSpec : ChangeSpec := { name := "commandLists", fn := fun _ => fun
  | [d1, d2, d3] => { results := [.lit (.bool true)], args := [d1, d2, d3] }
  | _ => none }
def commandListsRow : OpenClaim := { program := "ytgkhbhddmafakaa", sum := "0ac4488622fa2f25885d8d42fdf0ee7d22b8b3773b0406a475867081311ff753", func := "homestead/homesteadlaw15.CommandLists", spec := "commandLists", unfollowed := true, recurses := true, apart := false }
def CommandListsSaid : Prop := commandListsRow.holds Try.pinned (OpenSpec.ofChange commandListsSpec)

/-- ITS FALSE NEIGHBOUR: 'it returns false'. Refute it at one input. -/
def commandListsWrong : ChangeSpec := { name := "commandLists", fn := fun _ => fun
  | [d1, d2, d3] => { results := [.lit (.bool false)], args := [d1, d2, d3] }
  | _ => none }
def CommandListsWrongFalsely : Prop := commandListsRow.holds Try.pinned (OpenSpec.ofChange commandListsWrong)

/- THE SECOND FORM. 'bulk': how many values and letters a reading holds, each counted each time it is reached (what is shared counts as often as it is met; a slice's spare places count too). A statement '..UptoSaid' is the law's where the arguments, and the package variables that the reading takes, are together of bulk at most 1048576: NARROWER than '..Said'. Prove '..Said' where nothing that the law and all that it calls make is longer than what came in: it says more and counts as full. Else prove '..UptoSaid'. A law counts once. -/
mutual
def uptoBulk {H : Type} : DataW H → Nat
  | .lit (.string bytes) => bytes.length + 1
  | .lit _ => 1
  | .nil => 1
  | .ptr d => uptoBulk d + 1
  | .slice elems spare => uptoBulkAll elems + uptoBulkAll spare + 1
  | .agg parts => uptoBulkAll parts + 1
  | .iface _ d => uptoBulk d + 1
  | .map entries => uptoBulkEntries entries + 1
  | .held _ => 1
def uptoBulkAll {H : Type} : List (DataW H) → Nat
  | [] => 0
  | d :: r => uptoBulk d + uptoBulkAll r
def uptoBulkEntries {H : Type} : List (Lit × DataW H) → Nat
  | [] => 0
  | x :: r => uptoBulkEntry x + uptoBulkEntries r
def uptoBulkEntry {H : Type} : Lit × DataW H → Nat
  | (.string bytes, d) => bytes.length + uptoBulk d + 1
  | (_, d) => uptoBulk d + 1
 end
def uptoSmall : (H : Type) → List (DataW H) → Bool := fun _ ds => decide (uptoBulkAll ds ≤ 1048576)
def OpenSpec.upto (s : _root_.Go.ChangeSpec) : _root_.Go.OpenSpec := { _root_.Go.OpenSpec.ofChange s with cond := some uptoSmall }

/-- 'homesteadlaw15.CommandApart', WHERE WHAT IT READS IS OF BULK AT MOST 1048576: true; the input reads as it did. -/
def commandApartUptoRow : OpenClaim := { program := "ytgkhbhddmafakaa", sum := "0ac4488622fa2f25885d8d42fdf0ee7d22b8b3773b0406a475867081311ff753", func := "homestead/homesteadlaw15.CommandApart", spec := "commandApart", unfollowed := true, recurses := true, apart := false, narrowed := true }
def CommandApartUptoSaid : Prop := commandApartUptoRow.holds Try.pinned (OpenSpec.upto commandApartSpec)

/-- 'homesteadlaw15.CommandBounds', WHERE WHAT IT READS IS OF BULK AT MOST 1048576: true; the input reads as it did. -/
def commandBoundsUptoRow : OpenClaim := { program := "ytgkhbhddmafakaa", sum := "0ac4488622fa2f25885d8d42fdf0ee7d22b8b3773b0406a475867081311ff753", func := "homestead/homesteadlaw15.CommandBounds", spec := "commandBounds", unfollowed := true, recurses := true, apart := false, narrowed := true }
def CommandBoundsUptoSaid : Prop := commandBoundsUptoRow.holds Try.pinned (OpenSpec.upto commandBoundsSpec)

/-- 'homesteadlaw15.CommandTells', WHERE WHAT IT READS IS OF BULK AT MOST 1048576: true; the input reads as it did. -/
def commandTellsUptoRow : OpenClaim := { program := "ytgkhbhddmafakaa", sum := "0ac4488622fa2f25885d8d42fdf0ee7d22b8b3773b0406a475867081311ff753", func := "homestead/homesteadlaw15.CommandTells", spec := "commandTells", unfollowed := true, recurses := true, apart := false, narrowed := true }
def CommandTellsUptoSaid : Prop := commandTellsUptoRow.holds Try.pinned (OpenSpec.upto commandTellsSpec)

/-- 'homesteadlaw15.CommandBack', WHERE WHAT IT READS IS OF BULK AT MOST 1048576: true; the input reads as it did. -/
def commandBackUptoRow : OpenClaim := { program := "ytgkhbhddmafakaa", sum := "0ac4488622fa2f25885d8d42fdf0ee7d22b8b3773b0406a475867081311ff753", func := "homestead/homesteadlaw15.CommandBack", spec := "commandBack", unfollowed := true, recurses := true, apart := false, narrowed := true }
def CommandBackUptoSaid : Prop := commandBackUptoRow.holds Try.pinned (OpenSpec.upto commandBackSpec)

/-- 'homesteadlaw15.CommandLists', WHERE WHAT IT READS IS OF BULK AT MOST 1048576: true; the input reads as it did. -/
def commandListsUptoRow : OpenClaim := { program := "ytgkhbhddmafakaa", sum := "0ac4488622fa2f25885d8d42fdf0ee7d22b8b3773b0406a475867081311ff753", func := "homestead/homesteadlaw15.CommandLists", spec := "commandLists", unfollowed := true, recurses := true, apart := false, narrowed := true }
def CommandListsUptoSaid : Prop := commandListsUptoRow.holds Try.pinned (OpenSpec.upto commandListsSpec)

end Rows
end Go.Proofs.Ytgkhbhddmafakaa
