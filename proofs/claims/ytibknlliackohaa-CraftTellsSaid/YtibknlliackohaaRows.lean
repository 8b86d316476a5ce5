/-
  No cell of these rows narrows 'for every input' (looked for: loops, veiled, ifaces, maps, wideKeys, modest, calm, conditions, laid).
  DERIVED. THE GIVEN ROWS OF THIS SEAT. 6 by the template 'for every input the law returns true; each argument reads behind the call as it read before'; 0 by the template 'total and deterministic' (their statements: YtibknlliackohaaTotals.lean).
  GIVEN WITH THE SEED: the statements are not yours to turn. If you find one false, say at which input.
  Laid BY PROGRAM, IN A SANDBOX (cutbox-rows.mjs): the forced cells as the released guide's own fill.sh prints them over the translation 275079e961d10031… (all of the seat's roots in one cut). By AI agents, Wed Nov 11 2026. No macro, syntax, notation, axiom, sorry.
-/
import Derived.Test.YtibknlliackohaaChecked
import GoSem.Claim
import GoSem.ClaimJoined
import GoSem.ClaimMapViews
import Derived.JoinedTies
import Derived.KernelRfl
namespace Go.Proofs.Ytibknlliackohaa
/- THE CELL 'sum', in the pinned program and in every row, IS THE sha256 OF THE DUMP (.gsa) THAT YtibknlliackohaaProg.lean LOADS. Nothing in Lean hashes anything: it is a label: what it is worth is what the hold of that sum in a sandbox is worth. -/
noncomputable def Try.pinned : Pinned := { name := "ytibknlliackohaa", sum := "275079e961d10031910f81bfc6b4bc1b91403b672cd6cad17d258843fa2d3969", checked := Try.checked }
namespace Rows
def none {H : Type} : Left H := { results := [], args := [] }

/-- 'homesteadlaw10.CraftTells': WHATEVER THE INPUT: true; the input reads as it did. -/
def craftTellsSpec : ChangeSpec := { name := "craftTells", fn := fun _ => fun
  | [d1, d2] => { results := [.lit (.bool true)], args := [d1, d2] }
  | _ => none }
def craftTellsRow : OpenClaim := { program := "ytibknlliackohaa", sum := "275079e961d10031910f81bfc6b4bc1b91403b672cd6cad17d258843fa2d3969", func := "homestead/homesteadlaw10.CraftTells", spec := "craftTells", unfollowed := true, recurses := true, apart := false }
def CraftTellsSaid : Prop := craftTellsRow.holds Try.pinned (OpenSpec.ofChange craftTellsSpec)

/-- ITS FALSE NEIGHBOUR: 'it returns false'. Refute it at one input. -/
def craftTellsWrong : ChangeSpec := { name := "craftTells", fn := fun _ => fun
  | [d1, d2] => { results := [.lit (.bool false)], args := [d1, d2] }
  | _ => none }
def CraftTellsWrongFalsely : Prop := craftTellsRow.holds Try.pinned (OpenSpec.ofChange craftTellsWrong)

/-- 'homesteadlaw10.CraftTrades': WHATEVER THE INPUT: true; the input reads as it did. -/
def craftTradesSpec : ChangeSpec := { name := "craftTrades", fn := fun _ => fun
  | [d1, d2] => { results := [.lit (.bool true)], args := [d1, d2] }
  | _ => none }
def craftTradesRow : OpenClaim := { program := "ytibknlliackohaa", sum := "275079e961d10031910f81bfc6b4bc1b91403b672cd6cad17d258843fa2d3969", func := "homestead/homesteadlaw10.CraftTrades", spec := "craftTrades", unfollowed := true, recurses := true, apart := false }
def CraftTradesSaid : Prop := craftTradesRow.holds Try.pinned (OpenSpec.ofChange craftTradesSpec)

/-- ITS FALSE NEIGHBOUR: 'it returns false'. Refute it at one input. -/
def craftTradesWrong : ChangeSpec := { name := "craftTrades", fn := fun _ => fun
  | [d1, d2] => { results := [.lit (.bool false)], args := [d1, d2] }
  | _ => none }
def CraftTradesWrongFalsely : Prop := craftTradesRow.holds Try.pinned (OpenSpec.ofChange craftTradesWrong)

/-- 'homesteadlaw10.CraftErrors': WHATEVER THE INPUT: true; the input reads as it did. -/
def craftErrorsSpec : ChangeSpec := { name := "craftErrors", fn := fun _ => fun
  | [d1, d2] => { results := [.lit (.bool true)], args := [d1, d2] }
  | _ => none }
def craftErrorsRow : OpenClaim := { program := "ytibknlliackohaa", sum := "275079e961d10031910f81bfc6b4bc1b91403b672cd6cad17d258843fa2d3969", func := "homestead/homesteadlaw10.CraftErrors", spec := "craftErrors", unfollowed := true, recurses := true, apart := false }
def CraftErrorsSaid : Prop := craftErrorsRow.holds Try.pinned (OpenSpec.ofChange craftErrorsSpec)

/-- ITS FALSE NEIGHBOUR: 'it returns false'. Refute it at one input. -/
def craftErrorsWrong : ChangeSpec := { name := "craftErrors", fn := fun _ => fun
  | [d1, d2] => { results := [.lit (.bool false)], args := [d1, d2] }
  | _ => none }
def CraftErrorsWrongFalsely : Prop := craftErrorsRow.holds Try.pinned (OpenSpec.ofChange craftErrorsWrong)

/-- 'homesteadlaw10.CraftMore': WHATEVER THE INPUT: true; the input reads as it did. -/
def craftMoreSpec : ChangeSpec := { name := "craftMore", fn := fun _ => fun
  | [d1, d2] => { results := [.lit (.bool true)], args := [d1, d2] }
  | _ => none }
def craftMoreRow : OpenClaim := { program := "ytibknlliackohaa", sum := "275079e961d10031910f81bfc6b4bc1b91403b672cd6cad17d258843fa2d3969", func := "homestead/homesteadlaw10.CraftMore", spec := "craftMore", unfollowed := true, recurses := true, apart := false }
def CraftMoreSaid : Prop := craftMoreRow.holds Try.pinned (OpenSpec.ofChange craftMoreSpec)

/-- ITS FALSE NEIGHBOUR: 'it returns false'. Refute it at one input. -/
def craftMoreWrong : ChangeSpec := { name := "craftMore", fn := fun _ => fun
  | [d1, d2] => { results := [.lit (.bool false)], args := [d1, d2] }
  | _ => none }
def CraftMoreWrongFalsely : Prop := craftMoreRow.holds Try.pinned (OpenSpec.ofChange craftMoreWrong)

/-- 'homesteadlaw10.CraftCan': WHATEVER THE INPUT: true; the input reads as it did. -/
def craftCanSpec : ChangeSpec := { name := "craftCan", fn := fun _ => fun
  | [d] => { results := [.lit (.bool true)], args := [d] }
  | _ => none }
def craftCanRow : OpenClaim := { program := "ytibknlliackohaa", sum := "275079e961d10031910f81bfc6b4bc1b91403b672cd6cad17d258843fa2d3969", func := "homestead/homesteadlaw10.CraftCan", spec := "craftCan", unfollowed := true, recurses := true, apart := false }
def CraftCanSaid : Prop := craftCanRow.holds Try.pinned (OpenSpec.ofChange craftCanSpec)

/-- ITS FALSE NEIGHBOUR: 'it returns false'. Refute it at one input. -/
def craftCanWrong : ChangeSpec := { name := "craftCan", fn := fun _ => fun
  | [d] => { results := [.lit (.bool false)], args := [d] }
  | _ => none }
def CraftCanWrongFalsely : Prop := craftCanRow.holds Try.pinned (OpenSpec.ofChange craftCanWrong)

/-- 'homesteadlaw10.CraftChains': WHATEVER THE INPUT: true; the input reads as it did. -/
def craftChainsSpec : ChangeSpec := { name := "craftChains", fn := fun _ => fun
  | [d1, d2, d3] => { results := [.lit (.bool true)], args := [d1, d2, d3] }
  | _ => none }
def craftChainsRow : OpenClaim := { program := "ytibknlliackohaa", sum := "275079e961d10031910f81bfc6b4bc1b91403b672cd6cad17d258843fa2d3969", func := "homestead/homesteadlaw10.CraftChains", spec := "craftChains", unfollowed := true, recurses := true, apart := false }
def CraftChainsSaid : Prop := craftChainsRow.holds Try.pinned (OpenSpec.ofChange craftChainsSpec)

/-- ITS FALSE NEIGHBOUR: 'it returns false'. Refute it at one input. -/
def craftChainsWrong : ChangeSpec := { name := "craftChains", fn := fun _ => fun
  | [d1, d2, d3] => { results := [.lit (.bool false)], args := [d1, d2, d3] }
  | _ => none }
def CraftChainsWrongFalsely : Prop := craftChainsRow.holds Try.pinned (OpenSpec.ofChange craftChainsWrong)

/- THE SECOND FORM. 'bulk': how many values and letters a reading holds, each counted each time it is reached (what is shared counts as often as it is met; a slice's spare places count too). A statement '..UptoSaid' is the law's where the arguments, and the package variables that the reading takes, are together of bulk at most 1048576: NARROWER than '..Said'. Prove '..Said' where nothing that the law and all that it calls make is longer than what came in: it says more and counts as full. Else prove '..UptoSaid'. A law counts once. -/
mutual
def uptoBulk {H : Type} : DataW H → Nat
  | .lit (.string bytes) => bytes.length + 1
  | .lit _ => 1
  | .nil => 1
  | .ptr d => uptoBulk d + 1
  | .slice elems spare => uptoBulkAll elems + uptoBulkAll spare + 1
  | .agg parts => uptoBulkAll parts + 1
  | .iface _ d => uptoBulk d + 1
  | .map entries => uptoBulkEntries entries + 1
  | .held _ => 1
def uptoBulkAll {H : Type} : List (DataW H) → Nat
  | [] => 0
  | d :: r => uptoBulk d + uptoBulkAll r
def uptoBulkEntries {H : Type} : List (Lit × DataW H) → Nat
  | [] => 0
  | x :: r => uptoBulkEntry x + uptoBulkEntries r
def uptoBulkEntry {H : Type} : Lit × DataW H → Nat
  | (.string bytes, d) => bytes.length + uptoBulk d + 1
  | (_, d) => uptoBulk d + 1
 end
def uptoSmall : (H : Type) → List (DataW H) → Bool := fun _ ds => decide (uptoBulkAll ds ≤ 1048576)
def OpenSpec.upto (s : _root_.Go.ChangeSpec) : _root_.Go.OpenSpec := { _root_.Go.OpenSpec.ofChange s with cond := some uptoSmall }

/-- 'homesteadlaw10.CraftTells', WHERE WHAT IT READS IS OF BULK AT MOST 1048576: true; the input reads as it did. -/
def craftTellsUptoRow : OpenClaim := { program := "ytibknlliackohaa", sum := "275079e961d10031910f81bfc6b4bc1b91403b672cd6cad17d258843fa2d3969", func := "homestead/homesteadlaw10.CraftTells", spec := "craftTells", unfollowed := true, recurses := true, apart := false, narrowed := true }
def CraftTellsUptoSaid : Prop := craftTellsUptoRow.holds Try.pinned (OpenSpec.upto craftTellsSpec)

/-- 'homesteadlaw10.CraftTrades', WHERE WHAT IT READS IS OF BULK AT MOST 1048576: true; the input reads as it did. -/
def craftTradesUptoRow : OpenClaim := { program := "ytibknlliackohaa", sum := "275079e961d10031910f81bfc6b4bc1b91403b672cd6cad17d258843fa2d3969", func := "homestead/homesteadlaw10.CraftTrades", spec := "craftTrades", unfollowed := true, recurses := true, apart := false, narrowed := true }
def CraftTradesUptoSaid : Prop := craftTradesUptoRow.holds Try.pinned (OpenSpec.upto craftTradesSpec)

/-- 'homesteadlaw10.CraftErrors', WHERE WHAT IT READS IS OF BULK AT MOST 1048576: true; the input reads as it did. -/
def craftErrorsUptoRow : OpenClaim := { program := "ytibknlliackohaa", sum := "275079e961d10031910f81bfc6b4bc1b91403b672cd6cad17d258843fa2d3969", func := "homestead/homesteadlaw10.CraftErrors", spec := "craftErrors", unfollowed := true, recurses := true, apart := false, narrowed := true }
def CraftErrorsUptoSaid : Prop := craftErrorsUptoRow.holds Try.pinned (OpenSpec.upto craftErrorsSpec)

/-- 'homesteadlaw10.CraftMore', WHERE WHAT IT READS IS OF BULK AT MOST 1048576: true; the input reads as it did. -/
def craftMoreUptoRow : OpenClaim := { program := "ytibknlliackohaa", sum := "275079e961d10031910f81bfc6b4bc1b91403b672cd6cad17d258843fa2d3969", func := "homestead/homesteadlaw10.CraftMore", spec := "craftMore", unfollowed := true, recurses := true, apart := false, narrowed := true }
def CraftMoreUptoSaid : Prop := craftMoreUptoRow.holds Try.pinned (OpenSpec.upto craftMoreSpec)

/-- 'homesteadlaw10.CraftCan', WHERE WHAT IT READS IS OF BULK AT MOST 1048576: true; the input reads as it did. -/
def craftCanUptoRow : OpenClaim := { program := "ytibknlliackohaa", sum := "275079e961d10031910f81bfc6b4bc1b91403b672cd6cad17d258843fa2d3969", func := "homestead/homesteadlaw10.CraftCan", spec := "craftCan", unfollowed := true, recurses := true, apart := false, narrowed := true }
def CraftCanUptoSaid : Prop := craftCanUptoRow.holds Try.pinned (OpenSpec.upto craftCanSpec)

/-- 'homesteadlaw10.CraftChains', WHERE WHAT IT READS IS OF BULK AT MOST 1048576: true; the input reads as it did. -/
def craftChainsUptoRow : OpenClaim := { program := "ytibknlliackohaa", sum := "275079e961d10031910f81bfc6b4bc1b91403b672cd6cad17d258843fa2d3969", func := "homestead/homesteadlaw10.CraftChains", spec := "craftChains", unfollowed := true, recurses := true, apart := false, narrowed := true }
def CraftChainsUptoSaid : Prop := craftChainsUptoRow.holds Try.pinned (OpenSpec.upto craftChainsSpec)

end Rows
end Go.Proofs.Ytibknlliackohaa
