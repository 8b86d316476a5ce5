/-
  No cell of these rows narrows 'for every input' (looked for: loops, veiled, ifaces, maps, wideKeys, modest, calm, conditions, laid).
  DERIVED. THE GIVEN ROWS OF THIS SEAT. 8 by the template 'for every input the law returns true; each argument reads behind the call as it read before'; 0 by the template 'total and deterministic' (their statements: YtjnnfehepbicfaaTotals.lean).
  GIVEN WITH THE SEED: the statements are not yours to turn. If you find one false, say at which input.
  Laid BY PROGRAM, IN A SANDBOX (cutbox-rows.mjs): the forced cells as the released guide's own fill.sh prints them over the translation 19bdf663991f11c4… (all of the seat's roots in one cut). By AI agents, Wed Nov 11 2026. No macro, syntax, notation, axiom, sorry.
-/
import Derived.Test.YtjnnfehepbicfaaChecked
import GoSem.Claim
import GoSem.ClaimJoined
import GoSem.ClaimMapViews
import Derived.JoinedTies
import Derived.KernelRfl
namespace Go.Proofs.Ytjnnfehepbicfaa
/- THE CELL 'sum', in the pinned program and in every row, IS THE sha256 OF THE DUMP (.gsa) THAT YtjnnfehepbicfaaProg.lean LOADS. Nothing in Lean hashes anything: it is a label: what it is worth is what the hold of that sum in a sandbox is worth. -/
noncomputable def Try.pinned : Pinned := { name := "ytjnnfehepbicfaa", sum := "19bdf663991f11c4731cd0d98431b5f493909fcd75c3ffa005d3527fc3e36982", checked := Try.checked }
namespace Rows
def none {H : Type} : Left H := { results := [], args := [] }

/-- 'homesteadlaw07.NetFixed': WHATEVER THE INPUT: true; the input reads as it did. -/
def netFixedSpec : ChangeSpec := { name := "netFixed", fn := fun _ => fun
  | [] => { results := [.lit (.bool true)], args := [] }
  | _ => none }
def netFixedRow : OpenClaim := { program := "ytjnnfehepbicfaa", sum := "19bdf663991f11c4731cd0d98431b5f493909fcd75c3ffa005d3527fc3e36982", func := "homestead/homesteadlaw07.NetFixed", spec := "netFixed", unfollowed := true, recurses := true, apart := false }
def NetFixedSaid : Prop := netFixedRow.holds Try.pinned (OpenSpec.ofChange netFixedSpec)

/-- ITS FALSE NEIGHBOUR: 'it returns false'. Refute it at one input. -/
def netFixedWrong : ChangeSpec := { name := "netFixed", fn := fun _ => fun
  | [] => { results := [.lit (.bool false)], args := [] }
  | _ => none }
def NetFixedWrongFalsely : Prop := netFixedRow.holds Try.pinned (OpenSpec.ofChange netFixedWrong)

/-- 'homesteadlaw07.NetTells': WHATEVER THE INPUT: true; the input reads as it did. -/
def netTellsSpec : ChangeSpec := { name := "netTells", fn := fun _ => fun
  | [d1, d2] => { results := [.lit (.bool true)], args := [d1, d2] }
  | _ => none }
def netTellsRow : OpenClaim := { program := "ytjnnfehepbicfaa", sum := "19bdf663991f11c4731cd0d98431b5f493909fcd75c3ffa005d3527fc3e36982", func := "homestead/homesteadlaw07.NetTells", spec := "netTells", unfollowed := true, recurses := true, apart := false }
def NetTellsSaid : Prop := netTellsRow.holds Try.pinned (OpenSpec.ofChange netTellsSpec)

/-- ITS FALSE NEIGHBOUR: 'it returns false'. Refute it at one input. -/
def netTellsWrong : ChangeSpec := { name := "netTells", fn := fun _ => fun
  | [d1, d2] => { results := [.lit (.bool false)], args := [d1, d2] }
  | _ => none }
def NetTellsWrongFalsely : Prop := netTellsRow.holds Try.pinned (OpenSpec.ofChange netTellsWrong)

/-- 'homesteadlaw07.NetNone': WHATEVER THE INPUT: true; the input reads as it did. -/
def netNoneSpec : ChangeSpec := { name := "netNone", fn := fun _ => fun
  | [d1, d2, d3] => { results := [.lit (.bool true)], args := [d1, d2, d3] }
  | _ => none }
def netNoneRow : OpenClaim := { program := "ytjnnfehepbicfaa", sum := "19bdf663991f11c4731cd0d98431b5f493909fcd75c3ffa005d3527fc3e36982", func := "homestead/homesteadlaw07.NetNone", spec := "netNone", unfollowed := true, recurses := true, apart := false }
def NetNoneSaid : Prop := netNoneRow.holds Try.pinned (OpenSpec.ofChange netNoneSpec)

/-- ITS FALSE NEIGHBOUR: 'it returns false'. Refute it at one input. -/
def netNoneWrong : ChangeSpec := { name := "netNone", fn := fun _ => fun
  | [d1, d2, d3] => { results := [.lit (.bool false)], args := [d1, d2, d3] }
  | _ => none }
def NetNoneWrongFalsely : Prop := netNoneRow.holds Try.pinned (OpenSpec.ofChange netNoneWrong)

/-- 'homesteadlaw07.NetOrder': WHATEVER THE INPUT: true; the input reads as it did. -/
def netOrderSpec : ChangeSpec := { name := "netOrder", fn := fun _ => fun
  | [d] => { results := [.lit (.bool true)], args := [d] }
  | _ => none }
def netOrderRow : OpenClaim := { program := "ytjnnfehepbicfaa", sum := "19bdf663991f11c4731cd0d98431b5f493909fcd75c3ffa005d3527fc3e36982", func := "homestead/homesteadlaw07.NetOrder", spec := "netOrder", unfollowed := true, recurses := true, apart := false }
def NetOrderSaid : Prop := netOrderRow.holds Try.pinned (OpenSpec.ofChange netOrderSpec)

/-- ITS FALSE NEIGHBOUR: 'it returns false'. Refute it at one input. -/
def netOrderWrong : ChangeSpec := { name := "netOrder", fn := fun _ => fun
  | [d] => { results := [.lit (.bool false)], args := [d] }
  | _ => none }
def NetOrderWrongFalsely : Prop := netOrderRow.holds Try.pinned (OpenSpec.ofChange netOrderWrong)

/-- 'homesteadlaw07.NetMoved': WHATEVER THE INPUT: true; the input reads as it did. -/
def netMovedSpec : ChangeSpec := { name := "netMoved", fn := fun _ => fun
  | [d1, d2] => { results := [.lit (.bool true)], args := [d1, d2] }
  | _ => none }
def netMovedRow : OpenClaim := { program := "ytjnnfehepbicfaa", sum := "19bdf663991f11c4731cd0d98431b5f493909fcd75c3ffa005d3527fc3e36982", func := "homestead/homesteadlaw07.NetMoved", spec := "netMoved", unfollowed := true, recurses := true, apart := false }
def NetMovedSaid : Prop := netMovedRow.holds Try.pinned (OpenSpec.ofChange netMovedSpec)

/-- ITS FALSE NEIGHBOUR: 'it returns false'. Refute it at one input. -/
def netMovedWrong : ChangeSpec := { name := "netMoved", fn := fun _ => fun
  | [d1, d2] => { results := [.lit (.bool false)], args := [d1, d2] }
  | _ => none }
def NetMovedWrongFalsely : Prop := netMovedRow.holds Try.pinned (OpenSpec.ofChange netMovedWrong)

/-- 'homesteadlaw07.NetSieve': WHATEVER THE INPUT: true; the input reads as it did. -/
def netSieveSpec : ChangeSpec := { name := "netSieve", fn := fun _ => fun
  | [d1, d2, d3, d4] => { results := [.lit (.bool true)], args := [d1, d2, d3, d4] }
  | _ => none }
def netSieveRow : OpenClaim := { program := "ytjnnfehepbicfaa", sum := "19bdf663991f11c4731cd0d98431b5f493909fcd75c3ffa005d3527fc3e36982", func := "homestead/homesteadlaw07.NetSieve", spec := "netSieve", unfollowed := true, recurses := true, apart := false }
def NetSieveSaid : Prop := netSieveRow.holds Try.pinned (OpenSpec.ofChange netSieveSpec)

/-- ITS FALSE NEIGHBOUR: 'it returns false'. Refute it at one input. -/
def netSieveWrong : ChangeSpec := { name := "netSieve", fn := fun _ => fun
  | [d1, d2, d3, d4] => { results := [.lit (.bool false)], args := [d1, d2, d3, d4] }
  | _ => none }
def NetSieveWrongFalsely : Prop := netSieveRow.holds Try.pinned (OpenSpec.ofChange netSieveWrong)

/-- 'homesteadlaw07.NetStill': WHATEVER THE INPUT: true; the input reads as it did. -/
def netStillSpec : ChangeSpec := { name := "netStill", fn := fun _ => fun
  | [d1, d2, d3] => { results := [.lit (.bool true)], args := [d1, d2, d3] }
  | _ => none }
def netStillRow : OpenClaim := { program := "ytjnnfehepbicfaa", sum := "19bdf663991f11c4731cd0d98431b5f493909fcd75c3ffa005d3527fc3e36982", func := "homestead/homesteadlaw07.NetStill", spec := "netStill", unfollowed := true, recurses := true, apart := false }
def NetStillSaid : Prop := netStillRow.holds Try.pinned (OpenSpec.ofChange netStillSpec)

/-- ITS FALSE NEIGHBOUR: 'it returns false'. Refute it at one input. -/
def netStillWrong : ChangeSpec := { name := "netStill", fn := fun _ => fun
  | [d1, d2, d3] => { results := [.lit (.bool false)], args := [d1, d2, d3] }
  | _ => none }
def NetStillWrongFalsely : Prop := netStillRow.holds Try.pinned (OpenSpec.ofChange netStillWrong)

/-- 'homesteadlaw07.NetOwn': WHATEVER THE INPUT: true; the input reads as it did. -/
def netOwnSpec : ChangeSpec := { name := "netOwn", fn := fun _ => fun
  | [d] => { results := [.lit (.bool true)], args := [d] }
  | _ => none }
def netOwnRow : OpenClaim := { program := "ytjnnfehepbicfaa", sum := "19bdf663991f11c4731cd0d98431b5f493909fcd75c3ffa005d3527fc3e36982", func := "homestead/homesteadlaw07.NetOwn", spec := "netOwn", unfollowed := true, recurses := true, apart := false }
def NetOwnSaid : Prop := netOwnRow.holds Try.pinned (OpenSpec.ofChange netOwnSpec)

/-- ITS FALSE NEIGHBOUR: 'it returns false'. Refute it at one input. -/
def netOwnWrong : ChangeSpec := { name := "netOwn", fn := fun _ => fun
  | [d] => { results := [.lit (.bool false)], args := [d] }
  | _ => none }
def NetOwnWrongFalsely : Prop := netOwnRow.holds Try.pinned (OpenSpec.ofChange netOwnWrong)

/- THE SECOND FORM. 'bulk': how many values and letters a reading holds, each counted each time it is reached (what is shared counts as often as it is met; a slice's spare places count too). A statement '..UptoSaid' is the law's where the arguments, and the package variables that the reading takes, are together of bulk at most 1048576: NARROWER than '..Said'. Prove '..Said' where nothing that the law and all that it calls make is longer than what came in: it says more and counts as full. Else prove '..UptoSaid'. A law counts once. -/
mutual
def uptoBulk {H : Type} : DataW H → Nat
  | .lit (.string bytes) => bytes.length + 1
  | .lit _ => 1
  | .nil => 1
  | .ptr d => uptoBulk d + 1
  | .slice elems spare => uptoBulkAll elems + uptoBulkAll spare + 1
  | .agg parts => uptoBulkAll parts + 1
  | .iface _ d => uptoBulk d + 1
  | .map entries => uptoBulkEntries entries + 1
  | .held _ => 1
def uptoBulkAll {H : Type} : List (DataW H) → Nat
  | [] => 0
  | d :: r => uptoBulk d + uptoBulkAll r
def uptoBulkEntries {H : Type} : List (Lit × DataW H) → Nat
  | [] => 0
  | x :: r => uptoBulkEntry x + uptoBulkEntries r
def uptoBulkEntry {H : Type} : Lit × DataW H → Nat
  | (.string bytes, d) => bytes.length + uptoBulk d + 1
  | (_, d) => uptoBulk d + 1
 end
def uptoSmall : (H : Type) → List (DataW H) → Bool := fun _ ds => decide (uptoBulkAll ds ≤ 1048576)
def OpenSpec.upto (s : _root_.Go.ChangeSpec) : _root_.Go.OpenSpec := { _root_.Go.OpenSpec.ofChange s with cond := some uptoSmall }

/-- 'homesteadlaw07.NetFixed', WHERE WHAT IT READS IS OF BULK AT MOST 1048576: true; the input reads as it did. -/
def netFixedUptoRow : OpenClaim := { program := "ytjnnfehepbicfaa", sum := "19bdf663991f11c4731cd0d98431b5f493909fcd75c3ffa005d3527fc3e36982", func := "homestead/homesteadlaw07.NetFixed", spec := "netFixed", unfollowed := true, recurses := true, apart := false, narrowed := true }
def NetFixedUptoSaid : Prop := netFixedUptoRow.holds Try.pinned (OpenSpec.upto netFixedSpec)

/-- 'homesteadlaw07.NetTells', WHERE WHAT IT READS IS OF BULK AT MOST 1048576: true; the input reads as it did. -/
def netTellsUptoRow : OpenClaim := { program := "ytjnnfehepbicfaa", sum := "19bdf663991f11c4731cd0d98431b5f493909fcd75c3ffa005d3527fc3e36982", func := "homestead/homesteadlaw07.NetTells", spec := "netTells", unfollowed := true, recurses := true, apart := false, narrowed := true }
def NetTellsUptoSaid : Prop := netTellsUptoRow.holds Try.pinned (OpenSpec.upto netTellsSpec)

/-- 'homesteadlaw07.NetNone', WHERE WHAT IT READS IS OF BULK AT MOST 1048576: true; the input reads as it did. -/
def netNoneUptoRow : OpenClaim := { program := "ytjnnfehepbicfaa", sum := "19bdf663991f11c4731cd0d98431b5f493909fcd75c3ffa005d3527fc3e36982", func := "homestead/homesteadlaw07.NetNone", spec := "netNone", unfollowed := true, recurses := true, apart := false, narrowed := true }
def NetNoneUptoSaid : Prop := netNoneUptoRow.holds Try.pinned (OpenSpec.upto netNoneSpec)

/-- 'homesteadlaw07.NetOrder', WHERE WHAT IT READS IS OF BULK AT MOST 1048576: true; the input reads as it did. -/
def netOrderUptoRow : OpenClaim := { program := "ytjnnfehepbicfaa", sum := "19bdf663991f11c4731cd0d98431b5f493909fcd75c3ffa005d3527fc3e36982", func := "homestead/homesteadlaw07.NetOrder", spec := "netOrder", unfollowed := true, recurses := true, apart := false, narrowed := true }
def NetOrderUptoSaid : Prop := netOrderUptoRow.holds Try.pinned (OpenSpec.upto netOrderSpec)

/-- 'homesteadlaw07.NetMoved', WHERE WHAT IT READS IS OF BULK AT MOST 1048576: true; the input reads as it did. -/
def netMovedUptoRow : OpenClaim := { program := "ytjnnfehepbicfaa", sum := "19bdf663991f11c4731cd0d98431b5f493909fcd75c3ffa005d3527fc3e36982", func := "homestead/homesteadlaw07.NetMoved", spec := "netMoved", unfollowed := true, recurses := true, apart := false, narrowed := true }
def NetMovedUptoSaid : Prop := netMovedUptoRow.holds Try.pinned (OpenSpec.upto netMovedSpec)

/-- 'homesteadlaw07.NetSieve', WHERE WHAT IT READS IS OF BULK AT MOST 1048576: true; the input reads as it did. -/
def netSieveUptoRow : OpenClaim := { program := "ytjnnfehepbicfaa", sum := "19bdf663991f11c4731cd0d98431b5f493909fcd75c3ffa005d3527fc3e36982", func := "homestead/homesteadlaw07.NetSieve", spec := "netSieve", unfollowed := true, recurses := true, apart := false, narrowed := true }
def NetSieveUptoSaid : Prop := netSieveUptoRow.holds Try.pinned (OpenSpec.upto netSieveSpec)

/-- 'homesteadlaw07.NetStill', WHERE WHAT IT READS IS OF BULK AT MOST 1048576: true; the input reads as it did. -/
def netStillUptoRow : OpenClaim := { program := "ytjnnfehepbicfaa", sum := "19bdf663991f11c4731cd0d98431b5f493909fcd75c3ffa005d3527fc3e36982", func := "homestead/homesteadlaw07.NetStill", spec := "netStill", unfollowed := true, recurses := true, apart := false, narrowed := true }
def NetStillUptoSaid : Prop := netStillUptoRow.holds Try.pinned (OpenSpec.upto netStillSpec)

/-- 'homesteadlaw07.NetOwn', WHERE WHAT IT READS IS OF BULK AT MOST 1048576: true; the input reads as it did. -/
def netOwnUptoRow : OpenClaim := { program := "ytjnnfehepbicfaa", sum := "19bdf663991f11c4731cd0d98431b5f493909fcd75c3ffa005d3527fc3e36982", func := "homestead/homesteadlaw07.NetOwn", spec := "netOwn", unfollowed := true, recurses := true, apart := false, narrowed := true }
def NetOwnUptoSaid : Prop := netOwnUptoRow.holds Try.pinned (OpenSpec.upto netOwnSpec)

end Rows
end Go.Proofs.Ytjnnfehepbicfaa
