/-
  No cell of these rows narrows 'for every input' (looked for: loops, veiled, ifaces, maps, wideKeys, modest, calm, conditions, laid).
  DERIVED. THE GIVEN ROWS OF THIS SEAT. 4 by the template 'for every input the law returns true; each argument reads behind the call as it read before'; 0 by the template 'total and deterministic' (their statements: YtjeinfbicgpkiaaTotals.lean).
  GIVEN WITH THE SEED: the statements are not yours to turn. If you find one false, say at which input.
  Laid BY PROGRAM, IN A SANDBOX (cutbox-rows.mjs): the forced cells as the released guide's own fill.sh prints them over the translation b0884b7dc1ef069e… (all of the seat's roots in one cut). By AI agents, Wed Nov 11 2026. No macro, syntax, notation, axiom, sorry.
-/
import Derived.Test.YtjeinfbicgpkiaaChecked
import GoSem.Claim
import GoSem.ClaimJoined
import GoSem.ClaimMapViews
import Derived.JoinedTies
import Derived.KernelRfl
namespace Go.Proofs.Ytjeinfbicgpkiaa
/- THE CELL 'sum', in the pinned program and in every row, IS THE sha256 OF THE DUMP (.gsa) THAT YtjeinfbicgpkiaaProg.lean LOADS. Nothing in Lean hashes anything: it is a label: what it is worth is what the hold of that sum in a sandbox is worth. -/
noncomputable def Try.pinned : Pinned := { name := "ytjeinfbicgpkiaa", sum := "b0884b7dc1ef069ed204dcd759861c12e8ce224f5226d0e895424d3ec0fc9885", checked := Try.checked }
namespace Rows
def none {H : Type} : Left H := { results := [], args := [] }

/-- 'lanyardlaw35.ResetPlays': WHATEVER THE INPUT: true; the input reads as it did. -/
def resetPlaysSpec : ChangeSpec := { name := "resetPlays", fn := fun _ => fun
  | [d1, d2, d3, d4] => { results := [.lit (.bool true)], args := [d1, d2, d3, d4] }
  | _ => none }
def resetPlaysRow : OpenClaim := { program := "ytjeinfbicgpkiaa", sum := "b0884b7dc1ef069ed204dcd759861c12e8ce224f5226d0e895424d3ec0fc9885", func := "lanyard/lanyardlaw35.ResetPlays", spec := "resetPlays", unfollowed := true, recurses := true, apart := false }
def ResetPlaysSaid : Prop := resetPlaysRow.holds Try.pinned (OpenSpec.ofChange resetPlaysSpec)

/-- ITS FALSE NEIGHBOUR: 'it returns false'. Refute it at one input. -/
def resetPlaysWrong : ChangeSpec := { name := "resetPlays", fn := fun _ => fun
  | [d1, d2, d3, d4] => { results := [.lit (.bool false)], args := [d1, d2, d3, d4] }
  | _ => none }
def ResetPlaysWrongFalsely : Prop := resetPlaysRow.holds Try.pinned (OpenSpec.ofChange resetPlaysWrong)

/-- 'lanyardlaw35.ResetKnown': WHATEVER THE INPUT: true; the input reads as it did. -/
def resetKnownSpec : ChangeSpec := { name := "resetKnown", fn := fun _ => fun
  | [] => { results := [.lit (.bool true)], args := [] }
  | _ => none }
def resetKnownRow : OpenClaim := { program := "ytjeinfbicgpkiaa", sum := "b0884b7dc1ef069ed204dcd759861c12e8ce224f5226d0e895424d3ec0fc9885", func := "lanyard/lanyardlaw35.ResetKnown", spec := "resetKnown", unfollowed := true, recurses := true, apart := false }
def ResetKnownSaid : Prop := resetKnownRow.holds Try.pinned (OpenSpec.ofChange resetKnownSpec)

/-- ITS FALSE NEIGHBOUR: 'it returns false'. Refute it at one input. -/
def resetKnownWrong : ChangeSpec := { name := "resetKnown", fn := fun _ => fun
  | [] => { results := [.lit (.bool false)], args := [] }
  | _ => none }
def ResetKnownWrongFalsely : Prop := resetKnownRow.holds Try.pinned (OpenSpec.ofChange resetKnownWrong)

/-- 'lanyardlaw35.ResetOrder': WHATEVER THE INPUT: true; the input reads as it did. -/
def resetOrderSpec : ChangeSpec := { name := "resetOrder", fn := fun _ => fun
  | [d1, d2, d3] => { results := [.lit (.bool true)], args := [d1, d2, d3] }
  | _ => none }
def resetOrderRow : OpenClaim := { program := "ytjeinfbicgpkiaa", sum := "b0884b7dc1ef069ed204dcd759861c12e8ce224f5226d0e895424d3ec0fc9885", func := "lanyard/lanyardlaw35.ResetOrder", spec := "resetOrder", unfollowed := true, recurses := true, apart := false }
def ResetOrderSaid : Prop := resetOrderRow.holds Try.pinned (OpenSpec.ofChange resetOrderSpec)

/-- ITS FALSE NEIGHBOUR: 'it returns false'. Refute it at one input. -/
def resetOrderWrong : ChangeSpec := { name := "resetOrder", fn := fun _ => fun
  | [d1, d2, d3] => { results := [.lit (.bool false)], args := [d1, d2, d3] }
  | _ => none }
def ResetOrderWrongFalsely : Prop := resetOrderRow.holds Try.pinned (OpenSpec.ofChange resetOrderWrong)

/-- 'lanyardlaw35.ResetDenied': WHATEVER THE INPUT: true; the input reads as it did. -/
def resetDeniedSpec : ChangeSpec := { name := "resetDenied", fn := fun _ => fun
  | [d1, d2, d3] => { results := [.lit (.bool true)], args := [d1, d2, d3] }
  | _ => none }
def resetDeniedRow : OpenClaim := { program := "ytjeinfbicgpkiaa", sum := "b0884b7dc1ef069ed204dcd759861c12e8ce224f5226d0e895424d3ec0fc9885", func := "lanyard/lanyardlaw35.ResetDenied", spec := "resetDenied", unfollowed := true, recurses := true, apart := false }
def ResetDeniedSaid : Prop := resetDeniedRow.holds Try.pinned (OpenSpec.ofChange resetDeniedSpec)

/-- ITS FALSE NEIGHBOUR: 'it returns false'. Refute it at one input. -/
def resetDeniedWrong : ChangeSpec := { name := "resetDenied", fn := fun _ => fun
  | [d1, d2, d3] => { results := [.lit (.bool false)], args := [d1, d2, d3] }
  | _ => none }
def ResetDeniedWrongFalsely : Prop := resetDeniedRow.holds Try.pinned (OpenSpec.ofChange resetDeniedWrong)

/- THE SECOND FORM. 'bulk': how many values and letters a reading holds, each counted each time it is reached (what is shared counts as often as it is met; a slice's spare places count too). A statement '..UptoSaid' is the law's where the arguments, and the package variables that the reading takes, are together of bulk at most 1048576: NARROWER than '..Said'. Prove '..Said' where nothing that the law and all that it calls make is longer than what came in: it says more and counts as full. Else prove '..UptoSaid'. A law counts once. -/
mutual
def uptoBulk {H : Type} : DataW H → Nat
  | .lit (.string bytes) => bytes.length + 1
  | .lit _ => 1
  | .nil => 1
  | .ptr d => uptoBulk d + 1
  | .slice elems spare => uptoBulkAll elems + uptoBulkAll spare + 1
  | .agg parts => uptoBulkAll parts + 1
  | .iface _ d => uptoBulk d + 1
  | .map entries => uptoBulkEntries entries + 1
  | .held _ => 1
def uptoBulkAll {H : Type} : List (DataW H) → Nat
  | [] => 0
  | d :: r => uptoBulk d + uptoBulkAll r
def uptoBulkEntries {H : Type} : List (Lit × DataW H) → Nat
  | [] => 0
  | x :: r => uptoBulkEntry x + uptoBulkEntries r
def uptoBulkEntry {H : Type} : Lit × DataW H → Nat
  | (.string bytes, d) => bytes.length + uptoBulk d + 1
  | (_, d) => uptoBulk d + 1
 end
def uptoSmall : (H : Type) → List (DataW H) → Bool := fun _ ds => decide (uptoBulkAll ds ≤ 1048576)
def OpenSpec.upto (s : _root_.Go.ChangeSpec) : _root_.Go.OpenSpec := { _root_.Go.OpenSpec.ofChange s with cond := some uptoSmall }

/-- 'lanyardlaw35.ResetPlays', WHERE WHAT IT READS IS OF BULK AT MOST 1048576: true; the input reads as it did. -/
def resetPlaysUptoRow : OpenClaim := { program := "ytjeinfbicgpkiaa", sum := "b0884b7dc1ef069ed204dcd759861c12e8ce224f5226d0e895424d3ec0fc9885", func := "lanyard/lanyardlaw35.ResetPlays", spec := "resetPlays", unfollowed := true, recurses := true, apart := false, narrowed := true }
def ResetPlaysUptoSaid : Prop := resetPlaysUptoRow.holds Try.pinned (OpenSpec.upto resetPlaysSpec)

/-- 'lanyardlaw35.ResetKnown', WHERE WHAT IT READS IS OF BULK AT MOST 1048576: true; the input reads as it did. -/
def resetKnownUptoRow : OpenClaim := { program := "ytjeinfbicgpkiaa", sum := "b0884b7dc1ef069ed204dcd759861c12e8ce224f5226d0e895424d3ec0fc9885", func := "lanyard/lanyardlaw35.ResetKnown", spec := "resetKnown", unfollowed := true, recurses := true, apart := false, narrowed := true }
def ResetKnownUptoSaid : Prop := resetKnownUptoRow.holds Try.pinned (OpenSpec.upto resetKnownSpec)

/-- 'lanyardlaw35.ResetOrder', WHERE WHAT IT READS IS OF BULK AT MOST 1048576: true; the input reads as it did. -/
def resetOrderUptoRow : OpenClaim := { program := "ytjeinfbicgpkiaa", sum := "b0884b7dc1ef069ed204dcd759861c12e8ce224f5226d0e895424d3ec0fc9885", func := "lanyard/lanyardlaw35.ResetOrder", spec := "resetOrder", unfollowed := true, recurses := true, apart := false, narrowed := true }
def ResetOrderUptoSaid : Prop := resetOrderUptoRow.holds Try.pinned (OpenSpec.upto resetOrderSpec)

/-- 'lanyardlaw35.ResetDenied', WHERE WHAT IT READS IS OF BULK AT MOST 1048576: true; the input reads as it did. -/
def resetDeniedUptoRow : OpenClaim := { program := "ytjeinfbicgpkiaa", sum := "b0884b7dc1ef069ed204dcd759861c12e8ce224f5226d0e895424d3ec0fc9885", func := "lanyard/lanyardlaw35.ResetDenied", spec := "resetDenied", unfollowed := true, recurses := true, apart := false, narrowed := true }
def ResetDeniedUptoSaid : Prop := resetDeniedUptoRow.holds Try.pinned (OpenSpec.upto resetDeniedSpec)

end Rows
end Go.Proofs.Ytjeinfbicgpkiaa
