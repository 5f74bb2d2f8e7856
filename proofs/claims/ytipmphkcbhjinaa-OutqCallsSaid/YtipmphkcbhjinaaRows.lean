/-
  No cell of these rows narrows 'for every input' (looked for: loops, veiled, ifaces, maps, wideKeys, modest, calm, conditions, laid).
  DERIVED. THE GIVEN ROWS OF THIS SEAT. 4 by the template 'for every input the law returns true; each argument reads behind the call as it read before'; 0 by the template 'total and deterministic' (their statements: YtipmphkcbhjinaaTotals.lean).
  GIVEN WITH THE SEED: the statements are not yours to turn. If you find one false, say at which input.
  Laid BY PROGRAM, IN A SANDBOX (cutbox-rows.mjs): the forced cells as the released guide's own fill.sh prints them over the translation 969399793ab5d90f… (all of the seat's roots in one cut). By AI agents, Wed Nov 11 2026. No macro, syntax, notation, axiom, sorry.
-/
import Derived.Test.YtipmphkcbhjinaaChecked
import GoSem.Claim
import GoSem.ClaimJoined
import GoSem.ClaimMapViews
import Derived.JoinedTies
import Derived.KernelRfl
namespace Go.Proofs.Ytipmphkcbhjinaa
/- THE CELL 'sum', in the pinned program and in every row, IS THE sha256 OF THE DUMP (.gsa) THAT YtipmphkcbhjinaaProg.lean LOADS. Nothing in Lean hashes anything: it is a label: what it is worth is what the hold of that sum in a sandbox is worth. -/
noncomputable def Try.pinned : Pinned := { name := "ytipmphkcbhjinaa", sum := "969399793ab5d90fd69d9674736a4e1f4e746ee77e07e4db0939d796e14cd1e9", checked := Try.checked }
namespace Rows
def none {H : Type} : Left H := { results := [], args := [] }

/-- 'lanyardlaw17.OutqRoom': WHATEVER THE INPUT: true; the input reads as it did. -/
def outqRoomSpec : ChangeSpec := { name := "outqRoom", fn := fun _ => fun
  | [d1, d2, d3] => { results := [.lit (.bool true)], args := [d1, d2, d3] }
  | _ => none }
def outqRoomRow : OpenClaim := { program := "ytipmphkcbhjinaa", sum := "969399793ab5d90fd69d9674736a4e1f4e746ee77e07e4db0939d796e14cd1e9", func := "lanyard/lanyardlaw17.OutqRoom", spec := "outqRoom", unfollowed := true, recurses := true, apart := false }
def OutqRoomSaid : Prop := outqRoomRow.holds Try.pinned (OpenSpec.ofChange outqRoomSpec)

/-- ITS FALSE NEIGHBOUR: 'it returns false'. Refute it at one input. -/
def outqRoomWrong : ChangeSpec := { name := "outqRoom", fn := fun _ => fun
  | [d1, d2, d3] => { results := [.lit (.bool false)], args := [d1, d2, d3] }
  | _ => none }
def OutqRoomWrongFalsely : Prop := outqRoomRow.holds Try.pinned (OpenSpec.ofChange outqRoomWrong)

/-- 'lanyardlaw17.OutqKnown': WHATEVER THE INPUT: true; the input reads as it did. -/
def outqKnownSpec : ChangeSpec := { name := "outqKnown", fn := fun _ => fun
  | [] => { results := [.lit (.bool true)], args := [] }
  | _ => none }
def outqKnownRow : OpenClaim := { program := "ytipmphkcbhjinaa", sum := "969399793ab5d90fd69d9674736a4e1f4e746ee77e07e4db0939d796e14cd1e9", func := "lanyard/lanyardlaw17.OutqKnown", spec := "outqKnown", unfollowed := true, recurses := true, apart := false }
def OutqKnownSaid : Prop := outqKnownRow.holds Try.pinned (OpenSpec.ofChange outqKnownSpec)

/-- ITS FALSE NEIGHBOUR: 'it returns false'. Refute it at one input. -/
def outqKnownWrong : ChangeSpec := { name := "outqKnown", fn := fun _ => fun
  | [] => { results := [.lit (.bool false)], args := [] }
  | _ => none }
def OutqKnownWrongFalsely : Prop := outqKnownRow.holds Try.pinned (OpenSpec.ofChange outqKnownWrong)

/-- 'lanyardlaw17.OutqCalls': WHATEVER THE INPUT: true; the input reads as it did. -/
def outqCallsSpec : ChangeSpec := { name := "outqCalls", fn := fun _ => fun
  | [d1, d2, d3] => { results := [.lit (.bool true)], args := [d1, d2, d3] }
  | _ => none }
def outqCallsRow : OpenClaim := { program := "ytipmphkcbhjinaa", sum := "969399793ab5d90fd69d9674736a4e1f4e746ee77e07e4db0939d796e14cd1e9", func := "lanyard/lanyardlaw17.OutqCalls", spec := "outqCalls", unfollowed := true, recurses := true, apart := false }
def OutqCallsSaid : Prop := outqCallsRow.holds Try.pinned (OpenSpec.ofChange outqCallsSpec)

/-- ITS FALSE NEIGHBOUR: 'it returns false'. Refute it at one input. -/
def outqCallsWrong : ChangeSpec := { name := "outqCalls", fn := fun _ => fun
  | [d1, d2, d3] => { results := [.lit (.bool false)], args := [d1, d2, d3] }
  | _ => none }
def OutqCallsWrongFalsely : Prop := outqCallsRow.holds Try.pinned (OpenSpec.ofChange outqCallsWrong)

/-- 'lanyardlaw17.OutqJoins': WHATEVER THE INPUT: true; the input reads as it did. -/
def outqJoinsSpec : ChangeSpec := { name := "outqJoins", fn := fun _ => fun
  | [d1, d2, d3] => { results := [.lit (.bool true)], args := [d1, d2, d3] }
  | _ => none }
def outqJoinsRow : OpenClaim := { program := "ytipmphkcbhjinaa", sum := "969399793ab5d90fd69d9674736a4e1f4e746ee77e07e4db0939d796e14cd1e9", func := "lanyard/lanyardlaw17.OutqJoins", spec := "outqJoins", unfollowed := true, recurses := true, apart := false }
def OutqJoinsSaid : Prop := outqJoinsRow.holds Try.pinned (OpenSpec.ofChange outqJoinsSpec)

/-- ITS FALSE NEIGHBOUR: 'it returns false'. Refute it at one input. -/
def outqJoinsWrong : ChangeSpec := { name := "outqJoins", fn := fun _ => fun
  | [d1, d2, d3] => { results := [.lit (.bool false)], args := [d1, d2, d3] }
  | _ => none }
def OutqJoinsWrongFalsely : Prop := outqJoinsRow.holds Try.pinned (OpenSpec.ofChange outqJoinsWrong)

/- THE SECOND FORM. 'bulk': how many values and letters a reading holds, each counted each time it is reached (what is shared counts as often as it is met; a slice's spare places count too). A statement '..UptoSaid' is the law's where the arguments, and the package variables that the reading takes, are together of bulk at most 1048576: NARROWER than '..Said'. Prove '..Said' where nothing that the law and all that it calls make is longer than what came in: it says more and counts as full. Else prove '..UptoSaid'. A law counts once. -/
mutual
def uptoBulk {H : Type} : DataW H → Nat
  | .lit (.string bytes) => bytes.length + 1
  | .lit _ => 1
  | .nil => 1
  | .ptr d => uptoBulk d + 1
  | .slice elems spare => uptoBulkAll elems + uptoBulkAll spare + 1
  | .agg parts => uptoBulkAll parts + 1
  | .iface _ d => uptoBulk d + 1
  | .map entries => uptoBulkEntries entries + 1
  | .held _ => 1
def uptoBulkAll {H : Type} : List (DataW H) → Nat
  | [] => 0
  | d :: r => uptoBulk d + uptoBulkAll r
def uptoBulkEntries {H : Type} : List (Lit × DataW H) → Nat
  | [] => 0
  | x :: r => uptoBulkEntry x + uptoBulkEntries r
def uptoBulkEntry {H : Type} : Lit × DataW H → Nat
  | (.string bytes, d) => bytes.length + uptoBulk d + 1
  | (_, d) => uptoBulk d + 1
 end
def uptoSmall : (H : Type) → List (DataW H) → Bool := fun _ ds => decide (uptoBulkAll ds ≤ 1048576)
def OpenSpec.upto (s : _root_.Go.ChangeSpec) : _root_.Go.OpenSpec := { _root_.Go.OpenSpec.ofChange s with cond := some uptoSmall }

/-- 'lanyardlaw17.OutqRoom', WHERE WHAT IT READS IS OF BULK AT MOST 1048576: true; the input reads as it did. -/
def outqRoomUptoRow : OpenClaim := { program := "ytipmphkcbhjinaa", sum := "969399793ab5d90fd69d9674736a4e1f4e746ee77e07e4db0939d796e14cd1e9", func := "lanyard/lanyardlaw17.OutqRoom", spec := "outqRoom", unfollowed := true, recurses := true, apart := false, narrowed := true }
def OutqRoomUptoSaid : Prop := outqRoomUptoRow.holds Try.pinned (OpenSpec.upto outqRoomSpec)

/-- 'lanyardlaw17.OutqKnown', WHERE WHAT IT READS IS OF BULK AT MOST 1048576: true; the input reads as it did. -/
def outqKnownUptoRow : OpenClaim := { program := "ytipmphkcbhjinaa", sum := "969399793ab5d90fd69d9674736a4e1f4e746ee77e07e4db0939d796e14cd1e9", func := "lanyard/lanyardlaw17.OutqKnown", spec := "outqKnown", unfollowed := true, recurses := true, apart := false, narrowed := true }
def OutqKnownUptoSaid : Prop := outqKnownUptoRow.holds Try.pinned (OpenSpec.upto outqKnownSpec)

/-- 'lanyardlaw17.OutqCalls', WHERE WHAT IT READS IS OF BULK AT MOST 1048576: true; the input reads as it did. -/
def outqCallsUptoRow : OpenClaim := { program := "ytipmphkcbhjinaa", sum := "969399793ab5d90fd69d9674736a4e1f4e746ee77e07e4db0939d796e14cd1e9", func := "lanyard/lanyardlaw17.OutqCalls", spec := "outqCalls", unfollowed := true, recurses := true, apart := false, narrowed := true }
def OutqCallsUptoSaid : Prop := outqCallsUptoRow.holds Try.pinned (OpenSpec.upto outqCallsSpec)

/-- 'lanyardlaw17.OutqJoins', WHERE WHAT IT READS IS OF BULK AT MOST 1048576: true; the input reads as it did. -/
def outqJoinsUptoRow : OpenClaim := { program := "ytipmphkcbhjinaa", sum := "969399793ab5d90fd69d9674736a4e1f4e746ee77e07e4db0939d796e14cd1e9", func := "lanyard/lanyardlaw17.OutqJoins", spec := "outqJoins", unfollowed := true, recurses := true, apart := false, narrowed := true }
def OutqJoinsUptoSaid : Prop := outqJoinsUptoRow.holds Try.pinned (OpenSpec.upto outqJoinsSpec)

end Rows
end Go.Proofs.Ytipmphkcbhjinaa
