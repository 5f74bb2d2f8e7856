/-
  No cell of these rows narrows 'for every input' (looked for: loops, veiled, ifaces, maps, wideKeys, modest, calm, conditions, laid).
  DERIVED. THE GIVEN ROWS OF THIS SEAT. 4 by the template 'for every input the law returns true; each argument reads behind the call as it read before'; 0 by the template 'total and deterministic' (their statements: YtoffkchncellpaaTotals.lean).
  GIVEN WITH THE SEED: the statements are not yours to turn. If you find one false, say at which input.
  Laid BY PROGRAM, IN A SANDBOX (cutbox-rows.mjs): the forced cells as the released guide's own fill.sh prints them over the translation 0bbe462de5ebedb3… (all of the seat's roots in one cut). By AI agents, Wed Nov 11 2026. No macro, syntax, notation, axiom, sorry.
-/
import Derived.Test.YtoffkchncellpaaChecked
import GoSem.Claim
import GoSem.ClaimJoined
import GoSem.ClaimMapViews
import Derived.JoinedTies
import Derived.KernelRfl
namespace Go.Proofs.Ytoffkchncellpaa
/- THE CELL 'sum', in the pinned program and in every row, IS THE sha256 OF THE DUMP (.gsa) THAT YtoffkchncellpaaProg.lean LOADS. Nothing in Lean hashes anything: it is a label: what it is worth is what the hold of that sum in a sandbox is worth. -/
noncomputable def Try.pinned : Pinned := { name := "ytoffkchncellpaa", sum := "0bbe462de5ebedb37d01b6b23d3d4b0df97ed9792064c3bc335bccdc31d0b2f5", checked := Try.checked }
namespace Rows
def none {H : Type} : Left H := { results := [], args := [] }

/-- 'lanyardlaw12.CwndBounds': WHATEVER THE INPUT: true; the input reads as it did. -/
def cwndBoundsSpec : ChangeSpec := { name := "cwndBounds", fn := fun _ => fun
  | [d1, d2] => { results := [.lit (.bool true)], args := [d1, d2] }
  | _ => none }
def cwndBoundsRow : OpenClaim := { program := "ytoffkchncellpaa", sum := "0bbe462de5ebedb37d01b6b23d3d4b0df97ed9792064c3bc335bccdc31d0b2f5", func := "lanyard/lanyardlaw12.CwndBounds", spec := "cwndBounds", unfollowed := true, recurses := true, apart := false }
def CwndBoundsSaid : Prop := cwndBoundsRow.holds Try.pinned (OpenSpec.ofChange cwndBoundsSpec)

/-- ITS FALSE NEIGHBOUR: 'it returns false'. Refute it at one input. -/
def cwndBoundsWrong : ChangeSpec := { name := "cwndBounds", fn := fun _ => fun
  | [d1, d2] => { results := [.lit (.bool false)], args := [d1, d2] }
  | _ => none }
def CwndBoundsWrongFalsely : Prop := cwndBoundsRow.holds Try.pinned (OpenSpec.ofChange cwndBoundsWrong)

/-- 'lanyardlaw12.CwndParts': WHATEVER THE INPUT: true; the input reads as it did. -/
def cwndPartsSpec : ChangeSpec := { name := "cwndParts", fn := fun _ => fun
  | [d1, d2] => { results := [.lit (.bool true)], args := [d1, d2] }
  | _ => none }
def cwndPartsRow : OpenClaim := { program := "ytoffkchncellpaa", sum := "0bbe462de5ebedb37d01b6b23d3d4b0df97ed9792064c3bc335bccdc31d0b2f5", func := "lanyard/lanyardlaw12.CwndParts", spec := "cwndParts", unfollowed := true, recurses := true, apart := false }
def CwndPartsSaid : Prop := cwndPartsRow.holds Try.pinned (OpenSpec.ofChange cwndPartsSpec)

/-- ITS FALSE NEIGHBOUR: 'it returns false'. Refute it at one input. -/
def cwndPartsWrong : ChangeSpec := { name := "cwndParts", fn := fun _ => fun
  | [d1, d2] => { results := [.lit (.bool false)], args := [d1, d2] }
  | _ => none }
def CwndPartsWrongFalsely : Prop := cwndPartsRow.holds Try.pinned (OpenSpec.ofChange cwndPartsWrong)

/-- 'lanyardlaw12.CwndKnown': WHATEVER THE INPUT: true; the input reads as it did. -/
def cwndKnownSpec : ChangeSpec := { name := "cwndKnown", fn := fun _ => fun
  | [] => { results := [.lit (.bool true)], args := [] }
  | _ => none }
def cwndKnownRow : OpenClaim := { program := "ytoffkchncellpaa", sum := "0bbe462de5ebedb37d01b6b23d3d4b0df97ed9792064c3bc335bccdc31d0b2f5", func := "lanyard/lanyardlaw12.CwndKnown", spec := "cwndKnown", unfollowed := true, recurses := true, apart := false }
def CwndKnownSaid : Prop := cwndKnownRow.holds Try.pinned (OpenSpec.ofChange cwndKnownSpec)

/-- ITS FALSE NEIGHBOUR: 'it returns false'. Refute it at one input. -/
def cwndKnownWrong : ChangeSpec := { name := "cwndKnown", fn := fun _ => fun
  | [] => { results := [.lit (.bool false)], args := [] }
  | _ => none }
def CwndKnownWrongFalsely : Prop := cwndKnownRow.holds Try.pinned (OpenSpec.ofChange cwndKnownWrong)

/-- 'lanyardlaw12.CwndCalls': WHATEVER THE INPUT: true; the input reads as it did. -/
def cwndCallsSpec : ChangeSpec := { name := "cwndCalls", fn := fun _ => fun
  | [d1, d2] => { results := [.lit (.bool true)], args := [d1, d2] }
  | _ => none }
def cwndCallsRow : OpenClaim := { program := "ytoffkchncellpaa", sum := "0bbe462de5ebedb37d01b6b23d3d4b0df97ed9792064c3bc335bccdc31d0b2f5", func := "lanyard/lanyardlaw12.CwndCalls", spec := "cwndCalls", unfollowed := true, recurses := true, apart := false }
def CwndCallsSaid : Prop := cwndCallsRow.holds Try.pinned (OpenSpec.ofChange cwndCallsSpec)

/-- ITS FALSE NEIGHBOUR: 'it returns false'. Refute it at one input. -/
def cwndCallsWrong : ChangeSpec := { name := "cwndCalls", fn := fun _ => fun
  | [d1, d2] => { results := [.lit (.bool false)], args := [d1, d2] }
  | _ => none }
def CwndCallsWrongFalsely : Prop := cwndCallsRow.holds Try.pinned (OpenSpec.ofChange cwndCallsWrong)

/- THE SECOND FORM. 'bulk': how many values and letters a reading holds, each counted each time it is reached (what is shared counts as often as it is met; a slice's spare places count too). A statement '..UptoSaid' is the law's where the arguments, and the package variables that the reading takes, are together of bulk at most 1048576: NARROWER than '..Said'. Prove '..Said' where nothing that the law and all that it calls make is longer than what came in: it says more and counts as full. Else prove '..UptoSaid'. A law counts once. -/
mutual
def uptoBulk {H : Type} : DataW H → Nat
  | .lit (.string bytes) => bytes.length + 1
  | .lit _ => 1
  | .nil => 1
  | .ptr d => uptoBulk d + 1
  | .slice elems spare => uptoBulkAll elems + uptoBulkAll spare + 1
  | .agg parts => uptoBulkAll parts + 1
  | .iface _ d => uptoBulk d + 1
  | .map entries => uptoBulkEntries entries + 1
  | .held _ => 1
def uptoBulkAll {H : Type} : List (DataW H) → Nat
  | [] => 0
  | d :: r => uptoBulk d + uptoBulkAll r
def uptoBulkEntries {H : Type} : List (Lit × DataW H) → Nat
  | [] => 0
  | x :: r => uptoBulkEntry x + uptoBulkEntries r
def uptoBulkEntry {H : Type} : Lit × DataW H → Nat
  | (.string bytes, d) => bytes.length + uptoBulk d + 1
  | (_, d) => uptoBulk d + 1
 end
def uptoSmall : (H : Type) → List (DataW H) → Bool := fun _ ds => decide (uptoBulkAll ds ≤ 1048576)
def OpenSpec.upto (s : _root_.Go.ChangeSpec) : _root_.Go.OpenSpec := { _root_.Go.OpenSpec.ofChange s with cond := some uptoSmall }

/-- 'lanyardlaw12.CwndBounds', WHERE WHAT IT READS IS OF BULK AT MOST 1048576: true; the input reads as it did. -/
def cwndBoundsUptoRow : OpenClaim := { program := "ytoffkchncellpaa", sum := "0bbe462de5ebedb37d01b6b23d3d4b0df97ed9792064c3bc335bccdc31d0b2f5", func := "lanyard/lanyardlaw12.CwndBounds", spec := "cwndBounds", unfollowed := true, recurses := true, apart := false, narrowed := true }
def CwndBoundsUptoSaid : Prop := cwndBoundsUptoRow.holds Try.pinned (OpenSpec.upto cwndBoundsSpec)

/-- 'lanyardlaw12.CwndParts', WHERE WHAT IT READS IS OF BULK AT MOST 1048576: true; the input reads as it did. -/
def cwndPartsUptoRow : OpenClaim := { program := "ytoffkchncellpaa", sum := "0bbe462de5ebedb37d01b6b23d3d4b0df97ed9792064c3bc335bccdc31d0b2f5", func := "lanyard/lanyardlaw12.CwndParts", spec := "cwndParts", unfollowed := true, recurses := true, apart := false, narrowed := true }
def CwndPartsUptoSaid : Prop := cwndPartsUptoRow.holds Try.pinned (OpenSpec.upto cwndPartsSpec)

/-- 'lanyardlaw12.CwndKnown', WHERE WHAT IT READS IS OF BULK AT MOST 1048576: true; the input reads as it did. -/
def cwndKnownUptoRow : OpenClaim := { program := "ytoffkchncellpaa", sum := "0bbe462de5ebedb37d01b6b23d3d4b0df97ed9792064c3bc335bccdc31d0b2f5", func := "lanyard/lanyardlaw12.CwndKnown", spec := "cwndKnown", unfollowed := true, recurses := true, apart := false, narrowed := true }
def CwndKnownUptoSaid : Prop := cwndKnownUptoRow.holds Try.pinned (OpenSpec.upto cwndKnownSpec)

/-- 'lanyardlaw12.CwndCalls', WHERE WHAT IT READS IS OF BULK AT MOST 1048576: true; the input reads as it did. -/
def cwndCallsUptoRow : OpenClaim := { program := "ytoffkchncellpaa", sum := "0bbe462de5ebedb37d01b6b23d3d4b0df97ed9792064c3bc335bccdc31d0b2f5", func := "lanyard/lanyardlaw12.CwndCalls", spec := "cwndCalls", unfollowed := true, recurses := true, apart := false, narrowed := true }
def CwndCallsUptoSaid : Prop := cwndCallsUptoRow.holds Try.pinned (OpenSpec.upto cwndCallsSpec)

end Rows
end Go.Proofs.Ytoffkchncellpaa
