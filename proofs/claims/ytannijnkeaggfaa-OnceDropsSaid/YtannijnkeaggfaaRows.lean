/-
  No cell of these rows narrows 'for every input' (looked for: loops, veiled, ifaces, maps, wideKeys, modest, calm, conditions, laid).
  DERIVED. THE GIVEN ROWS OF THIS SEAT. 3 by the template 'for every input the law returns true; each argument reads behind the call as it read before'; 0 by the template 'total and deterministic' (their statements: YtannijnkeaggfaaTotals.lean).
  GIVEN WITH THE SEED: the statements are not yours to turn. If you find one false, say at which input.
  Laid BY PROGRAM, IN A SANDBOX (cutbox-rows.mjs): the forced cells as the released guide's own fill.sh prints them over the translation 98aaab368f8012ac… (all of the seat's roots in one cut). By AI agents, Wed Nov 11 2026. No macro, syntax, notation, axiom, sorry.
-/
import Derived.Test.YtannijnkeaggfaaChecked
import GoSem.Claim
import GoSem.ClaimJoined
import GoSem.ClaimMapViews
import Derived.JoinedTies
import Derived.KernelRfl
namespace Go.Proofs.Ytannijnkeaggfaa
/- THE CELL 'sum', in the pinned program and in every row, IS THE sha256 OF THE DUMP (.gsa) THAT YtannijnkeaggfaaProg.lean LOADS. Nothing in Lean hashes anything: it is a label: what it is worth is what the hold of that sum in a sandbox is worth. -/
noncomputable def Try.pinned : Pinned := { name := "ytannijnkeaggfaa", sum := "98aaab368f8012ac1b55687c3d4c9f8f5ef7c07535629371fb7a18afc6463777", checked := Try.checked }
namespace Rows
def none {H : Type} : Left H := { results := [], args := [] }

/-- 'lanyardlaw34.OnceDone': WHATEVER THE INPUT: true; the input reads as it did. -/
def onceDoneSpec : ChangeSpec := { name := "onceDone", fn := fun _ => fun
  | [d1, d2] => { results := [.lit (.bool true)], args := [d1, d2] }
  | _ => none }
def onceDoneRow : OpenClaim := { program := "ytannijnkeaggfaa", sum := "98aaab368f8012ac1b55687c3d4c9f8f5ef7c07535629371fb7a18afc6463777", func := "lanyard/lanyardlaw34.OnceDone", spec := "onceDone", unfollowed := true, recurses := true, apart := false }
def OnceDoneSaid : Prop := onceDoneRow.holds Try.pinned (OpenSpec.ofChange onceDoneSpec)

/-- ITS FALSE NEIGHBOUR: 'it returns false'. Refute it at one input. -/
def onceDoneWrong : ChangeSpec := { name := "onceDone", fn := fun _ => fun
  | [d1, d2] => { results := [.lit (.bool false)], args := [d1, d2] }
  | _ => none }
def OnceDoneWrongFalsely : Prop := onceDoneRow.holds Try.pinned (OpenSpec.ofChange onceDoneWrong)

/-- 'lanyardlaw34.OnceKnown': WHATEVER THE INPUT: true; the input reads as it did. -/
def onceKnownSpec : ChangeSpec := { name := "onceKnown", fn := fun _ => fun
  | [] => { results := [.lit (.bool true)], args := [] }
  | _ => none }
def onceKnownRow : OpenClaim := { program := "ytannijnkeaggfaa", sum := "98aaab368f8012ac1b55687c3d4c9f8f5ef7c07535629371fb7a18afc6463777", func := "lanyard/lanyardlaw34.OnceKnown", spec := "onceKnown", unfollowed := true, recurses := true, apart := false }
def OnceKnownSaid : Prop := onceKnownRow.holds Try.pinned (OpenSpec.ofChange onceKnownSpec)

/-- ITS FALSE NEIGHBOUR: 'it returns false'. Refute it at one input. -/
def onceKnownWrong : ChangeSpec := { name := "onceKnown", fn := fun _ => fun
  | [] => { results := [.lit (.bool false)], args := [] }
  | _ => none }
def OnceKnownWrongFalsely : Prop := onceKnownRow.holds Try.pinned (OpenSpec.ofChange onceKnownWrong)

/-- 'lanyardlaw34.OnceDrops': WHATEVER THE INPUT: true; the input reads as it did. -/
def onceDropsSpec : ChangeSpec := { name := "onceDrops", fn := fun _ => fun
  | [d1, d2] => { results := [.lit (.bool true)], args := [d1, d2] }
  | _ => none }
def onceDropsRow : OpenClaim := { program := "ytannijnkeaggfaa", sum := "98aaab368f8012ac1b55687c3d4c9f8f5ef7c07535629371fb7a18afc6463777", func := "lanyard/lanyardlaw34.OnceDrops", spec := "onceDrops", unfollowed := true, recurses := true, apart := false }
def OnceDropsSaid : Prop := onceDropsRow.holds Try.pinned (OpenSpec.ofChange onceDropsSpec)

/-- ITS FALSE NEIGHBOUR: 'it returns false'. Refute it at one input. -/
def onceDropsWrong : ChangeSpec := { name := "onceDrops", fn := fun _ => fun
  | [d1, d2] => { results := [.lit (.bool false)], args := [d1, d2] }
  | _ => none }
def OnceDropsWrongFalsely : Prop := onceDropsRow.holds Try.pinned (OpenSpec.ofChange onceDropsWrong)

/- THE SECOND FORM. 'bulk': how many values and letters a reading holds, each counted each time it is reached (what is shared counts as often as it is met; a slice's spare places count too). A statement '..UptoSaid' is the law's where the arguments, and the package variables that the reading takes, are together of bulk at most 1048576: NARROWER than '..Said'. Prove '..Said' where nothing that the law and all that it calls make is longer than what came in: it says more and counts as full. Else prove '..UptoSaid'. A law counts once. -/
mutual
def uptoBulk {H : Type} : DataW H → Nat
  | .lit (.string bytes) => bytes.length + 1
  | .lit _ => 1
  | .nil => 1
  | .ptr d => uptoBulk d + 1
  | .slice elems spare => uptoBulkAll elems + uptoBulkAll spare + 1
  | .agg parts => uptoBulkAll parts + 1
  | .iface _ d => uptoBulk d + 1
  | .map entries => uptoBulkEntries entries + 1
  | .held _ => 1
def uptoBulkAll {H : Type} : List (DataW H) → Nat
  | [] => 0
  | d :: r => uptoBulk d + uptoBulkAll r
def uptoBulkEntries {H : Type} : List (Lit × DataW H) → Nat
  | [] => 0
  | x :: r => uptoBulkEntry x + uptoBulkEntries r
def uptoBulkEntry {H : Type} : Lit × DataW H → Nat
  | (.string bytes, d) => bytes.length + uptoBulk d + 1
  | (_, d) => uptoBulk d + 1
 end
def uptoSmall : (H : Type) → List (DataW H) → Bool := fun _ ds => decide (uptoBulkAll ds ≤ 1048576)
def OpenSpec.upto (s : _root_.Go.ChangeSpec) : _root_.Go.OpenSpec := { _root_.Go.OpenSpec.ofChange s with cond := some uptoSmall }

/-- 'lanyardlaw34.OnceDone', WHERE WHAT IT READS IS OF BULK AT MOST 1048576: true; the input reads as it did. -/
def onceDoneUptoRow : OpenClaim := { program := "ytannijnkeaggfaa", sum := "98aaab368f8012ac1b55687c3d4c9f8f5ef7c07535629371fb7a18afc6463777", func := "lanyard/lanyardlaw34.OnceDone", spec := "onceDone", unfollowed := true, recurses := true, apart := false, narrowed := true }
def OnceDoneUptoSaid : Prop := onceDoneUptoRow.holds Try.pinned (OpenSpec.upto onceDoneSpec)

/-- 'lanyardlaw34.OnceKnown', WHERE WHAT IT READS IS OF BULK AT MOST 1048576: true; the input reads as it did. -/
def onceKnownUptoRow : OpenClaim := { program := "ytannijnkeaggfaa", sum := "98aaab368f8012ac1b55687c3d4c9f8f5ef7c07535629371fb7a18afc6463777", func := "lanyard/lanyardlaw34.OnceKnown", spec := "onceKnown", unfollowed := true, recurses := true, apart := false, narrowed := true }
def OnceKnownUptoSaid : Prop := onceKnownUptoRow.holds Try.pinned (OpenSpec.upto onceKnownSpec)

/-- 'lanyardlaw34.OnceDrops', WHERE WHAT IT READS IS OF BULK AT MOST 1048576: true; the input reads as it did. -/
def onceDropsUptoRow : OpenClaim := { program := "ytannijnkeaggfaa", sum := "98aaab368f8012ac1b55687c3d4c9f8f5ef7c07535629371fb7a18afc6463777", func := "lanyard/lanyardlaw34.OnceDrops", spec := "onceDrops", unfollowed := true, recurses := true, apart := false, narrowed := true }
def OnceDropsUptoSaid : Prop := onceDropsUptoRow.holds Try.pinned (OpenSpec.upto onceDropsSpec)

end Rows
end Go.Proofs.Ytannijnkeaggfaa
