/-
  No cell of these rows narrows 'for every input' (looked for: loops, veiled, ifaces, maps, wideKeys, modest, calm, conditions, laid).
  DERIVED. THE GIVEN ROWS OF THIS SEAT. 5 by the template 'for every input the law returns true; each argument reads behind the call as it read before'; 0 by the template 'total and deterministic' (their statements: YtdcfahekhjakeaaTotals.lean).
  GIVEN WITH THE SEED: the statements are not yours to turn. If you find one false, say at which input.
  Laid BY PROGRAM, IN A SANDBOX (cutbox-rows.mjs): the forced cells as the released guide's own fill.sh prints them over the translation b0c39879dd642c63… (all of the seat's roots in one cut). By AI agents, Wed Nov 11 2026. No macro, syntax, notation, axiom, sorry.
-/
import Derived.Test.YtdcfahekhjakeaaChecked
import GoSem.Claim
import GoSem.ClaimJoined
import GoSem.ClaimMapViews
import Derived.JoinedTies
import Derived.KernelRfl
namespace Go.Proofs.Ytdcfahekhjakeaa
/- THE CELL 'sum', in the pinned program and in every row, IS THE sha256 OF THE DUMP (.gsa) THAT YtdcfahekhjakeaaProg.lean LOADS. Nothing in Lean hashes anything: it is a label: what it is worth is what the hold of that sum in a sandbox is worth. -/
noncomputable def Try.pinned : Pinned := { name := "ytdcfahekhjakeaa", sum := "b0c39879dd642c6396a9c9d7ba215ae5a1063b0e2abc26149ed1c3281c19a594", checked := Try.checked }
namespace Rows
def none {H : Type} : Left H := { results := [], args := [] }

/-- 'lanyardlaw11.RtoChecks': WHATEVER THE INPUT: true; the input reads as it did. -/
def rtoChecksSpec : ChangeSpec := { name := "rtoChecks", fn := fun _ => fun
  | [d] => { results := [.lit (.bool true)], args := [d] }
  | _ => none }
def rtoChecksRow : OpenClaim := { program := "ytdcfahekhjakeaa", sum := "b0c39879dd642c6396a9c9d7ba215ae5a1063b0e2abc26149ed1c3281c19a594", func := "lanyard/lanyardlaw11.RtoChecks", spec := "rtoChecks", unfollowed := true, recurses := true, apart := false }
def RtoChecksSaid : Prop := rtoChecksRow.holds Try.pinned (OpenSpec.ofChange rtoChecksSpec)

/-- ITS FALSE NEIGHBOUR: 'it returns false'. Refute it at one input. -/
def rtoChecksWrong : ChangeSpec := { name := "rtoChecks", fn := fun _ => fun
  | [d] => { results := [.lit (.bool false)], args := [d] }
  | _ => none }
def RtoChecksWrongFalsely : Prop := rtoChecksRow.holds Try.pinned (OpenSpec.ofChange rtoChecksWrong)

/-- 'lanyardlaw11.RtoSteady': WHATEVER THE INPUT: true; the input reads as it did. -/
def rtoSteadySpec : ChangeSpec := { name := "rtoSteady", fn := fun _ => fun
  | [d1, d2, d3] => { results := [.lit (.bool true)], args := [d1, d2, d3] }
  | _ => none }
def rtoSteadyRow : OpenClaim := { program := "ytdcfahekhjakeaa", sum := "b0c39879dd642c6396a9c9d7ba215ae5a1063b0e2abc26149ed1c3281c19a594", func := "lanyard/lanyardlaw11.RtoSteady", spec := "rtoSteady", unfollowed := true, recurses := true, apart := false }
def RtoSteadySaid : Prop := rtoSteadyRow.holds Try.pinned (OpenSpec.ofChange rtoSteadySpec)

/-- ITS FALSE NEIGHBOUR: 'it returns false'. Refute it at one input. -/
def rtoSteadyWrong : ChangeSpec := { name := "rtoSteady", fn := fun _ => fun
  | [d1, d2, d3] => { results := [.lit (.bool false)], args := [d1, d2, d3] }
  | _ => none }
def RtoSteadyWrongFalsely : Prop := rtoSteadyRow.holds Try.pinned (OpenSpec.ofChange rtoSteadyWrong)

/-- 'lanyardlaw11.RtoBounds': WHATEVER THE INPUT: true; the input reads as it did. -/
def rtoBoundsSpec : ChangeSpec := { name := "rtoBounds", fn := fun _ => fun
  | [d1, d2] => { results := [.lit (.bool true)], args := [d1, d2] }
  | _ => none }
def rtoBoundsRow : OpenClaim := { program := "ytdcfahekhjakeaa", sum := "b0c39879dd642c6396a9c9d7ba215ae5a1063b0e2abc26149ed1c3281c19a594", func := "lanyard/lanyardlaw11.RtoBounds", spec := "rtoBounds", unfollowed := true, recurses := true, apart := false }
def RtoBoundsSaid : Prop := rtoBoundsRow.holds Try.pinned (OpenSpec.ofChange rtoBoundsSpec)

/-- ITS FALSE NEIGHBOUR: 'it returns false'. Refute it at one input. -/
def rtoBoundsWrong : ChangeSpec := { name := "rtoBounds", fn := fun _ => fun
  | [d1, d2] => { results := [.lit (.bool false)], args := [d1, d2] }
  | _ => none }
def RtoBoundsWrongFalsely : Prop := rtoBoundsRow.holds Try.pinned (OpenSpec.ofChange rtoBoundsWrong)

/-- 'lanyardlaw11.RtoKnown': WHATEVER THE INPUT: true; the input reads as it did. -/
def rtoKnownSpec : ChangeSpec := { name := "rtoKnown", fn := fun _ => fun
  | [] => { results := [.lit (.bool true)], args := [] }
  | _ => none }
def rtoKnownRow : OpenClaim := { program := "ytdcfahekhjakeaa", sum := "b0c39879dd642c6396a9c9d7ba215ae5a1063b0e2abc26149ed1c3281c19a594", func := "lanyard/lanyardlaw11.RtoKnown", spec := "rtoKnown", unfollowed := true, recurses := true, apart := false }
def RtoKnownSaid : Prop := rtoKnownRow.holds Try.pinned (OpenSpec.ofChange rtoKnownSpec)

/-- ITS FALSE NEIGHBOUR: 'it returns false'. Refute it at one input. -/
def rtoKnownWrong : ChangeSpec := { name := "rtoKnown", fn := fun _ => fun
  | [] => { results := [.lit (.bool false)], args := [] }
  | _ => none }
def RtoKnownWrongFalsely : Prop := rtoKnownRow.holds Try.pinned (OpenSpec.ofChange rtoKnownWrong)

/-- 'lanyardlaw11.RtoCalls': WHATEVER THE INPUT: true; the input reads as it did. -/
def rtoCallsSpec : ChangeSpec := { name := "rtoCalls", fn := fun _ => fun
  | [d1, d2] => { results := [.lit (.bool true)], args := [d1, d2] }
  | _ => none }
def rtoCallsRow : OpenClaim := { program := "ytdcfahekhjakeaa", sum := "b0c39879dd642c6396a9c9d7ba215ae5a1063b0e2abc26149ed1c3281c19a594", func := "lanyard/lanyardlaw11.RtoCalls", spec := "rtoCalls", unfollowed := true, recurses := true, apart := false }
def RtoCallsSaid : Prop := rtoCallsRow.holds Try.pinned (OpenSpec.ofChange rtoCallsSpec)

/-- ITS FALSE NEIGHBOUR: 'it returns false'. Refute it at one input. -/
def rtoCallsWrong : ChangeSpec := { name := "rtoCalls", fn := fun _ => fun
  | [d1, d2] => { results := [.lit (.bool false)], args := [d1, d2] }
  | _ => none }
def RtoCallsWrongFalsely : Prop := rtoCallsRow.holds Try.pinned (OpenSpec.ofChange rtoCallsWrong)

/- THE SECOND FORM. 'bulk': how many values and letters a reading holds, each counted each time it is reached (what is shared counts as often as it is met; a slice's spare places count too). A statement '..UptoSaid' is the law's where the arguments, and the package variables that the reading takes, are together of bulk at most 1048576: NARROWER than '..Said'. Prove '..Said' where nothing that the law and all that it calls make is longer than what came in: it says more and counts as full. Else prove '..UptoSaid'. A law counts once. -/
mutual
def uptoBulk {H : Type} : DataW H → Nat
  | .lit (.string bytes) => bytes.length + 1
  | .lit _ => 1
  | .nil => 1
  | .ptr d => uptoBulk d + 1
  | .slice elems spare => uptoBulkAll elems + uptoBulkAll spare + 1
  | .agg parts => uptoBulkAll parts + 1
  | .iface _ d => uptoBulk d + 1
  | .map entries => uptoBulkEntries entries + 1
  | .held _ => 1
def uptoBulkAll {H : Type} : List (DataW H) → Nat
  | [] => 0
  | d :: r => uptoBulk d + uptoBulkAll r
def uptoBulkEntries {H : Type} : List (Lit × DataW H) → Nat
  | [] => 0
  | x :: r => uptoBulkEntry x + uptoBulkEntries r
def uptoBulkEntry {H : Type} : Lit × DataW H → Nat
  | (.string bytes, d) => bytes.length + uptoBulk d + 1
  | (_, d) => uptoBulk d + 1
 end
def uptoSmall : (H : Type) → List (DataW H) → Bool := fun _ ds => decide (uptoBulkAll ds ≤ 1048576)
def OpenSpec.upto (s : _root_.Go.ChangeSpec) : _root_.Go.OpenSpec := { _root_.Go.OpenSpec.ofChange s with cond := some uptoSmall }

/-- 'lanyardlaw11.RtoChecks', WHERE WHAT IT READS IS OF BULK AT MOST 1048576: true; the input reads as it did. -/
def rtoChecksUptoRow : OpenClaim := { program := "ytdcfahekhjakeaa", sum := "b0c39879dd642c6396a9c9d7ba215ae5a1063b0e2abc26149ed1c3281c19a594", func := "lanyard/lanyardlaw11.RtoChecks", spec := "rtoChecks", unfollowed := true, recurses := true, apart := false, narrowed := true }
def RtoChecksUptoSaid : Prop := rtoChecksUptoRow.holds Try.pinned (OpenSpec.upto rtoChecksSpec)

/-- 'lanyardlaw11.RtoSteady', WHERE WHAT IT READS IS OF BULK AT MOST 1048576: true; the input reads as it did. -/
def rtoSteadyUptoRow : OpenClaim := { program := "ytdcfahekhjakeaa", sum := "b0c39879dd642c6396a9c9d7ba215ae5a1063b0e2abc26149ed1c3281c19a594", func := "lanyard/lanyardlaw11.RtoSteady", spec := "rtoSteady", unfollowed := true, recurses := true, apart := false, narrowed := true }
def RtoSteadyUptoSaid : Prop := rtoSteadyUptoRow.holds Try.pinned (OpenSpec.upto rtoSteadySpec)

/-- 'lanyardlaw11.RtoBounds', WHERE WHAT IT READS IS OF BULK AT MOST 1048576: true; the input reads as it did. -/
def rtoBoundsUptoRow : OpenClaim := { program := "ytdcfahekhjakeaa", sum := "b0c39879dd642c6396a9c9d7ba215ae5a1063b0e2abc26149ed1c3281c19a594", func := "lanyard/lanyardlaw11.RtoBounds", spec := "rtoBounds", unfollowed := true, recurses := true, apart := false, narrowed := true }
def RtoBoundsUptoSaid : Prop := rtoBoundsUptoRow.holds Try.pinned (OpenSpec.upto rtoBoundsSpec)

/-- 'lanyardlaw11.RtoKnown', WHERE WHAT IT READS IS OF BULK AT MOST 1048576: true; the input reads as it did. -/
def rtoKnownUptoRow : OpenClaim := { program := "ytdcfahekhjakeaa", sum := "b0c39879dd642c6396a9c9d7ba215ae5a1063b0e2abc26149ed1c3281c19a594", func := "lanyard/lanyardlaw11.RtoKnown", spec := "rtoKnown", unfollowed := true, recurses := true, apart := false, narrowed := true }
def RtoKnownUptoSaid : Prop := rtoKnownUptoRow.holds Try.pinned (OpenSpec.upto rtoKnownSpec)

/-- 'lanyardlaw11.RtoCalls', WHERE WHAT IT READS IS OF BULK AT MOST 1048576: true; the input reads as it did. -/
def rtoCallsUptoRow : OpenClaim := { program := "ytdcfahekhjakeaa", sum := "b0c39879dd642c6396a9c9d7ba215ae5a1063b0e2abc26149ed1c3281c19a594", func := "lanyard/lanyardlaw11.RtoCalls", spec := "rtoCalls", unfollowed := true, recurses := true, apart := false, narrowed := true }
def RtoCallsUptoSaid : Prop := rtoCallsUptoRow.holds Try.pinned (OpenSpec.upto rtoCallsSpec)

end Rows
end Go.Proofs.Ytdcfahekhjakeaa
