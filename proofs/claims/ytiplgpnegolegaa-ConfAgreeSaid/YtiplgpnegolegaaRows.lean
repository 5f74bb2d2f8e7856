/-
  No cell of these rows narrows 'for every input' (looked for: loops, veiled, ifaces, maps, wideKeys, modest, calm, conditions, laid).
  DERIVED. THE GIVEN ROWS OF THIS SEAT. 4 by the template 'for every input the law returns true; each argument reads behind the call as it read before'; 0 by the template 'total and deterministic' (their statements: YtiplgpnegolegaaTotals.lean).
  GIVEN WITH THE SEED: the statements are not yours to turn. If you find one false, say at which input.
  Laid BY PROGRAM, IN A SANDBOX (cutbox-rows.mjs): the forced cells as the released guide's own fill.sh prints them over the translation 1fbc2db0771f3e71… (all of the seat's roots in one cut). By AI agents, Wed Nov 11 2026. No macro, syntax, notation, axiom, sorry.
-/
import Derived.Test.YtiplgpnegolegaaChecked
import GoSem.Claim
import GoSem.ClaimJoined
import GoSem.ClaimMapViews
import Derived.JoinedTies
import Derived.KernelRfl
namespace Go.Proofs.Ytiplgpnegolegaa
/- THE CELL 'sum', in the pinned program and in every row, IS THE sha256 OF THE DUMP (.gsa) THAT YtiplgpnegolegaaProg.lean LOADS. Nothing in Lean hashes anything: it is a label: what it is worth is what the hold of that sum in a sandbox is worth. -/
noncomputable def Try.pinned : Pinned := { name := "ytiplgpnegolegaa", sum := "1fbc2db0771f3e7180b51636238016e81e5b1248ca34d00b81691a74d296aba3", checked := Try.checked }
namespace Rows
def none {H : Type} : Left H := { results := [], args := [] }

/-- 'lanyardlaw36.ConfDoes': WHATEVER THE INPUT: true; the input reads as it did. -/
def confDoesSpec : ChangeSpec := { name := "confDoes", fn := fun _ => fun
  | [d1, d2] => { results := [.lit (.bool true)], args := [d1, d2] }
  | _ => none }
def confDoesRow : OpenClaim := { program := "ytiplgpnegolegaa", sum := "1fbc2db0771f3e7180b51636238016e81e5b1248ca34d00b81691a74d296aba3", func := "lanyard/lanyardlaw36.ConfDoes", spec := "confDoes", inPlace := ["slices.overlaps[uint32]"], unfollowed := true, recurses := true, apart := false }
def ConfDoesSaid : Prop := confDoesRow.holds Try.pinned (OpenSpec.ofChange confDoesSpec)

/-- ITS FALSE NEIGHBOUR: 'it returns false'. Refute it at one input. -/
def confDoesWrong : ChangeSpec := { name := "confDoes", fn := fun _ => fun
  | [d1, d2] => { results := [.lit (.bool false)], args := [d1, d2] }
  | _ => none }
def ConfDoesWrongFalsely : Prop := confDoesRow.holds Try.pinned (OpenSpec.ofChange confDoesWrong)

/-- 'lanyardlaw36.ConfKnown': WHATEVER THE INPUT: true; the input reads as it did. -/
def confKnownSpec : ChangeSpec := { name := "confKnown", fn := fun _ => fun
  | [] => { results := [.lit (.bool true)], args := [] }
  | _ => none }
def confKnownRow : OpenClaim := { program := "ytiplgpnegolegaa", sum := "1fbc2db0771f3e7180b51636238016e81e5b1248ca34d00b81691a74d296aba3", func := "lanyard/lanyardlaw36.ConfKnown", spec := "confKnown", inPlace := ["slices.overlaps[uint32]"], unfollowed := true, recurses := true, apart := false }
def ConfKnownSaid : Prop := confKnownRow.holds Try.pinned (OpenSpec.ofChange confKnownSpec)

/-- ITS FALSE NEIGHBOUR: 'it returns false'. Refute it at one input. -/
def confKnownWrong : ChangeSpec := { name := "confKnown", fn := fun _ => fun
  | [] => { results := [.lit (.bool false)], args := [] }
  | _ => none }
def ConfKnownWrongFalsely : Prop := confKnownRow.holds Try.pinned (OpenSpec.ofChange confKnownWrong)

/-- 'lanyardlaw36.ConfPlays': WHATEVER THE INPUT: true; the input reads as it did. -/
def confPlaysSpec : ChangeSpec := { name := "confPlays", fn := fun _ => fun
  | [d1, d2, d3] => { results := [.lit (.bool true)], args := [d1, d2, d3] }
  | _ => none }
def confPlaysRow : OpenClaim := { program := "ytiplgpnegolegaa", sum := "1fbc2db0771f3e7180b51636238016e81e5b1248ca34d00b81691a74d296aba3", func := "lanyard/lanyardlaw36.ConfPlays", spec := "confPlays", inPlace := ["slices.overlaps[uint32]"], unfollowed := true, recurses := true, apart := false }
def ConfPlaysSaid : Prop := confPlaysRow.holds Try.pinned (OpenSpec.ofChange confPlaysSpec)

/-- ITS FALSE NEIGHBOUR: 'it returns false'. Refute it at one input. -/
def confPlaysWrong : ChangeSpec := { name := "confPlays", fn := fun _ => fun
  | [d1, d2, d3] => { results := [.lit (.bool false)], args := [d1, d2, d3] }
  | _ => none }
def ConfPlaysWrongFalsely : Prop := confPlaysRow.holds Try.pinned (OpenSpec.ofChange confPlaysWrong)

/-- 'lanyardlaw36.ConfAgree': WHATEVER THE INPUT: true; the input reads as it did. -/
def confAgreeSpec : ChangeSpec := { name := "confAgree", fn := fun _ => fun
  | [d1, d2, d3, d4, d5] => { results := [.lit (.bool true)], args := [d1, d2, d3, d4, d5] }
  | _ => none }
def confAgreeRow : OpenClaim := { program := "ytiplgpnegolegaa", sum := "1fbc2db0771f3e7180b51636238016e81e5b1248ca34d00b81691a74d296aba3", func := "lanyard/lanyardlaw36.ConfAgree", spec := "confAgree", inPlace := ["slices.overlaps[uint32]"], unfollowed := true, recurses := true, apart := false }
def ConfAgreeSaid : Prop := confAgreeRow.holds Try.pinned (OpenSpec.ofChange confAgreeSpec)

/-- ITS FALSE NEIGHBOUR: 'it returns false'. Refute it at one input. -/
def confAgreeWrong : ChangeSpec := { name := "confAgree", fn := fun _ => fun
  | [d1, d2, d3, d4, d5] => { results := [.lit (.bool false)], args := [d1, d2, d3, d4, d5] }
  | _ => none }
def ConfAgreeWrongFalsely : Prop := confAgreeRow.holds Try.pinned (OpenSpec.ofChange confAgreeWrong)

/- THE SECOND FORM. 'bulk': how many values and letters a reading holds, each counted each time it is reached (what is shared counts as often as it is met; a slice's spare places count too). A statement '..UptoSaid' is the law's where the arguments, and the package variables that the reading takes, are together of bulk at most 1048576: NARROWER than '..Said'. Prove '..Said' where nothing that the law and all that it calls make is longer than what came in: it says more and counts as full. Else prove '..UptoSaid'. A law counts once. -/
mutual
def uptoBulk {H : Type} : DataW H → Nat
  | .lit (.string bytes) => bytes.length + 1
  | .lit _ => 1
  | .nil => 1
  | .ptr d => uptoBulk d + 1
  | .slice elems spare => uptoBulkAll elems + uptoBulkAll spare + 1
  | .agg parts => uptoBulkAll parts + 1
  | .iface _ d => uptoBulk d + 1
  | .map entries => uptoBulkEntries entries + 1
  | .held _ => 1
def uptoBulkAll {H : Type} : List (DataW H) → Nat
  | [] => 0
  | d :: r => uptoBulk d + uptoBulkAll r
def uptoBulkEntries {H : Type} : List (Lit × DataW H) → Nat
  | [] => 0
  | x :: r => uptoBulkEntry x + uptoBulkEntries r
def uptoBulkEntry {H : Type} : Lit × DataW H → Nat
  | (.string bytes, d) => bytes.length + uptoBulk d + 1
  | (_, d) => uptoBulk d + 1
 end
def uptoSmall : (H : Type) → List (DataW H) → Bool := fun _ ds => decide (uptoBulkAll ds ≤ 1048576)
def OpenSpec.upto (s : _root_.Go.ChangeSpec) : _root_.Go.OpenSpec := { _root_.Go.OpenSpec.ofChange s with cond := some uptoSmall }

/-- 'lanyardlaw36.ConfDoes', WHERE WHAT IT READS IS OF BULK AT MOST 1048576: true; the input reads as it did. -/
def confDoesUptoRow : OpenClaim := { program := "ytiplgpnegolegaa", sum := "1fbc2db0771f3e7180b51636238016e81e5b1248ca34d00b81691a74d296aba3", func := "lanyard/lanyardlaw36.ConfDoes", spec := "confDoes", inPlace := ["slices.overlaps[uint32]"], unfollowed := true, recurses := true, apart := false, narrowed := true }
def ConfDoesUptoSaid : Prop := confDoesUptoRow.holds Try.pinned (OpenSpec.upto confDoesSpec)

/-- 'lanyardlaw36.ConfKnown', WHERE WHAT IT READS IS OF BULK AT MOST 1048576: true; the input reads as it did. -/
def confKnownUptoRow : OpenClaim := { program := "ytiplgpnegolegaa", sum := "1fbc2db0771f3e7180b51636238016e81e5b1248ca34d00b81691a74d296aba3", func := "lanyard/lanyardlaw36.ConfKnown", spec := "confKnown", inPlace := ["slices.overlaps[uint32]"], unfollowed := true, recurses := true, apart := false, narrowed := true }
def ConfKnownUptoSaid : Prop := confKnownUptoRow.holds Try.pinned (OpenSpec.upto confKnownSpec)

/-- 'lanyardlaw36.ConfPlays', WHERE WHAT IT READS IS OF BULK AT MOST 1048576: true; the input reads as it did. -/
def confPlaysUptoRow : OpenClaim := { program := "ytiplgpnegolegaa", sum := "1fbc2db0771f3e7180b51636238016e81e5b1248ca34d00b81691a74d296aba3", func := "lanyard/lanyardlaw36.ConfPlays", spec := "confPlays", inPlace := ["slices.overlaps[uint32]"], unfollowed := true, recurses := true, apart := false, narrowed := true }
def ConfPlaysUptoSaid : Prop := confPlaysUptoRow.holds Try.pinned (OpenSpec.upto confPlaysSpec)

/-- 'lanyardlaw36.ConfAgree', WHERE WHAT IT READS IS OF BULK AT MOST 1048576: true; the input reads as it did. -/
def confAgreeUptoRow : OpenClaim := { program := "ytiplgpnegolegaa", sum := "1fbc2db0771f3e7180b51636238016e81e5b1248ca34d00b81691a74d296aba3", func := "lanyard/lanyardlaw36.ConfAgree", spec := "confAgree", inPlace := ["slices.overlaps[uint32]"], unfollowed := true, recurses := true, apart := false, narrowed := true }
def ConfAgreeUptoSaid : Prop := confAgreeUptoRow.holds Try.pinned (OpenSpec.upto confAgreeSpec)

end Rows
end Go.Proofs.Ytiplgpnegolegaa
