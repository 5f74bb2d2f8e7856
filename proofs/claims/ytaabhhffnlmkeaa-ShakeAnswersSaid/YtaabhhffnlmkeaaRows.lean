/-
  No cell of these rows narrows 'for every input' (looked for: loops, veiled, ifaces, maps, wideKeys, modest, calm, conditions, laid).
  DERIVED. THE GIVEN ROWS OF THIS SEAT. 4 by the template 'for every input the law returns true; each argument reads behind the call as it read before'; 0 by the template 'total and deterministic' (their statements: YtaabhhffnlmkeaaTotals.lean).
  GIVEN WITH THE SEED: the statements are not yours to turn. If you find one false, say at which input.
  Laid BY PROGRAM, IN A SANDBOX (cutbox-rows.mjs): the forced cells as the released guide's own fill.sh prints them over the translation fdd05b71efc4062f… (all of the seat's roots in one cut). By AI agents, Wed Nov 11 2026. No macro, syntax, notation, axiom, sorry.
-/
import Derived.Test.YtaabhhffnlmkeaaChecked
import GoSem.Claim
import GoSem.ClaimJoined
import GoSem.ClaimMapViews
import Derived.JoinedTies
import Derived.KernelRfl
namespace Go.Proofs.Ytaabhhffnlmkeaa
/- THE CELL 'sum', in the pinned program and in every row, IS THE sha256 OF THE DUMP (.gsa) THAT YtaabhhffnlmkeaaProg.lean LOADS. Nothing in Lean hashes anything: it is a label: what it is worth is what the hold of that sum in a sandbox is worth. -/
noncomputable def Try.pinned : Pinned := { name := "ytaabhhffnlmkeaa", sum := "fdd05b71efc4062f712c8f6d9b9634983b6dccc91d3d91a9e407f91ba9f12007", checked := Try.checked }
namespace Rows
def none {H : Type} : Left H := { results := [], args := [] }

/-- 'lanyardlaw19.ShakeAnswers': WHATEVER THE INPUT: true; the input reads as it did. -/
def shakeAnswersSpec : ChangeSpec := { name := "shakeAnswers", fn := fun _ => fun
  | [d1, d2, d3, d4, d5, d6, d7, d8] => { results := [.lit (.bool true)], args := [d1, d2, d3, d4, d5, d6, d7, d8] }
  | _ => none }
def shakeAnswersRow : OpenClaim := { program := "ytaabhhffnlmkeaa", sum := "fdd05b71efc4062f712c8f6d9b9634983b6dccc91d3d91a9e407f91ba9f12007", func := "lanyard/lanyardlaw19.ShakeAnswers", spec := "shakeAnswers", unfollowed := true, recurses := true, apart := false }
def ShakeAnswersSaid : Prop := shakeAnswersRow.holds Try.pinned (OpenSpec.ofChange shakeAnswersSpec)

/-- ITS FALSE NEIGHBOUR: 'it returns false'. Refute it at one input. -/
def shakeAnswersWrong : ChangeSpec := { name := "shakeAnswers", fn := fun _ => fun
  | [d1, d2, d3, d4, d5, d6, d7, d8] => { results := [.lit (.bool false)], args := [d1, d2, d3, d4, d5, d6, d7, d8] }
  | _ => none }
def ShakeAnswersWrongFalsely : Prop := shakeAnswersRow.holds Try.pinned (OpenSpec.ofChange shakeAnswersWrong)

/-- 'lanyardlaw19.ShakeKeyed': WHATEVER THE INPUT: true; the input reads as it did. -/
def shakeKeyedSpec : ChangeSpec := { name := "shakeKeyed", fn := fun _ => fun
  | [d1, d2, d3, d4] => { results := [.lit (.bool true)], args := [d1, d2, d3, d4] }
  | _ => none }
def shakeKeyedRow : OpenClaim := { program := "ytaabhhffnlmkeaa", sum := "fdd05b71efc4062f712c8f6d9b9634983b6dccc91d3d91a9e407f91ba9f12007", func := "lanyard/lanyardlaw19.ShakeKeyed", spec := "shakeKeyed", unfollowed := true, recurses := true, apart := false }
def ShakeKeyedSaid : Prop := shakeKeyedRow.holds Try.pinned (OpenSpec.ofChange shakeKeyedSpec)

/-- ITS FALSE NEIGHBOUR: 'it returns false'. Refute it at one input. -/
def shakeKeyedWrong : ChangeSpec := { name := "shakeKeyed", fn := fun _ => fun
  | [d1, d2, d3, d4] => { results := [.lit (.bool false)], args := [d1, d2, d3, d4] }
  | _ => none }
def ShakeKeyedWrongFalsely : Prop := shakeKeyedRow.holds Try.pinned (OpenSpec.ofChange shakeKeyedWrong)

/-- 'lanyardlaw19.ShakeThrows': WHATEVER THE INPUT: true; the input reads as it did. -/
def shakeThrowsSpec : ChangeSpec := { name := "shakeThrows", fn := fun _ => fun
  | [d1, d2] => { results := [.lit (.bool true)], args := [d1, d2] }
  | _ => none }
def shakeThrowsRow : OpenClaim := { program := "ytaabhhffnlmkeaa", sum := "fdd05b71efc4062f712c8f6d9b9634983b6dccc91d3d91a9e407f91ba9f12007", func := "lanyard/lanyardlaw19.ShakeThrows", spec := "shakeThrows", unfollowed := true, recurses := true, apart := false }
def ShakeThrowsSaid : Prop := shakeThrowsRow.holds Try.pinned (OpenSpec.ofChange shakeThrowsSpec)

/-- ITS FALSE NEIGHBOUR: 'it returns false'. Refute it at one input. -/
def shakeThrowsWrong : ChangeSpec := { name := "shakeThrows", fn := fun _ => fun
  | [d1, d2] => { results := [.lit (.bool false)], args := [d1, d2] }
  | _ => none }
def ShakeThrowsWrongFalsely : Prop := shakeThrowsRow.holds Try.pinned (OpenSpec.ofChange shakeThrowsWrong)

/-- 'lanyardlaw19.ShakeKnown': WHATEVER THE INPUT: true; the input reads as it did. -/
def shakeKnownSpec : ChangeSpec := { name := "shakeKnown", fn := fun _ => fun
  | [] => { results := [.lit (.bool true)], args := [] }
  | _ => none }
def shakeKnownRow : OpenClaim := { program := "ytaabhhffnlmkeaa", sum := "fdd05b71efc4062f712c8f6d9b9634983b6dccc91d3d91a9e407f91ba9f12007", func := "lanyard/lanyardlaw19.ShakeKnown", spec := "shakeKnown", unfollowed := true, recurses := true, apart := false }
def ShakeKnownSaid : Prop := shakeKnownRow.holds Try.pinned (OpenSpec.ofChange shakeKnownSpec)

/-- ITS FALSE NEIGHBOUR: 'it returns false'. Refute it at one input. -/
def shakeKnownWrong : ChangeSpec := { name := "shakeKnown", fn := fun _ => fun
  | [] => { results := [.lit (.bool false)], args := [] }
  | _ => none }
def ShakeKnownWrongFalsely : Prop := shakeKnownRow.holds Try.pinned (OpenSpec.ofChange shakeKnownWrong)

/- THE SECOND FORM. 'bulk': how many values and letters a reading holds, each counted each time it is reached (what is shared counts as often as it is met; a slice's spare places count too). A statement '..UptoSaid' is the law's where the arguments, and the package variables that the reading takes, are together of bulk at most 1048576: NARROWER than '..Said'. Prove '..Said' where nothing that the law and all that it calls make is longer than what came in: it says more and counts as full. Else prove '..UptoSaid'. A law counts once. -/
mutual
def uptoBulk {H : Type} : DataW H → Nat
  | .lit (.string bytes) => bytes.length + 1
  | .lit _ => 1
  | .nil => 1
  | .ptr d => uptoBulk d + 1
  | .slice elems spare => uptoBulkAll elems + uptoBulkAll spare + 1
  | .agg parts => uptoBulkAll parts + 1
  | .iface _ d => uptoBulk d + 1
  | .map entries => uptoBulkEntries entries + 1
  | .held _ => 1
def uptoBulkAll {H : Type} : List (DataW H) → Nat
  | [] => 0
  | d :: r => uptoBulk d + uptoBulkAll r
def uptoBulkEntries {H : Type} : List (Lit × DataW H) → Nat
  | [] => 0
  | x :: r => uptoBulkEntry x + uptoBulkEntries r
def uptoBulkEntry {H : Type} : Lit × DataW H → Nat
  | (.string bytes, d) => bytes.length + uptoBulk d + 1
  | (_, d) => uptoBulk d + 1
 end
def uptoSmall : (H : Type) → List (DataW H) → Bool := fun _ ds => decide (uptoBulkAll ds ≤ 1048576)
def OpenSpec.upto (s : _root_.Go.ChangeSpec) : _root_.Go.OpenSpec := { _root_.Go.OpenSpec.ofChange s with cond := some uptoSmall }

/-- 'lanyardlaw19.ShakeAnswers', WHERE WHAT IT READS IS OF BULK AT MOST 1048576: true; the input reads as it did. -/
def shakeAnswersUptoRow : OpenClaim := { program := "ytaabhhffnlmkeaa", sum := "fdd05b71efc4062f712c8f6d9b9634983b6dccc91d3d91a9e407f91ba9f12007", func := "lanyard/lanyardlaw19.ShakeAnswers", spec := "shakeAnswers", unfollowed := true, recurses := true, apart := false, narrowed := true }
def ShakeAnswersUptoSaid : Prop := shakeAnswersUptoRow.holds Try.pinned (OpenSpec.upto shakeAnswersSpec)

/-- 'lanyardlaw19.ShakeKeyed', WHERE WHAT IT READS IS OF BULK AT MOST 1048576: true; the input reads as it did. -/
def shakeKeyedUptoRow : OpenClaim := { program := "ytaabhhffnlmkeaa", sum := "fdd05b71efc4062f712c8f6d9b9634983b6dccc91d3d91a9e407f91ba9f12007", func := "lanyard/lanyardlaw19.ShakeKeyed", spec := "shakeKeyed", unfollowed := true, recurses := true, apart := false, narrowed := true }
def ShakeKeyedUptoSaid : Prop := shakeKeyedUptoRow.holds Try.pinned (OpenSpec.upto shakeKeyedSpec)

/-- 'lanyardlaw19.ShakeThrows', WHERE WHAT IT READS IS OF BULK AT MOST 1048576: true; the input reads as it did. -/
def shakeThrowsUptoRow : OpenClaim := { program := "ytaabhhffnlmkeaa", sum := "fdd05b71efc4062f712c8f6d9b9634983b6dccc91d3d91a9e407f91ba9f12007", func := "lanyard/lanyardlaw19.ShakeThrows", spec := "shakeThrows", unfollowed := true, recurses := true, apart := false, narrowed := true }
def ShakeThrowsUptoSaid : Prop := shakeThrowsUptoRow.holds Try.pinned (OpenSpec.upto shakeThrowsSpec)

/-- 'lanyardlaw19.ShakeKnown', WHERE WHAT IT READS IS OF BULK AT MOST 1048576: true; the input reads as it did. -/
def shakeKnownUptoRow : OpenClaim := { program := "ytaabhhffnlmkeaa", sum := "fdd05b71efc4062f712c8f6d9b9634983b6dccc91d3d91a9e407f91ba9f12007", func := "lanyard/lanyardlaw19.ShakeKnown", spec := "shakeKnown", unfollowed := true, recurses := true, apart := false, narrowed := true }
def ShakeKnownUptoSaid : Prop := shakeKnownUptoRow.holds Try.pinned (OpenSpec.upto shakeKnownSpec)

end Rows
end Go.Proofs.Ytaabhhffnlmkeaa
