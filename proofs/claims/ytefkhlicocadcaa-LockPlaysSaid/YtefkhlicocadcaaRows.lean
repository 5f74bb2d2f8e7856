/-
  No cell of these rows narrows 'for every input' (looked for: loops, veiled, ifaces, maps, wideKeys, modest, calm, conditions, laid).
  DERIVED. THE GIVEN ROWS OF THIS SEAT. 4 by the template 'for every input the law returns true; each argument reads behind the call as it read before'; 0 by the template 'total and deterministic' (their statements: YtefkhlicocadcaaTotals.lean).
  GIVEN WITH THE SEED: the statements are not yours to turn. If you find one false, say at which input.
  Laid BY PROGRAM, IN A SANDBOX (cutbox-rows.mjs): the forced cells as the released guide's own fill.sh prints them over the translation d48982ff92632124… (all of the seat's roots in one cut). By AI agents, Wed Nov 11 2026. No macro, syntax, notation, axiom, sorry.
-/
import Derived.Test.YtefkhlicocadcaaChecked
import GoSem.Claim
import GoSem.ClaimJoined
import GoSem.ClaimMapViews
import Derived.JoinedTies
import Derived.KernelRfl
namespace Go.Proofs.Ytefkhlicocadcaa
/- THE CELL 'sum', in the pinned program and in every row, IS THE sha256 OF THE DUMP (.gsa) THAT YtefkhlicocadcaaProg.lean LOADS. Nothing in Lean hashes anything: it is a label: what it is worth is what the hold of that sum in a sandbox is worth. -/
noncomputable def Try.pinned : Pinned := { name := "ytefkhlicocadcaa", sum := "d48982ff92632124d0f19ccd69e88c9518979ae6de599844bc2b0001f9c34a5f", checked := Try.checked }
namespace Rows
def none {H : Type} : Left H := { results := [], args := [] }

/-- 'lanyardlaw24.LockPlays': WHATEVER THE INPUT: true; the input reads as it did. -/
def lockPlaysSpec : ChangeSpec := { name := "lockPlays", fn := fun _ => fun
  | [d] => { results := [.lit (.bool true)], args := [d] }
  | _ => none }
def lockPlaysRow : OpenClaim := { program := "ytefkhlicocadcaa", sum := "d48982ff92632124d0f19ccd69e88c9518979ae6de599844bc2b0001f9c34a5f", func := "lanyard/lanyardlaw24.LockPlays", spec := "lockPlays", unfollowed := true, recurses := true, plainKeys := false, apart := false }
def LockPlaysSaid : Prop := lockPlaysRow.holds Try.pinned (OpenSpec.ofChange lockPlaysSpec)

/-- ITS FALSE NEIGHBOUR: 'it returns false'. Refute it at one input. -/
def lockPlaysWrong : ChangeSpec := { name := "lockPlays", fn := fun _ => fun
  | [d] => { results := [.lit (.bool false)], args := [d] }
  | _ => none }
def LockPlaysWrongFalsely : Prop := lockPlaysRow.holds Try.pinned (OpenSpec.ofChange lockPlaysWrong)

/-- 'lanyardlaw24.LockRing': WHATEVER THE INPUT: true; the input reads as it did. -/
def lockRingSpec : ChangeSpec := { name := "lockRing", fn := fun _ => fun
  | [d] => { results := [.lit (.bool true)], args := [d] }
  | _ => none }
def lockRingRow : OpenClaim := { program := "ytefkhlicocadcaa", sum := "d48982ff92632124d0f19ccd69e88c9518979ae6de599844bc2b0001f9c34a5f", func := "lanyard/lanyardlaw24.LockRing", spec := "lockRing", unfollowed := true, recurses := true, plainKeys := false, apart := false }
def LockRingSaid : Prop := lockRingRow.holds Try.pinned (OpenSpec.ofChange lockRingSpec)

/-- ITS FALSE NEIGHBOUR: 'it returns false'. Refute it at one input. -/
def lockRingWrong : ChangeSpec := { name := "lockRing", fn := fun _ => fun
  | [d] => { results := [.lit (.bool false)], args := [d] }
  | _ => none }
def LockRingWrongFalsely : Prop := lockRingRow.holds Try.pinned (OpenSpec.ofChange lockRingWrong)

/-- 'lanyardlaw24.LockServes': WHATEVER THE INPUT: true; the input reads as it did. -/
def lockServesSpec : ChangeSpec := { name := "lockServes", fn := fun _ => fun
  | [d] => { results := [.lit (.bool true)], args := [d] }
  | _ => none }
def lockServesRow : OpenClaim := { program := "ytefkhlicocadcaa", sum := "d48982ff92632124d0f19ccd69e88c9518979ae6de599844bc2b0001f9c34a5f", func := "lanyard/lanyardlaw24.LockServes", spec := "lockServes", unfollowed := true, recurses := true, plainKeys := false, apart := false }
def LockServesSaid : Prop := lockServesRow.holds Try.pinned (OpenSpec.ofChange lockServesSpec)

/-- ITS FALSE NEIGHBOUR: 'it returns false'. Refute it at one input. -/
def lockServesWrong : ChangeSpec := { name := "lockServes", fn := fun _ => fun
  | [d] => { results := [.lit (.bool false)], args := [d] }
  | _ => none }
def LockServesWrongFalsely : Prop := lockServesRow.holds Try.pinned (OpenSpec.ofChange lockServesWrong)

/-- 'lanyardlaw24.LockAlone': WHATEVER THE INPUT: true; the input reads as it did. -/
def lockAloneSpec : ChangeSpec := { name := "lockAlone", fn := fun _ => fun
  | [d1, d2, d3] => { results := [.lit (.bool true)], args := [d1, d2, d3] }
  | _ => none }
def lockAloneRow : OpenClaim := { program := "ytefkhlicocadcaa", sum := "d48982ff92632124d0f19ccd69e88c9518979ae6de599844bc2b0001f9c34a5f", func := "lanyard/lanyardlaw24.LockAlone", spec := "lockAlone", unfollowed := true, recurses := true, plainKeys := false, apart := false }
def LockAloneSaid : Prop := lockAloneRow.holds Try.pinned (OpenSpec.ofChange lockAloneSpec)

/-- ITS FALSE NEIGHBOUR: 'it returns false'. Refute it at one input. -/
def lockAloneWrong : ChangeSpec := { name := "lockAlone", fn := fun _ => fun
  | [d1, d2, d3] => { results := [.lit (.bool false)], args := [d1, d2, d3] }
  | _ => none }
def LockAloneWrongFalsely : Prop := lockAloneRow.holds Try.pinned (OpenSpec.ofChange lockAloneWrong)

/- THE SECOND FORM. 'bulk': how many values and letters a reading holds, each counted each time it is reached (what is shared counts as often as it is met; a slice's spare places count too). A statement '..UptoSaid' is the law's where the arguments, and the package variables that the reading takes, are together of bulk at most 1048576: NARROWER than '..Said'. Prove '..Said' where nothing that the law and all that it calls make is longer than what came in: it says more and counts as full. Else prove '..UptoSaid'. A law counts once. -/
mutual
def uptoBulk {H : Type} : DataW H → Nat
  | .lit (.string bytes) => bytes.length + 1
  | .lit _ => 1
  | .nil => 1
  | .ptr d => uptoBulk d + 1
  | .slice elems spare => uptoBulkAll elems + uptoBulkAll spare + 1
  | .agg parts => uptoBulkAll parts + 1
  | .iface _ d => uptoBulk d + 1
  | .map entries => uptoBulkEntries entries + 1
  | .held _ => 1
def uptoBulkAll {H : Type} : List (DataW H) → Nat
  | [] => 0
  | d :: r => uptoBulk d + uptoBulkAll r
def uptoBulkEntries {H : Type} : List (Lit × DataW H) → Nat
  | [] => 0
  | x :: r => uptoBulkEntry x + uptoBulkEntries r
def uptoBulkEntry {H : Type} : Lit × DataW H → Nat
  | (.string bytes, d) => bytes.length + uptoBulk d + 1
  | (_, d) => uptoBulk d + 1
 end
def uptoSmall : (H : Type) → List (DataW H) → Bool := fun _ ds => decide (uptoBulkAll ds ≤ 1048576)
def OpenSpec.upto (s : _root_.Go.ChangeSpec) : _root_.Go.OpenSpec := { _root_.Go.OpenSpec.ofChange s with cond := some uptoSmall }

/-- 'lanyardlaw24.LockPlays', WHERE WHAT IT READS IS OF BULK AT MOST 1048576: true; the input reads as it did. -/
def lockPlaysUptoRow : OpenClaim := { program := "ytefkhlicocadcaa", sum := "d48982ff92632124d0f19ccd69e88c9518979ae6de599844bc2b0001f9c34a5f", func := "lanyard/lanyardlaw24.LockPlays", spec := "lockPlays", unfollowed := true, recurses := true, plainKeys := false, apart := false, narrowed := true }
def LockPlaysUptoSaid : Prop := lockPlaysUptoRow.holds Try.pinned (OpenSpec.upto lockPlaysSpec)

/-- 'lanyardlaw24.LockRing', WHERE WHAT IT READS IS OF BULK AT MOST 1048576: true; the input reads as it did. -/
def lockRingUptoRow : OpenClaim := { program := "ytefkhlicocadcaa", sum := "d48982ff92632124d0f19ccd69e88c9518979ae6de599844bc2b0001f9c34a5f", func := "lanyard/lanyardlaw24.LockRing", spec := "lockRing", unfollowed := true, recurses := true, plainKeys := false, apart := false, narrowed := true }
def LockRingUptoSaid : Prop := lockRingUptoRow.holds Try.pinned (OpenSpec.upto lockRingSpec)

/-- 'lanyardlaw24.LockServes', WHERE WHAT IT READS IS OF BULK AT MOST 1048576: true; the input reads as it did. -/
def lockServesUptoRow : OpenClaim := { program := "ytefkhlicocadcaa", sum := "d48982ff92632124d0f19ccd69e88c9518979ae6de599844bc2b0001f9c34a5f", func := "lanyard/lanyardlaw24.LockServes", spec := "lockServes", unfollowed := true, recurses := true, plainKeys := false, apart := false, narrowed := true }
def LockServesUptoSaid : Prop := lockServesUptoRow.holds Try.pinned (OpenSpec.upto lockServesSpec)

/-- 'lanyardlaw24.LockAlone', WHERE WHAT IT READS IS OF BULK AT MOST 1048576: true; the input reads as it did. -/
def lockAloneUptoRow : OpenClaim := { program := "ytefkhlicocadcaa", sum := "d48982ff92632124d0f19ccd69e88c9518979ae6de599844bc2b0001f9c34a5f", func := "lanyard/lanyardlaw24.LockAlone", spec := "lockAlone", unfollowed := true, recurses := true, plainKeys := false, apart := false, narrowed := true }
def LockAloneUptoSaid : Prop := lockAloneUptoRow.holds Try.pinned (OpenSpec.upto lockAloneSpec)

end Rows
end Go.Proofs.Ytefkhlicocadcaa
