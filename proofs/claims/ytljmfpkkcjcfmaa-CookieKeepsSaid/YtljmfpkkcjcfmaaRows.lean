/-
  No cell of these rows narrows 'for every input' (looked for: loops, veiled, ifaces, maps, wideKeys, modest, calm, conditions, laid).
  DERIVED. THE GIVEN ROWS OF THIS SEAT. 3 by the template 'for every input the law returns true; each argument reads behind the call as it read before'; 0 by the template 'total and deterministic' (their statements: YtljmfpkkcjcfmaaTotals.lean).
  GIVEN WITH THE SEED: the statements are not yours to turn. If you find one false, say at which input.
  Laid BY PROGRAM, IN A SANDBOX (cutbox-rows.mjs): the forced cells as the released guide's own fill.sh prints them over the translation 4fe0e6a9c0826d77… (all of the seat's roots in one cut). By AI agents, Wed Nov 11 2026. No macro, syntax, notation, axiom, sorry.
-/
import Derived.Test.YtljmfpkkcjcfmaaChecked
import GoSem.Claim
import GoSem.ClaimJoined
import GoSem.ClaimMapViews
import Derived.JoinedTies
import Derived.KernelRfl
namespace Go.Proofs.Ytljmfpkkcjcfmaa
/- THE CELL 'sum', in the pinned program and in every row, IS THE sha256 OF THE DUMP (.gsa) THAT YtljmfpkkcjcfmaaProg.lean LOADS. Nothing in Lean hashes anything: it is a label: what it is worth is what the hold of that sum in a sandbox is worth. -/
noncomputable def Try.pinned : Pinned := { name := "ytljmfpkkcjcfmaa", sum := "4fe0e6a9c0826d771347f3e5398df3a104d086d64100c3c9068e64fe83d16967", checked := Try.checked }
namespace Rows
def none {H : Type} : Left H := { results := [], args := [] }

/-- 'lanyardlaw16.CookieKnown': WHATEVER THE INPUT: true; the input reads as it did. -/
def cookieKnownSpec : ChangeSpec := { name := "cookieKnown", fn := fun _ => fun
  | [] => { results := [.lit (.bool true)], args := [] }
  | _ => none }
def cookieKnownRow : OpenClaim := { program := "ytljmfpkkcjcfmaa", sum := "4fe0e6a9c0826d771347f3e5398df3a104d086d64100c3c9068e64fe83d16967", func := "lanyard/lanyardlaw16.CookieKnown", spec := "cookieKnown", unfollowed := true, recurses := true, apart := false }
def CookieKnownSaid : Prop := cookieKnownRow.holds Try.pinned (OpenSpec.ofChange cookieKnownSpec)

/-- ITS FALSE NEIGHBOUR: 'it returns false'. Refute it at one input. -/
def cookieKnownWrong : ChangeSpec := { name := "cookieKnown", fn := fun _ => fun
  | [] => { results := [.lit (.bool false)], args := [] }
  | _ => none }
def CookieKnownWrongFalsely : Prop := cookieKnownRow.holds Try.pinned (OpenSpec.ofChange cookieKnownWrong)

/-- 'lanyardlaw16.CookieMakes': WHATEVER THE INPUT: true; the input reads as it did. -/
def cookieMakesSpec : ChangeSpec := { name := "cookieMakes", fn := fun _ => fun
  | [d1, d2, d3] => { results := [.lit (.bool true)], args := [d1, d2, d3] }
  | _ => none }
def cookieMakesRow : OpenClaim := { program := "ytljmfpkkcjcfmaa", sum := "4fe0e6a9c0826d771347f3e5398df3a104d086d64100c3c9068e64fe83d16967", func := "lanyard/lanyardlaw16.CookieMakes", spec := "cookieMakes", unfollowed := true, recurses := true, apart := false }
def CookieMakesSaid : Prop := cookieMakesRow.holds Try.pinned (OpenSpec.ofChange cookieMakesSpec)

/-- ITS FALSE NEIGHBOUR: 'it returns false'. Refute it at one input. -/
def cookieMakesWrong : ChangeSpec := { name := "cookieMakes", fn := fun _ => fun
  | [d1, d2, d3] => { results := [.lit (.bool false)], args := [d1, d2, d3] }
  | _ => none }
def CookieMakesWrongFalsely : Prop := cookieMakesRow.holds Try.pinned (OpenSpec.ofChange cookieMakesWrong)

/-- 'lanyardlaw16.CookieKeeps': WHATEVER THE INPUT: true; the input reads as it did. -/
def cookieKeepsSpec : ChangeSpec := { name := "cookieKeeps", fn := fun _ => fun
  | [d1, d2, d3, d4, d5] => { results := [.lit (.bool true)], args := [d1, d2, d3, d4, d5] }
  | _ => none }
def cookieKeepsRow : OpenClaim := { program := "ytljmfpkkcjcfmaa", sum := "4fe0e6a9c0826d771347f3e5398df3a104d086d64100c3c9068e64fe83d16967", func := "lanyard/lanyardlaw16.CookieKeeps", spec := "cookieKeeps", unfollowed := true, recurses := true, apart := false }
def CookieKeepsSaid : Prop := cookieKeepsRow.holds Try.pinned (OpenSpec.ofChange cookieKeepsSpec)

/-- ITS FALSE NEIGHBOUR: 'it returns false'. Refute it at one input. -/
def cookieKeepsWrong : ChangeSpec := { name := "cookieKeeps", fn := fun _ => fun
  | [d1, d2, d3, d4, d5] => { results := [.lit (.bool false)], args := [d1, d2, d3, d4, d5] }
  | _ => none }
def CookieKeepsWrongFalsely : Prop := cookieKeepsRow.holds Try.pinned (OpenSpec.ofChange cookieKeepsWrong)

/- THE SECOND FORM. 'bulk': how many values and letters a reading holds, each counted each time it is reached (what is shared counts as often as it is met; a slice's spare places count too). A statement '..UptoSaid' is the law's where the arguments, and the package variables that the reading takes, are together of bulk at most 1048576: NARROWER than '..Said'. Prove '..Said' where nothing that the law and all that it calls make is longer than what came in: it says more and counts as full. Else prove '..UptoSaid'. A law counts once. -/
mutual
def uptoBulk {H : Type} : DataW H → Nat
  | .lit (.string bytes) => bytes.length + 1
  | .lit _ => 1
  | .nil => 1
  | .ptr d => uptoBulk d + 1
  | .slice elems spare => uptoBulkAll elems + uptoBulkAll spare + 1
  | .agg parts => uptoBulkAll parts + 1
  | .iface _ d => uptoBulk d + 1
  | .map entries => uptoBulkEntries entries + 1
  | .held _ => 1
def uptoBulkAll {H : Type} : List (DataW H) → Nat
  | [] => 0
  | d :: r => uptoBulk d + uptoBulkAll r
def uptoBulkEntries {H : Type} : List (Lit × DataW H) → Nat
  | [] => 0
  | x :: r => uptoBulkEntry x + uptoBulkEntries r
def uptoBulkEntry {H : Type} : Lit × DataW H → Nat
  | (.string bytes, d) => bytes.length + uptoBulk d + 1
  | (_, d) => uptoBulk d + 1
 end
def uptoSmall : (H : Type) → List (DataW H) → Bool := fun _ ds => decide (uptoBulkAll ds ≤ 1048576)
def OpenSpec.upto (s : _root_.Go.ChangeSpec) : _root_.Go.OpenSpec := { _root_.Go.OpenSpec.ofChange s with cond := some uptoSmall }

/-- 'lanyardlaw16.CookieKnown', WHERE WHAT IT READS IS OF BULK AT MOST 1048576: true; the input reads as it did. -/
def cookieKnownUptoRow : OpenClaim := { program := "ytljmfpkkcjcfmaa", sum := "4fe0e6a9c0826d771347f3e5398df3a104d086d64100c3c9068e64fe83d16967", func := "lanyard/lanyardlaw16.CookieKnown", spec := "cookieKnown", unfollowed := true, recurses := true, apart := false, narrowed := true }
def CookieKnownUptoSaid : Prop := cookieKnownUptoRow.holds Try.pinned (OpenSpec.upto cookieKnownSpec)

/-- 'lanyardlaw16.CookieMakes', WHERE WHAT IT READS IS OF BULK AT MOST 1048576: true; the input reads as it did. -/
def cookieMakesUptoRow : OpenClaim := { program := "ytljmfpkkcjcfmaa", sum := "4fe0e6a9c0826d771347f3e5398df3a104d086d64100c3c9068e64fe83d16967", func := "lanyard/lanyardlaw16.CookieMakes", spec := "cookieMakes", unfollowed := true, recurses := true, apart := false, narrowed := true }
def CookieMakesUptoSaid : Prop := cookieMakesUptoRow.holds Try.pinned (OpenSpec.upto cookieMakesSpec)

/-- 'lanyardlaw16.CookieKeeps', WHERE WHAT IT READS IS OF BULK AT MOST 1048576: true; the input reads as it did. -/
def cookieKeepsUptoRow : OpenClaim := { program := "ytljmfpkkcjcfmaa", sum := "4fe0e6a9c0826d771347f3e5398df3a104d086d64100c3c9068e64fe83d16967", func := "lanyard/lanyardlaw16.CookieKeeps", spec := "cookieKeeps", unfollowed := true, recurses := true, apart := false, narrowed := true }
def CookieKeepsUptoSaid : Prop := cookieKeepsUptoRow.holds Try.pinned (OpenSpec.upto cookieKeepsSpec)

end Rows
end Go.Proofs.Ytljmfpkkcjcfmaa
