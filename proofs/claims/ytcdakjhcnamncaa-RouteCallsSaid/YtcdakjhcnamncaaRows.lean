/-
  No cell of these rows narrows 'for every input' (looked for: loops, veiled, ifaces, maps, wideKeys, modest, calm, conditions, laid).
  DERIVED. THE GIVEN ROWS OF THIS SEAT. 4 by the template 'for every input the law returns true; each argument reads behind the call as it read before'; 0 by the template 'total and deterministic' (their statements: YtcdakjhcnamncaaTotals.lean).
  GIVEN WITH THE SEED: the statements are not yours to turn. If you find one false, say at which input.
  Laid BY PROGRAM, IN A SANDBOX (cutbox-rows.mjs): the forced cells as the released guide's own fill.sh prints them over the translation d484e8e7f6af8058… (all of the seat's roots in one cut). By AI agents, Wed Nov 11 2026. No macro, syntax, notation, axiom, sorry.
-/
import Derived.Test.YtcdakjhcnamncaaChecked
import GoSem.Claim
import GoSem.ClaimJoined
import GoSem.ClaimMapViews
import Derived.JoinedTies
import Derived.KernelRfl
namespace Go.Proofs.Ytcdakjhcnamncaa
/- THE CELL 'sum', in the pinned program and in every row, IS THE sha256 OF THE DUMP (.gsa) THAT YtcdakjhcnamncaaProg.lean LOADS. Nothing in Lean hashes anything: it is a label: what it is worth is what the hold of that sum in a sandbox is worth. -/
noncomputable def Try.pinned : Pinned := { name := "ytcdakjhcnamncaa", sum := "d484e8e7f6af8058cdbd0364c11140f23903d8277603d5db5e4173e914abab48", checked := Try.checked }
namespace Rows
def none {H : Type} : Left H := { results := [], args := [] }

/-- 'lanyardlaw15.RouteSilence': WHATEVER THE INPUT: true; the input reads as it did. -/
def routeSilenceSpec : ChangeSpec := { name := "routeSilence", fn := fun _ => fun
  | [d1, d2, d3, d4] => { results := [.lit (.bool true)], args := [d1, d2, d3, d4] }
  | _ => none }
def routeSilenceRow : OpenClaim := { program := "ytcdakjhcnamncaa", sum := "d484e8e7f6af8058cdbd0364c11140f23903d8277603d5db5e4173e914abab48", func := "lanyard/lanyardlaw15.RouteSilence", spec := "routeSilence", unfollowed := true, recurses := true, apart := false }
def RouteSilenceSaid : Prop := routeSilenceRow.holds Try.pinned (OpenSpec.ofChange routeSilenceSpec)

/-- ITS FALSE NEIGHBOUR: 'it returns false'. Refute it at one input. -/
def routeSilenceWrong : ChangeSpec := { name := "routeSilence", fn := fun _ => fun
  | [d1, d2, d3, d4] => { results := [.lit (.bool false)], args := [d1, d2, d3, d4] }
  | _ => none }
def RouteSilenceWrongFalsely : Prop := routeSilenceRow.holds Try.pinned (OpenSpec.ofChange routeSilenceWrong)

/-- 'lanyardlaw15.RouteRound': WHATEVER THE INPUT: true; the input reads as it did. -/
def routeRoundSpec : ChangeSpec := { name := "routeRound", fn := fun _ => fun
  | [d1, d2, d3, d4, d5] => { results := [.lit (.bool true)], args := [d1, d2, d3, d4, d5] }
  | _ => none }
def routeRoundRow : OpenClaim := { program := "ytcdakjhcnamncaa", sum := "d484e8e7f6af8058cdbd0364c11140f23903d8277603d5db5e4173e914abab48", func := "lanyard/lanyardlaw15.RouteRound", spec := "routeRound", unfollowed := true, recurses := true, apart := false }
def RouteRoundSaid : Prop := routeRoundRow.holds Try.pinned (OpenSpec.ofChange routeRoundSpec)

/-- ITS FALSE NEIGHBOUR: 'it returns false'. Refute it at one input. -/
def routeRoundWrong : ChangeSpec := { name := "routeRound", fn := fun _ => fun
  | [d1, d2, d3, d4, d5] => { results := [.lit (.bool false)], args := [d1, d2, d3, d4, d5] }
  | _ => none }
def RouteRoundWrongFalsely : Prop := routeRoundRow.holds Try.pinned (OpenSpec.ofChange routeRoundWrong)

/-- 'lanyardlaw15.RouteKnown': WHATEVER THE INPUT: true; the input reads as it did. -/
def routeKnownSpec : ChangeSpec := { name := "routeKnown", fn := fun _ => fun
  | [] => { results := [.lit (.bool true)], args := [] }
  | _ => none }
def routeKnownRow : OpenClaim := { program := "ytcdakjhcnamncaa", sum := "d484e8e7f6af8058cdbd0364c11140f23903d8277603d5db5e4173e914abab48", func := "lanyard/lanyardlaw15.RouteKnown", spec := "routeKnown", unfollowed := true, recurses := true, apart := false }
def RouteKnownSaid : Prop := routeKnownRow.holds Try.pinned (OpenSpec.ofChange routeKnownSpec)

/-- ITS FALSE NEIGHBOUR: 'it returns false'. Refute it at one input. -/
def routeKnownWrong : ChangeSpec := { name := "routeKnown", fn := fun _ => fun
  | [] => { results := [.lit (.bool false)], args := [] }
  | _ => none }
def RouteKnownWrongFalsely : Prop := routeKnownRow.holds Try.pinned (OpenSpec.ofChange routeKnownWrong)

/-- 'lanyardlaw15.RouteCalls': WHATEVER THE INPUT: true; the input reads as it did. -/
def routeCallsSpec : ChangeSpec := { name := "routeCalls", fn := fun _ => fun
  | [d1, d2, d3, d4] => { results := [.lit (.bool true)], args := [d1, d2, d3, d4] }
  | _ => none }
def routeCallsRow : OpenClaim := { program := "ytcdakjhcnamncaa", sum := "d484e8e7f6af8058cdbd0364c11140f23903d8277603d5db5e4173e914abab48", func := "lanyard/lanyardlaw15.RouteCalls", spec := "routeCalls", unfollowed := true, recurses := true, apart := false }
def RouteCallsSaid : Prop := routeCallsRow.holds Try.pinned (OpenSpec.ofChange routeCallsSpec)

/-- ITS FALSE NEIGHBOUR: 'it returns false'. Refute it at one input. -/
def routeCallsWrong : ChangeSpec := { name := "routeCalls", fn := fun _ => fun
  | [d1, d2, d3, d4] => { results := [.lit (.bool false)], args := [d1, d2, d3, d4] }
  | _ => none }
def RouteCallsWrongFalsely : Prop := routeCallsRow.holds Try.pinned (OpenSpec.ofChange routeCallsWrong)

/- THE SECOND FORM. 'bulk': how many values and letters a reading holds, each counted each time it is reached (what is shared counts as often as it is met; a slice's spare places count too). A statement '..UptoSaid' is the law's where the arguments, and the package variables that the reading takes, are together of bulk at most 1048576: NARROWER than '..Said'. Prove '..Said' where nothing that the law and all that it calls make is longer than what came in: it says more and counts as full. Else prove '..UptoSaid'. A law counts once. -/
mutual
def uptoBulk {H : Type} : DataW H → Nat
  | .lit (.string bytes) => bytes.length + 1
  | .lit _ => 1
  | .nil => 1
  | .ptr d => uptoBulk d + 1
  | .slice elems spare => uptoBulkAll elems + uptoBulkAll spare + 1
  | .agg parts => uptoBulkAll parts + 1
  | .iface _ d => uptoBulk d + 1
  | .map entries => uptoBulkEntries entries + 1
  | .held _ => 1
def uptoBulkAll {H : Type} : List (DataW H) → Nat
  | [] => 0
  | d :: r => uptoBulk d + uptoBulkAll r
def uptoBulkEntries {H : Type} : List (Lit × DataW H) → Nat
  | [] => 0
  | x :: r => uptoBulkEntry x + uptoBulkEntries r
def uptoBulkEntry {H : Type} : Lit × DataW H → Nat
  | (.string bytes, d) => bytes.length + uptoBulk d + 1
  | (_, d) => uptoBulk d + 1
 end
def uptoSmall : (H : Type) → List (DataW H) → Bool := fun _ ds => decide (uptoBulkAll ds ≤ 1048576)
def OpenSpec.upto (s : _root_.Go.ChangeSpec) : _root_.Go.OpenSpec := { _root_.Go.OpenSpec.ofChange s with cond := some uptoSmall }

/-- 'lanyardlaw15.RouteSilence', WHERE WHAT IT READS IS OF BULK AT MOST 1048576: true; the input reads as it did. -/
def routeSilenceUptoRow : OpenClaim := { program := "ytcdakjhcnamncaa", sum := "d484e8e7f6af8058cdbd0364c11140f23903d8277603d5db5e4173e914abab48", func := "lanyard/lanyardlaw15.RouteSilence", spec := "routeSilence", unfollowed := true, recurses := true, apart := false, narrowed := true }
def RouteSilenceUptoSaid : Prop := routeSilenceUptoRow.holds Try.pinned (OpenSpec.upto routeSilenceSpec)

/-- 'lanyardlaw15.RouteRound', WHERE WHAT IT READS IS OF BULK AT MOST 1048576: true; the input reads as it did. -/
def routeRoundUptoRow : OpenClaim := { program := "ytcdakjhcnamncaa", sum := "d484e8e7f6af8058cdbd0364c11140f23903d8277603d5db5e4173e914abab48", func := "lanyard/lanyardlaw15.RouteRound", spec := "routeRound", unfollowed := true, recurses := true, apart := false, narrowed := true }
def RouteRoundUptoSaid : Prop := routeRoundUptoRow.holds Try.pinned (OpenSpec.upto routeRoundSpec)

/-- 'lanyardlaw15.RouteKnown', WHERE WHAT IT READS IS OF BULK AT MOST 1048576: true; the input reads as it did. -/
def routeKnownUptoRow : OpenClaim := { program := "ytcdakjhcnamncaa", sum := "d484e8e7f6af8058cdbd0364c11140f23903d8277603d5db5e4173e914abab48", func := "lanyard/lanyardlaw15.RouteKnown", spec := "routeKnown", unfollowed := true, recurses := true, apart := false, narrowed := true }
def RouteKnownUptoSaid : Prop := routeKnownUptoRow.holds Try.pinned (OpenSpec.upto routeKnownSpec)

/-- 'lanyardlaw15.RouteCalls', WHERE WHAT IT READS IS OF BULK AT MOST 1048576: true; the input reads as it did. -/
def routeCallsUptoRow : OpenClaim := { program := "ytcdakjhcnamncaa", sum := "d484e8e7f6af8058cdbd0364c11140f23903d8277603d5db5e4173e914abab48", func := "lanyard/lanyardlaw15.RouteCalls", spec := "routeCalls", unfollowed := true, recurses := true, apart := false, narrowed := true }
def RouteCallsUptoSaid : Prop := routeCallsUptoRow.holds Try.pinned (OpenSpec.upto routeCallsSpec)

end Rows
end Go.Proofs.Ytcdakjhcnamncaa
