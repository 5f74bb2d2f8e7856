/- slices.Insert of one element, slices.Delete of one: summaries. Definitions alone. No conditions. -/
import Derived.Test.YtiplgpnegolegaaCfD
set_option linter.unusedVariables false
namespace Go.Ev
open Go Go.Proofs Go.Spec
def sIns : SumT := fun args st k => match args, st with
  | [.one (.ref 0), .one (.raw (.int .i64 i)), .one (.sl 1 0 1 none)], [some (.own true .row 22 1 (.ints .u32 xs)), some (.mem true .whole 22 1 (.lst [[.raw (.int .u32 x)]]))] =>
    need (decide (0 ≤ i ∧ i ≤ xs.length ∧ 1 ≤ xs.length ∧ xs.length ≤ 2)) (k (.sa (.one (.ref 2))) [none, some (.mem true .whole 22 1 (.lst [[.raw (.int .u32 x)]])), some (.own true .row 22 1 (.ints .u32 (insL xs i.toNat x)))])
  | _, _ => False
noncomputable def cxIn : Cx := { mkCx Try.prog [] [] [(45, 1)] with ovl := fun g => Nat.beq g 45 }
end Go.Ev
