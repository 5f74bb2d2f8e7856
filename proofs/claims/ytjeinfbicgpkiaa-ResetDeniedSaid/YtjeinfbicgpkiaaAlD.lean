/- A wish's streams: of none all. The summary, its context. Definitions alone. No conditions. -/
import Derived.Test.YtjeinfbicgpkiaaThD
set_option linter.unusedVariables false
namespace Go.Ev
open Go Go.Proofs Go.Spec
def sAll : SumT := fun args st k => match args, st with
  | [.one (.ref 0), .one (.raw (.int .i64 m))], [some (.own w kk T 1 (.ints .u16 xs))] =>
    need (decide (0 ≤ m ∧ m ≤ 65535)) (branch (decide (0 < xs.length)) (k (.sa (.one (.ref 0))) st) (k (.sa (.one (.ref 1))) [some (.own w kk T 1 (.ints .u16 xs)), own16 (upI 0 m.toNat)]))
  | _, _ => False
noncomputable def cxAl : Cx := mkCx Try.prog [] [(46, 5, [5, 12, 13], [⟨5, [], 32⟩])] []
end Go.Ev
