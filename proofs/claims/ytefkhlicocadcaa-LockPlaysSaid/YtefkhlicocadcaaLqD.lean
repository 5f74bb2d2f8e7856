/- lanyardref24: Take and Give: contexts. Definitions alone. No conditions. -/
import Derived.Test.YtefkhlicocadcaaLpD
set_option linter.unusedVariables false
namespace Go.Ev
open Go Go.Proofs Go.Spec
def wrQ : List (FuncId × Nat) := [(10, 2), (13, 2)]
noncomputable def cxRt : Cx := mkCx Try.prog [(17, sWai), (15, sHol), (23, sHol2), (31, sFi)] [(10, 9, [0, 1, 5, 11, 12, 13], []), (13, 1000005, [0, 5], [⟨0, [0], 27⟩])] wrQ
end Go.Ev
