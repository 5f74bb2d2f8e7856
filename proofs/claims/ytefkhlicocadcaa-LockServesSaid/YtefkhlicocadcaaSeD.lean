/- LockServes: context. Definitions alone. No conditions. -/
import Derived.Test.YtefkhlicocadcaaAlD
set_option linter.unusedVariables false
namespace Go.Ev
open Go Go.Proofs Go.Spec
def wrS : List (FuncId × Nat) := wrK ++ [(5, 2)]
noncomputable def cxSe : Cx := mkCx Try.prog sumsW [(5, 7, [3, 25, 26, 27], []), (5, 1000009, [3, 5, 25, 26, 27], []), (5, 1000024, [3, 5, 25, 26, 27], []), (5, 26, [3, 5, 14, 25, 26, 27, 152, 153, 154], [])] wrS
end Go.Ev
