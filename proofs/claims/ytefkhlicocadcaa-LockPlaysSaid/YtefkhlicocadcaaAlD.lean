/- LockAlone: context. Definitions alone. No conditions. -/
import Derived.Test.YtefkhlicocadcaaKnD
set_option linter.unusedVariables false
namespace Go.Ev
open Go Go.Proofs Go.Spec
noncomputable def sumsW : List (FuncId × SumT) := (7, sTrue) :: sumsL
def wrA : List (FuncId × Nat) := wrK ++ [(6, 2)]
noncomputable def cxAl : Cx := mkCx Try.prog sumsW [(6, 9, [7, 8, 9, 37, 38, 39], [⟨9, [], 50⟩]), (6, 13, [7, 8, 9, 11, 12, 37, 38, 39, 43, 44, 45], []), (6, 1000031, [7, 8, 9, 37, 38, 39], [⟨9, [], 50⟩])] wrA
def doS (a b c d : List Int) : Option SO := some (.own false .ext 0 4 (.tab a.length [.ints .i64 a, .ints .i64 b, .ints .u8 c, .ints .i64 d]))
end Go.Ev
