/- LockPlays: context. Definitions alone. No conditions. -/
import Derived.Test.YtefkhlicocadcaaLpD
set_option linter.unusedVariables false
namespace Go.Ev
open Go Go.Proofs Go.Spec
def wrP : List (FuncId × Nat) := wrK ++ [(10, 2), (13, 2), (3, 2)]
noncomputable def sumsP : List (FuncId × SumT) := (10, sRt) :: (13, sRg) :: (15, sHol) :: (17, sWai) :: (20, sQue) :: (23, sHol2) :: sumsW
def tidP : List Tidy := [⟨4, [0], 27⟩]
noncomputable def cxPl : Cx := mkCx Try.prog sumsP [(3, 7, [3, 4, 30, 31, 32], tidP), (3, 1000009, [3, 4, 6, 30, 31, 32], tidP), (3, 1000018, [3, 4, 6, 30, 31, 32], tidP), (3, 1000024, [3, 4, 6, 30, 31, 32], tidP), (3, 28, [3, 4, 6, 19, 20, 30, 31, 32, 162, 163], tidP)] wrP
end Go.Ev
