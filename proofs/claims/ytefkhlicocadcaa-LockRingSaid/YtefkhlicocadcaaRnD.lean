/- LockRing: context. Definitions alone. No conditions. -/
import Derived.Test.YtefkhlicocadcaaAlD
set_option linter.unusedVariables false
namespace Go.Ev
open Go Go.Proofs Go.Spec
def wrR : List (FuncId × Nat) := wrK ++ [(4, 2)]
noncomputable def cxRn : Cx := mkCx Try.prog sumsW [(4, 8, [0, 3, 4, 30, 31, 32], [⟨4, [], 53⟩]), (4, 1000016, [0, 3, 4, 30, 31, 32], [⟨4, [], 53⟩]), (4, 17, [0, 3, 4, 30, 31, 32, 64], []), (4, 25, [0, 3, 4, 8, 30, 31, 32, 64, 90, 91, 92], []), (4, 1000031, [0, 3, 4, 30, 31, 32], []), (4, 1000034, [0, 3, 4], []), (4, 35, [0, 3, 4, 108, 109], []), (4, 38, [0, 3, 4, 14, 108, 109, 111], []), (4, 43, [0, 3, 4, 14, 15, 108, 109, 111, 123, 124, 125], []), (4, 1000050, [0, 3, 4, 14, 108, 109], []), (4, 1000052, [0, 3, 4], []), (4, 53, [0, 3, 139, 140, 141], [])] wrR
def rnR (n : Nat) (cs ns : List Int) : Option SO := lrow true n cs ns
end Go.Ev
