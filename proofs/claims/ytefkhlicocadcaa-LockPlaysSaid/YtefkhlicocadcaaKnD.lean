/- lanyardlaw24: the context of known, and of the laws. Definitions alone. No conditions. -/
import Derived.Test.YtefkhlicocadcaaSmD
set_option linter.unusedVariables false
namespace Go.Ev
open Go Go.Proofs Go.Spec
noncomputable def sumsL : List (FuncId × SumT) := [(8, sNew), (9, sTk), (12, sGv), (14, sHo), (16, sWa), (19, sQu), (22, sHs), (21, sCy), (18, sSm)]
def sTrue : SumT := fun args st k => match args, st with
  | [], [] => k (.sa (.one (bv true))) []
  | _, _ => False
def wrK : List (FuncId × Nat) := wrL ++ [(24, 2), (7, 2)]
noncomputable def cxKn : Cx := mkCx Try.prog sumsL [] wrK
end Go.Ev
