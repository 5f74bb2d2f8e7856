/- ConfDoes: summaries, contexts. Definitions alone. No conditions. -/
import Derived.Test.YtiplgpnegolegaaDoD
set_option linter.unusedVariables false
namespace Go.Ev
open Go Go.Proofs Go.Spec
def sTrue : SumT := fun args st k => match args, st with
  | [], [] => k (.sa (.one (bv true))) []
  | _, _ => False
noncomputable def cxCd : Cx := mkCx Try.prog [(7, sTrue), (8, sClone32), (9, sDo), (10, sDoR), (12, sMay), (13, sMayR), (28, sSame), (15, sEql)] [(3, 9, [2, 5, 6, 54, 55], [])] []
end Go.Ev
