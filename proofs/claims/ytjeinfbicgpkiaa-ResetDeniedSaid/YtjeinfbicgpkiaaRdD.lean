/- The law ResetDenied: the context. Definitions alone. No conditions. -/
import Derived.Test.YtjeinfbicgpkiaaRaD
set_option linter.unusedVariables false
namespace Go.Ev
open Go Go.Proofs Go.Spec
def sTrue : SumT := fun args st k => match args, st with
  | [], [] => k (.sa (.one (bv true))) []
  | _, _ => False
noncomputable def cxRd : Cx := mkCx Try.prog [(8, sTrue), (49, sThere), (46, sAll), (53, sCoM), (33, sDoes), (20, sAns), (40, sClone16)] [] ((53, 2) :: wrD)
end Go.Ev
