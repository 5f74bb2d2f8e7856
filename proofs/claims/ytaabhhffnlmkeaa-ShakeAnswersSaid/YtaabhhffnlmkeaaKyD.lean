/- The law ShakeKeyed: the context. Definitions alone. No conditions. -/
import Derived.Test.YtaabhhffnlmkeaaOpD
import Derived.Test.YtaabhhffnlmkeaaCl32D
namespace Go.Ev
open Go Go.Proofs Go.Spec
def sTrue : SumT := fun args st k => match args, st with
  | [], [] => k (.sa (.one (bv true))) []
  | _, _ => False
noncomputable def cxY : Cx := mkCx Try.prog [(7, sTrue), (26, sMk makeOf), (31, sOpen), (34, sClone32)] [] []
end Go.Ev
