/- The laws of chapter 16: contexts. Definitions alone. No conditions. -/
import Derived.Test.YtljmfpkkcjcfmaaCkD
namespace Go.Ev
open Go Go.Proofs Go.Spec
def sTrue : SumT := fun args st k => match args, st with
  | [], [] => k (.sa (.one (bv true))) []
  | _, _ => False
noncomputable def cxSm : Cx := mkCx Try.prog [(22, sEq32)] [] []
noncomputable def cxL : Cx := mkCx Try.prog [(8, sTrue), (6, sMk makeOf), (9, sMk makeRf), (10, sSame), (11, sRSame)] [] []
end Go.Ev
