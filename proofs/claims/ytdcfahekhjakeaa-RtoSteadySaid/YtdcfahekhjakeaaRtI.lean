/- Layer 11: the context in which RtoBounds is run. Definitions alone. No conditions. -/
import Derived.Test.YtdcfahekhjakeaaRtE
namespace Go.Ev
open Go Go.Spec Go.Proofs
noncomputable def cxD : Cx := mkCx Try.prog [(10, sCheck), (9, sMay), (11, sWorks), (13, sSample), (12, sBack), (21, sSampleR), (20, sBackR)] [(5, 8, [2, 5, 7, 8, 28, 29, 30])] []
end Go.Ev
