/- Layer 11: the context in which RtoSteady is run. Definitions alone. No conditions. -/
import Derived.Test.YtdcfahekhjakeaaRtE
namespace Go.Ev
open Go Go.Spec Go.Proofs
noncomputable def cxS : Cx := mkCx Try.prog [(10, sCheck), (9, sMay), (11, sWorks), (13, sSample), (12, sBack), (21, sSampleR), (20, sBackR)] [(4, 7, [2, 3, 7, 28, 29, 30]), (4, 14, [2, 3, 7, 43])] []
end Go.Ev
