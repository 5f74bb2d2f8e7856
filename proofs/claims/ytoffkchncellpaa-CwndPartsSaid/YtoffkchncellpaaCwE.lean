/- Layer 12: the context in which the laws CwndBounds and CwndParts are run. Definitions alone. No conditions. -/
import Derived.Test.YtoffkchncellpaaCwD
namespace Go.Ev
open Go Go.Spec Go.Proofs
noncomputable def cx2 : Cx := mkCx Try.prog [(13, sAck), (12, sLoss), (14, sTimeout), (17, sAckR), (18, sLossR), (19, sTimeoutR), (7, sWorks)] [(3, 7, [0, 5, 31, 32, 33]), (4, 10, [0, 5, 7, 8, 37, 38, 39])] []
end Go.Ev
