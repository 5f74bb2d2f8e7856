/- The law RouteCalls with nine paths: the context, with a head at the loop over the paths. Definitions alone. No conditions. -/
import Derived.Test.YtcdakjhcnamncaaRkL
set_option linter.unusedVariables false
namespace Go.Ev
open Go Go.Proofs Go.Spec
noncomputable def cxRl9 : Cx := mkCx Try.prog [(7, sTrue), (30, sAddr), (31, sPNew), (37, sAddr), (36, sMay), (25, sTell), (18, sChoose), (26, sChooseR), (16, sNext), (27, sNextR), (10, sMiss), (21, sPrim), (20, sFind)]
 [(6, 17, [8, 9, 11, 13, 15, 77, 78, 79], []), (6, 12, [8, 9, 11, 77, 78, 79], tidN 9 0), (6, 1000016, [8, 9, 11, 13, 77, 78, 79], []), (6, 1000024, [8, 9, 11, 77, 78, 79], []), (6, 1000029, [8, 9, 11], [])] (wrP ++ [(18, 2), (26, 2), (16, 2), (27, 2), (20, 2)])
end Go.Ev
