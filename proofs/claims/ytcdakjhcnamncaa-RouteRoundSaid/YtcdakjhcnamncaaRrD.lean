/- The law RouteRound: the context. Definitions alone. No conditions. -/
import Derived.Test.YtcdakjhcnamncaaRpD
set_option linter.unusedVariables false
namespace Go.Ev
open Go Go.Proofs Go.Spec
def taO3 (n : Nat) (ks is : List Int) : Option SO := some (.own false .ext 0 2 (.tab n [.ints .u8 ks, .ints .i64 is]))
noncomputable def cxRr : Cx := mkCx Try.prog [(7, sTrue), (30, sAddr), (31, sPNew), (10, sMiss), (11, sHear), (21, sPrim), (16, sNext), (18, sChoose)]
  [(13, 5, [9, 22, 23, 24], []), (4, 13, [10, 11, 12, 15, 16, 66, 67], []), (34, 2, [0, 10, 11, 12], []),
   (4, 1000003, [1, 2, 3, 4, 5, 10], []), (4, 1000004, [4, 10, 11], []), (4, 1000007, [4, 10, 11, 12], []), (4, 1000010, [4, 10, 11, 12], []), (4, 1000019, [10, 11, 12, 15], []), (4, 1000024, [10, 11, 12], [])] (wrP ++ [(13, 2)])
noncomputable def cxRq : Cx := mkCx Try.prog [(7, sTrue), (8, sRnBad)] [] []
end Go.Ev
