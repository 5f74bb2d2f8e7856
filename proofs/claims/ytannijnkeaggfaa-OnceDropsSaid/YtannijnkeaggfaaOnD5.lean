/- The law OnceDrops: its context. Definitions alone. No conditions. -/
import Derived.Test.YtannijnkeaggfaaOnD
namespace Go.Ev
open Go Go.Proofs Go.Spec
noncomputable def cxP : Cx := mkCx Try.prog [(6, sTrue), (28, sWoQ), (29, sWoR), (30, sBef)]
  [(5, 6, [0, 5, 20, 21, 22], tidW), (5, 15, [0, 5, 20, 21, 22, 80, 81, 82], []), (5, 1000011, [0, 5, 7, 8, 20, 21, 22], []), (5, 1000012, [0, 5, 7, 8, 20, 21, 22], tidW)] wrO
end Go.Ev
