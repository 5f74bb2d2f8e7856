/- The law OutqJoins: the context. Definitions alone. No conditions. -/
import Derived.Test.YtipmphkcbhjinaaOrD
import Derived.Test.YtipmphkcbhjinaaFkD
set_option linter.unusedVariables false
namespace Go.Ev
open Go Go.Proofs Go.Spec
def tP (l : List Pc) : List Pc := toP (l.map Pc.t) (l.map Pc.f) (l.map Pc.s) (l.map Pc.n) (l.map Pc.p) (l.map Pc.b) (l.map Pc.d)
noncomputable def cxOj : Cx := { mkCx Try.prog [(8, sTrue), (7, sHeavy), (31, sCheck), (11, sAcc), (12, sTake), (28, sPut)]
  [(6, 13, [3, 4, 7, 9, 10, 11, 12, 13, 14, 34, 35, 36], [⟨7, [0, 30], 53⟩, ⟨9, [0], 57⟩, ⟨10, [0], 52⟩]), (6, 29, [3, 4, 7, 9, 10, 12, 13, 14], [⟨7, [0, 30], 53⟩, ⟨9, [0], 57⟩, ⟨10, [0], 52⟩])] (wrQ ++ [(28, 2), (27, 2)]) with tab := true, ice := true }
end Go.Ev
