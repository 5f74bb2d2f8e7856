/- slices.Clone of numbers: the summary. Definitions alone. No conditions. -/
import Derived.Test.YtocmcimaghjhiaaEvD
import Derived.Test.YtocmcimaghjhiaaProg
namespace Go.Ev
open Go Go.Proofs
def fClone8 (vas : List VA) (k : SV → St → Prop) : Prop := match vas with
  | [.a (.one (.dat .u8 xs))] => need (decide (xs.length ≤ 140737488355328)) (k (.sa (.one (.ref 0))) [some (.own true .row 5 1 (.ints .u8 xs))])
  | _ => False
def sClone8 : SumT := pureSum [.cells [some .u8]] fClone8
noncomputable def cxCl8 : Cx := mkCx Try.prog [] [] []
end Go.Ev
