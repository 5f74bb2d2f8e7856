/- slices.Clone of numbers: the summary. Definitions alone. No conditions. -/
import Derived.Test.YtiplgpnegolegaaEvD
import Derived.Test.YtiplgpnegolegaaProg
namespace Go.Ev
open Go Go.Proofs
def fClone32 (vas : List VA) (k : SV → St → Prop) : Prop := match vas with
  | [.a (.one (.dat .u32 xs))] => need (decide (xs.length ≤ 35184372088832)) (k (.sa (.one (.ref 0))) [some (.own true .row 22 1 (.ints .u32 xs))])
  | _ => False
def sClone32 : SumT := pureSum [.cells [some .u32]] fClone32
noncomputable def cxCl32 : Cx := mkCx Try.prog [] [] []
end Go.Ev
