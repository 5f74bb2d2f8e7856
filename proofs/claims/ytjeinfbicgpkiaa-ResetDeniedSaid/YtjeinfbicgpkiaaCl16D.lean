/- slices.Clone of numbers: the summary. Definitions alone. No conditions. -/
import Derived.Test.YtjeinfbicgpkiaaEvD
import Derived.Test.YtjeinfbicgpkiaaProg
namespace Go.Ev
open Go Go.Proofs
def fClone16 (vas : List VA) (k : SV → St → Prop) : Prop := match vas with
  | [.a (.one (.dat .u16 xs))] => need (decide (xs.length ≤ 70368744177664)) (k (.sa (.one (.ref 0))) [some (.own true .row 22 1 (.ints .u16 xs))])
  | _ => False
def sClone16 : SumT := pureSum [.cells [some .u16]] fClone16
noncomputable def cxCl16 : Cx := mkCx Try.prog [] [] []
end Go.Ev
