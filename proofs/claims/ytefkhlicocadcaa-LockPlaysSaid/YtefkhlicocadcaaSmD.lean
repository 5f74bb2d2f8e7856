/- lanyardlaw24.same: the summary. Definitions alone. No conditions. -/
import Derived.Test.YtefkhlicocadcaaLkE
set_option linter.unusedVariables false
namespace Go.Spec
def eqLL (xs ys : List Int) : Bool := decide (xs = ys)
end Go.Spec
namespace Go.Ev
open Go Go.Proofs Go.Spec
def rdI (xs : List Int) : Option SO := some (.own false .ext 0 1 (.ints .i64 xs))
def fSm (vas : List VA) (k : SV → St → Prop) : Prop := match vas with
  | [.a (.one (.dat .i64 xs)), .a (.one (.dat .i64 ys))] => need (decide (xs.length ≤ 1000000 ∧ ys.length ≤ 1000000)) (k (.sa (.one (bv (eqLL xs ys)))) [])
  | _ => False
def sSm : SumT := pureSum [.cells [some .i64], .cells [some .i64]] fSm
noncomputable def cxSm : Cx := mkCx Try.prog [] [(18, 4, [1, 12, 13, 14], [])] []
end Go.Ev
