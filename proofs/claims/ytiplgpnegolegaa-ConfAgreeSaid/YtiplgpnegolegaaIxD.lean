/- slices.Index and slices.Contains at []uint32: functions of numbers, summaries. Definitions alone. No conditions. -/
import Derived.Test.YtiplgpnegolegaaEvD
import Derived.Test.YtiplgpnegolegaaProg
set_option linter.unusedVariables false
namespace Go.Spec
open Go Go.Ev
/-- Where x stands first in a list; -1: nowhere. -/
def idxL (x : Int) : List Int → Int → Int
  | [], _ => -1
  | a :: r, i => match eqK x a with
    | true => i
    | false => idxL x r (i + 1)
def hasL (xs : List Int) (x : Int) : Bool := xs.contains x
end Go.Spec
namespace Go.Ev
open Go Go.Proofs Go.Spec
def rd32 (xs : List Int) : Option SO := some (.own false .ext 0 1 (.ints .u32 xs))
def fIdx (vas : List VA) (k : SV → St → Prop) : Prop := match vas with
  | [.a (.one (.dat .u32 xs)), .a (.one (.raw (.int .u32 x)))] => need (decide (xs.length ≤ 1000000)) (k (.sa (.one (iv .i64 (idxL x xs 0)))) [])
  | _ => False
def sIdx : SumT := pureSum [.cells [some .u32], .cells []] fIdx
def fHas (vas : List VA) (k : SV → St → Prop) : Prop := match vas with
  | [.a (.one (.dat .u32 xs)), .a (.one (.raw (.int .u32 x)))] => need (decide (xs.length ≤ 1000000)) (k (.sa (.one (bv (hasL xs x)))) [])
  | _ => False
def sHas : SumT := pureSum [.cells [some .u32], .cells []] fHas
noncomputable def cxIx : Cx := mkCx Try.prog [] [(47, 2, [0, 1, 7, 8], [])] []
noncomputable def cxHa : Cx := mkCx Try.prog [(47, sIdx)] [] []
end Go.Ev
