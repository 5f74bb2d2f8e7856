/- Are all streams there? Functions of numbers, summaries, contexts. Definitions alone. No conditions. -/
import Derived.Test.YtjeinfbicgpkiaaEvD
import Derived.Test.YtjeinfbicgpkiaaProg
set_option linter.unusedVariables false
namespace Go.Spec
open Go Go.Ev
/-- Where the first one stands that is not less than m; -1: nowhere. -/
def idxGe (m : Int) : List Int → Int → Int
  | [], _ => -1
  | x :: r, i => match decide (x ≥ m) with
    | true => i
    | false => idxGe m r (i + 1)
/-- Are all of them less than m? -/
def thereB (m : Int) (xs : List Int) : Bool := Bool.not (decide (idxGe m xs 0 ≥ 0))
def okU16 (xs : List Int) : Bool := xs.all (fun x => decide (0 ≤ x ∧ x ≤ 65535))
/-- The numbers from i on, c of them. -/
def upI (i : Int) : Nat → List Int
  | 0 => []
  | c + 1 => i :: upI (i + 1) c
end Go.Spec
namespace Go.Ev
open Go Go.Proofs Go.Spec
def rd16 (xs : List Int) : Option SO := some (.own false .ext 0 1 (.ints .u16 xs))
def own16 (xs : List Int) : Option SO := some (.own true .row 22 1 (.ints .u16 xs))
/-- With the closure of there. -/
def sIdxF : SumT := fun args st k => match args, st with
  | [.one (.ref 0), .one (.ref 1)], [some (.own false .ext 0 1 (.ints .u16 xs)), some (.clo (.func 55) [] [.one (.ptr 2 0 0)]), some (.mem true .whole 3 1 (.lst [[.raw (.int .i64 m)]]))] =>
    need (decide (xs.length ≤ 1000000) && okU16 xs) (k (.sa (.one (iv .i64 (idxGe m xs 0)))) st)
  | _, _ => False
def sConF : SumT := fun args st k => match args, st with
  | [.one (.ref 0), .one (.ref 1)], [some (.own false .ext 0 1 (.ints .u16 xs)), some (.clo (.func 55) [] [.one (.ptr 2 0 0)]), some (.mem true .whole 3 1 (.lst [[.raw (.int .i64 m)]]))] =>
    need (decide (xs.length ≤ 1000000) && okU16 xs) (k (.sa (.one (bv (decide (idxGe m xs 0 ≥ 0))))) st)
  | _, _ => False
def fThere (vas : List VA) (k : SV → St → Prop) : Prop := match vas with
  | [.a (.one (.dat .u16 xs)), .a (.one (.raw (.int .i64 m)))] => need (decide (xs.length ≤ 1000000) && okU16 xs) (k (.sa (.one (bv (thereB m xs)))) [])
  | _ => False
def sThere : SumT := pureSum [.cells [some .u16], .cells []] fThere
noncomputable def cxIf : Cx := mkCx Try.prog [] [(57, 2, [0, 1, 7, 8], [])] []
noncomputable def cxCf : Cx := mkCx Try.prog [(57, sIdxF)] [] []
noncomputable def cxTh : Cx := mkCx Try.prog [(53, sConF)] [] []
end Go.Ev
