/- What a change makes of addresses: summaries, contexts. Definitions alone. No conditions. -/
import Derived.Test.YtiplgpnegolegaaInD
set_option linter.unusedVariables false
namespace Go.Spec
open Go Go.Ev
/-- The document's. -/
def doR (f : Int) (xs : List Int) (kd ad : Int) : Int × List Int × Int :=
  if mayR f xs = true ∧ 1 ≤ kd ∧ kd ≤ 3 ∧ ¬ (kd = 1 ∧ ad = 0) then doF f xs kd ad else (0, [], 2)
def okU (x : Int) : Bool := decide (0 ≤ x)
def okUs (xs : List Int) : Bool := xs.all okU
def doA (f : Int) (xs : List Int) (kd ad : Int) : Int := (doF f xs kd ad).1
def doL (f : Int) (xs : List Int) (kd ad : Int) : List Int := (doF f xs kd ad).2.1
def doE (f : Int) (xs : List Int) (kd ad : Int) : Int := (doF f xs kd ad).2.2
end Go.Spec
namespace Go.Ev
open Go Go.Proofs Go.Spec
def fMayT (vas : List VA) (k : SV → St → Prop) : Prop := match vas with
  | [.a (.agg [.raw (.int .u32 f), .dat .u32 xs])] => need (decide (xs.length ≤ 1000000) && mayB f xs) (k (.sa (.one (bv true))) [])
  | _ => False
def sMayT : SumT := pureSum [.cells [none, some .u32]] fMayT
def fMayF (vas : List VA) (k : SV → St → Prop) : Prop := match vas with
  | [.a (.agg [.raw (.int .u32 f), .dat .u32 xs])] => need (decide (xs.length ≤ 1000000) && Bool.not (mayB f xs)) (k (.sa (.one (bv false))) [])
  | _ => False
def sMayF : SumT := pureSum [.cells [none, some .u32]] fMayF
def fMayRT (vas : List VA) (k : SV → St → Prop) : Prop := match vas with
  | [.a (.agg [.raw (.int .u32 f), .dat .u32 xs])] => need (decide (xs.length ≤ 1000000) && mayR f xs) (k (.sa (.one (bv true))) [])
  | _ => False
def sMayRT : SumT := pureSum [.cells [none, some .u32]] fMayRT
def fMayRF (vas : List VA) (k : SV → St → Prop) : Prop := match vas with
  | [.a (.agg [.raw (.int .u32 f), .dat .u32 xs])] => need (decide (xs.length ≤ 1000000) && Bool.not (mayR f xs)) (k (.sa (.one (bv false))) [])
  | _ => False
def sMayRF : SumT := pureSum [.cells [none, some .u32]] fMayRF
/-- What comes of a change, and what of the document's: the first, all, an error's number. -/
def fDo (vas : List VA) (k : SV → St → Prop) : Prop := match vas with
  | [.a (.agg [.raw (.int .u32 f), .dat .u32 xs]), .a (.agg [.raw (.int .u8 kd), .raw (.int .u32 ad)])] =>
    need (decide (xs.length ≤ 1000000 ∧ 0 ≤ kd)) (k (.tup [.agg [iv .u32 (doA f xs kd ad), .ref 0], .one (iv .i64 (doE f xs kd ad))]) [own32 (doL f xs kd ad)])
  | _ => False
def sDo : SumT := pureSum [.cells [none, some .u32], .cells [none, none]] fDo
def fDoR (vas : List VA) (k : SV → St → Prop) : Prop := match vas with
  | [.a (.agg [.raw (.int .u32 f), .dat .u32 xs]), .a (.one (.raw (.int .u8 kd))), .a (.one (.raw (.int .u32 ad)))] =>
    need (decide (xs.length ≤ 1000000 ∧ 0 ≤ kd) && okUs xs) (k (.tup [.agg [iv .u32 (doA f xs kd ad), .ref 0], .one (iv .i64 (doE f xs kd ad))]) [own32 (doL f xs kd ad)])
  | _ => False
def sDoR : SumT := pureSum [.cells [none, some .u32], .cells [], .cells []] fDoR
def fNaN (vas : List VA) (k : SV → St → Prop) : Prop := match vas with
  | [.a (.one (.raw (.int .u32 x)))] => k (.sa (.one (bv false))) []
  | _ => False
def sNaN : SumT := pureSum [.cells []] fNaN
noncomputable def cx0 : Cx := mkCx Try.prog [] [] []
def wrC : List (FuncId × Nat) := [(31, 1), (32, 1)]
noncomputable def cxDo : Cx := mkCx Try.prog [(12, sMayT), (49, sNaN), (44, sNaN), (8, sClone32), (31, sIns)] [] wrC
def sBot : SumT := fun _ _ _ => False
noncomputable def cxDoP : Cx := mkCx Try.prog [(12, sMayT), (29, sBot)] [] []
noncomputable def cxDrP : Cx := mkCx Try.prog [(13, sMayRT), (25, sBot)] [(10, 16, [], [])] []
noncomputable def cxDoE : Cx := mkCx Try.prog [(12, sMayF)] [] []
noncomputable def cxDr : Cx := mkCx Try.prog [(13, sMayRT), (25, sHas)] [] []
noncomputable def cxDrE : Cx := mkCx Try.prog [(13, sMayRF)] [] []
end Go.Ev
