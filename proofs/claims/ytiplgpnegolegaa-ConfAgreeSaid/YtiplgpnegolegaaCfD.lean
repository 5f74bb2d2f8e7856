/- Addresses that come and go: functions of numbers, summaries, contexts. Definitions alone. No conditions. -/
import Derived.Test.YtiplgpnegolegaaIxD
import Derived.Test.YtiplgpnegolegaaCl32D
set_option linter.unusedVariables false
namespace Go.Spec
open Go Go.Ev
/-- Do they rise, none of them 0? (b: is the first one still to come, p: the one ahead) -/
def riseF : Bool → Int → List Int → Bool
  | _, _, [] => true
  | b, p, x :: r => match eqK x 0 with
    | true => false
    | false => match b with
      | true => riseF false x r
      | false => match decide (p ≥ x) with
        | true => false
        | false => riseF false x r
def mayB (f : Int) (xs : List Int) : Bool := riseF true 0 xs && (decide (xs.length ≤ 3) && hasL xs f)
def riseR : Int → List Int → Bool
  | _, [] => true
  | p, x :: r => match decide (x ≤ p) with
    | true => false
    | false => riseR x r
def mayR (f : Int) (xs : List Int) : Bool := riseR 0 xs && (decide (0 < xs.length) && (decide (xs.length < 4) && hasL xs f))
def eqLL (xs ys : List Int) : Bool := decide (xs = ys)
def sameB (f g : Int) (xs ys : List Int) : Bool := eqK f g && decide (xs = ys)
def insL (xs : List Int) (i : Nat) (x : Int) : List Int := xs.take i ++ x :: xs.drop i
def delL (xs : List Int) (i : Nat) : List Int := xs.take i ++ xs.drop (i + 1)
/-- How many stand ahead of x. -/
def posL (x : Int) : List Int → Nat
  | [] => 0
  | a :: r => if a < x then posL x r + 1 else 0
/-- What a change makes of addresses: the first, all, an error's number. -/
def doF (f : Int) (xs : List Int) (kd ad : Int) : Int × List Int × Int :=
  if mayB f xs = true ∧ 1 ≤ kd ∧ kd ≤ 3 then
    if kd = 1 then
      if ad = 0 then (0, [], 2)
      else if ad ∈ xs then (0, [], 6)
      else if 3 ≤ xs.length then (0, [], 7)
      else (f, insL xs (posL ad xs) ad, 0)
    else if ad ∈ xs then
      if kd = 3 then (ad, xs, 0)
      else if ad = f then (0, [], 6)
      else (f, delL xs (posL ad xs), 0)
    else (0, [], 4)
  else (0, [], 2)
end Go.Spec
namespace Go.Ev
open Go Go.Proofs Go.Spec
def own32 (xs : List Int) : Option SO := some (.own true .row 22 1 (.ints .u32 xs))
def fMay (vas : List VA) (k : SV → St → Prop) : Prop := match vas with
  | [.a (.agg [.raw (.int .u32 f), .dat .u32 xs])] => need (decide (xs.length ≤ 1000000)) (k (.sa (.one (bv (mayB f xs)))) [])
  | _ => False
def sMay : SumT := pureSum [.cells [none, some .u32]] fMay
def fMayR (vas : List VA) (k : SV → St → Prop) : Prop := match vas with
  | [.a (.agg [.raw (.int .u32 f), .dat .u32 xs])] => need (decide (xs.length ≤ 1000000)) (k (.sa (.one (bv (mayR f xs)))) [])
  | _ => False
def sMayR : SumT := pureSum [.cells [none, some .u32]] fMayR
def fEql (vas : List VA) (k : SV → St → Prop) : Prop := match vas with
  | [.a (.one (.dat .u32 xs)), .a (.one (.dat .u32 ys))] => need (decide (xs.length ≤ 1000000 ∧ ys.length ≤ 1000000)) (k (.sa (.one (bv (eqLL xs ys)))) [])
  | _ => False
def sEql : SumT := pureSum [.cells [some .u32], .cells [some .u32]] fEql
def fSame (vas : List VA) (k : SV → St → Prop) : Prop := match vas with
  | [.a (.agg [.raw (.int .u32 f), .dat .u32 xs]), .a (.agg [.raw (.int .u32 g), .dat .u32 ys])] => need (decide (xs.length ≤ 1000000 ∧ ys.length ≤ 1000000)) (k (.sa (.one (bv (sameB f g xs ys)))) [])
  | _ => False
def sSame : SumT := pureSum [.cells [none, some .u32], .cells [none, some .u32]] fSame
noncomputable def cxHs : Cx := mkCx Try.prog [] [(25, 2, [0, 1, 5], [])] []
noncomputable def cxMa : Cx := mkCx Try.prog [(33, sHas)] [(12, 2, [1, 6, 7, 8], [])] []
noncomputable def cxMr : Cx := mkCx Try.prog [(25, sHas)] [(13, 3, [1, 3, 4], [])] []
noncomputable def cxEq : Cx := mkCx Try.prog [] [(15, 4, [0, 1, 12, 13], [])] []
noncomputable def cxSm : Cx := mkCx Try.prog [] [(28, 3, [2, 3, 5, 6], [])] []
end Go.Ev
