/- Skips and their bytes: functions of numbers, summaries, contexts. Definitions alone. No conditions. -/
import Derived.Test.YtmgdjbppmndlnaaCl8D
set_option linter.unusedVariables false
namespace Go.Spec
open Go Go.Ev
/-- Do streams rise, from place i on, c steps; are there few enough? -/
def risA (ss : List Int) : Nat → Nat → Bool
  | 0, _ => true
  | c + 1, i => if ss.getD i 0 ≤ ss.getD (i - 1) 0 then false else risA ss c (i + 1)
def risB (ss : List Int) : Bool := risA ss (ss.length - 1) 1 && decide (ss.length ≤ 64)
/-- A number of bytes, the highest first. -/
def numA (xs : List Int) : Nat → Nat → Int → Int
  | 0, _, a => a
  | c + 1, i, a => numA xs c (i + 1) (addK .u64 (mulK .u64 256 a) (IntKind.wrap .u64 (xs.getD i 0)))
def numB (xs : List Int) : Int := numA xs xs.length 0 0
/-- A thing of kind 192 with these bytes. -/
def padN (n : Nat) : Nat := (4 - n % 4) % 4
def hiB (n : Nat) : Int := (((n + 4) / 256 % 256 : Nat) : Int)
def loB (n : Nat) : Int := (((n + 4) % 256 : Nat) : Int)
def tlvB (xs : List Int) : List Int := [192, 0, hiB xs.length, loB xs.length] ++ xs ++ List.replicate (padN xs.length) 0
end Go.Spec
namespace Go.Ev
open Go Go.Proofs Go.Spec
def skO (w : Bool) (kk : MK) (T n : Nat) (ss qs : List Int) : Option SO := some (.own w kk T 2 (.tab n [.ints .u16 ss, .ints .u16 qs]))
def rd16 (w : Bool) (kk : MK) (T : Nat) (ss : List Int) : Option SO := some (.own w kk T 1 (.ints .u16 ss))
def rdB (w : Bool) (kk : MK) (T : Nat) (xs : List Int) : Option SO := some (.own w kk T 1 (.ints .u8 xs))
def sRises : SumT := fun args st k => match args, st with
  | [.one (.ref 0)], [some (.own w kk T 2 (.tab n [.ints .u16 ss, .ints .u16 qs]))] => need (decide (ss.length = n ∧ n ≤ 1000000)) (k (.sa (.one (bv (risB ss)))) [skO w kk T n ss qs])
  | _, _ => False
def sRisR : SumT := fun args st k => match args, st with
  | [.one (.ref 0)], [some (.own w kk T 1 (.ints .u16 ss))] => need (decide (ss.length ≤ 1000000)) (k (.sa (.one (bv (risB ss)))) [rd16 w kk T ss])
  | _, _ => False
def fNum (vas : List VA) (k : SV → St → Prop) : Prop := match vas with
  | [.a (.one (.dat .u8 xs))] => need (decide (xs.length ≤ 1000000)) (k (.sa (.one (iv .u64 (numB xs)))) [])
  | _ => False
def sNum : SumT := pureSum [.cells [some .u8]] fNum
noncomputable def cxRi : Cx := mkCx Try.prog [] [(18, 2, [0, 3], []), (21, 2, [0, 3], [])] []
noncomputable def cxNu : Cx := mkCx Try.prog [] [(47, 3, [0, 3, 4], [])] []
def sTlv : SumT := fun args st k => match args, st with
  | [.one (.raw (.bool true)), .agg [.raw (.int .u16 192), .raw (.int .u8 0), .ref 0]], [some (.own true .row 5 1 (.ints .u8 xs))] =>
    need (decide (xs.length ≤ 65000)) (k (.tup [.one (.ref 1), .one (iv .i64 0)]) [rdB true .row 5 xs, rdB true .row 5 (tlvB xs)])
  | _, _ => False
noncomputable def cxTp : Cx := mkCx Try.prog [] [(19, 1000011, [7], [⟨7, [], 26⟩])] []
noncomputable def cxTr : Cx := mkCx Try.prog [] [(20, 1000010, [3, 6], [⟨6, [], 26⟩]), (20, 12, [6], [⟨6, [], 26⟩])] []
noncomputable def cxPp : Cx := mkCx Try.prog [(18, sRises), (19, sTlv)] [(6, 5, [1, 4, 30, 31, 32], [⟨4, [], 26⟩])] []
noncomputable def cxRb : Cx := mkCx Try.prog [(21, sRisR), (20, sTlv)] [(7, 3, [0, 1, 2, 8, 9], [⟨8, [], 26⟩])] []
end Go.Ev
