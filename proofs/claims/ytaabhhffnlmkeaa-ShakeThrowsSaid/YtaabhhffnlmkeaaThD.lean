/- The dice of chapter 19 as functions of numbers. Definitions alone. No conditions. -/
import Derived.Test.YtaabhhffnlmkeaaEvC
import Derived.Test.YtaabhhffnlmkeaaProg
namespace Go.Spec
open Go.Ev
def nextN (n : Int) : Int := addK .u64 n 11400714819323198485
def mixP (n : Int) : Int :=
  let x := mulK .u64 (xorK .u64 (nextN n) (shrK .u64 (nextN n) 30)) 13787848793156543929
  let y := mulK .u64 (xorK .u64 x (shrK .u64 x 27)) 10723151780598845931
  xorK .u64 y (shrK .u64 y 31)
def wantOf (n : Int) : Int := if IntKind.wrap .u32 (mixP n) = 0 then 1 else IntKind.wrap .u32 (mixP n)
end Go.Spec
namespace Go.Ev
open Go Go.Proofs Go.Spec
def sThrowRef : SumT := fun args st k => match args, st with
  | [.one (.raw (.int .u64 n))], [] => need (decide ((Lit.int .u64 n).wf = true)) (k (.tup [.one (iv .u32 (wantOf n)), .one (iv .u64 (nextN n))]) [])
  | _, _ => False
def sWorks0 : SumT := fun args st k => match args, st with
  | [], [] => k (.sa (.one (bv true))) []
  | _, _ => False
def sThrow : SumT := fun args st k => match args, st with
  | [.one (.ptr 0 0 0)], [some (.mem true .whole T 1 (.lst [[.raw (.int .u64 n)]]))] => need (decide ((Lit.int .u64 n).wf = true)) (k (.sa (.one (iv .u32 (wantOf n)))) [obj T 1 [iv .u64 (nextN n)]])
  | _, _ => False
noncomputable def cxN : Cx := mkCx Try.prog [] [] []
noncomputable def cxL : Cx := mkCx Try.prog [(18, sThrowRef), (19, sThrow), (7, sWorks0)] [(5, 3, [0, 5, 12, 13], [])] []
end Go.Ev
