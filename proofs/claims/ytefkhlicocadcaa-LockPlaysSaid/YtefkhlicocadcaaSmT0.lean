/- What the functions of this layer come to on states with numbers that are not known: printed by a program of mine (SymTool.lean), checked by the kernel. No conditions. -/
import Derived.Test.YtefkhlicocadcaaSmD
import Derived.Test.YtefkhlicocadcaaEvD
set_option linter.unusedVariables false
namespace Go.Ev
open Go Go.Proofs Go.Spec
theorem t_sm (xs ys : List Int) (N : Nat) (k : SV → St → Prop) : evCall cxSm (ev cxSm (N + 40)) 18 [.one (.ref 0), .one (.ref 1)] [rdI xs, rdI ys] k =
    (branch (Bool.not (eqK (((List.length xs) : Nat) : Int) (((List.length ys) : Nat) : Int))) (k (.sa (.one (bv false))) [(some (SO.own false MK.ext 0 1 (Ct.ints .i64 xs))), (some (SO.own false MK.ext 0 1 (Ct.ints .i64 ys)))]) (ev cxSm (N + 35) 2 18 (codeAt Try.prog 18 [1, 1, 0, 1, 0]) (frm 26 [(1, (.sa (.one (SC.ref 1)))), (12, (.sa (.one (SC.ref 0)))), (13, (.sa (.one (iv .i64 (((List.length xs) : Nat) : Int))))), (14, (.sa (.one (iv .i64 (0)))))]) [(some (SO.own false MK.ext 0 1 (Ct.ints .i64 xs))), (some (SO.own false MK.ext 0 1 (Ct.ints .i64 ys)))] (kBlock 0 (kSeq (ev cxSm (N + 37) 2 18 (codeAt Try.prog 18 [1, 1, 1])) (kRet (Cx.P cxSm) [(ResultVar.tmp 4)] 2 k))))) := by kernel_rfl
end Go.Ev
