/- What the functions of this layer come to on states with numbers that are not known: printed by a program of mine (SymTool.lean), checked by the kernel. No conditions. -/
import Derived.Test.YtmgdjbppmndlnaaPbD
import Derived.Test.YtmgdjbppmndlnaaEvD
set_option linter.unusedVariables false
namespace Go.Ev
open Go Go.Proofs Go.Spec
theorem t_tr1 (xs ys : List Int) (L M : Nat) (k : SV → St → Prop) : ev cxTr (L + 70) 1 20 (codeAt Try.prog 20 [1, 1, 1, 1, 1, 1, 1, 1, 0, 0]) (frm 55 [(6, (.sa (.one (SC.ref 1))))]) [rdB true .row 5 xs, rdB true .row 5 ys] (kBlock 0 (kSeq (ev cxTr (M + 71) 1 20 (codeAt Try.prog 20 [1, 1, 1, 1, 1, 1, 1, 1, 1])) (kRet (Cx.P cxTr) [(ResultVar.tmp 4), (ResultVar.tmp 5)] 1 k))) =
    (Again (branch (decide (((remK (((List.length ys) : Nat) : Int) (4)) > (0)))) (need (decide (((((List.length ys) + 1) * 1) ≤ 140737488355328))) (ev cxTr (L + 69) 1 20 (codeAt Try.prog 20 [1, 1, 1, 1, 1, 1, 1, 1, 0, 0]) (frm 55 [(6, (.sa (.one (SC.ref 1))))]) [(some (SO.own true MK.row 5 1 (Ct.ints .u8 xs))), (some (SO.own true MK.row 5 1 (Ct.ints .u8 (ys ++ [(0)]))))] (kBlock 0 (kSeq (ev cxTr (M + 71) 1 20 (codeAt Try.prog 20 [1, 1, 1, 1, 1, 1, 1, 1, 1])) (kRet (Cx.P cxTr) [(ResultVar.tmp 4), (ResultVar.tmp 5)] 1 k))))) (k (.tup [(.one (SC.ref 1)), (.one (iv .i64 (0)))]) [(some (SO.own true MK.row 5 1 (Ct.ints .u8 xs))), (some (SO.own true MK.row 5 1 (Ct.ints .u8 ys)))]))) := by kernel_rfl
end Go.Ev
