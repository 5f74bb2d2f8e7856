/- What the functions of this layer come to on states with numbers that are not known: printed by a program of mine (SymTool.lean), checked by the kernel. No conditions. -/
import Derived.Test.YtjeinfbicgpkiaaDsD
import Derived.Test.YtjeinfbicgpkiaaEvD
set_option linter.unusedVariables false
namespace Go.Ev
open Go Go.Proofs Go.Spec
theorem t_if (m : Int) (xs : List Int) (N : Nat) (k : SV → St → Prop) : evCall cxIf (ev cxIf (N + 60)) 57 [.one (.ref 0), .one (.ref 1)] [rd16 xs, some (.clo (.func 55) [] [.one (.ptr 2 0 0)]), obj 3 1 [iv .i64 m]] k =
    (ev cxIf (N + 56) 3 57 (codeAt Try.prog 57 [1, 0, 1, 0]) (frm 19 [(0, (.sa (.one (SC.ref 0)))), (1, (.sa (.one (SC.ref 1)))), (7, (.sa (.one (iv .i64 (((List.length xs) : Nat) : Int))))), (8, (.sa (.one (iv .i64 (0)))))]) [(some (SO.own false MK.ext 0 1 (Ct.ints .u16 xs))), (some (SO.clo (Fn.func 55) [] [(.one (SC.ptr 2 0 0))])), (obj 3 1 [(iv .i64 m)])] (kBlock 0 (kSeq (ev cxIf (N + 58) 3 57 (codeAt Try.prog 57 [1, 1])) (kRet (Cx.P cxIf) [(ResultVar.tmp 4)] 3 k)))) := by kernel_rfl
theorem t_cf (m : Int) (xs : List Int) (k : SV → St → Prop) : evCall cxCf (ev cxCf 30) 53 [.one (.ref 0), .one (.ref 1)] [rd16 xs, some (.clo (.func 55) [] [.one (.ptr 2 0 0)]), obj 3 1 [iv .i64 m]] k =
    (need ((decide (((List.length xs) ≤ 1000000))) && (Spec.okU16 xs)) (k (.sa (.one (bv (decide (((Spec.idxGe m xs (0)) ≥ (0))))))) [(some (SO.own false MK.ext 0 1 (Ct.ints .u16 xs))), (some (SO.clo (Fn.func 55) [] [(.one (SC.ptr 2 0 0))])), (obj 3 1 [(iv .i64 m)])])) := by kernel_rfl
theorem t_th (m : Int) (xs : List Int) (k : SV → St → Prop) : evCall cxTh (ev cxTh 30) 49 [.one (.ref 0), .one (iv .i64 m)] [rd16 xs] k =
    (need ((decide (((List.length xs) ≤ 1000000))) && (Spec.okU16 xs)) (k (.sa (.one (bv (Bool.not (decide (((Spec.idxGe m xs (0)) ≥ (0)))))))) [(some (SO.own false MK.ext 0 1 (Ct.ints .u16 xs)))])) := by kernel_rfl
end Go.Ev
