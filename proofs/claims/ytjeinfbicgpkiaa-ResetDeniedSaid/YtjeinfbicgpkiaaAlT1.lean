/- What the functions of this layer come to on states with numbers that are not known: printed by a program of mine (SymTool.lean), checked by the kernel. No conditions. -/
import Derived.Test.YtjeinfbicgpkiaaDsD
import Derived.Test.YtjeinfbicgpkiaaEvD
set_option linter.unusedVariables false
namespace Go.Ev
open Go Go.Proofs Go.Spec
theorem t_alS (m i : Int) (w : Bool) (kk : MK) (T : TypeId) (xs os : List Int) (L M : Nat) (k : SV → St → Prop) : ev cxAl (L + 54) 1 46 (codeAt Try.prog 46 [1, 1, 1, 0, 1, 0]) (frm 22 [(5, (.sa (.one (SC.ref 1)))), (12, (.sa (.one (iv .u16 m)))), (13, (.sa (.one (iv .u16 i))))]) [some (.own w kk T 1 (.ints .u16 xs)), own16 os] (kBlock 0 (kSeq (ev cxAl (M + 56) 1 46 (codeAt Try.prog 46 [1, 1, 1, 1])) (kRet (Cx.P cxAl) [(ResultVar.tmp 4)] 1 k))) =
    (Again (branch (decide ((i < m))) (need (decide (((((List.length os) + 1) * 2) ≤ 140737488355328))) (ev cxAl (L + 53) 1 46 (codeAt Try.prog 46 [1, 1, 1, 0, 1, 0]) (frm 22 [(5, (.sa (.one (SC.ref 1)))), (12, (.sa (.one (iv .u16 m)))), (13, (.sa (.one (iv .u16 (addK .u16 i (1))))))]) [(some (SO.own w kk T 1 (Ct.ints .u16 xs))), (some (SO.own true MK.row 22 1 (Ct.ints .u16 (os ++ [i]))))] (kBlock 0 (kSeq (ev cxAl (M + 56) 1 46 (codeAt Try.prog 46 [1, 1, 1, 1])) (kRet (Cx.P cxAl) [(ResultVar.tmp 4)] 1 k))))) (k (.sa (.one (SC.ref 1))) [(some (SO.own w kk T 1 (Ct.ints .u16 xs))), (some (SO.own true MK.row 22 1 (Ct.ints .u16 os)))]))) := by kernel_rfl
end Go.Ev
