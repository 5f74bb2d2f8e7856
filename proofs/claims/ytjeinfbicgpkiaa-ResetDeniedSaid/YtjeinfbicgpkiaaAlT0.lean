/- What the functions of this layer come to on states with numbers that are not known: printed by a program of mine (SymTool.lean), checked by the kernel. No conditions. -/
import Derived.Test.YtjeinfbicgpkiaaDsD
import Derived.Test.YtjeinfbicgpkiaaEvD
set_option linter.unusedVariables false
namespace Go.Ev
open Go Go.Proofs Go.Spec
theorem t_al (m : Int) (w : Bool) (kk : MK) (T : TypeId) (xs : List Int) (N : Nat) (k : SV → St → Prop) : evCall cxAl (ev cxAl (N + 60)) 46 [.one (.ref 0), .one (iv .i64 m)] [some (.own w kk T 1 (.ints .u16 xs))] k =
    (branch (decide (((((List.length xs) : Nat) : Int) > (0)))) (k (.sa (.one (SC.ref 0))) [(some (SO.own w kk T 1 (Ct.ints .u16 xs)))]) (ev cxAl (N + 54) 1 46 (codeAt Try.prog 46 [1, 1, 1, 0, 1, 0]) (frm 22 [(5, (.sa (.one (SC.ref 1)))), (12, (.sa (.one (iv .u16 (IntKind.wrap .u16 m))))), (13, (.sa (.one (iv .u16 (0)))))]) [(some (SO.own w kk T 1 (Ct.ints .u16 xs))), (some (SO.own true MK.row 22 1 (Ct.ints .u16 [])))] (kBlock 0 (kSeq (ev cxAl (N + 56) 1 46 (codeAt Try.prog 46 [1, 1, 1, 1])) (kRet (Cx.P cxAl) [(ResultVar.tmp 4)] 1 k))))) := by kernel_rfl
end Go.Ev
