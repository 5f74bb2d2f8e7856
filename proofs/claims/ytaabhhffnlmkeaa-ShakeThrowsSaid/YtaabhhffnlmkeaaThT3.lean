/- What the functions of this layer come to on states with numbers that are not known: printed by a program of mine (SymTool.lean), checked by the kernel. No conditions. -/
import Derived.Test.YtaabhhffnlmkeaaThD
import Derived.Test.YtaabhhffnlmkeaaEvC
set_option linter.unusedVariables false
namespace Go.Ev
open Go Go.Proofs Go.Spec
theorem t_lawEnd (T : TypeId) (s m i : Int) (N : Nat) (k : SV → St → Prop) : (kBlock 0 (kSeq (ev cxL (N + 47) 0 5 (codeAt Try.prog 5 [1, 1, 1])) (kRet (Cx.P cxL) [(ResultVar.tmp 4)] 0 k))) (Exit.exit 0) (frm 39 [(0, (.sa (.one (iv .u64 s)))), (5, (.sa (.one (SC.ptr 0 0 0)))), (12, (.sa (.one (iv .i64 m)))), (13, (.sa (.one (iv .i64 i)))), (14, (.sa (.one (bv false))))]) [(obj T 1 [(iv .u64 s)])] =
    (k (.sa (.one (bv true))) []) := by kernel_rfl
end Go.Ev
