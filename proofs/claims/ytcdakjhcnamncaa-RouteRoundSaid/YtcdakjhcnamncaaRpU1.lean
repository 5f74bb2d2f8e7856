/- What the functions of this layer come to on states with numbers that are not known: printed by a program of mine (SymTool.lean), checked by the kernel. No conditions. -/
import Derived.Test.YtcdakjhcnamncaaRpD
import Derived.Test.YtcdakjhcnamncaaEvD
set_option linter.unusedVariables false
namespace Go.Ev
open Go Go.Proofs Go.Spec
theorem t_ch1_0 (p0 : Pa) (sil al : Int) (k : SV → St → Prop) : evCall cxRp (ev cxRp 60) 18 [.one (.ptr 0 0 0)] (rtL [p0] (0) sil al) k =
    (branch (Bool.not (Spec.Pa.d p0)) (k (.sa (.one (iv .i64 (0)))) (rtL [p0] (0) sil al)) (k (.sa (.one (iv .i64 (0)))) (rtL [p0] (0) sil al))) := by kernel_rfl
end Go.Ev
