/- What the functions of this layer come to on states with numbers that are not known: printed by a program of mine (SymTool.lean), checked by the kernel. No conditions. -/
import Derived.Test.YtegiamjcdklijaaKpD
import Derived.Test.YtegiamjcdklijaaEvD
set_option linter.unusedVariables false
namespace Go.Ev
open Go Go.Proofs Go.Spec
theorem t_great (w : Bool) (kk : MK) (T n : Nat) (ts fs ss ns ps : List Int) (ds : List (List Int)) (N : Nat) (k : SV → St → Prop) : evCall cxGr (ev cxGr (N + 60)) 10 [.one (.ref 0)] [some (.own w kk T 6 (.tab n [.ints .u32 ts, .ints .u8 fs, .ints .u16 ss, .ints .u16 ns, .ints .u32 ps, .data .u8 ds]))] k =
    (ev cxGr (N + 55) 1 10 (codeAt Try.prog 10 [1, 1, 0, 1, 0]) (frm 24 [(0, (.sa (.one (SC.ref 0)))), (3, (.sa (.one (iv .i64 (0))))), (4, (.sa (.one (iv .i64 (0)))))]) [(some (SO.own w kk T 6 (Ct.tab n [(Col.ints .u32 ts), (Col.ints .u8 fs), (Col.ints .u16 ss), (Col.ints .u16 ns), (Col.ints .u32 ps), (Col.data .u8 ds)])))] (kBlock 0 (kSeq (ev cxGr (N + 57) 1 10 (codeAt Try.prog 10 [1, 1, 1])) (kRet (Cx.P cxGr) [(ResultVar.tmp 2)] 1 k)))) := by kernel_rfl
end Go.Ev
