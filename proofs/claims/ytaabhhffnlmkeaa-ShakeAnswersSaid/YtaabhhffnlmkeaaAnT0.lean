/- What the functions of this layer come to on states with numbers that are not known: printed by a program of mine (SymTool.lean), checked by the kernel. No conditions. -/
import Derived.Test.YtaabhhffnlmkeaaAnD
import Derived.Test.YtaabhhffnlmkeaaEvD
set_option linter.unusedVariables false
namespace Go.Ev
open Go Go.Proofs Go.Spec
theorem t_num (b : List Int) (i n : Int) (N : Nat) (k : SV → St → Prop) : evCall cxNu (ev cxNu (N + 40)) 48 [.one (.ref 0), .one (iv .i64 i), .one (iv .i64 n)] [rd b] k =
    (ev cxNu (N + 35) 1 48 (codeAt Try.prog 48 [1, 1, 0, 1, 0]) (frm 25 [(0, (.sa (.one (SC.ref 0)))), (1, (.sa (.one (iv .i64 i)))), (2, (.sa (.one (iv .i64 n)))), (7, (.sa (.one (iv .u64 (0))))), (8, (.sa (.one (iv .i64 (0)))))]) [(some (SO.own false MK.ext 0 1 (Ct.ints .u8 b)))] (kBlock 0 (kSeq (ev cxNu (N + 37) 1 48 (codeAt Try.prog 48 [1, 1, 1])) (kRet (Cx.P cxNu) [(ResultVar.tmp 6)] 1 k)))) := by kernel_rfl
theorem t_sam (xs ys : List Int) (N : Nat) (k : SV → St → Prop) : evCall cxNu (ev cxNu (N + 40)) 30 [.one (.ref 0), .one (.ref 1)] [some (.own false .ext 0 1 (.ints .u32 xs)), some (.own false .ext 0 1 (.ints .u32 ys))] k =
    (ev cxNu (N + 35) 2 30 (codeAt Try.prog 30 [1, 1, 0, 1, 0]) (frm 31 [(0, (.sa (.one (SC.ref 0)))), (1, (.sa (.one (SC.ref 1)))), (5, (.sa (.one (bv (eqK (((List.length xs) : Nat) : Int) (((List.length ys) : Nat) : Int)))))), (6, (.sa (.one (iv .i64 (0)))))]) [(some (SO.own false MK.ext 0 1 (Ct.ints .u32 xs))), (some (SO.own false MK.ext 0 1 (Ct.ints .u32 ys)))] (kBlock 0 (kSeq (ev cxNu (N + 37) 2 30 (codeAt Try.prog 30 [1, 1, 1])) (kRet (Cx.P cxNu) [(ResultVar.tmp 4)] 2 k)))) := by kernel_rfl
end Go.Ev
