/- What the functions of this layer come to on states with numbers that are not known: printed by a program of mine (SymTool.lean), checked by the kernel. No conditions. -/
import Derived.Test.YtegiamjcdklijaaKpD
import Derived.Test.YtegiamjcdklijaaEvD
set_option linter.unusedVariables false
namespace Go.Ev
open Go Go.Proofs Go.Spec
theorem t_kp (n : Nat) (ts fs ss ns ps : List Int) (ds : List (List Int)) (N : Nat) (k : SV → St → Prop) : evCall cxKp (ev cxKp (N + 60)) 5 [.one (.ref 0)] [lP n ts fs ss ns ps ds] k =
    (need (decide (((n ≤ 140737488355328) ∧ (((List.length ds) = n) ∧ ∀ (x : List Int), x ∈ ds → x.length ≤ 140737488355328)))) (branch (Spec.greatB n ds) (k (.sa (.one (bv true))) [(some (SO.own false MK.ext 0 6 (Ct.tab n [(Col.ints .u32 ts), (Col.ints .u8 fs), (Col.ints .u16 ss), (Col.ints .u16 ns), (Col.ints .u32 ps), (Col.data .u8 ds)])))]) (ev cxKp (N + 52) 1 5 (codeAt Try.prog 5 [1, 1, 1, 1, 1, 0, 1, 0]) (frm 75 [(3, (.sa (.one (SC.ptr 1 0 0)))), (4, (.sa (.one (iv .i64 (0))))), (5, (.sa (.one (iv .i64 (0))))), (18, (.sa (.one (SC.ref 0)))), (19, (.sa (.one (iv .i64 ((n : Nat) : Int))))), (20, (.sa (.one (iv .i64 (0)))))]) [(some (SO.own false MK.ext 0 6 (Ct.tab n [(Col.ints .u32 ts), (Col.ints .u8 fs), (Col.ints .u16 ss), (Col.ints .u16 ns), (Col.ints .u32 ps), (Col.data .u8 ds)]))), (obj 56 2 [(SC.ref 2), (iv .i64 (0))]), (some (SO.mt true (KC.ints .u32 []) true [(Col.ints .u32 []), (Col.ints .u8 []), (Col.ints .u16 []), (Col.ints .u16 []), (Col.ints .u32 []), (Col.data .u8 [])] [] 0))] (kBlock 0 (kSeq (ev cxKp (N + 54) 1 5 (codeAt Try.prog 5 [1, 1, 1, 1, 1, 1])) (kRet (Cx.P cxKp) [(ResultVar.tmp 2)] 1 k)))))) := by kernel_rfl
end Go.Ev
