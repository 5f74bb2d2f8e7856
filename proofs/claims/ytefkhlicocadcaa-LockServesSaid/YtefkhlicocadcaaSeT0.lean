/- What the functions of this layer come to on states with numbers that are not known: printed by a program of mine (SymTool.lean), checked by the kernel. No conditions. -/
import Derived.Test.YtefkhlicocadcaaSeD
import Derived.Test.YtefkhlicocadcaaEvD
set_option linter.unusedVariables false
namespace Go.Ev
open Go Go.Proofs Go.Spec
theorem t_se0 (a b c d : List Int) (L : Nat) (k : SV → St → Prop) : evCall cxSe (ev cxSe (L + 60)) 5 [.one (.ref 0)] [doS a b c d] k =
    (branch (decide (((((List.length a) : Nat) : Int) > (200)))) (k (.sa (.one (bv true))) [(some (SO.own false MK.ext 0 4 (Ct.tab (List.length a) [(Col.ints .i64 a), (Col.ints .i64 b), (Col.ints .u8 c), (Col.ints .i64 d)])))]) (ev cxSe (L + 53) 1 5 (codeAt Try.prog 5 [1, 1, 1, 1, 0, 1, 0]) (frm 182 [(3, (.sa (.one (SC.ref 1)))), (25, (.sa (.one (SC.ref 0)))), (26, (.sa (.one (iv .i64 (((List.length a) : Nat) : Int))))), (27, (.sa (.one (iv .i64 (0)))))]) [(some (SO.own false MK.ext 0 4 (Ct.tab (List.length a) [(Col.ints .i64 a), (Col.ints .i64 b), (Col.ints .u8 c), (Col.ints .i64 d)]))), (some (SO.abs true 0 Spec.newD))] (kBlock 0 (kSeq (ev cxSe (L + 55) 1 5 (codeAt Try.prog 5 [1, 1, 1, 1, 1])) (kRet (Cx.P cxSe) [(ResultVar.tmp 2)] 1 k))))) := by kernel_rfl
end Go.Ev
