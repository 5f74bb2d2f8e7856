/- What the functions of this layer come to on states with numbers that are not known: printed by a program of mine (SymTool.lean), checked by the kernel. No conditions. -/
import Derived.Test.YtefkhlicocadcaaSeD
import Derived.Test.YtefkhlicocadcaaEvD
set_option linter.unusedVariables false
namespace Go.Ev
open Go Go.Proofs Go.Spec
theorem t_se5 (a b c d : List Int) (D : LkD) (len i kd t cc nn last hl j : Int) (m : Nat) (cs ns : List Int) (L M Q : Nat) (k : SV → St → Prop) : ev cxSe (L + 56) 1 5 (codeAt Try.prog 5 [1, 1, 1, 1, 0, 1, 0, 0, 1, 1, 1]) (frm 182 [(3, (.sa (.one (SC.ref 1)))), (5, (.sa (.one (SC.ptr 2 0 0)))), (14, (.sa (.one (iv .u8 last)))), (25, (.sa (.one (SC.ref 0)))), (26, (.sa (.one (iv .i64 len)))), (27, (.sa (.one (iv .i64 i)))), (152, (.sa (.one (SC.ref 3)))), (153, (.sa (.one (iv .i64 hl)))), (154, (.sa (.one (iv .i64 j)))), (155, (.sa (.one (bv false))))]) [doS a b c d, (some (SO.abs true 0 D)), obj 33 4 [iv .i64 kd, iv .i64 t, iv .u8 cc, iv .i64 nn], lrow true m cs ns] (kSeq (ev cxSe (Q + 59) 1 5 (codeAt Try.prog 5 [1, 1, 1, 1, 0, 1, 0])) (kBlock 0 (kSeq (ev cxSe (M + 55) 1 5 (codeAt Try.prog 5 [1, 1, 1, 1, 1])) (kRet (Cx.P cxSe) [(ResultVar.tmp 2)] 1 k)))) =
    (ev cxSe (Q + 59) 1 5 (codeAt Try.prog 5 [1, 1, 1, 1, 0, 1, 0]) (frm 182 [(3, (.sa (.one (SC.ref 1)))), (25, (.sa (.one (SC.ref 0)))), (26, (.sa (.one (iv .i64 len)))), (27, (.sa (.one (iv .i64 (addK .i64 i (1))))))]) [(some (SO.own false MK.ext 0 4 (Ct.tab (List.length a) [(Col.ints .i64 a), (Col.ints .i64 b), (Col.ints .u8 c), (Col.ints .i64 d)]))), (some (SO.abs true 0 D))] (kBlock 0 (kSeq (ev cxSe (M + 55) 1 5 (codeAt Try.prog 5 [1, 1, 1, 1, 1])) (kRet (Cx.P cxSe) [(ResultVar.tmp 2)] 1 k)))) := by kernel_rfl
end Go.Ev
