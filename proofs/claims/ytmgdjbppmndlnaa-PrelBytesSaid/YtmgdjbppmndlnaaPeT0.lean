/- What the functions of this layer come to on states with numbers that are not known: printed by a program of mine (SymTool.lean), checked by the kernel. No conditions. -/
import Derived.Test.YtmgdjbppmndlnaaPuD
import Derived.Test.YtmgdjbppmndlnaaEvD
set_option linter.unusedVariables false
namespace Go.Ev
open Go Go.Proofs Go.Spec
theorem t_la (pt : Int) (n : Nat) (ss qs bs : List Int) (N : Nat) (k : SV → St → Prop) : evCall cxPb (ev cxPb (N + 60)) 3 [.agg [iv .u32 pt, .ref 0], .one (.ref 1)] [skO false .ext 0 n ss qs, rdB false .ext 0 bs] k =
    (branch (decide ((((n : Nat) : Int) > (300)))) (k (.sa (.one (bv true))) [(some (SO.own false MK.ext 0 2 (Ct.tab n [(Col.ints .u16 ss), (Col.ints .u16 qs)]))), (some (SO.own false MK.ext 0 1 (Ct.ints .u8 bs)))]) (branch (decide (((((List.length bs) : Nat) : Int) > (1000)))) (k (.sa (.one (bv true))) [(some (SO.own false MK.ext 0 2 (Ct.tab n [(Col.ints .u16 ss), (Col.ints .u16 qs)]))), (some (SO.own false MK.ext 0 1 (Ct.ints .u8 bs)))]) (ev cxPb (N + 54) 2 3 (codeAt Try.prog 3 [1, 1, 1, 0, 1, 0]) (frm 162 [(1, (.sa (.one (SC.ref 1)))), (2, (.sa (.one (SC.ptr 2 0 0)))), (5, (.sa (.one (SC.ref 3)))), (6, (.sa (.one (SC.ref 4)))), (34, (.sa (.one (SC.ref 0)))), (35, (.sa (.one (iv .i64 ((n : Nat) : Int))))), (36, (.sa (.one (iv .i64 (0)))))]) [(some (SO.own false MK.ext 0 2 (Ct.tab n [(Col.ints .u16 ss), (Col.ints .u16 qs)]))), (some (SO.own false MK.ext 0 1 (Ct.ints .u8 bs))), (obj 25 2 [(iv .u32 pt), (SC.ref 0)]), (some (SO.own true MK.row 29 1 (Ct.ints .u16 []))), (some (SO.own true MK.row 29 1 (Ct.ints .u16 [])))] (kBlock 0 (kSeq (ev cxPb (N + 56) 2 3 (codeAt Try.prog 3 [1, 1, 1, 1])) (kRet (Cx.P cxPb) [(ResultVar.tmp 4)] 2 k)))))) := by kernel_rfl
end Go.Ev
