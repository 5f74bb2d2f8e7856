/- What the functions of this layer come to on states with numbers that are not known: printed by a program of mine (SymTool.lean), checked by the kernel. No conditions. -/
import Derived.Test.YtocmcimaghjhiaaNoD
import Derived.Test.YtocmcimaghjhiaaEvD
set_option linter.unusedVariables false
namespace Go.Ev
open Go Go.Proofs Go.Spec
theorem t_ord0 (n m : Nat) (fs ts : List Int) (bs : List (List Int)) (ks : List Bool) (N : Nat) (k : SV → St → Prop) : evCall cxO (ev cxO (N + 60)) 5 [.one (.ref 0), .one (.ref 1)] [lIn n fs ts bs, bkIn m ks] k =
    (ev cxO (N + 54) 2 5 (codeAt Try.prog 5 [1, 1, 1, 0, 1, 0]) (frm 128 [(0, (.sa (.one (SC.ref 0)))), (1, (.sa (.one (SC.ref 1)))), (5, (.sa (.one (iv .i64 (0))))), (24, (.sa (.one (SC.ref 0)))), (25, (.sa (.one (iv .i64 ((n : Nat) : Int))))), (26, (.sa (.one (iv .i64 (0)))))]) [(some (SO.own false MK.ext 0 3 (Ct.tab n [(Col.ints .u32 fs), (Col.ints .u32 ts), (Col.data .u8 bs)]))), (some (SO.own false MK.ext 0 1 (Ct.tab m [(Col.bools ks)])))] (kBlock 0 (kSeq (ev cxO (N + 56) 2 5 (codeAt Try.prog 5 [1, 1, 1, 1])) (kRet (Cx.P cxO) [(ResultVar.tmp 4)] 2 k)))) := by kernel_rfl
end Go.Ev
