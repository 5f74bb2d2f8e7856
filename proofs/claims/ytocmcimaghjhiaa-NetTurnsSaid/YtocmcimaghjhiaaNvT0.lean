/- What the functions of this layer come to on states with numbers that are not known: printed by a program of mine (SymTool.lean), checked by the kernel. No conditions. -/
import Derived.Test.YtocmcimaghjhiaaNuL
import Derived.Test.YtocmcimaghjhiaaEvD
set_option linter.unusedVariables false
namespace Go.Ev
open Go Go.Proofs Go.Spec
theorem t_nv0 (n : Nat) (fs ts : List Int) (bs : List (List Int)) (q bit : Int) (N : Nat) (k : SV → St → Prop) : evCall cxNu (ev cxNu (N + 80)) 4 [.one (.ref 0), .one (iv .i64 q), .one (iv .i64 bit)] [lIn n fs ts bs] k =
    (ev cxNu (N + 74) 1 4 (codeAt Try.prog 4 [1, 1, 1, 0, 1, 0]) (frm 200 [(0, (.sa (.one (SC.ref 0)))), (1, (.sa (.one (iv .i64 q)))), (2, (.sa (.one (iv .i64 bit)))), (7, (.sa (.one (iv .i64 (0))))), (28, (.sa (.one (SC.ref 0)))), (29, (.sa (.one (iv .i64 ((n : Nat) : Int))))), (30, (.sa (.one (iv .i64 (0)))))]) [(some (SO.own false MK.ext 0 3 (Ct.tab n [(Col.ints .u32 fs), (Col.ints .u32 ts), (Col.data .u8 bs)])))] (kBlock 0 (kSeq (ev cxNu (N + 76) 1 4 (codeAt Try.prog 4 [1, 1, 1, 1])) (kRet (Cx.P cxNu) [(ResultVar.tmp 6)] 1 k)))) := by kernel_rfl
end Go.Ev
