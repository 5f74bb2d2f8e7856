/- What the functions of this layer come to on states with numbers that are not known: printed by a program of mine (SymTool.lean), checked by the kernel. No conditions. -/
import Derived.Test.YtoffkchncellpaaCwE
import Derived.Test.YtoffkchncellpaaEvB
set_option linter.unusedVariables false
namespace Go.Ev
open Go Go.Proofs Go.Spec
theorem t_boundsEnd (mtu : Int) (len : Nat) (c : Nat) (A B : List Int) (C : List Bool) (i : Int) (w1 w2 w3 w4 : Int) (N : Nat) (k : SV → St → Prop) : (kBlock 0 (kSeq (ev cx2 (N + 55) 1 3 (codeAt Try.prog 3 [1, 1, 1, 1, 1])) (kRet (Cx.P cx2) [(ResultVar.tmp 4)] 1 k))) (Exit.exit 0) (frm 111 [(0, .sa (.one (iv .i64 mtu))), (5, .sa (.one (.ptr 1 0 0))), (31, .sa (.one (.sl 0 0 len (some c)))), (32, .sa (.one (iv .i64 len))), (33, .sa (.one (iv .i64 i))), (34, .sa (.one (bv false)))]) [some (.mem false .ext 29 3 (.tab len [.ints .i64 A, .ints .i64 B, .bools C])), obj 43 4 [iv .i64 w1, iv .i64 w2, iv .i64 w3, iv .i64 w4]] =
    (k (.sa (.one (bv true))) [(some (SO.mem false MK.ext 29 3 (Ct.tab len [(Col.ints .i64 A), (Col.ints .i64 B), (Col.bools C)])))]) := by kernel_rfl
theorem t_partsEnd (mtu size sum : Int) (len : Nat) (c : Nat) (A : List Int) (i : Int) (w1 w2 w3 w4 : Int) (N : Nat) (k : SV → St → Prop) : (kBlock 0 (kSeq (ev cx2 (N + 52) 1 4 (codeAt Try.prog 4 [1, 1, 1, 1, 1, 1, 1, 1])) (kRet (Cx.P cx2) [(ResultVar.tmp 4)] 1 k))) (Exit.exit 0) (frm 75 [(0, .sa (.one (iv .i64 mtu))), (5, .sa (.one (.ptr 1 0 0))), (7, .sa (.one (iv .i64 size))), (8, .sa (.one (iv .i64 sum))), (37, .sa (.one (.sl 0 0 len (some c)))), (38, .sa (.one (iv .i64 len))), (39, .sa (.one (iv .i64 i))), (40, .sa (.one (bv false)))]) [some (.mem false .ext 37 1 (.tab len [.ints .u16 A])), obj 43 4 [iv .i64 w1, iv .i64 w2, iv .i64 w3, iv .i64 w4]] =
    (branch (w2 == size) (k (.sa (.one (bv true))) [(some (SO.mem false MK.ext 37 1 (Ct.tab len [(Col.ints .u16 A)])))]) (k (.sa (.one (bv false))) [(some (SO.mem false MK.ext 37 1 (Ct.tab len [(Col.ints .u16 A)])))])) := by kernel_rfl
end Go.Ev
