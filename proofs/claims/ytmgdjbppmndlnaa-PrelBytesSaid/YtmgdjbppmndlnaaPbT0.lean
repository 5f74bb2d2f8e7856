/- What the functions of this layer come to on states with numbers that are not known: printed by a program of mine (SymTool.lean), checked by the kernel. No conditions. -/
import Derived.Test.YtmgdjbppmndlnaaPbD
import Derived.Test.YtmgdjbppmndlnaaEvD
set_option linter.unusedVariables false
namespace Go.Ev
open Go Go.Proofs Go.Spec
theorem t_ri (w : Bool) (kk : MK) (T n : Nat) (ss qs : List Int) (N : Nat) (k : SV → St → Prop) : evCall cxRi (ev cxRi (N + 40)) 18 [.one (.ref 0)] [skO w kk T n ss qs] k =
    (ev cxRi (N + 36) 1 18 (codeAt Try.prog 18 [1, 0, 1, 0]) (frm 25 [(0, (.sa (.one (SC.ref 0)))), (3, (.sa (.one (iv .i64 (1)))))]) [(some (SO.own w kk T 2 (Ct.tab n [(Col.ints .u16 ss), (Col.ints .u16 qs)])))] (kBlock 0 (kSeq (ev cxRi (N + 38) 1 18 (codeAt Try.prog 18 [1, 1])) (kRet (Cx.P cxRi) [(ResultVar.tmp 2)] 1 k)))) := by kernel_rfl
theorem t_rr (w : Bool) (kk : MK) (T : Nat) (ss : List Int) (N : Nat) (k : SV → St → Prop) : evCall cxRi (ev cxRi (N + 40)) 21 [.one (.ref 0)] [rd16 w kk T ss] k =
    (ev cxRi (N + 36) 1 21 (codeAt Try.prog 21 [1, 0, 1, 0]) (frm 23 [(0, (.sa (.one (SC.ref 0)))), (3, (.sa (.one (iv .i64 (1)))))]) [(some (SO.own w kk T 1 (Ct.ints .u16 ss)))] (kBlock 0 (kSeq (ev cxRi (N + 38) 1 21 (codeAt Try.prog 21 [1, 1])) (kRet (Cx.P cxRi) [(ResultVar.tmp 2)] 1 k)))) := by kernel_rfl
theorem t_nu (xs : List Int) (N : Nat) (k : SV → St → Prop) : evCall cxNu (ev cxNu (N + 40)) 47 [.one (.ref 0)] [rdB false .ext 0 xs] k =
    (ev cxNu (N + 35) 1 47 (codeAt Try.prog 47 [1, 1, 0, 1, 0]) (frm 20 [(0, (.sa (.one (SC.ref 0)))), (3, (.sa (.one (iv .u64 (0))))), (4, (.sa (.one (iv .i64 (0)))))]) [(some (SO.own false MK.ext 0 1 (Ct.ints .u8 xs)))] (kBlock 0 (kSeq (ev cxNu (N + 37) 1 47 (codeAt Try.prog 47 [1, 1, 1])) (kRet (Cx.P cxNu) [(ResultVar.tmp 2)] 1 k)))) := by kernel_rfl
end Go.Ev
