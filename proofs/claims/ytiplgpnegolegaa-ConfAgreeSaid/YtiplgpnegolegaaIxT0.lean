/- What the functions of this layer come to on states with numbers that are not known: printed by a program of mine (SymTool.lean), checked by the kernel. No conditions. -/
import Derived.Test.YtiplgpnegolegaaIxD
import Derived.Test.YtiplgpnegolegaaEvD
set_option linter.unusedVariables false
namespace Go.Ev
open Go Go.Proofs Go.Spec
theorem t_idx (xs : List Int) (x : Int) (N : Nat) (k : SV → St → Prop) : evCall cxIx (ev cxIx (N + 40)) 47 [.one (.ref 0), .one (iv .u32 x)] [rd32 xs] k =
    (ev cxIx (N + 36) 1 47 (codeAt Try.prog 47 [1, 0, 1, 0]) (frm 19 [(0, (.sa (.one (SC.ref 0)))), (1, (.sa (.one (iv .u32 x)))), (7, (.sa (.one (iv .i64 (((List.length xs) : Nat) : Int))))), (8, (.sa (.one (iv .i64 (0)))))]) [(some (SO.own false MK.ext 0 1 (Ct.ints .u32 xs)))] (kBlock 0 (kSeq (ev cxIx (N + 38) 1 47 (codeAt Try.prog 47 [1, 1])) (kRet (Cx.P cxIx) [(ResultVar.tmp 4)] 1 k)))) := by kernel_rfl
theorem t_has (xs : List Int) (x : Int) (N : Nat) (k : SV → St → Prop) : evCall cxHa (ev cxHa 20) 33 [.one (.ref 0), .one (iv .u32 x)] [rd32 xs] k =
    (need (decide (((0 + (List.length xs)) ≤ (List.length xs)))) (need (decide (((List.length (List.take (List.length xs) xs)) ≤ 1000000))) (k (.sa (.one (bv (decide (((Spec.idxL x (List.take (List.length xs) xs) (0)) ≥ (0))))))) [(some (SO.own false MK.ext 0 1 (Ct.ints .u32 xs)))]))) := by kernel_rfl
end Go.Ev
