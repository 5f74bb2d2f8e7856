/- What the functions of this layer come to on states with numbers that are not known: printed by a program of mine (SymTool.lean), checked by the kernel. No conditions. -/
import Derived.Test.YtiplgpnegolegaaCpD
import Derived.Test.YtiplgpnegolegaaEvD
set_option linter.unusedVariables false
namespace Go.Ev
open Go Go.Proofs Go.Spec
theorem t_sl (f g : Int) (xs ys : List Int) (k : SV → St → Prop) : evCall cxSl (ev cxSl 40) 14 [.agg [iv .u32 f, .ref 0], .agg [iv .u32 g, .ref 1]] [rd32 xs, rd32 ys] k =
    (need (decide (((0 + (List.length xs)) ≤ (List.length xs)))) (need (decide (((0 + (List.length ys)) ≤ (List.length ys)))) (need (decide ((((List.length (List.take (List.length xs) xs)) ≤ 1000000) ∧ ((List.length (List.take (List.length ys) ys)) ≤ 1000000)))) (k (.sa (.one (bv (Spec.sameB f g (List.take (List.length xs) xs) (List.take (List.length ys) ys))))) [(some (SO.own false MK.ext 0 1 (Ct.ints .u32 xs))), (some (SO.own false MK.ext 0 1 (Ct.ints .u32 ys)))])))) := by kernel_rfl
end Go.Ev
