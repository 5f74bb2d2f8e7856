/- What the functions of this layer come to on states with numbers that are not known: printed by a program of mine (SymTool.lean), checked by the kernel. No conditions. -/
import Derived.Test.YtiplgpnegolegaaCl32D
import Derived.Test.YtiplgpnegolegaaEvD
set_option linter.unusedVariables false
namespace Go.Ev
open Go Go.Proofs Go.Spec
theorem t_clone32 (x : Int) (xs : List Int) (k : SV → St → Prop) : evCall cxCl32 (ev cxCl32 40) 8 [.one (.ref 0)] [some (.own false .ext 0 1 (.ints .u32 (x :: xs)))] (tidyK Try.prog 23 1 k) =
    (need (decide (((0 + (List.length (x :: xs))) ≤ (List.length (x :: xs))))) (need (decide ((((0 + (List.length (List.take (List.length (x :: xs)) (x :: xs)))) * 4) ≤ 140737488355328))) (k (.sa (.one (SC.ref 1))) [(some (SO.own false MK.ext 0 1 (Ct.ints .u32 (x :: xs)))), (some (SO.own true MK.row 22 1 (Ct.ints .u32 (List.take (List.length (x :: xs)) (x :: xs)))))]))) := by kernel_rfl
theorem t_clone32n (c : Nat) (k : SV → St → Prop) : evCall cxCl32 (ev cxCl32 40) 8 [.one (.raw (.slice none 0 c))] [] (tidyK Try.prog 23 0 k) =
    (k (.sa (.one (SC.ref 0))) [(some (SO.own true MK.row 22 1 (Ct.ints .u32 [])))]) := by kernel_rfl
theorem t_clone32e (a : Addr) (c : Nat) (k : SV → St → Prop) : evCall cxCl32 (ev cxCl32 40) 8 [.one (.raw (.slice (some a) 0 c))] [] (tidyK Try.prog 23 0 k) =
    (k (.sa (.one (SC.ref 0))) [(some (SO.own true MK.row 22 1 (Ct.ints .u32 [])))]) := by kernel_rfl
end Go.Ev
