/- The layer's own check answers true: by the kernel. No conditions. -/
import Derived.Test.YtipmphkcbhjinaaOrD
import Derived.Test.YtipmphkcbhjinaaEvD
namespace Go.Ev
open Go Go.Proofs
def wrK : FuncId → Nat := fun f => match hasN f [3,4,5,6,8,9,11,12,13,20,21,23,27,28,31,32,33,37,40] with | true => 2 | false => 0
theorem namesK : namesB Try.prog = true := by kernel_rfl
theorem mixedK : Try.prog.follows .mixedOrders = true := by kernel_rfl
noncomputable def cxWq : Cx := mkCxF Try.prog [] wrK
theorem cxWq_ok : CxOk Try.prog cxWq := mkCxF_ok namesK mixedK (by intro x h; cases h)
theorem t_known (k : SV → St → Prop) : evCall cxWq (ev cxWq 3000) 8 [] [] k = k (.sa (.one (bv true))) [] := by kernel_rfl
theorem known_sum : SumOk Try.prog 8 sTrue := by
  refine sumOk_of cxWq_ok ?_ ?_
  · intro args st k h
    unfold sTrue at h ⊢
    split at h
    · exact Lin.ret _ _ k h
    · exact h.elim
  · intro args st k h
    unfold sTrue at h
    split at h
    · exact ⟨3000, by rw [t_known]; exact h⟩
    · exact h.elim
end Go.Ev
