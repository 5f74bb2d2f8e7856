/- The layer's own check answers true: by the kernel. No conditions. -/
import Derived.Test.YtoikhfkfihejmaaWhD
import Derived.Test.YtoikhfkfihejmaaEvD
namespace Go.Ev
open Go Go.Proofs
def wrKw : FuncId → Nat := fun f => match hasN f [3,4,6,7,10,14,15,16,17,21,22,24] with | true => 2 | false => 0
theorem namesKw : namesB Try.prog = true := by kernel_rfl
theorem mixedKw : Try.prog.follows .mixedOrders = true := by kernel_rfl
noncomputable def cxKw : Cx := mkCxF Try.prog [] wrKw
theorem cxKw_ok : CxOk Try.prog cxKw := mkCxF_ok namesKw mixedKw (by intro x h; cases h)
theorem t_knownW (k : SV → St → Prop) : evCall cxKw (ev cxKw 3000) 4 [] [] k = k (.sa (.one (bv true))) [] := by kernel_rfl
theorem known_sum : SumOk Try.prog 4 sTrue := by
  refine sumOk_of cxKw_ok ?_ ?_
  · intro args st k h
    unfold sTrue at h ⊢
    split at h
    · exact Lin.ret _ _ k h
    · exact h.elim
  · intro args st k h
    unfold sTrue at h
    split at h
    · exact ⟨3000, by rw [t_knownW]; exact h⟩
    · exact h.elim
end Go.Ev
