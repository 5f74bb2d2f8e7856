/- The layer's own check answers true: by the kernel. No conditions. -/
import Derived.Test.YtjeinfbicgpkiaaGpD
import Derived.Test.YtjeinfbicgpkiaaEvD
namespace Go.Ev
open Go Go.Proofs
def wrW : FuncId → Nat := fun f => match hasN f [3,4,5,6,7,8,10,11,12,13,14,15,17,18,19,20,21,25,27,28,29,33,37,41,43,45,47] with | true => 2 | false => 0
theorem namesWk : namesB Try.prog = true := by kernel_rfl
theorem mixedWk : Try.prog.follows .mixedOrders = true := by kernel_rfl
noncomputable def cxW : Cx := mkCxF Try.prog [] wrW
theorem cxW_ok : CxOk Try.prog cxW := mkCxF_ok namesWk mixedWk (by intro x h; cases h)
theorem t_known (k : SV → St → Prop) : evCall cxW (ev cxW 3000) 8 [] [] k = k (.sa (.one (bv true))) [] := by kernel_rfl
theorem known_sum : SumOk Try.prog 8 sTrue := by
  refine sumOk_of cxW_ok ?_ ?_
  · intro args st k h
    unfold sTrue at h ⊢
    split at h
    · exact Lin.ret _ _ k h
    · exact h.elim
  · intro args st k h
    unfold sTrue at h
    split at h
    · exact ⟨3000, by rw [t_known]; exact h⟩
    · exact h.elim
end Go.Ev
