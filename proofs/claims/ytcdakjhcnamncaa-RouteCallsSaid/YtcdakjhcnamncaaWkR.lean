/- The layer's own check answers true: by the kernel. No conditions. -/
import Derived.Test.YtcdakjhcnamncaaRtD
import Derived.Test.YtcdakjhcnamncaaEvD
namespace Go.Ev
open Go Go.Proofs
def wrK : FuncId → Nat := fun f => match hasN f [3,4,5,6,7,8,10,11,13,19,21,23,24,25,31,32,33,39,40,43,45,51,52,54,55] with | true => 2 | false => 0
theorem namesK : namesB Try.prog = true := by kernel_rfl
theorem mixedK : Try.prog.follows .mixedOrders = true := by kernel_rfl
noncomputable def cxK : Cx := mkCxF Try.prog [] wrK
theorem cxK_ok : CxOk Try.prog cxK := mkCxF_ok namesK mixedK (by intro x h; cases h)
theorem t_known (k : SV → St → Prop) : evCall cxK (ev cxK 3000) 7 [] [] k = k (.sa (.one (bv true))) [] := by kernel_rfl
theorem known_sum : SumOk Try.prog 7 sTrue := by
 refine sumOk_of cxK_ok ?_ ?_
 · intro args st k h
   unfold sTrue at h ⊢
   split at h
   · exact Lin.ret _ _ k h
   · exact h.elim
 · intro args st k h
   unfold sTrue at h
   split at h
   · exact ⟨3000, by rw [t_known]; exact h⟩
   · exact h.elim
end Go.Ev
