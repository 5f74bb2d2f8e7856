/- The layer's own check answers true: by the kernel. No conditions. -/
import Derived.Test.YtiplgpnegolegaaDoS
import Derived.Test.YtiplgpnegolegaaCdD
namespace Go.Ev
open Go Go.Proofs
def wrK : FuncId → Nat := fun f => match hasN f [3,4,5,6,7,9,17,18,19,21,26,31,32,36,37,38,40,46,50,51] with | true => 2 | false => 0
theorem namesK : namesB Try.prog = true := by kernel_rfl
theorem mixedK : Try.prog.follows .mixedOrders = true := by kernel_rfl
noncomputable def cxK : Cx := mkCxF Try.prog [(9, sDo)] wrK
theorem cxK_ok : CxOk Try.prog cxK := mkCxF_ok namesK mixedK (by
  intro x h
  simp only [List.mem_cons, List.not_mem_nil, or_false] at h
  subst h
  exact do_sum)
theorem t_known (k : SV → St → Prop) : evCall cxK (ev cxK 3000) 7 [] [] k = k (.sa (.one (bv true))) [] := by kernel_rfl
theorem known_sum : SumOk Try.prog 7 sTrue := by
  refine sumOk_of cxK_ok ?_ ?_
  · intro args st k h
    unfold sTrue at h ⊢
    split at h
    · exact Lin.ret _ _ k h
    · exact h.elim
  · intro args st k h
    unfold sTrue at h
    split at h
    · exact ⟨3000, by rw [t_known]; exact h⟩
    · exact h.elim
end Go.Ev
