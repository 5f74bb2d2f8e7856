/- The layer's own check, works, answers true: by the kernel. No conditions. -/
import Derived.Test.YtaabhhffnlmkeaaSiO
namespace Go.Ev
open Go Go.Proofs Go.Spec
def sWorks : SumT := fun args st k => match args, st with
  | [], [] => k (.sa (.one (bv true))) []
  | _, _ => False
def wrK : FuncId → Nat := fun f => match hasN f [3,4,5,6,7,8,9,11,12,13,19,23,24,26,27,31,32,33,35,38,39,40,41,43,45,46,47,50] with | true => 1 | false => 0
noncomputable def cxK : Cx := mkCxF Try.prog [(42, sOf)] wrK
theorem cxK_ok : CxOk Try.prog cxK := mkCxF_ok namesS mixedS (by
  intro x h
  simp only [List.mem_cons, List.not_mem_nil, or_false] at h
  subst h
  exact of_sum)
theorem t_works (k : SV → St → Prop) : evCall cxK (ev cxK 3000) 7 [] [] k = k (.sa (.one (bv true))) [] := by kernel_rfl
theorem works_sum : SumOk Try.prog 7 sWorks := by
  refine sumOk_of cxK_ok ?_ ?_
  · intro args st k h
    unfold sWorks at h ⊢
    split at h
    · exact Lin.ret _ _ k h
    · exact h.elim
  · intro args st k h
    unfold sWorks at h
    split at h
    · exact ⟨3000, by rw [t_works]; exact h⟩
    · exact h.elim
end Go.Ev
