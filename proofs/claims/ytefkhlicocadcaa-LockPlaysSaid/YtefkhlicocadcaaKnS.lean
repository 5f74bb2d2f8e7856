/- lanyardlaw24.known answers true. No conditions. -/
import Derived.Test.YtefkhlicocadcaaKnD
import Derived.Test.YtefkhlicocadcaaSmS
import Derived.Test.YtefkhlicocadcaaLkP
import Derived.Test.YtefkhlicocadcaaLkCy
import Derived.Test.YtefkhlicocadcaaLkTk
import Derived.Test.YtefkhlicocadcaaLkGv
set_option linter.unusedVariables false
namespace Go.Ev
open Go Go.Proofs Go.Spec
theorem sumsL_ok : ∀ x ∈ sumsL, SumOk Try.prog x.1 x.2 := by
  intro x h
  simp only [sumsL, List.mem_cons, List.not_mem_nil, or_false] at h
  rcases h with rfl | rfl | rfl | rfl | rfl | rfl | rfl | rfl | rfl
  · exact new_sum
  · exact tk_sum
  · exact gv_sum
  · exact ho_sum
  · exact wa_sum
  · exact qu_sum
  · exact hs_sum
  · exact cy_sum
  · exact sm_sum
theorem cxKn_ok : CxOk Try.prog cxKn := mkCx_ok namesL mixedL sumsL_ok
noncomputable def kD : LkD := takeD (giveD (giveD (takeD (takeD (takeD (takeD (takeD (takeD newD 1 1 0) 2 1 0) 1 2 5) 1 1 9) 1 2 5) 2 3 0) 1 1 0) 1 1 0) 3 4 0
theorem kD_wf : WF kD 7 := ((((((((WF.new.take 1 1 0).take 2 1 0).take 1 2 5).take 1 1 9).take 1 2 5).take 2 3 0).give 1 1 0).give 1 1 0).take 3 4 0
theorem t_known (k : SV → St → Prop) : evCall cxKn (ev cxKn 60) 7 [] [] k = need (riseB kD) (k (.sa (.one (bv true))) []) := by kernel_rfl
theorem known_sum : SumOk Try.prog 7 sTrue := by
  refine sumOk_of cxKn_ok ?_ ?_
  · intro args st k h
    unfold sTrue at h ⊢
    split at h
    · exact Lin.ret _ _ k h
    · exact h.elim
  · intro args st k h
    unfold sTrue at h
    split at h
    · exact ⟨60, by rw [t_known, kD_wf.riseB]; exact h⟩
    · exact h.elim
end Go.Ev
