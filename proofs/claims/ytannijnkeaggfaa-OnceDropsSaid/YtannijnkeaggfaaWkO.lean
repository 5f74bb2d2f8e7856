/- The layer's own check, works, answers true: by the kernel. No conditions. -/
import Derived.Test.YtannijnkeaggfaaEvC
import Derived.Test.YtannijnkeaggfaaProg
namespace Go.Ev
open Go Go.Proofs
def sWorks : SumT := fun args st k => match args, st with
  | [], [] => k (.sa (.one (bv true))) []
  | _, _ => False
def wrK : FuncId → Nat := fun f => match hasN f [3,4,5,6,7,8,10,11,13,14,17,20,24,25,26,27,32] with | true => 2 | false => 0
theorem namesS : namesB Try.prog = true := by kernel_rfl
theorem mixedS : Try.prog.follows .mixedOrders = true := by kernel_rfl
noncomputable def cxK : Cx := mkCxF Try.prog [] wrK
theorem cxK_ok : CxOk Try.prog cxK := mkCxF_ok namesS mixedS (by intro x h; cases h)
theorem t_works (k : SV → St → Prop) : evCall cxK (ev cxK 3000) 6 [] [] k = k (.sa (.one (bv true))) [] := by kernel_rfl
theorem works_sum : SumOk Try.prog 6 sWorks := by
  refine sumOk_of cxK_ok ?_ ?_
  · intro args st k h
    unfold sWorks at h ⊢
    split at h
    · exact Lin.ret _ _ k h
    · exact h.elim
  · intro args st k h
    unfold sWorks at h
    split at h
    · exact ⟨3000, by rw [t_works]; exact h⟩
    · exact h.elim
end Go.Ev
