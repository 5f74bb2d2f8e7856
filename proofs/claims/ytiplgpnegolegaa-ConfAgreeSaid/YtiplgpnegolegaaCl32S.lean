/- slices.Clone of numbers gives a row of its own with the same numbers. No conditions. -/
import Derived.Test.YtiplgpnegolegaaCl32T
import Derived.Test.YtiplgpnegolegaaEvD
namespace Go.Ev
open Go Go.Proofs
attribute [local irreducible] ev evCall branch need again
theorem cxCl32_ok : CxOk Try.prog cxCl32 := mkCx_ok (by kernel_rfl) (by kernel_rfl) (by simp)
theorem fClone32_lin (vas : List VA) : Lin (fClone32 vas) := by
  intro k h
  unfold fClone32 at h ⊢
  split at h
  · obtain ⟨h1, h⟩ := need_iff.1 h
    exact ⟨_, _, h, fun k2 hk => need_iff.2 ⟨h1, hk⟩⟩
  · exact h.elim
theorem clone32_sum : SumOk Try.prog 8 sClone32 := by
  refine pureSum_okN cxCl32_ok 23 fClone32_lin ?_ ?_ ?_
  · intro vas K h
    unfold fClone32 at h
    split at h
    · exact ⟨_, rfl⟩
    · exact h.elim
  · intro a c K h
    refine ⟨40, ?_⟩
    obtain ⟨_, h⟩ := need_iff.1 h
    cases a with
    | none => rw [t_clone32n]; exact h
    | some a => rw [t_clone32e]; exact h
  · intro x xs K h
    refine ⟨40, ?_⟩
    rw [t_clone32]
    obtain ⟨h1, h⟩ := need_iff.1 h
    have h1 := of_decide_eq_true h1
    rw [List.take_of_length_le (Nat.le_refl _)]
    exact ndd (by omega) (ndd (by omega) h)
end Go.Ev
