/- slices.Clone of numbers gives a row of its own with the same numbers. No conditions. -/
import Derived.Test.YtjeinfbicgpkiaaCl16T
import Derived.Test.YtjeinfbicgpkiaaEvD
namespace Go.Ev
open Go Go.Proofs
attribute [local irreducible] ev evCall branch need again
theorem cxCl16_ok : CxOk Try.prog cxCl16 := mkCx_ok (by kernel_rfl) (by kernel_rfl) (by simp)
theorem fClone16_lin (vas : List VA) : Lin (fClone16 vas) := by
  intro k h
  unfold fClone16 at h ⊢
  split at h
  · obtain ⟨h1, h⟩ := need_iff.1 h
    exact ⟨_, _, h, fun k2 hk => need_iff.2 ⟨h1, hk⟩⟩
  · exact h.elim
theorem clone16_sum : SumOk Try.prog 40 sClone16 := by
  refine pureSum_okN cxCl16_ok 32 fClone16_lin ?_ ?_ ?_
  · intro vas K h
    unfold fClone16 at h
    split at h
    · exact ⟨_, rfl⟩
    · exact h.elim
  · intro a c K h
    refine ⟨40, ?_⟩
    obtain ⟨_, h⟩ := need_iff.1 h
    cases a with
    | none => rw [t_clone16n]; exact h
    | some a => rw [t_clone16e]; exact h
  · intro x xs K h
    refine ⟨40, ?_⟩
    rw [t_clone16]
    obtain ⟨h1, h⟩ := need_iff.1 h
    have h1 := of_decide_eq_true h1
    rw [List.take_of_length_le (Nat.le_refl _)]
    exact ndd (by omega) (ndd (by omega) h)
end Go.Ev
