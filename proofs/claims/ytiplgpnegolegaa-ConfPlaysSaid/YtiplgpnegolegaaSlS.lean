/- Lists that are one: the law's own word for it. No conditions. -/
import Derived.Test.YtiplgpnegolegaaSlT
import Derived.Test.YtiplgpnegolegaaCfS
import Derived.Test.YtiplgpnegolegaaCpD
set_option linter.unusedVariables false
namespace Go.Ev
open Go Go.Proofs Go.Spec
attribute [local irreducible] ev evCall branch need again
theorem cxSl_ok : CxOk Try.prog cxSl := mkCx_ok (by kernel_rfl) (by kernel_rfl) (by
  intro y h
  simp only [List.mem_cons, List.not_mem_nil, or_false] at h
  subst h
  exact same_sum)
theorem fSameL_lin (vas : List VA) : Lin (fSameL vas) := by
  intro k h
  unfold fSameL at h ⊢
  split at h
  · exact (Lin.need (Lin.ret _ _)) k h
  · exact h.elim
theorem sameL_sum : SumOk Try.prog 14 sSameL := by
  refine pureSum_ok cxSl_ok fSameL_lin fun vas K h => ?_
  unfold fSameL at h
  split at h
  · rename_i f xs g ys
    obtain ⟨h1, hK⟩ := need_iff.1 h
    rw [Bool.and_eq_true_iff] at h1
    have hl := of_decide_eq_true h1.1
    refine ⟨40, ?_⟩
    show evCall cxSl (ev cxSl 40) 14 [.agg [iv .u32 f, .ref 0], .agg [iv .u32 g, .ref 1]] [rd32 xs, rd32 ys] (pureK 2 K)
    rw [t_sl, List.take_length, List.take_length, h1.2]
    exact ndd (by omega) (ndd (by omega) (ndd hl hK))
  · exact h.elim
end Go.Ev
