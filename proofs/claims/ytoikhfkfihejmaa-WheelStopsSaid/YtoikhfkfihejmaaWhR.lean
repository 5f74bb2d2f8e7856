/- The law WheelStops: its context. No conditions. -/
import Derived.Test.YtoikhfkfihejmaaWhC
import Derived.Test.YtoikhfkfihejmaaWkW
set_option linter.unusedVariables false
namespace Go.Ev
open Go Go.Proofs Go.Spec
attribute [local irreducible] ev evCall branch need again
theorem cxWh_ok : CxOk Try.prog cxWh := by
  have h := mkCx_ok (P := Try.prog) (sums := [(4, sTrue), (6, sSet), (7, sStop), (10, sTold), (9, sSame)]) (live := [(3, 8, [0, 1, 2, 3, 9, 10, 46, 47, 48], [⟨9, [0], 43⟩]),
   (3, 15, [1, 2, 3, 9, 10, 13, 64, 65, 66], [⟨9, [0], 43⟩, ⟨13, [], 22⟩]),
   (3, 23, [2, 3, 9, 13, 89, 90, 91], [⟨13, [], 22⟩]),
   (3, 27, [2, 3, 9, 13, 19, 20, 89, 90, 91, 95, 96, 97], []),
   (3, 38, [2, 9, 13, 127, 128, 129], []),
   (3, 46, [2, 9, 13, 26, 159, 160, 161], [⟨26, [0], 43⟩])]) (wr := wrW) namesW mixedW (by
    intro x h
    simp only [List.mem_cons, List.not_mem_nil, or_false] at h
    rcases h with rfl | rfl | rfl | rfl | rfl
    · exact known_sum
    · exact set_sum
    · exact stop_sum
    · exact told_sum
    · exact same_sum)
  exact { h with }
end Go.Ev
