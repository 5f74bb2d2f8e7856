/- The context of nine paths. No conditions. -/
import Derived.Test.YtcdakjhcnamncaaRlP
import Derived.Test.YtcdakjhcnamncaaRkM
set_option linter.unusedVariables false
set_option linter.unusedSimpArgs false
set_option maxRecDepth 100000
namespace Go.Ev
open Go Go.Proofs Go.Spec
attribute [local irreducible] ev evCall branch need again
theorem cxRl9_ok (hw : SumOk Try.prog 7 sTrue) : CxOk Try.prog cxRl9 := mkCx_ok namesRk mixedRk (by
 intro y h
 simp only [List.mem_cons, List.not_mem_nil, or_false] at h
 rcases h with rfl | rfl | rfl | rfl | rfl | rfl | rfl | rfl | rfl | rfl | rfl | rfl | rfl
 · exact hw
 · exact addr_sum
 · exact pn_sum
 · exact side_sum
 · exact may_sum
 · exact tell_sum
 · exact choose_sum
 · exact chooseR_sum
 · exact next_sum
 · exact nextR_sum
 · exact miss_sum
 · exact prim_sum
 · exact find_sum)
end Go.Ev
