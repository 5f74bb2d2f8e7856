/- The laws of chapter 2: contexts. Definitions alone. No conditions. -/
import Derived.Test.YtofgnjmoncafoaaSiD
namespace Go.Ev
open Go Go.Proofs Go.Spec
def sKnown : SumT := fun args st k => match args, st with
  | [], [] => k (.sa (.one (bv true))) []
  | _, _ => False
noncomputable def cxS : Cx := mkCx Try.prog [(5, sKnown), (6, sOf), (7, sROf)] [(3, 7, [1, 2, 5, 13, 14, 15], [⟨5, [], 26⟩]), (4, 9, [1, 3, 7, 8, 9, 28, 29, 30], [⟨8, [], 24⟩, ⟨9, [], 26⟩])] []
end Go.Ev
