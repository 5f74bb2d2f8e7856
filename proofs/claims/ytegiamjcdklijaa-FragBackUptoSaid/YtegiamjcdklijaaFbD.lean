/- The law FragBack: the context. Definitions alone. No conditions. -/
import Derived.Test.YtegiamjcdklijaaKpD
import Derived.Test.YtegiamjcdklijaaFcD
set_option linter.unusedVariables false
namespace Go.Ev
open Go Go.Proofs Go.Spec
/-- What came in: messages, with their numbers and sizes. -/
def seO (n : Nat) (ss : List Int) (us : List Bool) (ps : List Int) (ds : List (List Int)) (ns zs : List Int) : Option SO := some (.own false .ext 0 6 (.tab n [.ints .u16 ss, .bools us, .ints .u32 ps, .data .u8 ds, .ints .u16 ns, .ints .i64 zs]))
def tuO (xs : List Int) : Option SO := some (.own false .ext 0 1 (.ints .u16 xs))
def inO (xs : List Int) : Option SO := some (.own true .row 3 1 (.ints .i64 xs))
noncomputable def cxFb : Cx := { mkCx Try.prog [(6, sTrue), (7, sCut), (10, sGreat), (12, sPut)]
  [(4, 9, [0, 1, 2, 7, 8, 9, 39, 40, 41], [⟨7, [], 28⟩, ⟨8, [], 38⟩, ⟨9, [], 38⟩]),
   (4, 15, [0, 1, 2, 7, 8, 9, 10, 11, 12, 39, 40, 41, 66, 67, 68], [⟨7, [], 28⟩, ⟨8, [], 38⟩, ⟨9, [], 38⟩]),
   (4, 26, [0, 7, 8, 9, 96, 97, 98], [⟨7, [], 28⟩, ⟨8, [], 38⟩, ⟨9, [], 38⟩]),
   (4, 34, [0, 8, 9, 19, 142, 143, 144], [])] [(12, 2)] with ice := true, tab := true }
end Go.Ev
