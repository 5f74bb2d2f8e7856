/- The law NetOrder: the context. Definitions alone. No conditions. -/
import Derived.Test.YtocmcimaghjhiaaNtD
namespace Go.Ev
open Go Go.Proofs Go.Spec
noncomputable def cxO : Cx := mkCx Try.prog [(6, sTrue), (11, sSend), (12, sDeliver), (30, sMinF)]
  [(5, 5, [0, 1, 5, 24, 25, 26], []), (5, 15, [0, 1, 8, 44, 45, 46], [⟨8, [1], 57⟩]), (5, 24, [0, 1, 8, 11, 12, 65, 66], [⟨8, [1], 57⟩])] wrN
def lIn (n : Nat) (fs ts : List Int) (bs : List (List Int)) : Option SO := some (.own false .ext 0 3 (.tab n [.ints .u32 fs, .ints .u32 ts, .data .u8 bs]))
def bkIn (m : Nat) (ks : List Bool) : Option SO := some (.own false .ext 0 1 (.tab m [.bools ks]))
end Go.Ev
