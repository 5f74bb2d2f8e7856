/- ConfPlays: contexts, states. Definitions alone. No conditions. -/
import Derived.Test.YtiplgpnegolegaaCdD
set_option linter.unusedVariables false
namespace Go.Ev
open Go Go.Proofs Go.Spec
def lsO (n : Nat) (ks cs ds bs zs : List Int) : Option SO := some (.own false .ext 0 5 (.tab n [.ints .u8 ks, .ints .u8 cs, .ints .u32 ds, .ints .u32 bs, .ints .u8 zs]))
def fSameL (vas : List VA) (k : SV → St → Prop) : Prop := match vas with
  | [.a (.agg [.raw (.int .u32 f), .dat .u32 xs]), .a (.agg [.raw (.int .u32 g), .dat .u32 ys])] => need (decide (xs.length ≤ 1000000 ∧ ys.length ≤ 1000000) && sameB f g xs ys) (k (.sa (.one (bv true))) [])
  | _ => False
def sSameL : SumT := pureSum [.cells [none, some .u32], .cells [none, some .u32]] fSameL
noncomputable def cxSl : Cx := mkCx Try.prog [(28, sSame)] [] []
def sumsC : List (FuncId × SumT) := [(7, sTrue), (8, sClone32), (9, sDo), (10, sDoR), (12, sMay), (13, sMayR), (14, sSameL), (33, sHas), (25, sHas)]
def wrP : List (FuncId × Nat) := [(17, 1), (18, 2), (19, 2), (21, 2), (36, 2), (37, 2), (38, 2), (40, 2)]
def tidC : List Tidy := [⟨7, [1], 1000000 + 23⟩, ⟨7, [3], 1000000 + 23⟩, ⟨9, [1], 1000000 + 23⟩, ⟨10, [1], 1000000 + 23⟩]
noncomputable def cxCp : Cx := mkCx Try.prog sumsC [(5, 1000016, [7, 9, 10, 11, 12, 13, 14, 15, 17, 18, 78, 79, 80], []), (5, 1000049, [7, 9, 10, 11, 12, 13, 14, 15, 17, 18, 78, 79, 80], tidC), (5, 13, [7, 9, 10, 11, 12, 13, 14, 15, 78, 79, 80], tidC)] wrP
end Go.Ev
