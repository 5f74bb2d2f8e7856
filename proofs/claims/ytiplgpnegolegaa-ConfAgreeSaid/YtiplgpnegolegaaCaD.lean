/- ConfAgree: contexts. Definitions alone. No conditions. -/
import Derived.Test.YtiplgpnegolegaaCpD
set_option linter.unusedVariables false
namespace Go.Spec
open Go Go.Ev
/-- What the document's Do wants: told in one word, so that trees can be compared where the kind is known. -/
def okDo (xs : List Int) (kd : Int) : Bool := match okUs xs with
  | true => decide (xs.length ≤ 1000000 ∧ 0 ≤ kd)
  | false => false
end Go.Spec
namespace Go.Ev
open Go Go.Proofs Go.Spec
def fDoA (vas : List VA) (k : SV → St → Prop) : Prop := match vas with
  | [.a (.agg [.raw (.int .u32 f), .dat .u32 xs]), .a (.one (.raw (.int .u8 kd))), .a (.one (.raw (.int .u32 ad)))] =>
    need (okDo xs kd) (k (.tup [.agg [iv .u32 (doA f xs kd ad), .ref 0], .one (iv .i64 (doE f xs kd ad))]) [own32 (doL f xs kd ad)])
  | _ => False
def sDoA : SumT := pureSum [.cells [none, some .u32], .cells [], .cells []] fDoA
def mvO (n : Nat) (bs : List Bool) (ks ns cs as_ : List Int) : Option SO := some (.own false .ext 0 5 (.tab n [.bools bs, .ints .u8 ks, .ints .u16 ns, .ints .u8 cs, .ints .u32 as_]))
def sumsA : List (FuncId × SumT) := [(7, sTrue), (8, sClone32), (9, sDo), (10, sDoA), (12, sMay), (13, sMayR), (28, sSame)]
def wrA : List (FuncId × Nat) := (26, 2) :: wrP
def tidA : List Tidy := [⟨15, [2], 68⟩, ⟨15, [3], 68⟩, ⟨15, [4], 70⟩, ⟨15, [5], 70⟩, ⟨15, [0, 1], 1000000 + 23⟩, ⟨15, [0, 3], 1000000 + 23⟩, ⟨15, [1, 1], 1000000 + 23⟩, ⟨15, [1, 3], 1000000 + 23⟩]
noncomputable def cxCa : Cx := mkCx Try.prog sumsA [(6, 9, [15, 70, 71, 72], tidA), (6, 1000011, [15, 17, 70, 71, 72], tidA), (6, 1000012, [15, 70, 71, 72], tidA), (6, 1000015, [15], tidA), (6, 16, [15, 83], tidA)] wrA
end Go.Ev
