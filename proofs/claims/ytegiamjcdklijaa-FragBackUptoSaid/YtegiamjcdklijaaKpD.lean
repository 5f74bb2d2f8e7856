/- The law FragKeeps: the context. Definitions alone. No conditions. -/
import Derived.Test.YtegiamjcdklijaaFkD
set_option linter.unusedVariables false
namespace Go.Spec
open Go Go.Ev
def greatL (n : Nat) : List (List Int) → Nat → Bool
  | [], _ => decide (n > 60)
  | x :: r, a => match decide (a + x.length > 20000) with
    | true => true
    | false => greatL n r (a + x.length)
def greatB (n : Nat) (ds : List (List Int)) : Bool := greatL n ds 0
end Go.Spec
namespace Go.Ev
open Go Go.Proofs Go.Spec
def sTrue : SumT := fun args st k => match args, st with
  | [], [] => k (.sa (.one (bv true))) []
  | _, _ => False
def lP (n : Nat) (ts fs ss ns ps : List Int) (ds : List (List Int)) : Option SO := some (.own false .ext 0 6 (.tab n [.ints .u32 ts, .ints .u8 fs, .ints .u16 ss, .ints .u16 ns, .ints .u32 ps, .data .u8 ds]))
def sGreat : SumT := fun args st k => match args, st with
  | [.one (.ref 0)], [some (.own w kk T 6 (.tab n [.ints .u32 ts, .ints .u8 fs, .ints .u16 ss, .ints .u16 ns, .ints .u32 ps, .data .u8 ds]))] =>
    need (decide (n ≤ 140737488355328 ∧ ds.length = n ∧ ∀ x ∈ ds, x.length ≤ 140737488355328)) (k (.sa (.one (bv (greatB n ds)))) st)
  | _, _ => False
noncomputable def cxGr : Cx := mkCx Try.prog [] [(10, 3, [0, 3, 4], [])] []
noncomputable def cxKp : Cx := { mkCx Try.prog [(6, sTrue), (10, sGreat), (12, sPut)] [(5, 8, [3, 4, 5, 18, 19, 20], [])] [(12, 2)] with tab := true }
end Go.Ev
