/- The laws of chapter 34: functions of numbers, summaries, contexts. Definitions alone. No conditions. -/
import Derived.Test.YtannijnkeaggfaaEvC
import Derived.Test.YtannijnkeaggfaaProg
namespace Go.Spec
open Go.Ev
/-- A list without the one of a place. -/
def woL (j : Nat) (xs : List Int) : List Int := xs.take j ++ xs.drop (j + 1)
def befB (a b : Int) : Bool := !eqK (subK .u32 b a) 0 && decide (subK .u32 b a < 2147483648)
end Go.Spec
namespace Go.Ev
open Go Go.Proofs Go.Spec
def sTrue : SumT := fun args st k => match args, st with
  | [], [] => k (.sa (.one (bv true))) []
  | _, _ => False
def fWoQ (vas : List VA) (k : SV → St → Prop) : Prop := match vas with
  | [.t 2 (.tab n [.ints .u32 a, .ints .u32 b]), .a (.one (.raw (.int .i64 j)))] =>
    need (decide (a.length = n ∧ b.length = n ∧ 0 ≤ j ∧ j < n ∧ n ≤ 1000000)) (k (.sa (.one (.ref 0))) [some (.own true .row 39 2 (.tab (n - 1) [.ints .u32 (woL j.toNat a), .ints .u32 (woL j.toNat b)]))])
  | _ => False
def fWoR (vas : List VA) (k : SV → St → Prop) : Prop := match vas with
  | [.t 2 (.tab n [.ints .u32 a, .ints .u64 b]), .a (.one (.raw (.int .i64 j)))] =>
    need (decide (a.length = n ∧ b.length = n ∧ 0 ≤ j ∧ j < n ∧ n ≤ 1000000)) (k (.sa (.one (.ref 0))) [some (.own true .row 69 2 (.tab (n - 1) [.ints .u32 (woL j.toNat a), .ints .u64 (woL j.toNat b)]))])
  | _ => False
def sWoQ : SumT := pureSum [.rows 2 [none, none] (.tab 0 [.ints .u32 [], .ints .u32 []]), .cells []] fWoQ
def sWoR : SumT := pureSum [.rows 2 [none, none] (.tab 0 [.ints .u32 [], .ints .u64 []]), .cells []] fWoR
def sBef : SumT := fun args st k => match args, st with
  | [.one (.raw (.int .u32 a)), .one (.raw (.int .u32 b))], [] => k (.sa (.one (bv (befB a b)))) []
  | _, _ => False
noncomputable def cxN : Cx := mkCx Try.prog [] [] []
def wrO : List (FuncId × Nat) := [(3, 2), (5, 2), (7, 2), (8, 2), (10, 2), (20, 2), (24, 2), (25, 2), (26, 2), (27, 2), (32, 2)]
def tidW : List Tidy := [⟨5, [2], 33⟩, ⟨5, [3], 33⟩, ⟨5, [5], 34⟩, ⟨5, [6], 35⟩]
noncomputable def cxO : Cx := mkCx Try.prog [(6, sTrue), (28, sWoQ), (29, sWoR), (30, sBef)]
  [(3, 5, [5, 20, 21, 22], tidW), (3, 11, [5, 20, 21, 22, 75, 76, 77], []), (3, 1000007, [5, 7, 20, 21, 22], []), (3, 1000008, [5, 20, 21, 22], tidW), (3, 1000017, [5], [])] wrO
end Go.Ev
