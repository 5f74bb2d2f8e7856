/- Layer 11: the timer as a function of its numbers; what its calls do, said by it. Definitions alone. No conditions. -/
import Derived.Test.YtdcfahekhjakeaaRtD
namespace Go.Spec
/-- A timer: the least and the greatest value, the value, eight times the smoothed sample, four times the spread, whether there was a sample. -/
structure T where
  lo : Int
  hi : Int
  va : Int
  s : Int
  v : Int
  sm : Bool
def clampT (lo hi x : Int) : Int := if hi < (if lo > x then lo else x) then hi else (if lo > x then lo else x)
def cut32 (r : Int) : Int := if 4294967296 < r then 4294967296 else r
def dist (a b : Int) : Int := if a > b then a - b else b - a
def one (x : Int) : Int := if 1 > x then 1 else x
def sampT (t : T) (r : Int) : T :=
  if t.sm = false then { t with va := clampT t.lo t.hi (cut32 r + one (cut32 r * 2)), s := cut32 r * 8, v := cut32 r * 2, sm := true }
  else { t with
    va := clampT t.lo t.hi ((t.s + cut32 r - t.s / 8) / 8 + one (t.v - t.v / 4 + dist (cut32 r) (t.s / 8))),
    s := t.s + cut32 r - t.s / 8, v := t.v - t.v / 4 + dist (cut32 r) (t.s / 8) }
def backT (t : T) : T := { t with va := if t.hi < t.va * 2 then t.hi else t.va * 2 }
/-- The bounds in which the numbers are. -/
def preT (t : T) : Bool :=
  decide (0 ≤ t.lo) && (decide (t.lo ≤ t.hi) && (decide (t.hi ≤ 65536) && (decide (0 ≤ t.va) && (decide (t.va ≤ 65536) && (decide (0 ≤ t.s) && (decide (t.s ≤ 34359738368) && (decide (0 ≤ t.v) && decide (t.v ≤ 34359738368))))))))
def pre64 (r : Int) : Bool := decide (0 ≤ r) && decide (r ≤ 18446744073709551615)
end Go.Spec

namespace Go.Ev
open Go Go.Spec Go.Proofs
def cellsT (t : T) : List SC := [iv .u64 t.lo, iv .u64 t.hi, iv .u64 t.va, iv .u64 t.s, iv .u64 t.v, bv t.sm]
def sSample : SumT := fun args st k => match args, st with
  | [.one (.ptr 0 0 0), .one (.raw (.int .u64 r))], [some (.mem true .whole T 6 (.lst [[.raw (.int .u64 lo), .raw (.int .u64 hi), .raw (.int .u64 va), .raw (.int .u64 s), .raw (.int .u64 v), .raw (.bool b)]]))] =>
    need (preT ⟨lo, hi, va, s, v, b⟩) (need (pre64 r) (k (.tup []) [obj T 6 (cellsT (sampT ⟨lo, hi, va, s, v, b⟩ r))]))
  | _, _ => False
def sBack : SumT := fun args st k => match args, st with
  | [.one (.ptr 0 0 0)], [some (.mem true .whole T 6 (.lst [[.raw (.int .u64 lo), .raw (.int .u64 hi), .raw (.int .u64 va), .raw (.int .u64 s), .raw (.int .u64 v), .raw (.bool b)]]))] =>
    need (preT ⟨lo, hi, va, s, v, b⟩) (k (.tup []) [obj T 6 (cellsT (backT ⟨lo, hi, va, s, v, b⟩))])
  | _, _ => False
def sSampleR : SumT := fun args st k => match args, st with
  | [.agg [.raw (.int .u64 lo), .raw (.int .u64 hi), .raw (.int .u64 va), .raw (.int .u64 s), .raw (.int .u64 v), .raw (.bool b)], .one (.raw (.int .u64 r))], [] =>
    need (preT ⟨lo, hi, va, s, v, b⟩) (need (pre64 r) (k (.sa (.agg (cellsT (sampT ⟨lo, hi, va, s, v, b⟩ r)))) []))
  | _, _ => False
def sBackR : SumT := fun args st k => match args, st with
  | [.agg [.raw (.int .u64 lo), .raw (.int .u64 hi), .raw (.int .u64 va), .raw (.int .u64 s), .raw (.int .u64 v), .raw (.bool b)]], [] =>
    need (preT ⟨lo, hi, va, s, v, b⟩) (k (.sa (.agg (cellsT (backT ⟨lo, hi, va, s, v, b⟩)))) [])
  | _, _ => False
/-- RtoCalls: live t, r, the slice, its length, the place. -/
noncomputable def cxC : Cx := mkCx Try.prog [(10, sCheck), (9, sMay), (11, sWorks), (13, sSample), (12, sBack), (21, sSampleR), (20, sBackR)] [(7, 8, [5, 7, 29, 30, 31])] []
end Go.Ev
