/- Layer 12: the window's calls as functions on its four numbers; what the Go functions do, said by them. Definitions alone. No conditions. -/
import Derived.Test.YtoffkchncellpaaEvB
import Derived.Test.YtoffkchncellpaaProg
namespace Go.Spec

/-- A window: mtu, size, threshold, part. -/
structure W where
  m : Int
  s : Int
  t : Int
  p : Int

def wr64 (x : Int) : Int := IntKind.wrap .i64 x

/-- Ack, as the program has it. -/
def ackW (w : W) (n : Int) (full : Bool) : W :=
  if full = false then w else
  if n < 1 then w else
  if w.s ≤ w.t then { w with s := if 1048576 < wr64 (w.s + if w.m < n then w.m else n) then 1048576 else wr64 (w.s + if w.m < n then w.m else n) }
  else if wr64 (w.p + if 1073741824 < n then 1073741824 else n) ≥ w.s then
    { w with s := if 1048576 < wr64 (w.s + if w.m < w.m then w.m else w.m) then 1048576 else wr64 (w.s + if w.m < w.m then w.m else w.m), p := wr64 (wr64 (w.p + if 1073741824 < n then 1073741824 else n) - w.s) }
  else { w with p := wr64 (w.p + if 1073741824 < n then 1073741824 else n) }
def half (w : W) : Int := if wr64 (4 * w.m) > wr64 (w.s.tdiv 2) then wr64 (4 * w.m) else wr64 (w.s.tdiv 2)
def lossW (w : W) : W := { w with s := half w, t := half w, p := 0 }
def timeoutW (w : W) : W := { w with s := w.m, t := half w, p := 0 }
/-- Ack, as the document has it. -/
def growR (w : W) (more : Int) : W := { w with s := if wr64 (w.s + more) > 1048576 then 1048576 else wr64 (w.s + more) }
def ackR (w : W) (n : Int) (full : Bool) : W :=
  if full = false then w else
  if n < 1 then w else
  let n' := if n > 1073741824 then 1073741824 else n
  if w.s ≤ w.t then growR w (if n' > w.m then w.m else n')
  else if wr64 (w.p + n') ≥ w.s then growR { w with p := wr64 (wr64 (w.p + n') - w.s) } w.m
  else growR { w with p := wr64 (w.p + n') } 0
def lossR (w : W) : W :=
  if wr64 (w.s.tdiv 2) < wr64 (4 * w.m) then { w with t := wr64 (4 * w.m), s := wr64 (4 * w.m), p := 0 } else { w with t := wr64 (w.s.tdiv 2), s := wr64 (w.s.tdiv 2), p := 0 }
def timeoutR (w : W) : W :=
  if wr64 (w.s.tdiv 2) < wr64 (4 * w.m) then { w with t := wr64 (4 * w.m), s := w.m, p := 0 } else { w with t := wr64 (w.s.tdiv 2), s := w.m, p := 0 }
end Go.Spec

namespace Go.Ev
open Go Go.Spec Go.Proofs
def cellsW (w : W) : List SC := [iv .i64 w.m, iv .i64 w.s, iv .i64 w.t, iv .i64 w.p]
def wOb (T : TypeId) (w : W) : Option SO := obj T 4 (cellsW w)

def sAck : SumT := fun args st k => match args, st with
  | [.one (.ptr 0 0 0), .one (.raw (.int .i64 n)), .one (.raw (.bool b))], [some (.mem true .whole T 4 (.lst [[.raw (.int .i64 m), .raw (.int .i64 s), .raw (.int .i64 t), .raw (.int .i64 p)]]))] => k (.tup []) [wOb T (ackW ⟨m, s, t, p⟩ n b)]
  | _, _ => False
def sLoss : SumT := fun args st k => match args, st with
  | [.one (.ptr 0 0 0)], [some (.mem true .whole T 4 (.lst [[.raw (.int .i64 m), .raw (.int .i64 s), .raw (.int .i64 t), .raw (.int .i64 p)]]))] => k (.tup []) [wOb T (lossW ⟨m, s, t, p⟩)]
  | _, _ => False
def sTimeout : SumT := fun args st k => match args, st with
  | [.one (.ptr 0 0 0)], [some (.mem true .whole T 4 (.lst [[.raw (.int .i64 m), .raw (.int .i64 s), .raw (.int .i64 t), .raw (.int .i64 p)]]))] => k (.tup []) [wOb T (timeoutW ⟨m, s, t, p⟩)]
  | _, _ => False
def sAckR : SumT := fun args st k => match args, st with
  | [.agg [.raw (.int .i64 m), .raw (.int .i64 s), .raw (.int .i64 t), .raw (.int .i64 p)], .one (.raw (.int .i64 n)), .one (.raw (.bool b))], [] => k (.sa (.agg (cellsW (ackR ⟨m, s, t, p⟩ n b)))) []
  | _, _ => False
def sLossR : SumT := fun args st k => match args, st with
  | [.agg [.raw (.int .i64 m), .raw (.int .i64 s), .raw (.int .i64 t), .raw (.int .i64 p)]], [] => k (.sa (.agg (cellsW (lossR ⟨m, s, t, p⟩)))) []
  | _, _ => False
def sTimeoutR : SumT := fun args st k => match args, st with
  | [.agg [.raw (.int .i64 m), .raw (.int .i64 s), .raw (.int .i64 t), .raw (.int .i64 p)]], [] => k (.sa (.agg (cellsW (timeoutR ⟨m, s, t, p⟩)))) []
  | _, _ => False
def sWorks : SumT := fun args st k => match args, st with
  | [], [] => k (.sa (.one (bv true))) []
  | _, _ => False

noncomputable def cx0 : Cx := mkCx Try.prog [] [] []
noncomputable def cx1 : Cx := mkCx Try.prog [(13, sAck), (12, sLoss), (14, sTimeout), (17, sAckR), (18, sLossR), (19, sTimeoutR), (7, sWorks)] [(6, 10, [5, 7, 43, 44, 45]), (3, 7, [0, 5, 31, 32, 33])] []
end Go.Ev
