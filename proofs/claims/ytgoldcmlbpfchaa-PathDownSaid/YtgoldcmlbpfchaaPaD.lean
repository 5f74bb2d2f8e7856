/- Layer 13: the timer and the window as functions of their numbers; what their calls do, said by it. Definitions alone. No conditions. -/
import Derived.Test.YtgoldcmlbpfchaaEvB
import Derived.Test.YtgoldcmlbpfchaaProg
namespace Go.Spec
/-- A configuration. -/
structure Cfg where
  mtu : Int
  st : Int
  sr : Int
  rr : Int
  mm : Int
  ri : Int
  rmin : Int
  rmax : Int
  it : Int
  pt : Int
  al : Int
  beat : Int
  life : Int
def w64 (x : Int) : Int := IntKind.wrap .i64 x
def u64w (x : Int) : Int := IntKind.wrap .u64 x
def inB (n lo hi : Int) : Bool := decide (n ≥ lo) && decide (n ≤ hi)
def room (mm : Int) : Int := w64 (2 * (if 8192 < (if 0 > mm then 0 else mm) then 8192 else (if 0 > mm then 0 else mm)))
def checkB (c : Cfg) : Bool :=
  ((((((((((((((true && inB c.mtu 64 1500) && inB (Int.tmod c.mtu 4) 0 0) && inB (w64 c.st) 1 16) && inB c.mm 1 8192) && inB c.sr (room c.mm) 65536) && inB c.rr (room c.mm) 65536) && inB (w64 c.rmin) 1 (w64 c.ri)) && inB (w64 c.ri) 1 (w64 c.rmax)) && inB (w64 c.rmax) 1 65536) && inB (w64 c.it) 1 255) && inB (w64 c.pt) 1 255) && inB (w64 c.al) 1 255) && inB (w64 c.beat) 1 1048576) && inB (w64 c.life) 1 1048576)
/-- A timer: the least and the greatest value, the value, eight times the smoothed sample, four times the spread, whether there was a sample. -/
structure T where
  lo : Int
  hi : Int
  va : Int
  s : Int
  v : Int
  sm : Bool
def clampT (lo hi x : Int) : Int := if hi < (if lo > x then lo else x) then hi else (if lo > x then lo else x)
def cut32 (r : Int) : Int := if 4294967296 < r then 4294967296 else r
def dist (a b : Int) : Int := u64w ((if a > b then a else b) - (if a < b then a else b))
def one (x : Int) : Int := if 1 > x then 1 else x
/-- A sample's numbers: eight times the smoothed one; four times the spread. -/
def sampS (t : T) (r : Int) : Int := if t.sm = false then u64w (cut32 r * 8) else u64w (t.s + u64w (cut32 r - Int.fdiv t.s 8))
def sampV (t : T) (r : Int) : Int := if t.sm = false then u64w (cut32 r * 2) else u64w (t.v + u64w (dist (cut32 r) (Int.fdiv t.s 8) - Int.fdiv t.v 4))
def sampT (t : T) (r : Int) : T :=
  { t with va := clampT t.lo t.hi (u64w (Int.fdiv (sampS t r) 8 + one (sampV t r))), s := sampS t r, v := sampV t r, sm := true }
def backT (t : T) : T := { t with va := if t.hi < u64w (t.va * 2) then t.hi else u64w (t.va * 2) }
/-- A window: mtu, size, threshold, part. -/
structure W where
  m : Int
  s : Int
  t : Int
  p : Int
def wr64 (x : Int) : Int := IntKind.wrap .i64 x
def ackW (w : W) (n : Int) (full : Bool) : W :=
  if full = false then w else
  if n < 1 then w else
  if w.s ≤ w.t then { w with s := if 1048576 < wr64 (w.s + if w.m < n then w.m else n) then 1048576 else wr64 (w.s + if w.m < n then w.m else n) }
  else if wr64 (w.p + if 1073741824 < n then 1073741824 else n) ≥ w.s then
    { w with s := if 1048576 < wr64 (w.s + if w.m < w.m then w.m else w.m) then 1048576 else wr64 (w.s + if w.m < w.m then w.m else w.m), p := wr64 (wr64 (w.p + if 1073741824 < n then 1073741824 else n) - w.s) }
  else { w with p := wr64 (w.p + if 1073741824 < n then 1073741824 else n) }
def half (w : W) : Int := if wr64 (4 * w.m) > wr64 (w.s.tdiv 2) then wr64 (4 * w.m) else wr64 (w.s.tdiv 2)
def lossW (w : W) : W := { w with s := half w, t := half w, p := 0 }
def timeoutW (w : W) : W := { w with s := w.m, t := half w, p := 0 }
end Go.Spec

namespace Go.Ev
open Go Go.Spec Go.Proofs
def cellsC (c : Cfg) : List SC := [iv .i64 c.mtu, iv .u16 c.st, iv .i64 c.sr, iv .i64 c.rr, iv .i64 c.mm, iv .u32 c.ri, iv .u32 c.rmin, iv .u32 c.rmax, iv .u8 c.it, iv .u8 c.pt, iv .u8 c.al, iv .u32 c.beat, iv .u32 c.life]
def cellsT (t : T) : List SC := [iv .u64 t.lo, iv .u64 t.hi, iv .u64 t.va, iv .u64 t.s, iv .u64 t.v, bv t.sm]
def cellsW (w : W) : List SC := [iv .i64 w.m, iv .i64 w.s, iv .i64 w.t, iv .i64 w.p]
def sWithin : SumT := fun args st k => match args, st with
  | [.one (.raw (.int .i64 n)), .one (.raw (.int .i64 lo)), .one (.raw (.int .i64 hi)), .one (.ptr 0 0 0)], [some (.mem true .whole T 1 (.lst [[.raw (.bool b)]]))] => k (.tup []) [obj T 1 [bv (b && inB n lo hi)]]
  | _, _ => False
def sCheck : SumT := fun args st k => match args, st with
  | [.agg [.raw (.int .i64 mtu), .raw (.int .u16 ss), .raw (.int .i64 sr), .raw (.int .i64 rr), .raw (.int .i64 mm), .raw (.int .u32 ri), .raw (.int .u32 rmin), .raw (.int .u32 rmax), .raw (.int .u8 it), .raw (.int .u8 pt), .raw (.int .u8 al), .raw (.int .u32 beat), .raw (.int .u32 life)]], [] =>
    branch (checkB ⟨mtu, ss, sr, rr, mm, ri, rmin, rmax, it, pt, al, beat, life⟩) (k (.sa (.one (iv .i64 0))) []) (k (.sa (.one (iv .i64 2))) [])
  | _, _ => False
def sSample : SumT := fun args st k => match args, st with
  | [.one (.ptr 0 0 0), .one (.raw (.int .u64 r))], [some (.mem true .whole T 6 (.lst [[.raw (.int .u64 lo), .raw (.int .u64 hi), .raw (.int .u64 va), .raw (.int .u64 s), .raw (.int .u64 v), .raw (.bool b)]]))] => k (.tup []) [obj T 6 (cellsT (sampT ⟨lo, hi, va, s, v, b⟩ r))]
  | _, _ => False
def sBack : SumT := fun args st k => match args, st with
  | [.one (.ptr 0 0 0)], [some (.mem true .whole T 6 (.lst [[.raw (.int .u64 lo), .raw (.int .u64 hi), .raw (.int .u64 va), .raw (.int .u64 s), .raw (.int .u64 v), .raw (.bool b)]]))] => k (.tup []) [obj T 6 (cellsT (backT ⟨lo, hi, va, s, v, b⟩))]
  | _, _ => False
def sAck : SumT := fun args st k => match args, st with
  | [.one (.ptr 0 0 0), .one (.raw (.int .i64 n)), .one (.raw (.bool b))], [some (.mem true .whole T 4 (.lst [[.raw (.int .i64 m), .raw (.int .i64 s), .raw (.int .i64 t), .raw (.int .i64 p)]]))] => k (.tup []) [obj T 4 (cellsW (ackW ⟨m, s, t, p⟩ n b))]
  | _, _ => False
def sLoss : SumT := fun args st k => match args, st with
  | [.one (.ptr 0 0 0)], [some (.mem true .whole T 4 (.lst [[.raw (.int .i64 m), .raw (.int .i64 s), .raw (.int .i64 t), .raw (.int .i64 p)]]))] => k (.tup []) [obj T 4 (cellsW (lossW ⟨m, s, t, p⟩))]
  | _, _ => False
def sTimeout : SumT := fun args st k => match args, st with
  | [.one (.ptr 0 0 0)], [some (.mem true .whole T 4 (.lst [[.raw (.int .i64 m), .raw (.int .i64 s), .raw (.int .i64 t), .raw (.int .i64 p)]]))] => k (.tup []) [obj T 4 (cellsW (timeoutW ⟨m, s, t, p⟩))]
  | _, _ => False
def sWorks : SumT := fun args st k => match args, st with
  | [], [] => k (.sa (.one (bv true))) []
  | _, _ => False
noncomputable def cx0 : Cx := mkCx Try.prog [] [] []
noncomputable def cxW : Cx := mkCx Try.prog [] [] [(3, 2), (4, 2), (5, 2), (6, 2), (8, 2), (9, 2), (10, 2), (11, 2), (12, 2), (13, 2), (14, 2), (15, 2), (22, 2), (24, 2), (25, 2), (26, 2), (27, 2), (28, 2), (29, 2), (34, 2), (35, 2), (36, 2)]
noncomputable def cxA : Cx := mkCx Try.prog [(36, sWithin)] [] []
/-- Live at the loop's head: the configuration's box, the path, the misses, the slice, its length, the place. -/
noncomputable def cx1 : Cx := mkCx Try.prog [(34, sCheck), (5, sWorks), (25, sSample), (28, sBack), (26, sAck), (27, sLoss), (29, sTimeout)] [(3, 8, [2, 5, 7, 24, 25, 26])] [(24, 1), (8, 1), (9, 1)]
end Go.Ev
