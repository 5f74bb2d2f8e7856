/- Whether a configuration may be, as a function; what rto.Check and the document's May do, said by it. Definitions alone. No conditions. -/
import Derived.Test.YtcdakjhcnamncaaEvD
import Derived.Test.YtcdakjhcnamncaaProg
namespace Go.Spec
open Go.Ev
/-- A configuration. -/
structure Cfg where
 mtu : Int
 st : Int
 sr : Int
 rr : Int
 mm : Int
 ri : Int
 rmin : Int
 rmax : Int
 it : Int
 pt : Int
 al : Int
 beat : Int
 life : Int
def wI64 (x : Int) : Int := IntKind.wrap .i64 x
def inB (n lo hi : Int) : Bool := decide (n ≥ lo) && decide (n ≤ hi)
def room (mm : Int) : Int := mulK .i64 2 (if 8192 < (if 0 > mm then 0 else mm) then 8192 else (if 0 > mm then 0 else mm))
/-- As the program has it. -/
def checkB (c : Cfg) : Bool :=
 ((((((((((((((true && inB c.mtu 64 1500) && inB (remK c.mtu 4) 0 0) && inB (wI64 c.st) 1 16) && inB c.mm 1 8192) && inB c.sr (room c.mm) 65536) && inB c.rr (room c.mm) 65536) && inB (wI64 c.rmin) 1 (wI64 c.ri)) && inB (wI64 c.ri) 1 (wI64 c.rmax)) && inB (wI64 c.rmax) 1 65536) && inB (wI64 c.it) 1 255) && inB (wI64 c.pt) 1 255) && inB (wI64 c.al) 1 255) && inB (wI64 c.beat) 1 1048576) && inB (wI64 c.life) 1 1048576)
/-- As the document has it. -/
def mayB (c : Cfg) : Bool :=
 inB c.mtu 64 1500 && (eqK (remK c.mtu 4) 0 && (inB (wI64 c.st) 1 16 && (inB c.mm 1 8192 && (inB c.sr (mulK .i64 2 c.mm) 65536 && (inB c.rr (mulK .i64 2 c.mm) 65536 && (decide (c.rmin ≥ 1) && (decide (c.rmin ≤ c.ri) && (decide (c.ri ≤ c.rmax) && (decide (c.rmax ≤ 65536) && (decide (c.it ≥ 1) && (decide (c.pt ≥ 1) && (decide (c.al ≥ 1) && (inB (wI64 c.beat) 1 1048576 && inB (wI64 c.life) 1 1048576)))))))))))))
end Go.Spec

namespace Go.Ev
open Go Go.Spec Go.Proofs
def cellsCfg (c : Cfg) : List SC := [iv .i64 c.mtu, iv .u16 c.st, iv .i64 c.sr, iv .i64 c.rr, iv .i64 c.mm, iv .u32 c.ri, iv .u32 c.rmin, iv .u32 c.rmax, iv .u8 c.it, iv .u8 c.pt, iv .u8 c.al, iv .u32 c.beat, iv .u32 c.life]
def sWithin : SumT := fun args st k => match args, st with
 | [.one (.raw (.int .i64 n)), .one (.raw (.int .i64 lo)), .one (.raw (.int .i64 hi)), .one (.ptr 0 0 0)], [some (.mem true .whole T 1 (.lst [[.raw (.bool b)]]))] => k (.tup []) [obj T 1 [bv (b && inB n lo hi)]]
 | _, _ => False
def sIn : SumT := fun args st k => match args, st with
 | [.one (.raw (.int .i64 n)), .one (.raw (.int .i64 lo)), .one (.raw (.int .i64 hi))], [] => k (.sa (.one (bv (inB n lo hi)))) []
 | _, _ => False
def sCheck : SumT := fun args st k => match args, st with
 | [.agg [.raw (.int .i64 mtu), .raw (.int .u16 ss), .raw (.int .i64 sr), .raw (.int .i64 rr), .raw (.int .i64 mm), .raw (.int .u32 ri), .raw (.int .u32 rmin), .raw (.int .u32 rmax), .raw (.int .u8 it), .raw (.int .u8 pt), .raw (.int .u8 al), .raw (.int .u32 beat), .raw (.int .u32 life)]], [] =>
   branch (checkB ⟨mtu, ss, sr, rr, mm, ri, rmin, rmax, it, pt, al, beat, life⟩) (k (.sa (.one (iv .i64 0))) []) (k (.sa (.one (iv .i64 2))) [])
 | _, _ => False
def sMay : SumT := fun args st k => match args, st with
 | [.agg [.raw (.int .i64 mtu), .raw (.int .u16 ss), .raw (.int .i64 sr), .raw (.int .i64 rr), .raw (.int .i64 mm), .raw (.int .u32 ri), .raw (.int .u32 rmin), .raw (.int .u32 rmax), .raw (.int .u8 it), .raw (.int .u8 pt), .raw (.int .u8 al), .raw (.int .u32 beat), .raw (.int .u32 life)]], [] =>
   k (.sa (.one (bv (mayB ⟨mtu, ss, sr, rr, mm, ri, rmin, rmax, it, pt, al, beat, life⟩)))) []
 | _, _ => False
noncomputable def cxRc0 : Cx := mkCx Try.prog [] [] []
noncomputable def cxRcA : Cx := mkCx Try.prog [(55, sWithin), (48, sIn)] [] []
end Go.Ev
