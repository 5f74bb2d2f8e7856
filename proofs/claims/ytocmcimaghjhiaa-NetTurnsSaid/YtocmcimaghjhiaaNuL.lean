/- NetTurns: the methods summarised, the law's context. Definitions alone. No conditions. -/
import Derived.Test.YtocmcimaghjhiaaNuD
set_option linter.unusedVariables false
namespace Go.Spec
open Go Go.Ev
def inI (i : Int) : Bool := decide (-9223372036854775808 ≤ i ∧ i ≤ 9223372036854775807)
def smallB (b : List Int) : Bool := decide (b.length ≤ 140737488355328)
/-- Bytes that may be turned: few. -/
def fewB (b : List Int) : Bool := decide (b.length ≤ 100000)
end Go.Spec
namespace Go.Ev
open Go Go.Proofs Go.Spec
def sPeek : SumT := fun args st k => match args, st with
  | [.one (.ptr 0 0 0), .one (.raw (.int .i64 i))], [some (.mem true .whole 59 2 (.lst [[.raw (.int .i64 most), .ref 1]])), some (.own true .row 61 4 (.tab n [.ints .u32 fs, .ints .u32 ts, .data .u8 bs, .ints .u64 us]))] =>
    need (netOk n fs ts bs us && decide (0 < n) && inI i && smallB (bs.getD (placeN i n) []))
      (k (.tup [.agg [iv .u32 (fs.getD (placeN i n) 0), iv .u32 (ts.getD (placeN i n) 0), .ref 2], .one (iv .u64 (us.getD (placeN i n) 0)), .one (bv true)]) [netO most 1, netT n fs ts bs us, ownB (bs.getD (placeN i n) [])])
  | [.one (.ptr 0 0 0), .one (.raw (.int .i64 i))], [some (.mem true .whole 59 2 (.lst [[.raw (.int .i64 most), .ref 1]])), some (.own true .row 61 4 (.ext n [.ints .u32 fs, .ints .u32 ts, .data .u8 bs, .ints .u64 us] [[.raw (.int .u32 f), .raw (.int .u32 t), .ref 2, .raw (.int .u64 a)]])), some (.own true .row 5 1 (.ints .u8 b))] =>
    need (netOk n fs ts bs us && inI i && smallB b && smallB (bs.getD (placeN i (n + 1)) []))
      (branch (decide (placeN i (n + 1) < n))
        (k (.tup [.agg [iv .u32 (fs.getD (placeN i (n + 1)) 0), iv .u32 (ts.getD (placeN i (n + 1)) 0), .ref 3], .one (iv .u64 (us.getD (placeN i (n + 1)) 0)), .one (bv true)]) [netO most 1, netE n fs ts bs us f t 2 a, ownB b, ownB (bs.getD (placeN i (n + 1)) [])])
        (k (.tup [.agg [iv .u32 f, iv .u32 t, .ref 3], .one (iv .u64 a), .one (bv true)]) [netO most 1, netE n fs ts bs us f t 2 a, ownB b, ownB b]))
  | _, _ => False
def sTwice : SumT := fun args st k => match args, st with
  | [.one (.ptr 0 0 0), .one (.raw (.int .i64 i))], [some (.mem true .whole 59 2 (.lst [[.raw (.int .i64 most), .ref 1]])), some (.own true .row 61 4 (.tab n [.ints .u32 fs, .ints .u32 ts, .data .u8 bs, .ints .u64 us]))] =>
    need (netOk n fs ts bs us && decide (0 < n ∧ (n : Int) < most) && inI i && smallB (bs.getD (placeN i n) []))
      (k (.sa (.one (iv .i64 0))) [netO most 2, none, netE n fs ts bs us (fs.getD (placeN i n) 0) (ts.getD (placeN i n) 0) 3 (us.getD (placeN i n) 0), ownB (bs.getD (placeN i n) [])])
  | _, _ => False
def sTurn : SumT := fun args st k => match args, st with
  | [.one (.ptr 0 0 0), .one (.raw (.int .i64 i)), .one (.raw (.int .i64 bit))], [some (.mem true .whole 59 2 (.lst [[.raw (.int .i64 most), .ref 1]])), some (.own true .row 61 4 (.ext n [.ints .u32 fs, .ints .u32 ts, .data .u8 bs, .ints .u64 us] [[.raw (.int .u32 f), .raw (.int .u32 t), .ref 2, .raw (.int .u64 a)]])), some (.own true .row 5 1 (.ints .u8 b))] =>
    need (netOk n fs ts bs us && inI i && inI bit && fewB b && decide (placeN i (n + 1) = n))
      (k (.sa (.one (bv (decide (0 < b.length))))) [netO most 1, netE n fs ts bs us f t 2 a, ownB (turnB bit b)])
  | _, _ => False
def lIn (n : Nat) (fs ts : List Int) (bs : List (List Int)) : Option SO := some (.own false .ext 0 3 (.tab n [.ints .u32 fs, .ints .u32 ts, .data .u8 bs]))
noncomputable def cxNu : Cx := mkCx Try.prog [(6, sTrue), (11, sSend), (10, sPeek), (14, sTwice), (16, sTurn)]
  [(4, 5, [0, 1, 2, 7, 28, 29, 30], []), (4, 15, [0, 1, 2, 10, 54, 55, 56], [⟨10, [1], 57⟩]), (4, 24, [0, 1, 2, 10, 13, 14, 95, 96, 97], []), (4, 35, [0, 1, 2, 10, 13, 21, 23, 154, 155], []), (4, 38, [0, 1, 2, 10, 13, 21, 23, 25, 154, 155], [])]
  ((10, 2) :: wrT)
end Go.Ev
