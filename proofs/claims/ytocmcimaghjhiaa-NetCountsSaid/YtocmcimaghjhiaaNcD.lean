/- The law NetCounts: more summaries, the context. Definitions alone. No conditions. -/
import Derived.Test.YtocmcimaghjhiaaNtD
set_option linter.unusedVariables false
namespace Go.Spec
open Go Go.Ev
/-- The name of a datagram. -/
def nmS (f t : Int) (b : List Int) : ByteArray := catS (strOf [IntKind.wrap .u8 f, IntKind.wrap .u8 (shrK .u32 f 8), IntKind.wrap .u8 (shrK .u32 f 16), IntKind.wrap .u8 (shrK .u32 f 24), IntKind.wrap .u8 t, IntKind.wrap .u8 (shrK .u32 t 8), IntKind.wrap .u8 (shrK .u32 t 16), IntKind.wrap .u8 (shrK .u32 t 24)]) (strOf b)
def lenOk (bs : List (List Int)) : Bool := bs.all fun x => decide (x.length ≤ 140737488355328)
def heavyL (n : Nat) : List (List Int) → Nat → Bool
  | [], _ => decide (n > 200)
  | x :: r, a => match decide (a + x.length > 20000) with
    | true => true
    | false => heavyL n r (a + x.length)
def heavyB (n : Nat) (ds : List (List Int)) : Bool := heavyL n ds 0
end Go.Spec
namespace Go.Ev
open Go Go.Proofs Go.Spec
def ow8 (xs : List Int) : Option SO := some (.own true .row 5 1 (.ints .u8 xs))
def doO (n : Nat) (ks is bt fs ts : List Int) (bs : List (List Int)) (us : List Int) : Option SO := some (.own false .ext 0 7 (.tab n [.ints .i64 ks, .ints .i64 is, .ints .i64 bt, .ints .u32 fs, .ints .u32 ts, .data .u8 bs, .ints .u64 us]))
def sPeek : SumT := fun args st k => match args, st with
  | [.one (.ptr 0 0 0), .one (.raw (.int .i64 i))], [some (.mem true .whole 59 2 (.lst [[.raw (.int .i64 most), .ref 1]])), some (.own true .row 61 4 (.tab n [.ints .u32 fs, .ints .u32 ts, .data .u8 bs, .ints .u64 us]))] =>
    need (netOk n fs ts bs us && (lenOk bs && decide (-9223372036854775808 ≤ i ∧ i ≤ 9223372036854775807))) (branch (decide (n = 0)) (k (.tup [.agg [iv .u32 0, iv .u32 0, .raw (.slice none 0 0)], .one (iv .u64 0), .one (bv false)]) st)
      (k (.tup [.agg [iv .u32 (fs.getD (placeN i n) 0), iv .u32 (ts.getD (placeN i n) 0), .ref 2], .one (iv .u64 (us.getD (placeN i n) 0)), .one (bv true)]) (st ++ [ow8 (bs.getD (placeN i n) [])])))
  | _, _ => False
def fzz : Int := 0
def sTwice : SumT := fun args st k => match args, st with
  | [.one (.ptr 0 0 0), .one (.raw (.int .i64 i))], [some (.mem true .whole 59 2 (.lst [[.raw (.int .i64 most), .ref 1]])), some (.own true .row 61 4 (.tab n [.ints .u32 fs, .ints .u32 ts, .data .u8 bs, .ints .u64 us]))] =>
    need (netOk n fs ts bs us && (lenOk bs && decide (-9223372036854775808 ≤ i ∧ i ≤ 9223372036854775807))) (branch (decide (n = 0)) (k (.sa (.one (iv .i64 4))) st)
      (branch (decide (((n : Nat) : Int) ≥ most)) (k (.sa (.one (iv .i64 7))) st)
        (k (.sa (.one (iv .i64 0))) [netO most 2, none, netT (n + 1) (fs ++ [fs.getD (placeN i n) 0]) (ts ++ [ts.getD (placeN i n) 0]) (bs ++ [bs.getD (placeN i n) []]) (us ++ [us.getD (placeN i n) 0])])))
  | _, _ => False
def sName : SumT := fun args st k => match args, st with
  | [.agg [.raw (.int .u32 f), .raw (.int .u32 t), .ref 0]], [some (.own w kk T 1 (.ints .u8 b))] => need (decide (b.length ≤ 140737488355328)) (k (.sa (.one (.raw (.string (nmS f t b))))) st)
  | _, _ => False
def sHeavy : SumT := fun args st k => match args, st with
  | [.one (.ref 0)], [some (.own false .ext 0 7 (.tab n [.ints .i64 ks, .ints .i64 is, .ints .i64 bt, .ints .u32 fs, .ints .u32 ts, .data .u8 bs, .ints .u64 us]))] =>
    need (decide (n ≤ 140737488355328 ∧ bs.length = n) && lenOk bs) (k (.sa (.one (bv (heavyB n bs)))) st)
  | _, _ => False
noncomputable def cxHv : Cx := mkCx Try.prog [] [(7, 3, [0, 3, 6, 7, 8], [])] []
noncomputable def cxPk : Cx := mkCx Try.prog [(29, sPlace), (32, sClone8)] [] (wrN ++ [(22, 2), (27, 2), (14, 2)])
def wrC : List (FuncId × Nat) := wrN ++ [(14, 2), (13, 2)]
noncomputable def cxNc : Cx := { mkCx Try.prog [(6, sTrue), (7, sHeavy), (10, sPeek), (14, sTwice), (9, sName), (11, sSend), (12, sDeliver)]
  [(3, 10, [0, 5, 6, 7, 8, 25, 26, 27], [⟨5, [1], 57⟩]), (3, 37, [5, 6, 7, 140, 141], [⟨5, [1], 57⟩])] wrC with tab := true }
def lfM (ks : List ByteArray) (vs bs : List Int) (cl : Nat) : Option SO := some (.mt true (.strs ks) false [.ints .i64 vs] bs cl)
end Go.Ev
