/- A net's datagrams on their way: functions of numbers, summaries, contexts. Definitions alone. No conditions. -/
import Derived.Test.YtocmcimaghjhiaaCl8D
namespace Go.Spec
open Go Go.Ev
/-- A list without the one of a place. -/
def woI (k : Nat) (l : List Int) : List Int := l.take k ++ l.drop (k + 1)
def woD (k : Nat) (l : List (List Int)) : List (List Int) := l.take k ++ l.drop (k + 1)
def placeK (i n : Int) : Int := remK (addK .i64 (remK i n) n) n
def placeN (i : Int) (n : Nat) : Nat := (placeK i (n : Int)).toNat
/-- The place of the least one, the first of these: gone on with from i, j so far. -/
def argM (l : List Int) : Nat → Nat → Nat → Nat
  | 0, _, j => j
  | c + 1, i, j => argM l c (i + 1) (if l.getD i 0 < l.getD j 0 then i else j)
def minP (l : List Int) : Nat := argM l (l.length - 1) 1 0
end Go.Spec
namespace Go.Ev
open Go Go.Proofs Go.Spec
def sTrue : SumT := fun args st k => match args, st with
  | [], [] => k (.sa (.one (bv true))) []
  | _, _ => False
def netO (most : Int) (r : Nat) : Option SO := obj 59 2 [iv .i64 most, .ref r]
def netT (n : Nat) (fs ts : List Int) (bs : List (List Int)) (us : List Int) : Option SO := some (.own true .row 61 4 (.tab n [.ints .u32 fs, .ints .u32 ts, .data .u8 bs, .ints .u64 us]))
def rdB (b : List Int) : Option SO := some (.own false .ext 0 1 (.ints .u8 b))
def netOk (n : Nat) (fs ts : List Int) (bs : List (List Int)) (us : List Int) : Bool := decide (fs.length = n ∧ ts.length = n ∧ bs.length = n ∧ us.length = n ∧ n ≤ 1000000)
def sSend : SumT := fun args st k => match args, st with
  | [.one (.ptr 0 0 0), .agg [.raw (.int .u32 f), .raw (.int .u32 t), .ref 2], .one (.raw (.int .u64 a))], [some (.mem true .whole 59 2 (.lst [[.raw (.int .i64 most), .ref 1]])), some (.own true .row 61 4 (.tab n [.ints .u32 fs, .ints .u32 ts, .data .u8 bs, .ints .u64 us])), some (.own false .ext 0 1 (.ints .u8 b))] =>
    need (netOk n fs ts bs us && decide (b.length ≤ 140737488355328)) (branch (decide (((n : Nat) : Int) ≥ most)) (k (.sa (.one (iv .i64 7))) st)
      (k (.sa (.one (iv .i64 0))) [netO most 3, none, rdB b, netT (n + 1) (fs ++ [f]) (ts ++ [t]) (bs ++ [b]) (us ++ [a])]))
  | [.one (.ptr 0 0 0), .agg [.raw (.int .u32 _), .raw (.int .u32 _), .raw (.slice none 0 0)], .one (.raw (.int .u64 _))], [some (.mem true .whole 59 2 (.lst [[.raw (.int .i64 most), .ref 1]])), some (.own true .row 61 4 (.tab n [.ints .u32 fs, .ints .u32 ts, .data .u8 bs, .ints .u64 us]))] =>
    need (decide (((n : Nat) : Int) ≥ most)) (k (.sa (.one (iv .i64 7))) st)
  | _, _ => False
def sDeliver : SumT := fun args st k => match args, st with
  | [.one (.ptr 0 0 0), .one (.raw (.int .i64 i))], [some (.mem true .whole 59 2 (.lst [[.raw (.int .i64 most), .ref 1]])), some (.own true .row 61 4 (.tab n [.ints .u32 fs, .ints .u32 ts, .data .u8 bs, .ints .u64 us]))] =>
    need (netOk n fs ts bs us && decide (-9223372036854775808 ≤ i ∧ i ≤ 9223372036854775807)) (branch (decide (n = 0)) (k (.tup [.agg [iv .u32 0, iv .u32 0, .raw (.slice none 0 0)], .one (bv false)]) st)
      (k (.tup [.agg [iv .u32 (fs.getD (placeN i n) 0), iv .u32 (ts.getD (placeN i n) 0), .ref 2], .one (bv true)])
        [netO most 3, none, rdB (bs.getD (placeN i n) []), netT (n - 1) (woI (placeN i n) fs) (woI (placeN i n) ts) (woD (placeN i n) bs) (woI (placeN i n) us)]))
  | _, _ => False
def sMinF : SumT := fun args st k => match args, st with
  | [.one (.ref 0), .one (.raw (.func (.func 31) ⟨[]⟩ ⟨[]⟩))], [some (.own _ .row 61 4 (.tab n [.ints .u32 fs, .ints .u32 ts, .data .u8 bs, .ints .u64 us]))] =>
    need (netOk n fs ts bs us && decide (0 < n)) (k (.sa (.agg [iv .u32 (fs.getD (minP us) 0), iv .u32 (ts.getD (minP us) 0), .ref 1, iv .u64 (us.getD (minP us) 0)])) (st ++ [rdB (bs.getD (minP us) [])]))
  | _, _ => False
def wrN : List (FuncId × Nat) := [(24, 2), (11, 2), (12, 2), (21, 2), (25, 2), (26, 2)]
def sPlace : SumT := fun args st k => match args, st with
  | [.one (.raw (.int .i64 i)), .one (.raw (.int .i64 n))], [] => need (decide (n ≠ 0)) (k (.sa (.one (iv .i64 (placeK i n)))) [])
  | _, _ => False
def sDel : SumT := fun args st k => match args, st with
  | [.one (.ref 0), .one (.raw (.int .i64 i)), .one (.raw (.int .i64 j))], [some (.own true .row 61 4 (.tab n [.ints .u32 fs, .ints .u32 ts, .data .u8 bs, .ints .u64 us]))] =>
    need (netOk n fs ts bs us && decide (0 ≤ i ∧ i < (n : Nat) ∧ j = i + 1)) (k (.sa (.one (.ref 1))) [none, netT (n - 1) (woI i.toNat fs) (woI i.toNat ts) (woD i.toNat bs) (woI i.toNat us)])
  | _, _ => False
noncomputable def cxS : Cx := mkCx Try.prog [(32, sClone8)] [] wrN
noncomputable def cxDe : Cx := mkCx Try.prog [] [(26, 1000007, [0], [⟨0, [], 57⟩])] wrN
noncomputable def cxDl : Cx := mkCx Try.prog [(29, sPlace), (26, sDel)] [] wrN
noncomputable def cxM : Cx := mkCx Try.prog [] [(30, 5, [0, 1, 4, 5, 6], [])] wrN
end Go.Ev
