/- Pieces of messages: functions of numbers, summaries, contexts. Definitions alone. No conditions. -/
import Derived.Test.YtipmphkcbhjinaaCl8D
namespace Go.Spec
open Go.Ev
/-- The first n parts of a list, of s each. -/
def partsL (s n : Nat) (xs : List Int) : List (List Int) := (List.range n).map fun i => (xs.drop (i * s)).take s
def cutN (s len : Nat) : Nat := (len + s - 1) / s
def cutS (size : Int) (len : Nat) : Nat := min size.toNat len
def cutF1 (uno : Bool) (n i : Nat) : Int := (if uno = true then 4 else 0) + (if i = 0 then 2 else 0) + (if i + 1 = n then 1 else 0)
/-- The flags of the pieces. -/
def cutF (uno : Bool) (n : Nat) : List Int := (List.range n).map (cutF1 uno n)
def cutD (size : Int) (xs : List Int) : List (List Int) := partsL (cutS size xs.length) (cutN (cutS size xs.length) xs.length) xs
end Go.Spec
namespace Go.Ev
open Go Go.Proofs Go.Spec
/-- The pieces, as a row of its own. -/
def piecesO (n : Nat) (ts fs ss ns ps : List Int) (ds : List (List Int)) : Option SO := some (.own true .row 41 6 (.tab n [.ints .u32 ts, .ints .u8 fs, .ints .u16 ss, .ints .u16 ns, .ints .u32 ps, .data .u8 ds]))
def cutO (n : Nat) (sid ppid size : Int) (uno : Bool) (xs : List Int) : Option SO :=
  piecesO n (List.replicate n 0) (cutF uno n) (List.replicate n sid) (List.replicate n 0) (List.replicate n ppid) (cutD size xs)
def sCut : SumT := fun args st k => match args, st with
  | [.agg [.raw (.int .u16 sid), .raw (.bool uno), .raw (.int .u32 ppid), .ref 0], .one (.raw (.int .i64 size))], [some (.own false .ext 0 1 (.ints .u8 xs))] =>
    need (decide (xs.length ≤ 5000000000 ∧ size ≤ 9223372036854775807)) (branch (decide (xs.length = 0 ∨ size < 1)) (k (.tup [.one (.raw (.slice none 0 0)), .one (iv .i64 2)]) st)
      (k (.tup [.one (.ref 1), .one (iv .i64 0)]) (st ++ [cutO (cutN (cutS size xs.length) xs.length) sid ppid size uno xs])))
  | _, _ => False
noncomputable def cxC : Cx := { mkCx Try.prog [(34, sClone8)] [(43, 1, [0, 1, 2, 4], []), (32, 1000004, [1, 2, 6], [])] [] with ice := true }
noncomputable def cxR : Cx := { mkCx Try.prog [] [(37, 5, [1, 2, 6, 7], [⟨6, [], 53⟩]), (37, 12, [1, 2, 6, 7, 8, 9], [⟨8, [5], 33⟩])] [] with ice := true }
end Go.Ev
