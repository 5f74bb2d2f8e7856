/- Locks: what the calls come to, as functions of who holds what; summaries; contexts. Definitions alone. No conditions. -/
import Derived.Test.YtefkhlicocadcaaEvD
import Derived.Test.YtefkhlicocadcaaProg
set_option linter.unusedVariables false
namespace Go.Spec
open Go Go.Ev
def isL (a b c n : Int) : Bool := eqK a c && (eqK b n && true)
/-- Is a lock among these? -/
def inC : List Int → List Int → Int → Int → Bool
  | x :: xs, y :: ys, c, n => isL x y c n || inC xs ys c n
  | _, _, _, _ => false
/-- Is one of a class among these that is not below c? -/
def geC : List Int → Int → Bool
  | x :: xs, c => decide (x ≥ c) || geC xs c
  | [], _ => false
/-- Those that are another lock. -/
def keep1 : List Int → List Int → Int → Int → List Int
  | x :: xs, y :: ys, c, n => if isL x y c n = true then keep1 xs ys c n else x :: keep1 xs ys c n
  | _, _, _, _ => []
def keep2 : List Int → List Int → Int → Int → List Int
  | x :: xs, y :: ys, c, n => if isL x y c n = true then keep2 xs ys c n else y :: keep2 xs ys c n
  | _, _, _, _ => []
/-! what the calls come to -/
def upd {α β : Type} [DecidableEq α] (f : α → β) (a : α) (b : β) : α → β := fun x => if x = a then b else f x
def inH (hs : List Lk) (c n : Int) : Bool := inC (hs.map (·.1)) (hs.map (·.2)) c n
def geH (hs : List Lk) (c : Int) : Bool := geC (hs.map (·.1)) c
def getsD (D : LkD) (t c n : Int) : LkD := { D with ho := upd D.ho (c, n) (some t), hs := upd D.hs t (D.hs t ++ [(c, n)]) }
def takeE (D : LkD) (t c n : Int) : Int := if c < 1 ∨ c > 3 then 2 else if (D.wa t).isSome = true ∨ inH (D.hs t) c n = true then 6 else if geH (D.hs t) c = true then 2 else 0
def takeB (D : LkD) (t c n : Int) : Bool := decide (takeE D t c n = 0) && (D.ho (c, n)).isNone
def takeD (D : LkD) (t c n : Int) : LkD := if takeE D t c n = 0 then (match D.ho (c, n) with
    | none => getsD D t c n
    | some _ => { D with qu := upd D.qu (c, n) (D.qu (c, n) ++ [t]), wa := upd D.wa t (some (c, n)) }) else D
def giveE (D : LkD) (t c n : Int) : Int := if D.ho (c, n) = some t then 0 else 4
/-- Without the lock; who came first, has it. -/
def nextD (D : LkD) (c n : Int) : LkD := match D.qu (c, n) with
  | [] => D
  | q :: r => getsD { D with wa := upd D.wa q none, qu := upd D.qu (c, n) r } q c n
def lessD (D : LkD) (t c n : Int) : LkD := { D with ho := upd D.ho (c, n) none, hs := upd D.hs t ((D.hs t).filter fun l => !decide (l = (c, n))) }
def giveD (D : LkD) (t c n : Int) : LkD := if D.ho (c, n) = some t then nextD (lessD D t c n) c n else D
def takeOk (D : LkD) (t c n : Int) : Bool := decide ((D.hs t).length ≤ 3 ∧ (D.qu (c, n)).length ≤ 1000000)
def giveOk (D : LkD) (t c n : Int) : Bool := match D.ho (c, n) with
  | none => true
  | some h => match decide (h = t) with
    | false => true
    | true => decide ((D.hs t).length ≤ 3) && (inH (D.hs t) c n && (match D.qu (c, n) with
      | [] => true
      | q :: r => decide (q ≠ t ∧ (D.hs q).length ≤ 1000000 ∧ r.length ≤ 1000000) && (D.wa q).isSome))
def padL (k : Nat) (xs : List Int) : List Int := xs ++ List.replicate (k - xs.length) 0
end Go.Spec
namespace Go.Ev
open Go Go.Proofs Go.Spec
/-- A row of locks. -/
def lrow (w : Bool) (k : Nat) (cs ns : List Int) : Option SO := some (.own w .row 31 2 (.tab k [.ints .u8 cs, .ints .i64 ns]))
def lbox (w : Bool) (c n : Int) : Option SO := some (.mem w .whole 31 2 (.lst [[.raw (.int .u8 c), .raw (.int .i64 n)]]))
def few (k : Nat) (cs ns : List Int) : Bool := decide (k ≤ 3 ∧ cs.length = k ∧ ns.length = k)
def lkA (c n : Int) : SA := .agg [.raw (.int .u8 c), .raw (.int .i64 n)]
def bR (b : Bool) : SV := .sa (.one (.raw (.bool b)))
/-- slices.Contains. -/
def sCon : SumT := fun args st k => match args, st with
  | [.one (.ref 0), .agg [.raw (.int .u8 c), .raw (.int .i64 n)]], [some (.own w .row 31 2 (.tab m [.ints .u8 cs, .ints .i64 ns]))] => need (few m cs ns) (k (bR (inC cs ns c n)) st)
  | [.one (.raw (.slice none 0 _)), .agg [.raw (.int .u8 c), .raw (.int .i64 n)]], [] => k (bR false) st
  | _, _ => False
/-- slices.ContainsFunc, of a class not below one. -/
def sConF : SumT := fun args st k => match args, st with
  | [.one (.ref 0), .one (.ref 1)], [some (.own w .row 31 2 (.tab m [.ints .u8 cs, .ints .i64 ns])), some (.clo (.func 27) [] [.one (.ptr 2 0 0)]), some (.mem w2 .whole 31 2 (.lst [[.raw (.int .u8 c), .raw (.int .i64 n)]]))] =>
    need (few m cs ns) (k (bR (geC cs c)) st)
  | [.one (.raw (.slice none 0 _)), .one (.ref 0)], [some (.clo (.func 27) [] [.one (.ptr 1 0 0)]), some (.mem w2 .whole 31 2 (.lst [[.raw (.int .u8 c), .raw (.int .i64 n)]]))] => k (bR false) st
  | _, _ => False
/-- slices.DeleteFunc, of one lock. -/
def sDelF : SumT := fun args st k => match args, st with
  | [.one (.ref 0), .one (.ref 1)], [some (.own true .row 31 2 (.tab m [.ints .u8 cs, .ints .i64 ns])), some (.clo (.func 30) [] [.one (.ptr 2 0 0)]), some (.mem w2 .whole 31 2 (.lst [[.raw (.int .u8 c), .raw (.int .i64 n)]]))] =>
    need (few m cs ns && inC cs ns c n) (k (.sa (.one (.ref 3))) [some (.own true .row 31 2 (.tab m [.ints .u8 (padL m (keep1 cs ns c n)), .ints .i64 (padL m (keep2 cs ns c n))])), some (.clo (.func 30) [] [.one (.ptr 2 0 0)]), lbox w2 c n, some (.part 0 0 (keep1 cs ns c n).length)])
  | _, _ => False
noncomputable def cxL0 : Cx := mkCx Try.prog [] [] []
def wrL : List (FuncId × Nat) := [(9, 2), (12, 2), (28, 2), (29, 2)]
noncomputable def cxL1 : Cx := mkCx Try.prog [(25, sCon), (26, sConF), (29, sDelF)] [] wrL
def sTake : SumT := fun args st k => match args with
  | [.one (.ref 0), .one (.raw (.int .i64 t)), .agg [.raw (.int .u8 c), .raw (.int .i64 n)]] => match st with
    | [some (.abs true x D)] => need (takeOk D t c n) (k (.tup [.one (.raw (.bool (takeB D t c n))), .one (.raw (.int .i64 (takeE D t c n)))]) [some (.abs true x (takeD D t c n))])
    | _ => False
  | _ => False
def sGive : SumT := fun args st k => match args with
  | [.one (.ref 0), .one (.raw (.int .i64 t)), .agg [.raw (.int .u8 c), .raw (.int .i64 n)]] => match st with
    | [some (.abs true x D)] => need (giveOk D t c n) (k (.sa (.one (.raw (.int .i64 (giveE D t c n))))) [some (.abs true x (giveD D t c n))])
    | _ => False
  | _ => False
/-- The locks, told as four maps. -/
def lkO (w : Bool) : Option SO := some (.mem w .whole 65 4 (.lst [[.ref 1, .ref 2, .ref 3, .ref 4]]))
def mvL (w : Bool) (es : List VE) (rs : List MapEntry) (c : Nat) : Option SO := some (.mv w [.u8, .i64] es rs c 0)
def mvT (w : Bool) (es : List VE) (rs : List MapEntry) (c : Nat) : Option SO := some (.mv w [.i64] es rs c 0)
def irow (w : Bool) (xs : List Int) : Option SO := some (.own w .row 3 1 (.ints .i64 xs))
def vI (t : Int) : SA := .one (.raw (.int .i64 t))
end Go.Ev
