/- lanyardref24: what its functions come to; summaries; contexts. Definitions alone. No conditions. -/
import Derived.Test.YtefkhlicocadcaaAlD
set_option linter.unusedVariables false
namespace Go.Spec
open Go Go.Ev
/-- A claim. -/
structure Cm where
  t : Int
  c : Int
  n : Int
  s : Int
deriving DecidableEq
def Cm.l (x : Cm) : Lk := (x.c, x.n)
def zipL : List Int → List Int → List Int → List Int → List Cm
  | t :: ts, c :: cs, n :: ns, s :: ss => ⟨t, c, n, s⟩ :: zipL ts cs ns ss
  | _, _, _, _ => []
def qT (L : List Cm) : List Int := L.map (·.t)
def qC (L : List Cm) : List Int := L.map (·.c)
def qN (L : List Cm) : List Int := L.map (·.n)
def qS (L : List Cm) : List Int := L.map (·.s)
def even (m : Nat) (ts cs ns ss : List Int) : Bool := decide (m ≤ 1000000 ∧ ts.length = m ∧ cs.length = m ∧ ns.length = m ∧ ss.length = m)
/-- The place of a lock's first claim from place i on; -1: there is none. -/
def fstI : List Cm → Int → Int → Int → Int
  | [], _, _, _ => -1
  | x :: r, i, c, n => if x.c = c ∧ x.n = n then i else fstI r (i + 1) c n
def firstI (L : List Cm) (c n : Int) : Int := fstI L 0 c n
def atI (L : List Cm) (i : Int) : Cm := L.getD i.toNat ⟨0, 0, 0, 0⟩
def holB (L : List Cm) (c n : Int) : Bool := decide (¬ firstI L c n < 0)
def holV (L : List Cm) (c n : Int) : Int := if firstI L c n < 0 then 0 else (atI L (firstI L c n)).t
/-- The first claim of a task, from place i on, that is not its lock's first one. -/
def wtI (L : List Cm) : List Cm → Int → Int → Option Cm
  | [], _, _ => none
  | x :: r, i, t => if x.t = t ∧ firstI L x.c x.n ≠ i then some x else wtI L r (i + 1) t
def waitI (L : List Cm) (t : Int) : Option Cm := wtI L L 0 t
def wtB (L : List Cm) (t : Int) : Bool := (waitI L t).isSome
def wtC (L : List Cm) (t : Int) : Int := match waitI L t with | some x => x.c | none => 0
def wtN (L : List Cm) (t : Int) : Int := match waitI L t with | some x => x.n | none => 0
def quI (L : List Cm) : List Cm → Int → Int → Int → List Int
  | [], _, _, _ => []
  | x :: r, i, c, n => if (x.c = c ∧ x.n = n) ∧ firstI L c n ≠ i then x.t :: quI L r (i + 1) c n else quI L r (i + 1) c n
def queI (L : List Cm) (c n : Int) : List Int := quI L L 0 c n
/-- What a task came to hold at one time. -/
def hoA (L : List Cm) (t a : Int) : List Lk := (L.filter fun x => decide (x.t = t ∧ x.s = a)).map Cm.l
def hoI (L : List Cm) (t : Int) : Nat → List Lk
  | 0 => []
  | k + 1 => hoI L t k ++ hoA L t (k + 1)
def holI (L : List Cm) (t ck : Int) : List Lk := hoI L t ck.toNat
def fstL (l : List Lk) : List Int := l.map (·.1)
def sndL (l : List Lk) : List Int := l.map (·.2)
def holN (L : List Cm) (t ck : Int) : Nat := (holI L t ck).length
def holC (L : List Cm) (t ck : Int) : List Int := fstL (holI L t ck)
def holY (L : List Cm) (t ck : Int) : List Int := sndL (holI L t ck)
def rtE (L : List Cm) (ck t c n : Int) : Int := if c < 1 ∨ c > 3 then 2 else if wtB L t = true ∨ (holB L c n = true ∧ holV L c n = t) then 6 else if (holI L t ck).any (fun l => decide (l.1 ≥ c)) = true then 2 else 0
def rtB (L : List Cm) (ck t c n : Int) : Bool := decide (rtE L ck t c n = 0) && !holB L c n
def rtK (L : List Cm) (ck t c n : Int) : Int := if rtB L ck t c n = true then ck + 1 else ck
def rtL (L : List Cm) (ck t c n : Int) : List Cm := if rtE L ck t c n = 0 then L ++ [⟨t, c, n, if holB L c n = true then 0 else ck + 1⟩] else L
def rgE (L : List Cm) (t c n : Int) : Int := if holB L c n = true ∧ holV L c n = t then 0 else 4
def delI (L : List Cm) (i : Int) : List Cm := L.take i.toNat ++ L.drop (i.toNat + 1)
def setI (L : List Cm) (i s : Int) : List Cm := L.set i.toNat { atI L i with s := s }
def rgN (L : List Cm) (ck c n : Int) : List Cm := if firstI L c n < 0 then L else setI L (firstI L c n) (ck + 1)
def rgL (L : List Cm) (ck t c n : Int) : List Cm := if rgE L t c n = 0 then rgN (delI L (firstI L c n)) ck c n else L
def rgK (L : List Cm) (ck t c n : Int) : Int := if rgE L t c n = 0 ∧ ¬ firstI (delI L (firstI L c n)) c n < 0 then ck + 1 else ck
def rtOk (L : List Cm) (ck t c n : Int) : Bool := decide (rtE L ck t c n = 0)
def rgOk (L : List Cm) (t c n : Int) : Bool := decide (rgE L t c n = 0)
def lenC (L : List Cm) : Nat := L.length
def ckOk (ck : Int) : Bool := decide (0 ≤ ck ∧ ck ≤ 1000000)
def hoOk (L : List Cm) (t ck : Int) : Bool := decide (0 ≤ ck ∧ ck ≤ 1000000 ∧ (holI L t ck).length ≤ 1000000)
end Go.Spec
namespace Go.Ev
open Go Go.Proofs Go.Spec
def rfO (w : Bool) (ck : Int) : Option SO := some (.mem w .whole 29 2 (.lst [[.ref 1, .raw (.int .i64 ck)]]))
def rfR (w : Bool) (m : Nat) (ts cs ns ss : List Int) : Option SO := some (.own w .row 71 4 (.tab m [.ints .i64 ts, .ints .u8 cs, .ints .i64 ns, .ints .i64 ss]))
def rfL (w : Bool) (L : List Cm) : Option SO := rfR w L.length (qT L) (qC L) (qN L) (qS L)
def holRow (L : List Cm) (t ck : Int) : Option SO := some (.own true .row 38 2 (.tab (holN L t ck) [.ints .u8 (holC L t ck), .ints .i64 (holY L t ck)]))
def hrow (l : List Lk) : Option SO := some (.own true .row 38 2 (.tab l.length [.ints .u8 (fstL l), .ints .i64 (sndL l)]))
def sFi : SumT := fun args st k => match args, st with
  | [.one (.ptr 0 0 0), .agg [.raw (.int .u8 c), .raw (.int .i64 n)]], [some (.mem w .whole 29 2 (.lst [[.ref 1, .raw (.int .i64 ck)]])), some (.own v .row 71 4 (.tab m [.ints .i64 ts, .ints .u8 cs, .ints .i64 ns, .ints .i64 ss]))] =>
    need (even m ts cs ns ss) (k (.sa (.one (.raw (.int .i64 (firstI (zipL ts cs ns ss) c n))))) [rfO w ck, rfR v m ts cs ns ss])
  | _, _ => False
def sHol : SumT := fun args st k => match args, st with
  | [.one (.ptr 0 0 0), .agg [.raw (.int .u8 c), .raw (.int .i64 n)]], [some (.mem w .whole 29 2 (.lst [[.ref 1, .raw (.int .i64 ck)]])), some (.own v .row 71 4 (.tab m [.ints .i64 ts, .ints .u8 cs, .ints .i64 ns, .ints .i64 ss]))] =>
    need (even m ts cs ns ss) (k (.tup [.one (.raw (.int .i64 (holV (zipL ts cs ns ss) c n))), .one (.raw (.bool (holB (zipL ts cs ns ss) c n)))]) [rfO w ck, rfR v m ts cs ns ss])
  | _, _ => False
def sWai : SumT := fun args st k => match args, st with
  | [.one (.ptr 0 0 0), .one (.raw (.int .i64 t))], [some (.mem w .whole 29 2 (.lst [[.ref 1, .raw (.int .i64 ck)]])), some (.own v .row 71 4 (.tab m [.ints .i64 ts, .ints .u8 cs, .ints .i64 ns, .ints .i64 ss]))] =>
    need (even m ts cs ns ss) (k (.tup [.agg [.raw (.int .u8 (wtC (zipL ts cs ns ss) t)), .raw (.int .i64 (wtN (zipL ts cs ns ss) t))], .one (.raw (.bool (wtB (zipL ts cs ns ss) t)))]) [rfO w ck, rfR v m ts cs ns ss])
  | _, _ => False
def sQue : SumT := fun args st k => match args, st with
  | [.one (.ptr 0 0 0), .agg [.raw (.int .u8 c), .raw (.int .i64 n)]], [some (.mem w .whole 29 2 (.lst [[.ref 1, .raw (.int .i64 ck)]])), some (.own v .row 71 4 (.tab m [.ints .i64 ts, .ints .u8 cs, .ints .i64 ns, .ints .i64 ss]))] =>
    need (even m ts cs ns ss) (k (.sa (.one (.ref 2))) [rfO w ck, rfR v m ts cs ns ss, irow true (queI (zipL ts cs ns ss) c n)])
  | _, _ => False
def sHol2 : SumT := fun args st k => match args, st with
  | [.one (.ptr 0 0 0), .one (.raw (.int .i64 t))], [some (.mem w .whole 29 2 (.lst [[.ref 1, .raw (.int .i64 ck)]])), some (.own v .row 71 4 (.tab m [.ints .i64 ts, .ints .u8 cs, .ints .i64 ns, .ints .i64 ss]))] =>
    need (even m ts cs ns ss && hoOk (zipL ts cs ns ss) t ck) (k (.sa (.one (.ref 2))) [rfO w ck, rfR v m ts cs ns ss, holRow (zipL ts cs ns ss) t ck])
  | _, _ => False
def rfO2 (ck : Int) : Option SO := some (.mem true .whole 29 2 (.lst [[.ref 2, .raw (.int .i64 ck)]]))
def sRt : SumT := fun args st k => match args, st with
  | [.one (.ptr 0 0 0), .one (.raw (.int .i64 t)), .agg [.raw (.int .u8 c), .raw (.int .i64 n)]], [some (.mem true .whole 29 2 (.lst [[.ref 1, .raw (.int .i64 ck)]])), some (.own true .row 71 4 (.tab m [.ints .i64 ts, .ints .u8 cs, .ints .i64 ns, .ints .i64 ss]))] =>
    need (even m ts cs ns ss && (ckOk ck && hoOk (zipL ts cs ns ss) t ck)) (branch (rtOk (zipL ts cs ns ss) ck t c n) (k (.tup [.one (.raw (.bool (rtB (zipL ts cs ns ss) ck t c n))), .one (.raw (.int .i64 0))]) [rfO2 (rtK (zipL ts cs ns ss) ck t c n), none, rfR true (lenC (rtL (zipL ts cs ns ss) ck t c n)) (qT (rtL (zipL ts cs ns ss) ck t c n)) (qC (rtL (zipL ts cs ns ss) ck t c n)) (qN (rtL (zipL ts cs ns ss) ck t c n)) (qS (rtL (zipL ts cs ns ss) ck t c n))]) (k (.tup [.one (.raw (.bool false)), .one (.raw (.int .i64 (rtE (zipL ts cs ns ss) ck t c n)))]) [rfO true ck, rfR true m ts cs ns ss]))
  | _, _ => False
def sRg : SumT := fun args st k => match args, st with
  | [.one (.ptr 0 0 0), .one (.raw (.int .i64 t)), .agg [.raw (.int .u8 c), .raw (.int .i64 n)]], [some (.mem true .whole 29 2 (.lst [[.ref 1, .raw (.int .i64 ck)]])), some (.own true .row 71 4 (.tab m [.ints .i64 ts, .ints .u8 cs, .ints .i64 ns, .ints .i64 ss]))] =>
    need (even m ts cs ns ss && ckOk ck) (branch (rgOk (zipL ts cs ns ss) t c n) (k (.sa (.one (.raw (.int .i64 0)))) [rfO2 (rgK (zipL ts cs ns ss) ck t c n), rfR true m ts cs ns ss, rfR true (lenC (rgL (zipL ts cs ns ss) ck t c n)) (qT (rgL (zipL ts cs ns ss) ck t c n)) (qC (rgL (zipL ts cs ns ss) ck t c n)) (qN (rgL (zipL ts cs ns ss) ck t c n)) (qS (rgL (zipL ts cs ns ss) ck t c n))]) (k (.sa (.one (.raw (.int .i64 4)))) [rfO true ck, rfR true m ts cs ns ss]))
  | _, _ => False
noncomputable def cxFi : Cx := mkCx Try.prog [] [(31, 2, [0, 3, 5], [])] []
noncomputable def cxHl : Cx := mkCx Try.prog [(31, sFi)] [(17, 2, [0, 1, 4, 6], []), (20, 3, [0, 3, 5, 6], [⟨5, [], 50⟩]), (23, 3, [0, 1, 5, 6], [⟨5, [], 55⟩]), (23, 6, [0, 1, 5, 6, 7], [⟨5, [], 55⟩])] []
end Go.Ev
