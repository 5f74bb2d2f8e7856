/- Taking from a queue; how heavy a script is; the law OutqRoom: functions of numbers, summaries, contexts. Definitions alone. No conditions. -/
import Derived.Test.YtipmphkcbhjinaaOqD
namespace Go.Spec
open Go Go.Ev
def heavyF (s : Int) : List (List Int) → Bool
  | [] => false
  | d :: r => if s + (1 + (if ((d.length : Nat) : Int) < 100000 then ((d.length : Nat) : Int) else 100000)) > 60000 then true else heavyF (s + (1 + (if ((d.length : Nat) : Int) < 100000 then ((d.length : Nat) : Int) else 100000))) r
def heavyB (n : Nat) (ds : List (List Int)) : Bool := heavyF 0 ds || decide (((n : Nat) : Int) > 500)
end Go.Spec
namespace Go.Ev
open Go Go.Proofs Go.Spec
def tailO (n : Nat) (ts fs ss ns ps : List Int) (ds : List (List Int)) : Option SO := piecesO (n - 1) (ts.drop 1) (fs.drop 1) (ss.drop 1) (ns.drop 1) (ps.drop 1) (ds.drop 1)
def sTake : SumT := fun args st_ k => match args, st_ with
  | [.one (.ptr 0 0 0)], [some (.mem true .whole 66 33 (.lst [row])), some (.own true .row 41 6 (.tab n [.ints .u32 ts, .ints .u8 fs, .ints .u16 ss, .ints .u16 ns, .ints .u32 ps, .data .u8 ds]))] =>
    qAll row fun mtu st sr rr mm ri rmin rmax it pt al beat life tsn s0 s1 s2 s3 s4 s5 s6 s7 s8 s9 sa sb sc sd se sf r by_ tk => need (Nat.beq r 1 && (pieOk n ts fs ss ns ps ds && decide ((ds.getD 0 []).length ≤ 140737488355328)))
      (branch (decide (n = 0)) (k (.tup [.agg [iv .u32 0, iv .u8 0, iv .u16 0, iv .u16 0, iv .u32 0, .raw (.slice none 0 0)], .one (bv false)]) st_)
        (k (.tup [.agg [iv .u32 (ts.getD 0 0), iv .u8 (fs.getD 0 0), iv .u16 (ss.getD 0 0), iv .u16 (ns.getD 0 0), iv .u32 (ps.getD 0 0), .ref 2], .one (bv true)])
          [obj 66 33 (iv .i64 (mtu) :: iv .u16 (st) :: iv .i64 (sr) :: iv .i64 (rr) :: iv .i64 (mm) :: iv .u32 (ri) :: iv .u32 (rmin) :: iv .u32 (rmax) :: iv .u8 (it) :: iv .u8 (pt) :: iv .u8 (al) :: iv .u32 (beat) :: iv .u32 (life) :: iv .u32 (tsn) :: iv .u16 (s0) :: iv .u16 (s1) :: iv .u16 (s2) :: iv .u16 (s3) :: iv .u16 (s4) :: iv .u16 (s5) :: iv .u16 (s6) :: iv .u16 (s7) :: iv .u16 (s8) :: iv .u16 (s9) :: iv .u16 (sa) :: iv .u16 (sb) :: iv .u16 (sc) :: iv .u16 (sd) :: iv .u16 (se) :: iv .u16 (sf) :: .ref 3 :: iv .i64 (subK .i64 by_ (((ds.getD 0 []).length : Nat) : Int)) :: iv .i64 (addK .i64 tk (((ds.getD 0 []).length : Nat) : Int)) :: []), none, some (.own true .row 5 1 (.ints .u8 (ds.getD 0 []))), tailO n ts fs ss ns ps ds]))
  | _, _ => False
def sHeavy : SumT := fun args st k => match args, st with
  | [.one (.ref 0)], [some (.own false .ext 0 6 (.tab n [.ints .u8 kinds, .ints .i64 nums, .ints .u16 sids, .bools unos, .ints .u32 ppids, .data .u8 dss]))] =>
    need (decide (dss.length = n ∧ n ≤ 140737488355328)) (k (.sa (.one (bv (heavyB n dss)))) st)
  | _, _ => False
noncomputable def cxTk : Cx := mkCx Try.prog [(34, sClone8)] [(12, 1000004, [0, 2, 3, 4, 5], [⟨0, [30], 53⟩])] wrQ
noncomputable def cxHv : Cx := mkCx Try.prog [] [(7, 3, [0, 3, 6, 7, 8], [])] []
noncomputable def cxRm : Cx := mkCx Try.prog [(8, sTrue), (7, sHeavy), (31, sCheck), (11, sAcc), (12, sTake)]
  [(3, 8, [2, 3, 7, 9, 28, 29, 30], [⟨7, [30], 53⟩])] wrQ
end Go.Ev
