/- A queue of messages on their way out: functions of numbers, summaries, contexts. Definitions alone. No conditions. -/
import Derived.Test.YtipmphkcbhjinaaFcD
import Derived.Test.YtipmphkcbhjinaaRcD
namespace Go.Spec
open Go Go.Ev
def tsnAdd (t : Int) (n : Nat) : Int := IntKind.wrap .u32 (t + n)
/-- Numbers one behind the other. -/
def tsnL (t : Int) (n : Nat) : List Int := (List.range n).map (tsnAdd t)
def ssnOf (uno : Bool) (sid : Int) (l : List Int) : Int := if uno = true then 0 else l.getD sid.toNat 0
/-- A stream's number behind a message. -/
def bmp (uno : Bool) (sid : Int) (i : Nat) (s : Int) : Int := if uno = false ∧ sid = (i : Int) then addK .u16 s 1 else s
def freeQ (sr b t : Int) : Int := subK .i64 (subK .i64 sr b) t
def lensL (ds : List (List Int)) : Nat := (ds.map List.length).sum
end Go.Spec
namespace Go.Ev
open Go Go.Proofs Go.Spec
/-- Words for states, to keep printed trees short: a configuration, a queue. -/
def cR (mtu st sr rr mm ri rmin rmax it pt al beat life : Int) : Option SO := obj 25 13 [iv .i64 mtu, iv .u16 st, iv .i64 sr, iv .i64 rr, iv .i64 mm, iv .u32 ri, iv .u32 rmin, iv .u32 rmax, iv .u8 it, iv .u8 pt, iv .u8 al, iv .u32 beat, iv .u32 life]
def qR (mtu st sr rr mm ri rmin rmax it pt al beat life tsn s0 s1 s2 s3 s4 s5 s6 s7 s8 s9 sa sb sc sd se sf : Int) (r : Nat) (by_ tk : Int) : Option SO := obj 66 33 (iv .i64 mtu :: iv .u16 st :: iv .i64 sr :: iv .i64 rr :: iv .i64 mm :: iv .u32 ri :: iv .u32 rmin :: iv .u32 rmax :: iv .u8 it :: iv .u8 pt :: iv .u8 al :: iv .u32 beat :: iv .u32 life :: iv .u32 tsn :: iv .u16 s0 :: iv .u16 s1 :: iv .u16 s2 :: iv .u16 s3 :: iv .u16 s4 :: iv .u16 s5 :: iv .u16 s6 :: iv .u16 s7 :: iv .u16 s8 :: iv .u16 s9 :: iv .u16 sa :: iv .u16 sb :: iv .u16 sc :: iv .u16 sd :: iv .u16 se :: iv .u16 sf :: .ref r :: iv .i64 by_ :: iv .i64 tk :: [])
def sTrue : SumT := fun args st k => match args, st with
  | [], [] => k (.sa (.one (bv true))) []
  | _, _ => False
def pieOk (n : Nat) (ts fs ss ns ps : List Int) (ds : List (List Int)) : Bool := decide (ts.length = n ∧ fs.length = n ∧ ss.length = n ∧ ns.length = n ∧ ps.length = n ∧ ds.length = n ∧ n ≤ 1000000)
def rdB (b : List Int) : Option SO := some (.own false .ext 0 1 (.ints .u8 b))
def pieAdd (n N : Nat) (tsn sid ssn ppid size : Int) (uno : Bool) (ts fs ss ns ps : List Int) (ds : List (List Int)) (xs : List Int) : Option SO :=
  piecesO (n + N) (ts ++ tsnL tsn N) (fs ++ cutF uno N) (ss ++ List.replicate N sid) (ns ++ List.replicate N ssn) (ps ++ List.replicate N ppid) (ds ++ cutD size xs)
def q13 (row : List SC) (K : Int → Int → Int → Int → Int → Int → Int → Int → Int → Int → Int → Int → Int → List SC → Prop) : Prop := match row with
  | .raw (.int .i64 mtu) :: .raw (.int .u16 st) :: .raw (.int .i64 sr) :: .raw (.int .i64 rr) :: .raw (.int .i64 mm) :: .raw (.int .u32 ri) :: .raw (.int .u32 rmin) :: .raw (.int .u32 rmax) :: .raw (.int .u8 it) :: .raw (.int .u8 pt) :: .raw (.int .u8 al) :: .raw (.int .u32 beat) :: .raw (.int .u32 life) :: rest => K mtu st sr rr mm ri rmin rmax it pt al beat life rest
  | _ => False
def q9 (row : List SC) (K : Int → Int → Int → Int → Int → Int → Int → Int → Int → List SC → Prop) : Prop := match row with
  | .raw (.int .u32 tsn) :: .raw (.int .u16 s0) :: .raw (.int .u16 s1) :: .raw (.int .u16 s2) :: .raw (.int .u16 s3) :: .raw (.int .u16 s4) :: .raw (.int .u16 s5) :: .raw (.int .u16 s6) :: .raw (.int .u16 s7) :: rest => K tsn s0 s1 s2 s3 s4 s5 s6 s7 rest
  | _ => False
def q11 (row : List SC) (K : Int → Int → Int → Int → Int → Int → Int → Int → Nat → Int → Int → Prop) : Prop := match row with
  | .raw (.int .u16 s8) :: .raw (.int .u16 s9) :: .raw (.int .u16 sa) :: .raw (.int .u16 sb) :: .raw (.int .u16 sc) :: .raw (.int .u16 sd) :: .raw (.int .u16 se) :: .raw (.int .u16 sf) :: .ref r :: .raw (.int .i64 by_) :: .raw (.int .i64 tk) :: [] => K s8 s9 sa sb sc sd se sf r by_ tk
  | _ => False
def qAll (row : List SC) (K : Int → Int → Int → Int → Int → Int → Int → Int → Int → Int → Int → Int → Int → Int → Int → Int → Int → Int → Int → Int → Int → Int → Int → Int → Int → Int → Int → Int → Int → Int → Nat → Int → Int → Prop) : Prop := q13 row fun mtu st sr rr mm ri rmin rmax it pt al beat life rest => q9 rest fun tsn s0 s1 s2 s3 s4 s5 s6 s7 rest => q11 rest fun s8 s9 sa sb sc sd se sf r by_ tk => K mtu st sr rr mm ri rmin rmax it pt al beat life tsn s0 s1 s2 s3 s4 s5 s6 s7 s8 s9 sa sb sc sd se sf r by_ tk
def sAcc : SumT := fun args st_ k => match args, st_ with
  | [.one (.ptr 0 0 0), .agg [.raw (.int .u16 sid), .raw (.bool uno), .raw (.int .u32 ppid), .ref 2]], [some (.mem true .whole 66 33 (.lst [row])), some (.own true .row 41 6 (.tab n [.ints .u32 ts, .ints .u8 fs, .ints .u16 ss, .ints .u16 ns, .ints .u32 ps, .data .u8 ds])), some (.own false .ext 0 1 (.ints .u8 xs))] =>
    qAll row fun mtu st sr rr mm ri rmin rmax it pt al beat life tsn s0 s1 s2 s3 s4 s5 s6 s7 s8 s9 sa sb sc sd se sf r by_ tk => need (Nat.beq r 1 && (pieOk n ts fs ss ns ps ds && decide (xs.length ≤ 1000000 ∧ n + xs.length ≤ 1000000 ∧ 64 ≤ mtu ∧ mtu ≤ 1500 ∧ 0 ≤ st ∧ st ≤ 16 ∧ 0 ≤ sid ∧ 0 ≤ tsn ∧ tsn ≤ 4294967295)))
      (branch (decide (xs.length = 0)) (k (.sa (.one (iv .i64 2))) st_)
      (branch (decide (sid ≥ st)) (k (.sa (.one (iv .i64 100))) st_)
      (branch (decide (((xs.length : Nat) : Int) > mm)) (k (.sa (.one (iv .i64 3))) st_)
      (branch (decide (((xs.length : Nat) : Int) > freeQ sr by_ tk)) (k (.sa (.one (iv .i64 7))) st_)
        (k (.sa (.one (iv .i64 0))) [obj 66 33 (iv .i64 (mtu) :: iv .u16 (st) :: iv .i64 (sr) :: iv .i64 (rr) :: iv .i64 (mm) :: iv .u32 (ri) :: iv .u32 (rmin) :: iv .u32 (rmax) :: iv .u8 (it) :: iv .u8 (pt) :: iv .u8 (al) :: iv .u32 (beat) :: iv .u32 (life) :: iv .u32 (tsnAdd tsn (cutN (cutS (mtu - 28) xs.length) xs.length)) :: iv .u16 (bmp uno sid 0 s0) :: iv .u16 (bmp uno sid 1 s1) :: iv .u16 (bmp uno sid 2 s2) :: iv .u16 (bmp uno sid 3 s3) :: iv .u16 (bmp uno sid 4 s4) :: iv .u16 (bmp uno sid 5 s5) :: iv .u16 (bmp uno sid 6 s6) :: iv .u16 (bmp uno sid 7 s7) :: iv .u16 (bmp uno sid 8 s8) :: iv .u16 (bmp uno sid 9 s9) :: iv .u16 (bmp uno sid 10 sa) :: iv .u16 (bmp uno sid 11 sb) :: iv .u16 (bmp uno sid 12 sc) :: iv .u16 (bmp uno sid 13 sd) :: iv .u16 (bmp uno sid 14 se) :: iv .u16 (bmp uno sid 15 sf) :: .ref 3 :: iv .i64 (addK .i64 by_ ((xs.length : Nat) : Int)) :: iv .i64 (tk) :: []), none, rdB xs, pieAdd n (cutN (cutS (mtu - 28) xs.length) xs.length) tsn sid (ssnOf uno sid [s0, s1, s2, s3, s4, s5, s6, s7, s8, s9, sa, sb, sc, sd, se, sf]) ppid (mtu - 28) uno ts fs ss ns ps ds xs])))))
  | _, _ => False
def wrQ : List (FuncId × Nat) := [(11, 2), (33, 2), (12, 2), (13, 2), (20, 2), (21, 2), (23, 2)]
noncomputable def cxAc : Cx := mkCx Try.prog [(32, sCut)] [(11, 1000011, [2, 3], []), (11, 16, [2, 3, 7, 59, 60, 61], [⟨2, [0, 30], 53⟩])] wrQ
end Go.Ev
