/- The law OutqCalls: functions of numbers, summaries, contexts. Definitions alone. No conditions. -/
import Derived.Test.YtipmphkcbhjinaaOrD
set_option linter.unusedVariables false
namespace Go.Spec
open Go Go.Ev
def freeR (sr b f : Int) : Int := addK .i64 (subK .i64 sr b) f
/-- The bytes of the pieces from a to b. -/
def bytesN (ds : List (List Int)) (a b : Int) : Nat := lensL ((ds.take b.toNat).drop a.toNat)
def byOk (n : Nat) (ds : List (List Int)) (a b : Int) : Bool := decide (0 ≤ a ∧ a ≤ b ∧ b ≤ n ∧ lensL ds ≤ 1000000000)
def accOk (n len : Nat) (mtu st sid tsn : Int) : Bool := decide (len ≤ 1000000 ∧ n + len ≤ 1000000 ∧ 64 ≤ mtu ∧ mtu ≤ 1500 ∧ 0 ≤ st ∧ st ≤ 16 ∧ 0 ≤ sid ∧ 0 ≤ tsn ∧ tsn ≤ 4294967295)
def ssnR (uno : Bool) (sid : Int) (sn : List Int) : Int := if uno = true then 0 else sn.getD sid.toNat 0
def snR (uno : Bool) (sid : Int) (sn : List Int) : List Int := if uno = true then sn else sn.set sid.toNat (addK .u16 (sn.getD sid.toNat 0) 1)
end Go.Spec
namespace Go.Ev
open Go Go.Proofs Go.Spec
/-- A message's bytes are frozen ahead of the call. -/
def frzS (P : Program) (T : TypeId) (s : SumT) : SumT := fun args st k => match args with
  | [p, .agg [a, b, c, d]] => ownOfT P T st d fun d' st' => onPart s [p, .agg [a, b, c, d']] st' k
  | _ => False
def sAcc2 : SumT := fun args st_ k => match args, st_ with
  | [.one (.ptr 0 0 0), .agg [.raw (.int .u16 sid), .raw (.bool uno), .raw (.int .u32 ppid), .ref 2]], [some (.mem true .whole 66 33 (.lst [row])), some (.own true .row 41 6 (.tab n [.ints .u32 ts, .ints .u8 fs, .ints .u16 ss, .ints .u16 ns, .ints .u32 ps, .data .u8 ds])), some (.own false .ext 0 1 (.ints .u8 xs))] =>
    qAll row fun mtu st sr rr mm ri rmin rmax it pt al beat life tsn s0 s1 s2 s3 s4 s5 s6 s7 s8 s9 sa sb sc sd se sf r by_ tk => need (Nat.beq r 1 && (pieOk n ts fs ss ns ps ds && accOk n xs.length mtu st sid tsn))
      (branch (decide (xs.length = 0)) (k (.sa (.one (iv .i64 2))) st_)
      (branch (decide (sid ≥ st)) (k (.sa (.one (iv .i64 100))) st_)
      (branch (decide (((xs.length : Nat) : Int) > mm)) (k (.sa (.one (iv .i64 3))) st_)
      (branch (decide (((xs.length : Nat) : Int) > freeQ sr by_ tk)) (k (.sa (.one (iv .i64 7))) st_)
        (k (.sa (.one (iv .i64 0))) [obj 66 33 (iv .i64 (mtu) :: iv .u16 (st) :: iv .i64 (sr) :: iv .i64 (rr) :: iv .i64 (mm) :: iv .u32 (ri) :: iv .u32 (rmin) :: iv .u32 (rmax) :: iv .u8 (it) :: iv .u8 (pt) :: iv .u8 (al) :: iv .u32 (beat) :: iv .u32 (life) :: iv .u32 (tsnAdd tsn (cutN (cutS (mtu - 28) xs.length) xs.length)) :: iv .u16 (bmp uno sid 0 s0) :: iv .u16 (bmp uno sid 1 s1) :: iv .u16 (bmp uno sid 2 s2) :: iv .u16 (bmp uno sid 3 s3) :: iv .u16 (bmp uno sid 4 s4) :: iv .u16 (bmp uno sid 5 s5) :: iv .u16 (bmp uno sid 6 s6) :: iv .u16 (bmp uno sid 7 s7) :: iv .u16 (bmp uno sid 8 s8) :: iv .u16 (bmp uno sid 9 s9) :: iv .u16 (bmp uno sid 10 sa) :: iv .u16 (bmp uno sid 11 sb) :: iv .u16 (bmp uno sid 12 sc) :: iv .u16 (bmp uno sid 13 sd) :: iv .u16 (bmp uno sid 14 se) :: iv .u16 (bmp uno sid 15 sf) :: .ref 3 :: iv .i64 (addK .i64 by_ ((xs.length : Nat) : Int)) :: iv .i64 (tk) :: []), none, rdB xs, pieAdd n (cutN (cutS (mtu - 28) xs.length) xs.length) tsn sid (ssnOf uno sid [s0, s1, s2, s3, s4, s5, s6, s7, s8, s9, sa, sb, sc, sd, se, sf]) ppid (mtu - 28) uno ts fs ss ns ps ds xs])))))
  | _, _ => False
def sAccX : SumT := frzS Try.prog (1000000 + 33) sAcc2
/-- slices.Clone of pieces. -/
def sClP : SumT := fun args st k => match args, st with
  | [.one (.ref 0)], [some (.own true .row 41 6 (.tab n [.ints .u32 ts, .ints .u8 fs, .ints .u16 ss, .ints .u16 ns, .ints .u32 ps, .data .u8 ds]))] =>
    need (pieOk n ts fs ss ns ps ds) (k (.sa (.one (.ref 1))) (st ++ [piecesO n ts fs ss ns ps ds]))
  | _, _ => False
def q5 (row : List SC) (K : Int → Nat → Nat → Int → Int → Prop) : Prop := match row with
  | .raw (.int .u32 tsn) :: .sl 1 0 s none :: .ref r :: .raw (.int .i64 tk) :: .raw (.int .i64 fr) :: [] => K tsn s r tk fr
  | _ => False
def rR (mtu st sr rr mm ri rmin rmax it pt al beat life tsn : Int) (o s r : Nat) (tk fr : Int) : Option SO := obj 55 18 [iv .i64 mtu, iv .u16 st, iv .i64 sr, iv .i64 rr, iv .i64 mm, iv .u32 ri, iv .u32 rmin, iv .u32 rmax, iv .u8 it, iv .u8 pt, iv .u8 al, iv .u32 beat, iv .u32 life, iv .u32 tsn, .sl o 0 s none, .ref r, iv .i64 tk, iv .i64 fr]
def snO (sn : List Int) : Option SO := some (.mem true .whole 22 1 (.ints .u16 sn))
def dO (n : Nat) (kinds nums sids : List Int) (unos : List Bool) (ppids : List Int) (dss : List (List Int)) : Option SO := some (.own false .ext 0 6 (.tab n [.ints .u8 kinds, .ints .i64 nums, .ints .u16 sids, .bools unos, .ints .u32 ppids, .data .u8 dss]))
def sBytes : SumT := fun args st_ k => match args, st_ with
  | [.one (.ptr 0 0 0), .one (.raw (.int .i64 a)), .one (.raw (.int .i64 b))], [some (.mem w1 .whole 55 18 (.lst [row])), some (.mem w2 .whole 22 1 (.ints .u16 sn)), some (.own w3 .row 41 6 (.tab n [.ints .u32 ts, .ints .u8 fs, .ints .u16 ss, .ints .u16 ns, .ints .u32 ps, .data .u8 ds]))] =>
    q13 row fun mtu st sr rr mm ri rmin rmax it pt al beat life rest => q5 rest fun tsn s r tk fr => need (Nat.beq r 2 && (pieOk n ts fs ss ns ps ds && byOk n ds a b))
      (k (.sa (.one (iv .i64 ((bytesN ds a b : Nat) : Int)))) st_)
  | _, _ => False
def sRAcc : SumT := fun args st_ k => match args, st_ with
  | [.one (.ptr 0 0 0), .agg [.raw (.int .u16 sid), .raw (.bool uno), .raw (.int .u32 ppid), .ref 3]], [some (.mem true .whole 55 18 (.lst [row])), some (.mem true .whole 22 1 (.ints .u16 sn)), some (.own true .row 41 6 (.tab n [.ints .u32 ts, .ints .u8 fs, .ints .u16 ss, .ints .u16 ns, .ints .u32 ps, .data .u8 ds])), some (.own false .ext 0 1 (.ints .u8 xs))] =>
    q13 row fun mtu st sr rr mm ri rmin rmax it pt al beat life rest => q5 rest fun tsn s r tk fr => need (Nat.beq r 2 && (pieOk n ts fs ss ns ps ds && decide (xs.length ≤ 1000000 ∧ n + xs.length ≤ 1000000 ∧ 64 ≤ mtu ∧ mtu ≤ 1500 ∧ 0 ≤ st ∧ st ≤ 16 ∧ 0 ≤ sid ∧ sid ≤ 65535 ∧ sn.length = st.toNat ∧ s = st.toNat ∧ lensL ds ≤ 1000000000)))
      (branch (decide (xs.length = 0)) (k (.sa (.one (iv .i64 2))) st_)
      (branch (decide (sid ≥ st)) (k (.sa (.one (iv .i64 100))) st_)
      (branch (decide (((xs.length : Nat) : Int) > mm)) (k (.sa (.one (iv .i64 3))) st_)
      (branch (decide (((xs.length : Nat) : Int) > freeR sr ((lensL ds : Nat) : Int) fr)) (k (.sa (.one (iv .i64 7))) st_)
        (k (.sa (.one (iv .i64 0))) [rR mtu st sr rr mm ri rmin rmax it pt al beat life (tsnAdd tsn (cutN (cutS (mtu - 28) xs.length) xs.length)) 1 s 4 tk fr, snO (snR uno sid sn), none, rdB xs, pieAdd n (cutN (cutS (mtu - 28) xs.length) xs.length) tsn sid (ssnR uno sid sn) ppid (mtu - 28) uno ts fs ss ns ps ds xs])))))
  | _, _ => False
noncomputable def cxBy : Cx := mkCx Try.prog [] [(38, 3, [0, 2, 7, 8], [])] []
noncomputable def cxCp : Cx := mkCx Try.prog [] [] []
noncomputable def cxRA : Cx := mkCx Try.prog [(37, sCut), (38, sBytes)] [(20, 11, [0, 3, 5, 7], [⟨0, [15], 53⟩])] wrQ
noncomputable def cxOc : Cx := { mkCx Try.prog [(8, sTrue), (7, sHeavy), (31, sCheck), (36, sMay), (11, sAccX), (12, sTake), (20, sRAcc), (38, sBytes), (34, sClone8), (35, sClP)]
  [(5, 10, [7, 9, 47, 48, 49], [⟨7, [30], 53⟩, ⟨9, [15], 53⟩]), (5, 1000030, [7, 9, 11, 47, 48, 49], [⟨7, [30], 53⟩, ⟨9, [15], 53⟩])] wrQ with ice := true }
end Go.Ev
