/- A wheel of timers: its heap and where each is; summaries, contexts. Definitions alone. No conditions. -/
import Derived.Test.YtoikhfkfihejmaaEvD
import Derived.Test.YtoikhfkfihejmaaProg
set_option linter.unusedVariables false
namespace Go.Spec
open Go Go.Ev
/-- A timer: when, and which. -/
abbrev Tm := Int × Int
def tlt (a b : Tm) : Bool := decide (a.1 < b.1) || (decide (a.1 = b.1) && decide (a.2 < b.2))
def tz : Tm := (0, 0)
def hat (H : List Tm) (i : Nat) : Tm := H.getD i tz
def swH (H : List Tm) (i k : Nat) : List Tm := (H.set i (hat H k)).set k (hat H i)
def par (i : Nat) : Nat := (i - 1) / 2
/-- Going up from i, at most so many steps. -/
def upH : Nat → List Tm → Nat → List Tm
  | 0, H, _ => H
  | f + 1, H, i => if 0 < i ∧ tlt (hat H i) (hat H (par i)) = true then upH f (swH H i (par i)) (par i) else H
/-- The lesser child of i. -/
def kid (H : List Tm) (i : Nat) : Nat := if 2 * i + 2 < H.length ∧ tlt (hat H (2 * i + 2)) (hat H (2 * i + 1)) = true then 2 * i + 2 else 2 * i + 1
/-- Going down from i, at most so many steps. -/
def downH : Nat → List Tm → Nat → List Tm
  | 0, H, _ => H
  | f + 1, H, i => if kid H i < H.length ∧ tlt (hat H (kid H i)) (hat H i) = true then downH f (swH H i (kid H i)) (kid H i) else H
/-- Without the timer at i. -/
def cutH (H : List Tm) (i : Nat) : List Tm := (swH H i (H.length - 1)).take (H.length - 1)
def stopH (H : List Tm) (i : Nat) : List Tm := if i < H.length - 1 then downH H.length (upH H.length (cutH H i) i) i else cutH H i
/-- With a new timer. -/
def pushH (H : List Tm) (t : Tm) : List Tm := upH (H.length + 1) (H ++ [t]) H.length
/-- The numbers that are told, and what is left. -/
def toldH (now : Int) : Nat → List Tm → List Int × List Tm
  | 0, H => ([], H)
  | f + 1, H => if 0 < H.length ∧ (hat H 0).1 ≤ now then ((hat H 0).2 :: (toldH now f (stopH H 0)).1, (toldH now f (stopH H 0)).2) else ([], H)
/-- The numbers, in the heap's order; where each of ks is. -/
def idsH (H : List Tm) : List Int := H.map Prod.snd
def atsH (H : List Tm) : List Int := H.map Prod.fst
def posL (H : List Tm) (ks : List Int) : List Int := ks.map fun x => ((idxI x (idsH H) : Nat) : Int)
/-- With the timer of a number set anew. -/
def stopW (H : List Tm) (ks : List Int) (x : Int) : List Tm × List Int := if idxI x ks < ks.length then (stopH H (idxI x (idsH H)), ks.eraseIdx (idxI x ks)) else (H, ks)
def setW (H : List Tm) (ks : List Int) (x a : Int) : List Tm × List Int := (pushH (stopW H ks x).1 (a, x), (stopW H ks x).2 ++ [x])
/-- The same with numbers as they lie in columns. -/
def tltB (a i b j : Int) : Bool := tlt (a, i) (b, j)
def toH (ts xs : List Int) : List Tm := ts.zip xs
/-- Do the columns and the map fit together? -/
def wfB (n : Nat) (ts xs ks vs bs : List Int) (cl : Nat) : Bool := decide (ts.length = n ∧ xs.length = n ∧ bs.length = ks.length ∧ bs.Nodup ∧ (∀ b ∈ bs, b < (cl : Nat)) ∧ xs.Nodup ∧ ks.Nodup ∧ (∀ x ∈ xs, x ∈ ks) ∧ (∀ x ∈ ks, x ∈ xs) ∧ vs = posL (toH ts xs) ks ∧ n ≤ 1000)
def inB (i : Int) (n : Nat) : Bool := decide (0 ≤ i ∧ i < (n : Nat))
def swS (ts xs : List Int) (i k : Int) : List Tm := swH (toH ts xs) i.toNat k.toNat
def upS (ts xs : List Int) (i : Int) : List Tm := upH i.toNat (toH ts xs) i.toNat
def downS (ts xs : List Int) (i : Int) : List Tm := downH ts.length (toH ts xs) i.toNat
def hasB (x : Int) (ks : List Int) : Bool := decide (idxI x ks < ks.length)
def stopBs (bs ks : List Int) (x : Int) : List Int := bs.eraseIdx (idxI x ks)
def stopS (ts xs : List Int) (x : Int) : List Tm := stopH (toH ts xs) (idxI x xs)
def stopK (ks : List Int) (x : Int) : List Int := ks.eraseIdx (idxI x ks)
def setS (ts xs ks : List Int) (x a : Int) : List Tm := (setW (toH ts xs) ks x a).1
def setK (ks : List Int) (x : Int) : List Int := stopK ks x ++ [x]
def setBs (bs ks : List Int) (x : Int) (cl : Nat) : List Int := stopBs bs ks x ++ [(cl : Int)]
/-- What is told, what is left, where, and the entries' numbers. -/
def tdA (now : Int) : Nat → List Tm → List Int → List Int → List Int × List Tm × List Int × List Int
  | 0, H, ks, bs => ([], H, ks, bs)
  | f + 1, H, ks, bs => if 0 < H.length ∧ (hat H 0).1 ≤ now then
      ((hat H 0).2 :: (tdA now f (stopH H 0) (stopK ks (hat H 0).2) (stopBs bs ks (hat H 0).2)).1, (tdA now f (stopH H 0) (stopK ks (hat H 0).2) (stopBs bs ks (hat H 0).2)).2)
    else ([], H, ks, bs)
def dueB (now : Int) (n : Nat) (ts : List Int) : Bool := decide (0 < n ∧ ts.getD 0 0 ≤ now)
def tdO (now : Int) (ts xs ks bs : List Int) : List Int := (tdA now ts.length (toH ts xs) ks bs).1
def tdL (now : Int) (ts xs ks bs : List Int) : List Tm := (tdA now ts.length (toH ts xs) ks bs).2.1
def tdK (now : Int) (ts xs ks bs : List Int) : List Int := (tdA now ts.length (toH ts xs) ks bs).2.2.1
def tdB (now : Int) (ts xs ks bs : List Int) : List Int := (tdA now ts.length (toH ts xs) ks bs).2.2.2
def sameB (xs ys : List Int) : Bool := decide (xs = ys)
end Go.Spec
namespace Go.Ev
open Go Go.Proofs Go.Spec
def wO (a b : Nat) : Option SO := obj 45 2 [.ref a, .ref b]
def rT (n : Nat) (ts xs : List Int) : Option SO := some (.own true .row 47 2 (.tab n [.ints .u64 ts, .ints .i64 xs]))
def rM (ks vs bs : List Int) (cl : Nat) : Option SO := some (.mt true (.ints .i64 ks) false [.ints .i64 vs] bs cl)
def wT (H : List Tm) : Option SO := rT H.length (atsH H) (idsH H)
def wM (H : List Tm) (ks bs : List Int) (cl : Nat) : Option SO := rM ks (posL H ks) bs cl
def unit0 : SV := .tup []
def rdW (st : St) (k : Bool → Nat → List Int → List Int → List Int → List Int → List Int → Nat → Prop) : Prop := match st with
  | [some (.mem w .whole 45 2 (.lst [[.ref 1, .ref 2]])), some (.own _ .row 47 2 (.tab n [.ints .u64 ts, .ints .i64 xs])), some (.mt _ (.ints .i64 ks) false [.ints .i64 vs] bs cl)] => k w n ts xs ks vs bs cl
  | _ => False
def sAh : SumT := fun args st k => match args, st with
  | [.agg [.raw (.int .u64 a), .raw (.int .i64 i)], .agg [.raw (.int .u64 b), .raw (.int .i64 j)]], [] => k (.sa (.one (bv (tltB a i b j)))) []
  | _, _ => False
def sSwap : SumT := fun args st k => match args, st with
  | [.one (.ptr 0 0 0), .one (.raw (.int .i64 i)), .one (.raw (.int .i64 j))], [some (.mem true .whole 45 2 (.lst [[.ref 1, .ref 2]])), some (.own true .row 47 2 (.tab n [.ints .u64 ts, .ints .i64 xs])), some (.mt true (.ints .i64 ks) false [.ints .i64 vs] bs cl)] =>
    need (wfB n ts xs ks vs bs cl && inB i n && inB j n) (k unit0 [wO 1 2, wT (swS ts xs i j), wM (swS ts xs i j) ks bs cl])
  | _, _ => False
def sUp : SumT := fun args st k => match args, st with
  | [.one (.ptr 0 0 0), .one (.raw (.int .i64 i))], [some (.mem true .whole 45 2 (.lst [[.ref 1, .ref 2]])), some (.own true .row 47 2 (.tab n [.ints .u64 ts, .ints .i64 xs])), some (.mt true (.ints .i64 ks) false [.ints .i64 vs] bs cl)] =>
    need (wfB n ts xs ks vs bs cl && inB i n) (k unit0 [wO 1 2, wT (upS ts xs i), wM (upS ts xs i) ks bs cl])
  | _, _ => False
def sDown : SumT := fun args st k => match args, st with
  | [.one (.ptr 0 0 0), .one (.raw (.int .i64 i))], [some (.mem true .whole 45 2 (.lst [[.ref 1, .ref 2]])), some (.own true .row 47 2 (.tab n [.ints .u64 ts, .ints .i64 xs])), some (.mt true (.ints .i64 ks) false [.ints .i64 vs] bs cl)] =>
    need (wfB n ts xs ks vs bs cl && inB i n) (k unit0 [wO 1 2, wT (downS ts xs i), wM (downS ts xs i) ks bs cl])
  | _, _ => False
def wrW : List (FuncId × Nat) := [(6, 2), (7, 2), (14, 2), (15, 2), (16, 2)]
noncomputable def cxA : Cx := mkCx Try.prog [] [] []
noncomputable def cxSw : Cx := mkCx Try.prog [] [] wrW
noncomputable def cxUp : Cx := mkCx Try.prog [(20, sAh), (15, sSwap)] [(14, 0, [0, 1], [])] wrW
noncomputable def cxDn : Cx := mkCx Try.prog [(20, sAh), (15, sSwap)] [(16, 0, [0, 1], [])] wrW
def sStop : SumT := fun args st k => match args, st with
  | [.one (.ptr 0 0 0), .one (.raw (.int .i64 x))], [some (.mem true .whole 45 2 (.lst [[.ref 1, .ref 2]])), some (.own true .row 47 2 (.tab n [.ints .u64 ts, .ints .i64 xs])), some (.mt true (.ints .i64 ks) false [.ints .i64 vs] bs cl)] =>
    need (wfB n ts xs ks vs bs cl) (branch (hasB x ks) (k (.sa (.one (bv true))) [wO 3 2, none, wM (stopS ts xs x) (stopK ks x) (stopBs bs ks x) cl, wT (stopS ts xs x)])
      (k (.sa (.one (bv false))) [wO 1 2, rT n ts xs, rM ks vs bs cl]))
  | _, _ => False
noncomputable def cxSe : Cx := mkCx Try.prog [(7, sStop), (14, sUp)] [] wrW
def sSet : SumT := fun args st k => match args, st with
  | [.one (.ptr 0 0 0), .one (.raw (.int .i64 x)), .one (.raw (.int .u64 a))], [some (.mem true .whole 45 2 (.lst [[.ref 1, .ref 2]])), some (.own true .row 47 2 (.tab n [.ints .u64 ts, .ints .i64 xs])), some (.mt true (.ints .i64 ks) false [.ints .i64 vs] bs cl)] =>
    need (wfB n ts xs ks vs bs cl && decide (n ≤ 999)) (k unit0 [wO 3 2, none, wM (setS ts xs ks x a) (setK ks x) (setBs bs ks x cl) (cl + 1), wT (setS ts xs ks x a)])
  | _, _ => False
noncomputable def cxTo : Cx := mkCx Try.prog [(7, sStop)] [(24, 0, [0, 1, 2], [])] wrW
def inO (xs : List Int) : Option SO := some (.own true .row 3 1 (.ints .i64 xs))
def sTold : SumT := fun args st k => match args, st with
  | [.one (.ptr 0 0 0), .one (.raw (.int .u64 now)), .one (.raw (.int .i64 m))], [some (.mem true .whole 45 2 (.lst [[.ref 1, .ref 2]])), some (.own true .row 47 2 (.tab n [.ints .u64 ts, .ints .i64 xs])), some (.mt true (.ints .i64 ks) false [.ints .i64 vs] bs cl)] =>
    need (wfB n ts xs ks vs bs cl && decide ((n : Int) < m)) (branch (dueB now n ts)
      (k (.sa (.one (.ref 3))) [wO 4 2, none, wM (tdL now ts xs ks bs) (tdK now ts xs ks bs) (tdB now ts xs ks bs) cl, inO (tdO now ts xs ks bs), wT (tdL now ts xs ks bs)])
      (k (.sa (.one (.raw (.slice none 0 0)))) [wO 1 2, rT n ts xs, rM ks vs bs cl]))
  | _, _ => False
def sSame : SumT := fun args st k => match args, st with
  | [.one (.raw (.slice none 0 0)), .one (.raw (.slice none 0 0))], [] => k (.sa (.one (bv true))) []
  | [.one (.ref 0), .one (.ref 1)], [some (.own w .row 3 1 (.ints .i64 xs)), some (.own v .row 3 1 (.ints .i64 ys))] => need (decide (xs.length ≤ 1000000)) (k (.sa (.one (bv (sameB xs ys)))) st)
  | _, _ => False
noncomputable def cxSm : Cx := mkCx Try.prog [] [(9, 4, [0, 1, 12, 13, 14], [])] wrW
def sTrue : SumT := fun args st k => match args, st with
  | [], [] => k (.sa (.one (bv true))) []
  | _, _ => False
def plO (n : Nat) (is at_ : List Int) : Option SO := some (.own false .ext 0 2 (.tab n [.ints .i64 is, .ints .u64 at_]))
def seO (xs : List Int) : Option SO := some (.own false .ext 0 1 (.ints .i64 xs))
def tuO (xs : List Int) : Option SO := some (.own false .ext 0 1 (.ints .u16 xs))
def rMu (ks vs bs : List Int) (cl : Nat) : Option SO := some (.mt true (.ints .i64 ks) false [.ints .u64 vs] bs cl)
def lfO (n : Nat) (xs ts : List Int) : Option SO := some (.own true .row 31 2 (.tab n [.ints .i64 xs, .ints .u64 ts]))
noncomputable def cxWh : Cx := { mkCx Try.prog [(4, sTrue), (6, sSet), (7, sStop), (10, sTold), (9, sSame)]
  [(3, 8, [0, 1, 2, 3, 9, 10, 46, 47, 48], [⟨9, [0], 43⟩]),
   (3, 15, [1, 2, 3, 9, 10, 13, 64, 65, 66], [⟨9, [0], 43⟩, ⟨13, [], 22⟩]),
   (3, 23, [2, 3, 9, 13, 89, 90, 91], [⟨13, [], 22⟩]),
   (3, 27, [2, 3, 9, 13, 19, 20, 89, 90, 91, 95, 96, 97], []),
   (3, 38, [2, 9, 13, 127, 128, 129], []),
   (3, 46, [2, 9, 13, 26, 159, 160, 161], [⟨26, [0], 43⟩])] wrW with tab := true }
noncomputable def cxSt : Cx := mkCx Try.prog [(14, sUp), (15, sSwap), (16, sDown)] [(7, 1000009, [0, 1, 5, 7], [⟨0, [0], 43⟩])] wrW
end Go.Ev
