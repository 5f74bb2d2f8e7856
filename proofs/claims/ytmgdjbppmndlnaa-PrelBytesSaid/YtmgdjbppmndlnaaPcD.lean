/- Things one behind the other in bytes: functions of numbers, summaries, contexts. Definitions alone. No conditions. -/
import Derived.Test.YtmgdjbppmndlnaaPbD
set_option linter.unusedVariables false
namespace Go.Spec
open Go Go.Ev
def lenT (ys : List Int) : Nat := (256 * ys.getD 2 0 + ys.getD 3 0).toNat
def up4 (n : Nat) : Nat := (n + 3) / 4 * 4
def zerosB (l : List Int) : Bool := l.all fun x => eqK x 0
/-- Does one begin here? -/
def oneB (ys : List Int) : Bool := decide (4 ≤ ys.length ∧ 4 ≤ lenT ys ∧ up4 (lenT ys) ≤ ys.length) && zerosB ((ys.drop (lenT ys)).take (up4 (lenT ys) - lenT ys))
def valT (ys : List Int) : List Int := (ys.take (lenT ys)).drop 4
/-- A thing: kind, flags, value. -/
abbrev Th := Int × Int × List Int
def kindT (ys : List Int) : Int := ys.getD 0 0
def flagT (ys : List Int) : Int := ys.getD 1 0
def thT (ys : List Int) : Th := (kindT ys, flagT ys, valT ys)
def byB (xs : List Int) : Bool := decide (xs.length ≤ 100000 ∧ ∀ x ∈ xs, 0 ≤ x ∧ x ≤ 255)
def onB (xs : List Int) (a : Int) : Bool := decide (0 ≤ a ∧ a ≤ (xs.length : Nat) ∧ a % 4 = 0)
def nextA (xs : List Int) (a : Int) : Int := a + ((up4 (lenT (xs.drop a.toNat)) : Nat) : Int)
/-- All things, and whether it ends well. -/
def parse : Nat → List Int → List Th × Bool
  | 0, _ => ([], false)
  | f + 1, ys => if ys.length = 0 then ([], true) else if oneB ys = true then (thT ys :: (parse f (ys.drop (up4 (lenT ys)))).1, (parse f (ys.drop (up4 (lenT ys)))).2) else ([], false)
def thsB (xs : List Int) : List Th := (parse (xs.length + 1) xs).1
def endsB (xs : List Int) : Bool := (parse (xs.length + 1) xs).2
def cntB (xs : List Int) : Nat := (thsB xs).length
def kindsB (xs : List Int) : List Int := (thsB xs).map fun x => x.1
def flagsB (xs : List Int) : List Int := (thsB xs).map fun x => x.2.1
def valsB (xs : List Int) : List (List Int) := (thsB xs).map fun x => x.2.2
def emptyB (xs : List Int) : Bool := decide (xs.length = 0)
def noThB (xs : List Int) : Bool := decide ((thsB xs).length = 0)
end Go.Spec
namespace Go.Ev
open Go Go.Proofs Go.Spec
def thR (n : Nat) (ks fs : List Int) (vs : List (List Int)) : Option SO := some (.own true .row 61 3 (.tab n [.ints .u16 ks, .ints .u8 fs, .data .u8 vs]))
def nilC : SC := .raw (.slice none 0 0)
def sList : SumT := fun args st k => match args, st with
  | [.one (.raw (.bool true)), .one (.ref 0)], [some (.own false .ext 0 1 (.ints .u8 xs))] => need (byB xs)
    (branch (endsB xs) (branch (emptyB xs) (k (.tup [.one nilC, .one (iv .i64 0)]) st) (k (.tup [.one (.ref 1), .one (iv .i64 0)]) [rdB false .ext 0 xs, thR (cntB xs) (kindsB xs) (flagsB xs) (valsB xs)])) (k (.tup [.one nilC, .one (iv .i64 40)]) st))
  | _, _ => False
def sAll : SumT := fun args st k => match args, st with
  | [.one (.raw (.bool true)), .one (.ref 0)], [some (.own false .ext 0 1 (.ints .u8 xs))] => need (byB xs)
    (k (.tup [.one (.ref 1), .one (bv (endsB xs))]) [rdB false .ext 0 xs, thR (cntB xs) (kindsB xs) (flagsB xs) (valsB xs)])
  | _, _ => False
noncomputable def cxLi : Cx := { mkCx Try.prog [(46, sClone8)] [(45, 1, [0, 1, 2, 4], [⟨4, [], 26⟩]), (45, 6, [0, 1, 2, 4, 5, 39, 40, 41], [])] [] with ice := true }
/-- One thing, by its place: the place is a multiple of 4. -/
def sOne : SumT := fun args st k => match args, st with
  | [.one (.raw (.bool true)), .one (.ref 0), .one (.raw (.int .i64 a))], [some (.own false .ext 0 1 (.ints .u8 xs))] => need (byB xs && onB xs a)
    (branch (oneB (xs.drop a.toNat))
      (k (.tup [.agg [iv .u16 (kindT (xs.drop a.toNat)), iv .u8 (flagT (xs.drop a.toNat)), .ref 1], .one (iv .i64 (nextA xs a)), .one (bv true)]) [rdB false .ext 0 xs, rdB true .row 5 (valT (xs.drop a.toNat))])
      (k (.tup [.agg [iv .u16 0, iv .u8 0, nilC], .one (iv .i64 a), .one (bv false)]) st))
  | _, _ => False
noncomputable def cxOn : Cx := mkCx Try.prog [(47, sNum)] [(37, 5, [0, 1, 2, 6, 9, 10], []), (37, 10, [0, 1, 2, 6, 9, 10, 11], []), (37, 1000015, [0, 1, 2, 6, 10, 12], [⟨12, [2], 26⟩])] []
noncomputable def cxAl : Cx := { mkCx Try.prog [(37, sOne)] [(23, 3, [0, 1, 6, 7], [⟨6, [], 63⟩])] [] with ice := true }
noncomputable def cxPt : Cx := mkCx Try.prog [(22, sList), (18, sRises)] [(8, 7, [2, 6, 7], [⟨6, [], 26⟩, ⟨7, [1], 23⟩])] []
noncomputable def cxRt : Cx := mkCx Try.prog [(23, sAll), (21, sRisR)] [(9, 12, [8, 9, 11, 12, 13], [⟨11, [], 28⟩, ⟨12, [], 28⟩])] []
end Go.Ev
