/- Is a message open on one of the streams? With a side that has asked nothing and answered nothing. Definitions alone. No conditions. -/
import Derived.Test.YtjeinfbicgpkiaaAlD
set_option linter.unusedVariables false
namespace Go.Spec
open Go Go.Ev
/-- Where the first stream stands on which something is open; -1: nowhere. -/
def idxOp (os : List Int) : List Int → Int → Int
  | [], _ => -1
  | x :: r, i => match decide (os.getD x.toNat 0 > 0) with
    | true => i
    | false => idxOp os r (i + 1)
def allLt (n : Nat) (xs : List Int) : Bool := xs.all (fun x => decide (0 ≤ x ∧ x < n))
end Go.Spec
namespace Go.Ev
open Go Go.Proofs Go.Spec
/-- The closure of may, the side behind it, of no question and no answer; from the third place on. -/
def sideA (os ps qs : List Int) (cum nx ex : Int) (u v t : Nat) : St := [obj 25 1 [.ptr 3 0 0], obj 92 6 [.sl 4 0 u none, .sl 5 0 v none, .sl 6 0 t none, .ptr 7 0 0, .ptr 9 0 0, .ptr 10 0 0],
  some (.mem true .whole 22 1 (.ints .u16 os)), some (.mem true .whole 22 1 (.ints .u16 ps)), some (.mem true .whole 22 1 (.ints .u16 qs)), obj 112 3 [iv .u32 cum, .ref 8, .raw (.slice none 0 0)], some (.mp true [] 0),
  obj 115 2 [iv .u32 nx, .raw (.pointer none)], obj 118 3 [iv .u32 ex, .ref 11, .raw (.pointer none)], some (.clo (.func 33) [.one (.ptr 3 0 0)] [])]
/-- Such a side read off a state, from its box on. -/
def rdA (rest : St) (f : List Int → List Int → List Int → Int → Int → Int → Nat → Nat → Nat → Prop) : Prop := match rest with
  | [b, s, o4, o5, o6, o7, o8, o9, o10, o11] => match b, s with
    | some (.mem true .whole 25 1 (.lst [[.ptr 3 0 0]])), some (.mem true .whole 92 6 (.lst [[.sl 4 0 u none, .sl 5 0 v none, .sl 6 0 t none, .ptr 7 0 0, .ptr 9 0 0, .ptr 10 0 0]])) => match o4, o5, o6 with
      | some (.mem true .whole 22 1 (.ints .u16 os)), some (.mem true .whole 22 1 (.ints .u16 ps)), some (.mem true .whole 22 1 (.ints .u16 qs)) => match o7, o8, o9 with
        | some (.mem true .whole 112 3 (.lst [[.raw (.int .u32 cum), .ref 8, .raw (.slice none 0 0)]])), some (.mp true [] 0), some (.mem true .whole 115 2 (.lst [[.raw (.int .u32 nx), .raw (.pointer none)]])) => match o10, o11 with
          | some (.mem true .whole 118 3 (.lst [[.raw (.int .u32 ex), .ref 11, .raw (.pointer none)]])), some (.clo (.func 33) [.one (.ptr 3 0 0)] []) => f os ps qs cum nx ex u v t
          | _, _ => False
        | _, _, _ => False
      | _, _, _ => False
    | _, _ => False
  | _ => False
def sIfM : SumT := fun args st k => match args, st with
  | [.one (.ref 0), .one (.ref 1)], some (.own w kk T 1 (.ints .u16 xs)) :: some (.clo (.func 54) [] [.one (.ptr 2 0 0)]) :: rest => rdA rest fun _ ps _ _ _ _ _ v _ =>
    need (decide (v = ps.length ∧ v ≤ 1000000 ∧ xs.length ≤ 1000000) && allLt ps.length xs) (k (.sa (.one (iv .i64 (idxOp ps xs 0)))) st)
  | _, _ => False
def sCoM : SumT := fun args st k => match args, st with
  | [.one (.ref 0), .one (.ref 1)], some (.own w kk T 1 (.ints .u16 xs)) :: some (.clo (.func 54) [] [.one (.ptr 2 0 0)]) :: rest => rdA rest fun _ ps _ _ _ _ _ v _ =>
    need (decide (v = ps.length ∧ v ≤ 1000000 ∧ xs.length ≤ 1000000) && allLt ps.length xs) (k (.sa (.one (bv (decide (idxOp ps xs 0 ≥ 0))))) st)
  | _, _ => False
noncomputable def cxCm : Cx := mkCx Try.prog [(57, sIfM)] [] []
noncomputable def cxIm : Cx := mkCx Try.prog [] [(57, 2, [0, 1, 7, 8], [])] []
end Go.Ev
