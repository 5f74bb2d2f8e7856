/- What a side does when it is asked, with nothing asked and answered so far. Definitions alone. No conditions. -/
import Derived.Test.YtjeinfbicgpkiaaMaD
import Derived.Test.YtjeinfbicgpkiaaCl16D
set_option linter.unusedVariables false
namespace Go.Spec
open Go Go.Ev
/-- The numbers of some streams begun anew. -/
def resetL : List Int → List Int → List Int
  | [], qs => qs
  | x :: r, qs => resetL r (qs.set x.toNat 0)
def allOf (xs : List Int) (m : Nat) : List Int := match decide (0 < xs.length) with
  | true => xs
  | false => upI 0 m
def doB (kd m : Int) (xs : List Int) : Bool := eqK kd 1 && thereB m xs
def moB (kd m more : Int) : Bool := eqK kd 2 && decide (m + more ≤ 16)
end Go.Spec
namespace Go.Ev
open Go Go.Proofs Go.Spec
/-- Such a side, from the place of its own on: the slices it has. -/
def sideB (os ps qs : List Int) (cum nx ex : Int) (u v t : Nat) : St := [obj 92 6 [.sl 1 0 u none, .sl 2 0 v none, .sl 3 0 t none, .ptr 4 0 0, .ptr 6 0 0, .ptr 7 0 0],
  some (.mem true .whole 22 1 (.ints .u16 os)), some (.mem true .whole 22 1 (.ints .u16 ps)), some (.mem true .whole 22 1 (.ints .u16 qs)), obj 112 3 [iv .u32 cum, .ref 5, .raw (.slice none 0 0)], some (.mp true [] 0),
  obj 115 2 [iv .u32 nx, .raw (.pointer none)], obj 118 3 [iv .u32 ex, .ref 8, .raw (.pointer none)], some (.clo (.func 33) [.one (.ptr 0 0 0)] [])]
/-- The same, the streams in a row of their own, at the tenth place. -/
def sideC (os ps qs : List Int) (cum nx ex : Int) (u v : Nat) : St := [obj 92 6 [.sl 1 0 u none, .sl 2 0 v none, .ref 10, .ptr 4 0 0, .ptr 6 0 0, .ptr 7 0 0],
  some (.mem true .whole 22 1 (.ints .u16 os)), some (.mem true .whole 22 1 (.ints .u16 ps)), some (.mem true .whole 22 1 (.ints .u16 qs)), obj 112 3 [iv .u32 cum, .ref 5, .raw (.slice none 0 0)], some (.mp true [] 0),
  obj 115 2 [iv .u32 nx, .raw (.pointer none)], obj 118 3 [iv .u32 ex, .ref 8, .raw (.pointer none)], some (.clo (.func 33) [.one (.ptr 0 0 0)] [])]
def rdB (st : St) (f : List Int → List Int → List Int → Int → Int → Int → Nat → Nat → Nat → List Int → Prop) : Prop := match st with
  | [s, o4, o5, o6, o7, o8, o9, o10, o11, o12] => match s, o12 with
    | some (.mem true .whole 92 6 (.lst [[.sl 1 0 u none, .sl 2 0 v none, .sl 3 0 t none, .ptr 4 0 0, .ptr 6 0 0, .ptr 7 0 0]])), some (.own true .row 22 1 (.ints .u16 xs)) => match o4, o5, o6 with
      | some (.mem true .whole 22 1 (.ints .u16 os)), some (.mem true .whole 22 1 (.ints .u16 ps)), some (.mem true .whole 22 1 (.ints .u16 qs)) => match o7, o8, o9 with
        | some (.mem true .whole 112 3 (.lst [[.raw (.int .u32 cum), .ref 5, .raw (.slice none 0 0)]])), some (.mp true [] 0), some (.mem true .whole 115 2 (.lst [[.raw (.int .u32 nx), .raw (.pointer none)]])) => match o10, o11 with
          | some (.mem true .whole 118 3 (.lst [[.raw (.int .u32 ex), .ref 8, .raw (.pointer none)]])), some (.clo (.func 33) [.one (.ptr 0 0 0)] []) => f os ps qs cum nx ex u v t xs
          | _, _ => False
        | _, _, _ => False
      | _, _, _ => False
    | _, _ => False
  | _ => False
def sDoes : SumT := fun args st k => match args with
  | [.one (.ptr 0 0 0), .agg [.raw (.int .u8 kd), .ref 9, .raw (.int .u16 more)]] => rdB st fun os ps qs cum nx ex u v t xs =>
    need (decide (t = qs.length ∧ t ≤ 16 ∧ 0 ≤ more ∧ more ≤ 65535 ∧ xs.length ≤ 1000000) && okU16 xs)
      (branch (doB kd (t : Int) xs) (k (.sa (.one (iv .u8 1))) (sideB os ps (resetL (allOf xs t) qs) cum nx ex u v t ++ [own16 xs]))
        (branch (moB kd (t : Int) more) (branch (decide (more = 0)) (k (.sa (.one (iv .u8 1))) (sideB os ps qs cum nx ex u v t ++ [own16 xs]))
            (k (.sa (.one (iv .u8 1))) (sideC os ps qs cum nx ex u v ++ [own16 xs, own16 (qs ++ List.replicate more.toNat 0)])))
          (k (.sa (.one (iv .u8 2))) (sideB os ps qs cum nx ex u v t ++ [own16 xs]))))
  | _ => False
def wrD : List (FuncId × Nat) := [(33, 2), (15, 2), (18, 2), (20, 2), (41, 2), (45, 2), (43, 2)]
noncomputable def cxDs : Cx := mkCx Try.prog [(49, sThere), (46, sAll)] [(33, 3, [0, 28, 29, 30], [])] wrD
end Go.Ev
