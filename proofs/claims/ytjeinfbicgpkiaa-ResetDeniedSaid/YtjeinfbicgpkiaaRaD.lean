/- What a side does with an answer. Definitions alone. No conditions. -/
import Derived.Test.YtjeinfbicgpkiaaDsD
set_option linter.unusedVariables false
namespace Go.Spec
open Go Go.Ev
def okQ (kd more : Int) : Bool := match eqK kd 2 with
  | true => decide (0 < more)
  | false => true
end Go.Spec
namespace Go.Ev
open Go Go.Proofs Go.Spec
def askO (c : SC) : Option SO := obj 115 2 [iv .u32 2, c]
def quO (kd more : Int) : Option SO := obj 48 4 [iv .u32 1, iv .u8 kd, .ref 8, iv .u16 more]
/-- A side of streams out, with a question that may be out; the slices of out and open are told. -/
def sideQ (a b c : SC) (os ps : List Int) (kd : Int) (xs : List Int) (more : Int) : St := [obj 92 6 [a, b, .sl 3 0 0 none, .ptr 4 0 0, .ptr 6 0 0, .ptr 9 0 0],
  some (.mem true .whole 22 1 (.ints .u16 os)), some (.mem true .whole 22 1 (.ints .u16 ps)), some (.mem true .whole 22 1 (.ints .u16 [])), obj 112 3 [iv .u32 0, .ref 5, .raw (.slice none 0 0)], some (.mp true [] 0),
  askO c, quO kd more, own16 xs, obj 118 3 [iv .u32 0, .ref 10, .raw (.pointer none)], some (.clo (.func 33) [.one (.ptr 0 0 0)] [])]
def nilP : SC := .raw (.pointer none)
def rdQ (st : St) (f : List Int → List Int → Nat → Nat → Int → List Int → Int → Prop) : Prop := match st with
  | [s, o1, o2, o3, o4, o5, o6, o7, o8, o9, o10] => match s, o8 with
    | some (.mem true .whole 92 6 (.lst [[.sl 1 0 u none, .sl 2 0 v none, .sl 3 0 0 none, .ptr 4 0 0, .ptr 6 0 0, .ptr 9 0 0]])), some (.own true .row 22 1 (.ints .u16 xs)) => match o1, o2, o3 with
      | some (.mem true .whole 22 1 (.ints .u16 os)), some (.mem true .whole 22 1 (.ints .u16 ps)), some (.mem true .whole 22 1 (.ints .u16 [])) => match o4, o5, o6 with
        | some (.mem true .whole 112 3 (.lst [[.raw (.int .u32 0), .ref 5, .raw (.slice none 0 0)]])), some (.mp true [] 0), some (.mem true .whole 115 2 (.lst [[.raw (.int .u32 2), .ptr 7 0 0]])) => match o7, o9, o10 with
          | some (.mem true .whole 48 4 (.lst [[.raw (.int .u32 1), .raw (.int .u8 kd), .ref 8, .raw (.int .u16 more)]])), some (.mem true .whole 118 3 (.lst [[.raw (.int .u32 0), .ref 10, .raw (.pointer none)]])), some (.clo (.func 33) [.one (.ptr 0 0 0)] []) => f os ps u v kd xs more
          | _, _, _ => False
        | _, _, _ => False
      | _, _, _ => False
    | _, _ => False
  | _ => False
def sAns : SumT := fun args st k => match args with
  | [.one (.ptr 0 0 0), .agg [.raw (.int .u32 1), .raw (.int .u8 ra)]] => rdQ st fun os ps u v kd xs more =>
    need (decide (u = os.length ∧ v = ps.length ∧ u ≤ 16 ∧ v ≤ 16 ∧ 0 ≤ more ∧ more ≤ 65535 ∧ xs.length ≤ 1000000) && (okQ kd more && allLt os.length xs))
      (branch (eqK ra 1) (branch (eqK kd 2)
          (k (.sa (.one (iv .i64 0))) (sideQ (.ref 11) (.ref 12) nilP os ps kd xs more ++ [own16 (os ++ List.replicate more.toNat 0), own16 (ps ++ List.replicate more.toNat 0)]))
          (k (.sa (.one (iv .i64 0))) (sideQ (.sl 1 0 u none) (.sl 2 0 v none) nilP (resetL (allOf xs u) os) ps kd xs more)))
        (k (.sa (.one (iv .i64 0))) (sideQ (.sl 1 0 u none) (.sl 2 0 v none) nilP os ps kd xs more)))
  | _ => False
noncomputable def cxAn : Cx := mkCx Try.prog [(46, sAll)] [(20, 12, [0, 72, 73, 74], [])] wrD
end Go.Ev
