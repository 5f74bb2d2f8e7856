/- Locks: what the calls that only look come to; all calls, with no locks too. Definitions alone. No conditions. -/
import Derived.Test.YtefkhlicocadcaaLkD
set_option linter.unusedVariables false
namespace Go.Spec
open Go Go.Ev
def newD : LkD := ⟨fun _ => none, fun _ => [], fun _ => none, fun _ => []⟩
def hoB (D : LkD) (c n : Int) : Bool := (D.ho (c, n)).isSome
def hoV (D : LkD) (c n : Int) : Int := (D.ho (c, n)).getD 0
def waB (D : LkD) (t : Int) : Bool := (D.wa t).isSome
def waC (D : LkD) (t : Int) : Int := ((D.wa t).getD (0, 0)).1
def waN (D : LkD) (t : Int) : Int := ((D.wa t).getD (0, 0)).2
def hsC (D : LkD) (t : Int) : List Int := (D.hs t).map (·.1)
def hsN (D : LkD) (t : Int) : List Int := (D.hs t).map (·.2)
/-- Who waits, waits for a lock that is held, by one that, if it waits, waits for a lock of a class above. -/
def Rise (D : LkD) : Prop := ∀ t l, D.wa t = some l → (1 ≤ l.1 ∧ l.1 ≤ 3) ∧ ∃ h, D.ho l = some h ∧ ∀ l', D.wa h = some l' → l.1 < l'.1
noncomputable def riseB (D : LkD) : Bool := @decide (Rise D) (Classical.propDecidable _)
def quL (D : LkD) (c n : Int) : List Int := D.qu (c, n)
def shortQ (D : LkD) (c n : Int) : Bool := decide ((D.qu (c, n)).length ≤ 1000000)
def shortH (D : LkD) (t : Int) : Bool := decide ((D.hs t).length ≤ 1000000)
end Go.Spec
namespace Go.Ev
open Go Go.Proofs Go.Spec
def sNew : SumT := fun args st k => match args, st with
  | [], [] => k (.sa (.one (.ref 0))) [some (.abs true 0 newD)]
  | _, _ => False
def sTk : SumT := fun args st k => match args with
  | [.one (.raw (.pointer none)), .one (.raw (.int .i64 t)), .agg [.raw (.int .u8 c), .raw (.int .i64 n)]] => (match st with
    | [] => k (.tup [.one (.raw (.bool false)), .one (.raw (.int .i64 1))]) []
    | _ => False)
  | args => sTake args st k
def sGv : SumT := fun args st k => match args with
  | [.one (.raw (.pointer none)), .one (.raw (.int .i64 t)), .agg [.raw (.int .u8 c), .raw (.int .i64 n)]] => (match st with
    | [] => k (.sa (.one (.raw (.int .i64 1)))) []
    | _ => False)
  | args => sGive args st k
def sHo : SumT := fun args st k => match args with
  | [.one (.raw (.pointer none)), .agg [.raw (.int .u8 c), .raw (.int .i64 n)]] => (match st with
    | [] => k (.tup [.one (.raw (.int .i64 0)), .one (.raw (.bool false))]) []
    | _ => False)
  | [.one (.ref 0), .agg [.raw (.int .u8 c), .raw (.int .i64 n)]] => (match st with
    | [some (.abs w x D)] => k (.tup [.one (.raw (.int .i64 (hoV D c n))), .one (.raw (.bool (hoB D c n)))]) [some (.abs w x D)]
    | _ => False)
  | _ => False
def sWa : SumT := fun args st k => match args with
  | [.one (.raw (.pointer none)), .one (.raw (.int .i64 t))] => (match st with
    | [] => k (.tup [.agg [.raw (.int .u8 0), .raw (.int .i64 0)], .one (.raw (.bool false))]) []
    | _ => False)
  | [.one (.ref 0), .one (.raw (.int .i64 t))] => (match st with
    | [some (.abs w x D)] => k (.tup [.agg [.raw (.int .u8 (waC D t)), .raw (.int .i64 (waN D t))], .one (.raw (.bool (waB D t)))]) [some (.abs w x D)]
    | _ => False)
  | _ => False
def sQu : SumT := fun args st k => match args with
  | [.one (.raw (.pointer none)), .agg [.raw (.int .u8 c), .raw (.int .i64 n)]] => (match st with
    | [] => k (.sa (.one (.raw (.slice none 0 0)))) []
    | _ => False)
  | [.one (.ref 0), .agg [.raw (.int .u8 c), .raw (.int .i64 n)]] => (match st with
    | [some (.abs w x D)] => need (shortQ D c n) (k (.sa (.one (.ref 1))) [some (.abs w x D), irow true (quL D c n)])
    | _ => False)
  | _ => False
def sHs : SumT := fun args st k => match args with
  | [.one (.raw (.pointer none)), .one (.raw (.int .i64 t))] => (match st with
    | [] => k (.sa (.one (.raw (.slice none 0 0)))) []
    | _ => False)
  | [.one (.ref 0), .one (.raw (.int .i64 t))] => (match st with
    | [some (.abs w x D)] => need (shortH D t) (k (.sa (.one (.ref 1))) [some (.abs w x D), lrow true (D.hs t).length (hsC D t) (hsN D t)])
    | _ => False)
  | _ => False
def sCy : SumT := fun args st k => match args with
  | [.one (.raw (.pointer none))] => (match st with
    | [] => k (.sa (.one (.raw (.bool false)))) []
    | _ => False)
  | [.one (.ref 0)] => (match st with
    | [some (.abs w x D)] => need (riseB D) (k (.sa (.one (.raw (.bool false)))) [some (.abs w x D)])
    | _ => False)
  | _ => False
noncomputable def cxCy : Cx := mkCx Try.prog [(16, sWa), (14, sHo)] [(21, 8, [0, 2, 3, 4, 13, 23, 24], [])] []
/-- Operations of a region. -/
def opsAt (P : Program) (f : FuncId) (way : List Nat) : List Oper := match codeAt P f way with
  | .region _ ops _ => ops.toList
  | _ => []
end Go.Ev
