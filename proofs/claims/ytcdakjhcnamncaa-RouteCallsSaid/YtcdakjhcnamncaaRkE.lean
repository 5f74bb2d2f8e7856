/- A call, told to the program's routes and to the document's: what is kept; the summary; contexts. Definitions alone. No conditions. -/
import Derived.Test.YtcdakjhcnamncaaRkD
set_option linter.unusedVariables false
namespace Go.Spec
open Go Go.Ev
def tellM (kd I : Int) (j : Nat) (m : Int) : Int := if kd = 0 then selI I j (addK .i64 m 1) m else if kd = 1 then selI I j 0 m else m
def tellD (kd I : Int) (j : Nat) (m tr : Int) (d : Bool) : Bool := if kd = 0 then selB I j (gtB (addK .i64 m 1) tr) d else if kd = 1 then selB I j false d else d
def tellA (kd I : Int) (j : Nat) (m tr : Int) (a : Bool) : Bool := if kd = 0 then selB I j (offB (gtB (addK .i64 m 1) tr) a) a else if kd = 1 then selB I j true a else a
def tellS (kd I : Int) (n : Nat) (sil : Int) : Int := if kd = 0 then thI I n (addK .i64 sil 1) sil else if kd = 1 then thI I n 0 sil else sil
def tellQ (kd I : Int) (n : Nat) (prim : Int) : Int := if kd = 2 then thI I n I prim else prim
def tellP (kd I : Int) : List Pa → Nat → List Pa
 | [], _ => []
 | p :: r, j => paW p (tellM kd I j p.m) (tellD kd I j p.m p.tr p.d) :: tellP kd I r (j + 1)
def tellR (kd I : Int) : List Ra → Nat → List Ra
 | [], _ => []
 | p :: r, j => raW p (tellM kd I j p.m) (tellA kd I j p.m p.tr p.a) :: tellR kd I r (j + 1)
/-- Does the document's path say the same? -/
def relB (b : Int) (p : Pa) (r : Ra) : Bool := decide (r.f = p.f ∧ r.t = p.t ∧ r.tr = p.tr ∧ r.m = p.m ∧ r.a = Bool.not p.d ∧ p.d = gtB p.m p.tr ∧ 0 ≤ p.m ∧ p.m ≤ b ∧ 0 ≤ p.tr)
def relS (b : Int) : List Pa → List Ra → Bool
 | [], [] => true
 | p :: a, r :: c => relB b p r && relS b a c
 | _, _ => false
def eqB3 (a b c d e f : Int) : Bool := decide (a = b ∧ c = d ∧ e = f)
/-- Which path has these ends. -/
def findA (f t : Int) : List Pa → Int → Int
 | [], _ => -1
 | p :: r, j => if p.f = f ∧ p.t = t then j else findA f t r (j + 1)
def stkP {α : Type} (x : Int) (a : α) : α := fI x fun _ => a
def findS (f t : Int) (ps : List Pa) : Int := stkP f (findA f t ps 0)
end Go.Spec
namespace Go.Ev
open Go Go.Proofs Go.Spec
def sTell : SumT := fun args st k => match args with
 | [.one (.ptr 0 0 0), .one (.ptr q 0 0), .agg [.raw (.int .u8 kd), .raw (.int .i64 I)]] => rdRtK st fun ps prim sil al s => match Nat.beq q (2 + 4 * lenP ps) with
   | true => rdRf q s fun rs prim2 sil2 al2 => need (okN (lenP ps) && relS 1000000 ps rs && eqB3 prim prim2 sil sil2 al al2)
     (k (.sa (.one (bv true))) (rtL (tellP kd I ps 0) (tellQ kd I (lenP ps) prim) (tellS kd I (lenP ps) sil) al ++ rfL q (tellR kd I rs 0) (tellQ kd I (lenP ps) prim2) (tellS kd I (lenP ps) sil2) al2))
   | false => False
 | _ => False
def sFind : SumT := fun args st k => match args with
 | [.one (.ptr 0 0 0), .one (.raw (.int .u32 f)), .one (.raw (.int .u32 t))] => rdRt st fun ps prim sil al => need (okN (lenP ps))
   (k (.sa (.one (iv .i64 (findS f t ps)))) (rtL ps prim sil al))
 | _ => False
noncomputable def cxTe : Cx := mkCx Try.prog [(10, sMiss), (11, sHear), (21, sPrim), (39, sMissR), (40, sHearR)] [] wrP
noncomputable def cxFi : Cx := mkCx Try.prog [] [(34, 2, [0, 10, 11, 12], [])] []
end Go.Ev
