/- Routes of any paths: what the methods do, as functions of the paths; summaries. Definitions alone. No conditions. -/
import Derived.Test.YtcdakjhcnamncaaRtD
set_option linter.unusedVariables false
namespace Go.Spec
open Go Go.Ev
/-- A path: its ends, tries, misses, whether it is down; its timer; its window. -/
structure Pa where
  f : Int
  t : Int
  tr : Int
  m : Int
  d : Bool
  x1 : Int
  x2 : Int
  x3 : Int
  x4 : Int
  x5 : Int
  b : Bool
  w1 : Int
  w2 : Int
  w3 : Int
  w4 : Int
def selI (I : Int) (j : Nat) (a b : Int) : Int := if I = (j : Int) then a else b
def selB (I : Int) (j : Nat) (a b : Bool) : Bool := if I = (j : Int) then a else b
def thereB (I : Int) (n : Nat) : Bool := decide (0 ≤ I) && decide (I < (n : Int))
def thI (I : Int) (n : Nat) (a b : Int) : Int := if thereB I n = true then a else b
def gtB (a b : Int) : Bool := decide (a > b)
def missP (I : Int) : List Pa → Nat → List Pa
  | [], _ => []
  | p :: r, j => ⟨p.f, p.t, p.tr, selI I j (addK .i64 p.m 1) p.m, selB I j (gtB (addK .i64 p.m 1) p.tr) p.d, p.x1, p.x2, p.x3, p.x4, p.x5, p.b, p.w1, p.w2, p.w3, p.w4⟩ :: missP I r (j + 1)
def missT (I : Int) : List Pa → Nat → Bool
  | [], _ => false
  | p :: r, j => selB I j (Bool.not (p.d == gtB (addK .i64 p.m 1) p.tr)) (missT I r (j + 1))
def lostB (I : Int) (n : Nat) (sil al : Int) : Bool := if thereB I n = true then gtB (addK .i64 sil 1) al else false
def hearP (I : Int) : List Pa → Nat → List Pa
  | [], _ => []
  | p :: r, j => ⟨p.f, p.t, p.tr, selI I j 0 p.m, selB I j false p.d, p.x1, p.x2, p.x3, p.x4, p.x5, p.b, p.w1, p.w2, p.w3, p.w4⟩ :: hearP I r (j + 1)
def hearT (I : Int) : List Pa → Nat → Bool
  | [], _ => false
  | p :: r, j => selB I j (Bool.not (p.d == false)) (hearT I r (j + 1))
/-- The first of these that is not down. -/
def firstU : List (Nat × Bool) → Nat → Nat
  | [], z => z
  | (j, d) :: r, z => if d = true then firstU r z else j
def rotL (ds : List Bool) (i : Nat) : List (Nat × Bool) := (List.range (ds.length - 1)).map fun k => ((i + 1 + k) % ds.length, ds.getD ((i + 1 + k) % ds.length) false)
def nextN (ds : List Bool) (i : Nat) : Nat := firstU (rotL ds i) ((i + 1) % ds.length)
def nextI (ds : List Bool) (I : Int) : Int := if thereB I ds.length = true then ((nextN ds I.toNat : Nat) : Int) else 0
def chooseI (ds : List Bool) (P : Int) : Int := if ds.getD P.toNat false = true then nextI ds P else P
def okN (n : Nat) : Bool := n == 1 || n == 2 || n == 3 || n == 4 || n == 6 || n == 9
def downs : List Pa → List Bool
  | [] => []
  | p :: r => p.d :: downs r
def lenP : List Pa → Nat
  | [] => 0
  | _ :: r => lenP r + 1
end Go.Spec
namespace Go.Ev
open Go Go.Proofs Go.Spec
def pO (p : Pa) (a b : Nat) : Option SO := obj 81 8 [iv .u32 p.f, iv .u32 p.t, .ptr a 0 0, .ptr b 0 0, iv .i64 p.tr, iv .i64 p.m, bv p.d, .raw (.slice none 0 0)]
def tO (p : Pa) : Option SO := obj 99 6 [iv .u64 p.x1, iv .u64 p.x2, iv .u64 p.x3, iv .u64 p.x4, iv .u64 p.x5, bv p.b]
def wO (p : Pa) : Option SO := obj 101 4 [iv .i64 p.w1, iv .i64 p.w2, iv .i64 p.w3, iv .i64 p.w4]
def pasO : List Pa → Nat → St
  | [], _ => []
  | p :: r, o => pO p (o + 1) (o + 2) :: tO p :: wO p :: pasO r (o + 3)
def ptrsO : List Pa → Nat → List (List SC)
  | [], _ => []
  | _ :: r, o => [.ptr o 0 0] :: ptrsO r (o + 3)
def rtO (a : Nat) (prim sil al : Int) : Option SO := obj 74 4 [.ref a, iv .i64 prim, iv .i64 sil, iv .i64 al]
def rowO (ps : List Pa) (o : Nat) : Option SO := some (.own true .row 44 1 (.lst (ptrsO ps o)))
def rtL (ps : List Pa) (prim sil al : Int) : St := rtO 1 prim sil al :: rowO ps 2 :: pasO ps 2
def rdPath (x : Option SO) (K : Int → Int → Nat → Nat → Int → Int → Bool → Prop) : Prop := match x with
  | some (.mem true .whole 81 8 (.lst [[.raw (.int .u32 f), .raw (.int .u32 t), .ptr a 0 0, .ptr b 0 0, .raw (.int .i64 tr), .raw (.int .i64 m), .raw (.bool d), .raw (.slice none 0 0)]])) => K f t a b tr m d
  | _ => False
def rdTm (x : Option SO) (K : Int → Int → Int → Int → Int → Bool → Prop) : Prop := match x with
  | some (.mem true .whole 99 6 (.lst [[.raw (.int .u64 x1), .raw (.int .u64 x2), .raw (.int .u64 x3), .raw (.int .u64 x4), .raw (.int .u64 x5), .raw (.bool b)]])) => K x1 x2 x3 x4 x5 b
  | _ => False
def rdWi (x : Option SO) (K : Int → Int → Int → Int → Prop) : Prop := match x with
  | some (.mem true .whole 101 4 (.lst [[.raw (.int .i64 w1), .raw (.int .i64 w2), .raw (.int .i64 w3), .raw (.int .i64 w4)]])) => K w1 w2 w3 w4
  | _ => False
def rdAll : List (List SC) → St → Nat → (List Pa → Prop) → Prop
  | [], [], _, K => K []
  | [.ptr q 0 0] :: rs, x :: y :: z :: r, o, K => match Nat.beq q o with
    | true => rdPath x fun f t a b tr m d => match Nat.beq a (o + 1), Nat.beq b (o + 2) with
      | true, true => rdTm y fun x1 x2 x3 x4 x5 bb => rdWi z fun w1 w2 w3 w4 => rdAll rs r (o + 3) fun l => K (⟨f, t, tr, m, d, x1, x2, x3, x4, x5, bb, w1, w2, w3, w4⟩ :: l)
      | _, _ => False
    | false => False
  | _, _, _, _ => False
def rdRt (st : St) (K : List Pa → Int → Int → Int → Prop) : Prop := match st with
  | some (.mem true .whole 74 4 (.lst [[.ref 1, .raw (.int .i64 prim), .raw (.int .i64 sil), .raw (.int .i64 al)]])) :: some (.own true .row 44 1 (.lst rows)) :: r => rdAll rows r 2 fun ps => K ps prim sil al
  | _ => False
def sMiss : SumT := fun args st k => match args with
  | [.one (.ptr 0 0 0), .one (.raw (.int .i64 I))] => rdRt st fun ps prim sil al => need (okN (lenP ps))
    (k (.tup [.one (bv (missT I ps 0)), .one (bv (lostB I (lenP ps) sil al))]) (rtL (missP I ps 0) prim (thI I (lenP ps) (addK .i64 sil 1) sil) al))
  | _ => False
def sHear : SumT := fun args st k => match args with
  | [.one (.ptr 0 0 0), .one (.raw (.int .i64 I))] => rdRt st fun ps prim sil al => need (okN (lenP ps))
    (k (.sa (.one (bv (hearT I ps 0)))) (rtL (hearP I ps 0) prim (thI I (lenP ps) 0 sil) al))
  | _ => False
def sPrim : SumT := fun args st k => match args with
  | [.one (.ptr 0 0 0), .one (.raw (.int .i64 I))] => rdRt st fun ps prim sil al => need (okN (lenP ps))
    (k (.sa (.one (iv .i64 (thI I (lenP ps) 0 4)))) (rtL ps (thI I (lenP ps) I prim) sil al))
  | _ => False
def sNext : SumT := fun args st k => match args with
  | [.one (.ptr 0 0 0), .one (.raw (.int .i64 I))] => rdRt st fun ps prim sil al => need (okN (lenP ps))
    (k (.sa (.one (iv .i64 (nextI (downs ps) I)))) (rtL ps prim sil al))
  | _ => False
/-- Which one of the n numbers from j on it is. -/
def swI : Nat → Nat → Int → (Int → Prop) → Prop
  | 0, _, _, _ => False
  | n + 1, j, v, K => branch (eqK v (j : Int)) (K (j : Int)) (swI n (j + 1) v K)
def sChoose : SumT := fun args st k => match args with
  | [.one (.ptr 0 0 0)] => rdRt st fun ps prim sil al => need (okN (lenP ps) && thereB prim (lenP ps))
    (swI (lenP ps) 0 (chooseI (downs ps) prim) fun v => k (.sa (.one (iv .i64 v))) (rtL ps prim sil al))
  | _ => False
def wrP : List (Nat × Nat) := [(10, 2), (11, 2), (21, 1), (32, 1), (33, 1), (45, 1)]
noncomputable def cxRp : Cx := mkCx Try.prog [] [] wrP
end Go.Ev
