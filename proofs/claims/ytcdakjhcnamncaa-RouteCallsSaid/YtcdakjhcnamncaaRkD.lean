/- Routes of any paths, the program's and the document's: what the methods do, as functions of the paths; summaries. Definitions alone. No conditions. -/
import Derived.Test.YtcdakjhcnamncaaRtD
set_option linter.unusedVariables false
namespace Go.Spec
open Go Go.Ev
/-- A path: its ends, tries, misses, whether it is down; its timer; its window. -/
structure Pa where
 f : Int
 t : Int
 tr : Int
 m : Int
 d : Bool
 x1 : Int
 x2 : Int
 x3 : Int
 x4 : Int
 x5 : Int
 b : Bool
 w1 : Int
 w2 : Int
 w3 : Int
 w4 : Int
/-- The path with other misses. -/
abbrev paW (p : Pa) (m : Int) (d : Bool) : Pa := ⟨p.f, p.t, p.tr, m, d, p.x1, p.x2, p.x3, p.x4, p.x5, p.b, p.w1, p.w2, p.w3, p.w4⟩
def selI (I : Int) (j : Nat) (a b : Int) : Int := if I = (j : Int) then a else b
def selB (I : Int) (j : Nat) (a b : Bool) : Bool := if I = (j : Int) then a else b
def thereB (I : Int) (n : Nat) : Bool := decide (0 ≤ I) && decide (I < (n : Int))
def thI (I : Int) (n : Nat) (a b : Int) : Int := if thereB I n = true then a else b
def gtB (a b : Int) : Bool := decide (a > b)
def missP (I : Int) : List Pa → Nat → List Pa
 | [], _ => []
 | p :: r, j => paW p (selI I j (addK .i64 p.m 1) p.m) (selB I j (gtB (addK .i64 p.m 1) p.tr) p.d) :: missP I r (j + 1)
def missT (I : Int) : List Pa → Nat → Bool
 | [], _ => false
 | p :: r, j => selB I j (Bool.not (p.d == gtB (addK .i64 p.m 1) p.tr)) (missT I r (j + 1))
def lostB (I : Int) (n : Nat) (sil al : Int) : Bool := if thereB I n = true then gtB (addK .i64 sil 1) al else false
def hearP (I : Int) : List Pa → Nat → List Pa
 | [], _ => []
 | p :: r, j => paW p (selI I j 0 p.m) (selB I j false p.d) :: hearP I r (j + 1)
def hearT (I : Int) : List Pa → Nat → Bool
 | [], _ => false
 | p :: r, j => selB I j (Bool.not (p.d == false)) (hearT I r (j + 1))
/-- The first of these that is not down. -/
def firstU : List (Nat × Bool) → Nat → Nat
 | [], z => z
 | (j, d) :: r, z => if d = true then firstU r z else j
def rotL (ds : List Bool) (i : Nat) : List (Nat × Bool) := (List.range (ds.length - 1)).map fun k => ((i + 1 + k) % ds.length, ds.getD ((i + 1 + k) % ds.length) false)
def nextN (ds : List Bool) (i : Nat) : Nat := firstU (rotL ds i) ((i + 1) % ds.length)
def nextI (ds : List Bool) (I : Int) : Int := if thereB I ds.length = true then ((nextN ds I.toNat : Nat) : Int) else 0
def stk {α : Type} : List Bool → α → α
 | [], x => x
 | d :: r, x => match d with
   | true => stk r x
   | false => stk r x
def chooseI (ds : List Bool) (P : Int) : Int := if ds.getD P.toNat false = true then nextI ds P else P
def nextS (ds : List Bool) (I : Int) : Int := stk ds (nextI ds I)
def chooseS (ds : List Bool) (P : Int) : Int := stk ds (chooseI ds P)
def okN (n : Nat) : Bool := n == 1 || n == 2 || n == 3 || n == 4 || n == 6 || n == 9
def downs : List Pa → List Bool
 | [] => []
 | p :: r => p.d :: downs r
def lenP : List Pa → Nat
 | [] => 0
 | _ :: r => lenP r + 1
/-- The document's path. -/
structure Ra where
 f : Int
 t : Int
 x1 : Int
 x2 : Int
 x3 : Int
 x4 : Int
 x5 : Int
 b : Bool
 w1 : Int
 w2 : Int
 w3 : Int
 w4 : Int
 tr : Int
 m : Int
 a : Bool
 o : Bool
 nb : Int
abbrev raW (p : Ra) (m : Int) (a : Bool) : Ra := ⟨p.f, p.t, p.x1, p.x2, p.x3, p.x4, p.x5, p.b, p.w1, p.w2, p.w3, p.w4, p.tr, m, a, p.o, p.nb⟩
def offB (g a : Bool) : Bool := match g with
 | true => false
 | false => a
def missR (I : Int) : List Ra → Nat → List Ra
 | [], _ => []
 | p :: r, j => raW p (selI I j (addK .i64 p.m 1) p.m) (selB I j (offB (gtB (addK .i64 p.m 1) p.tr) p.a) p.a) :: missR I r (j + 1)
def missRT (I : Int) : List Ra → Nat → Bool
 | [], _ => false
 | p :: r, j => selB I j (Bool.not (p.a == offB (gtB (addK .i64 p.m 1) p.tr) p.a)) (missRT I r (j + 1))
def hearR (I : Int) : List Ra → Nat → List Ra
 | [], _ => []
 | p :: r, j => raW p (selI I j 0 p.m) (selB I j true p.a) :: hearR I r (j + 1)
def hearRT (I : Int) : List Ra → Nat → Bool
 | [], _ => false
 | p :: r, j => selB I j (Bool.not p.a) (hearRT I r (j + 1))
def downR : List Ra → List Bool
 | [] => []
 | p :: r => Bool.not p.a :: downR r
def lenR : List Ra → Nat
 | [] => 0
 | _ :: r => lenR r + 1
end Go.Spec
namespace Go.Ev
open Go Go.Proofs Go.Spec
abbrev KT := SV → St → Prop
abbrev rI (x : Int) : SV := .sa (.one (iv .i64 x))
abbrev rB (b : Bool) : SV := .sa (.one (bv b))
abbrev sI (x : Int) : SV := .sa (.one (iv .i64 x))
abbrev p0A : List SA → List SA := fun l => .one (.ptr 0 0 0) :: l
def pO (p : Pa) (a b c : Nat) : Option SO := obj 81 8 [iv .u32 p.f, iv .u32 p.t, .ptr a 0 0, .ptr b 0 0, iv .i64 p.tr, iv .i64 p.m, bv p.d, .ref c]
def oO : Option SO := some (.own true .row 23 1 (.ints .u32 []))
def tO (p : Pa) : Option SO := obj 99 6 [iv .u64 p.x1, iv .u64 p.x2, iv .u64 p.x3, iv .u64 p.x4, iv .u64 p.x5, bv p.b]
def wO (p : Pa) : Option SO := obj 101 4 [iv .i64 p.w1, iv .i64 p.w2, iv .i64 p.w3, iv .i64 p.w4]
def pasO : List Pa → Nat → St
 | [], _ => []
 | p :: r, o => pO p (o + 1) (o + 2) (o + 3) :: tO p :: wO p :: oO :: pasO r (o + 4)
def ptrsO : List Pa → Nat → List (List SC)
 | [], _ => []
 | _ :: r, o => [.ptr o 0 0] :: ptrsO r (o + 4)
def rtO (a : Nat) (prim sil al : Int) : Option SO := obj 74 4 [.ref a, iv .i64 prim, iv .i64 sil, iv .i64 al]
def rowO (ps : List Pa) (o : Nat) : Option SO := some (.own true .row 44 1 (.lst (ptrsO ps o)))
def rtL (ps : List Pa) (prim sil al : Int) : St := rtO 1 prim sil al :: rowO ps 2 :: pasO ps 2
def rtLo (o : Nat) (ps : List Pa) (prim sil al : Int) : St := rtO (o + 1) prim sil al :: rowO ps (o + 2) :: pasO ps (o + 2)
abbrev paN (a b : Int) (x y z : Nat) (pt : Int) : Option SO := obj 81 8 [iv .u32 a, iv .u32 b, .ptr x 0 0, .ptr y 0 0, iv .i64 (IntKind.wrap .i64 pt), iv .i64 0, bv false, .ref z]
abbrev raN (a b mtu ri rmin rmax pt : Int) : Option SO := obj 67 17 [iv .u32 a, iv .u32 b, iv .u64 (IntKind.wrap .u64 rmin), iv .u64 (IntKind.wrap .u64 rmax), iv .u64 (IntKind.wrap .u64 ri), iv .u64 0, iv .u64 0, bv false, iv .i64 mtu, iv .i64 (mulK .i64 2 mtu), iv .i64 65536, iv .i64 0, iv .i64 (IntKind.wrap .i64 pt), iv .i64 0, bv true, bv false, iv .u32 0]
def rdPath (x : Option SO) (K : Int → Int → Nat → Nat → Nat → Int → Int → Bool → Prop) : Prop := match x with
 | some (.mem true .whole 81 8 (.lst [[.raw (.int .u32 f), .raw (.int .u32 t), .ptr a 0 0, .ptr b 0 0, .raw (.int .i64 tr), .raw (.int .i64 m), .raw (.bool d), .ref c]])) => K f t a b c tr m d
 | _ => False
def rdTm (x : Option SO) (K : Int → Int → Int → Int → Int → Bool → Prop) : Prop := match x with
 | some (.mem true .whole 99 6 (.lst [[.raw (.int .u64 x1), .raw (.int .u64 x2), .raw (.int .u64 x3), .raw (.int .u64 x4), .raw (.int .u64 x5), .raw (.bool b)]])) => K x1 x2 x3 x4 x5 b
 | _ => False
def rdWi (x : Option SO) (K : Int → Int → Int → Int → Prop) : Prop := match x with
 | some (.mem true .whole 101 4 (.lst [[.raw (.int .i64 w1), .raw (.int .i64 w2), .raw (.int .i64 w3), .raw (.int .i64 w4)]])) => K w1 w2 w3 w4
 | _ => False
def rdOut (x : Option SO) (K : Prop) : Prop := match x with
 | some (.own true .row 23 1 (.ints .u32 [])) => K
 | _ => False
def rdAll : List (List SC) → St → Nat → (List Pa → St → Prop) → Prop
 | [], st, _, K => K [] st
 | [.ptr q 0 0] :: rs, x :: y :: z :: u :: r, o, K => match Nat.beq q o with
   | true => rdPath x fun f t a b c tr m d => match Nat.beq a (o + 1), Nat.beq b (o + 2), Nat.beq c (o + 3) with
     | true, true, true => rdTm y fun x1 x2 x3 x4 x5 bb => rdWi z fun w1 w2 w3 w4 => rdOut u (rdAll rs r (o + 4) fun l s => K (⟨f, t, tr, m, d, x1, x2, x3, x4, x5, bb, w1, w2, w3, w4⟩ :: l) s)
     | _, _, _ => False
   | false => False
 | _, _, _, _ => False
def rdRtK (st : St) (K : List Pa → Int → Int → Int → St → Prop) : Prop := match st with
 | some (.mem true .whole 74 4 (.lst [[.ref 1, .raw (.int .i64 prim), .raw (.int .i64 sil), .raw (.int .i64 al)]])) :: some (.own true .row 44 1 (.lst rows)) :: r => rdAll rows r 2 fun ps s => K ps prim sil al s
 | _ => False
def noSt (st : St) (K : Prop) : Prop := match st with
 | [] => K
 | _ => False
def rdRt (st : St) (K : List Pa → Int → Int → Int → Prop) : Prop := rdRtK st fun ps prim sil al s => noSt s (K ps prim sil al)
def sMiss : SumT := fun args st k => match args with
 | [.one (.ptr 0 0 0), .one (.raw (.int .i64 I))] => rdRt st fun ps prim sil al => need (okN (lenP ps))
   (k (.tup [.one (bv (missT I ps 0)), .one (bv (lostB I (lenP ps) sil al))]) (rtL (missP I ps 0) prim (thI I (lenP ps) (addK .i64 sil 1) sil) al))
 | _ => False
def sHear : SumT := fun args st k => match args with
 | [.one (.ptr 0 0 0), .one (.raw (.int .i64 I))] => rdRt st fun ps prim sil al => need (okN (lenP ps))
   (k (.sa (.one (bv (hearT I ps 0)))) (rtL (hearP I ps 0) prim (thI I (lenP ps) 0 sil) al))
 | _ => False
def sPrim : SumT := fun args st k => match args with
 | [.one (.ptr 0 0 0), .one (.raw (.int .i64 I))] => rdRt st fun ps prim sil al => need (okN (lenP ps))
   (k (.sa (.one (iv .i64 (thI I (lenP ps) 0 4)))) (rtL ps (thI I (lenP ps) I prim) sil al))
 | _ => False
def sNext : SumT := fun args st k => match args with
 | [.one (.ptr 0 0 0), .one (.raw (.int .i64 I))] => rdRt st fun ps prim sil al => need (okN (lenP ps))
   (k (.sa (.one (iv .i64 (nextS (downs ps) I)))) (rtL ps prim sil al))
 | _ => False
def sChoose : SumT := fun args st k => match args with
 | [.one (.ptr 0 0 0)] => rdRt st fun ps prim sil al => need (okN (lenP ps) && thereB prim (lenP ps))
   (k (.sa (.one (iv .i64 (chooseS (downs ps) prim)))) (rtL ps prim sil al))
 | _ => False
def raO (p : Ra) : Option SO := obj 67 17 [iv .u32 p.f, iv .u32 p.t, iv .u64 p.x1, iv .u64 p.x2, iv .u64 p.x3, iv .u64 p.x4, iv .u64 p.x5, bv p.b, iv .i64 p.w1, iv .i64 p.w2, iv .i64 p.w3, iv .i64 p.w4, iv .i64 p.tr, iv .i64 p.m, bv p.a, bv p.o, iv .u32 p.nb]
def rasO : List Ra → St
 | [] => []
 | p :: r => raO p :: rasO r
def ptrsR : List Ra → Nat → List (List SC)
 | [], _ => []
 | _ :: r, o => [.ptr o 0 0] :: ptrsR r (o + 1)
def rfO (a : Nat) (prim sil al : Int) : Option SO := obj 59 4 [.ref a, iv .i64 prim, iv .i64 sil, iv .i64 al]
def rfRow (rs : List Ra) (o : Nat) : Option SO := some (.own true .row 68 1 (.lst (ptrsR rs o)))
/-- The document's routes, from object o on. -/
def rfL (o : Nat) (rs : List Ra) (prim sil al : Int) : St := rfO (o + 1) prim sil al :: rfRow rs (o + 2) :: rasO rs
def rdRa (x : Option SO) (K : Ra → Prop) : Prop := match x with
 | some (.mem true .whole 67 17 (.lst [c0 :: c1 :: c2 :: c3 :: c4 :: c5 :: c6 :: r])) => match c0, c1, c2, c3, c4, c5, c6 with
   | .raw (.int .u32 f), .raw (.int .u32 t), .raw (.int .u64 x1), .raw (.int .u64 x2), .raw (.int .u64 x3), .raw (.int .u64 x4), .raw (.int .u64 x5) => (match r with
     | [.raw (.bool b), .raw (.int .i64 w1), .raw (.int .i64 w2), .raw (.int .i64 w3), .raw (.int .i64 w4), .raw (.int .i64 tr), .raw (.int .i64 m), .raw (.bool a), .raw (.bool o), .raw (.int .u32 nb)] => K ⟨f, t, x1, x2, x3, x4, x5, b, w1, w2, w3, w4, tr, m, a, o, nb⟩
     | _ => False)
   | _, _, _, _, _, _, _ => False
 | _ => False
def rdAllR : List (List SC) → St → Nat → (List Ra → Prop) → Prop
 | [], [], _, K => K []
 | [.ptr q 0 0] :: rs, x :: r, o, K => match Nat.beq q o with
   | true => rdRa x fun p => rdAllR rs r (o + 1) fun l => K (p :: l)
   | false => False
 | _, _, _, _ => False
def rdRf (o : Nat) (st : St) (K : List Ra → Int → Int → Int → Prop) : Prop := match st with
 | some (.mem true .whole 59 4 (.lst [[.ref a, .raw (.int .i64 prim), .raw (.int .i64 sil), .raw (.int .i64 al)]])) :: some (.own true .row 68 1 (.lst rows)) :: r => match Nat.beq a (o + 1) with
   | true => rdAllR rows r (o + 2) fun rs => K rs prim sil al
   | false => False
 | _ => False
def sMissR : SumT := fun args st k => match args with
 | [.one (.ptr 0 0 0), .one (.raw (.int .i64 I))] => rdRf 0 st fun rs prim sil al => need (okN (lenR rs))
   (k (.tup [.one (bv (missRT I rs 0)), .one (bv (lostB I (lenR rs) sil al))]) (rfL 0 (missR I rs 0) prim (thI I (lenR rs) (addK .i64 sil 1) sil) al))
 | _ => False
def sHearR : SumT := fun args st k => match args with
 | [.one (.ptr 0 0 0), .one (.raw (.int .i64 I))] => rdRf 0 st fun rs prim sil al => need (okN (lenR rs))
   (k (.sa (.one (bv (hearRT I rs 0)))) (rfL 0 (hearR I rs 0) prim (thI I (lenR rs) 0 sil) al))
 | _ => False
def sNextR : SumT := fun args st k => match args with
 | [.one (.ptr 0 0 0), .one (.raw (.int .i64 I))] => rdRf 0 st fun rs prim sil al => need (okN (lenR rs))
   (k (.sa (.one (iv .i64 (nextS (downR rs) I)))) (rfL 0 rs prim sil al))
 | _ => False
def sChooseR : SumT := fun args st k => match args with
 | [.one (.ptr 0 0 0)] => rdRf 0 st fun rs prim sil al => need (okN (lenR rs) && thereB prim (lenR rs))
   (k (.sa (.one (iv .i64 (chooseS (downR rs) prim)))) (rfL 0 rs prim sil al))
 | _ => False
def wrP : List (Nat × Nat) := [(10, 2), (11, 2), (21, 1), (32, 1), (33, 1), (45, 1), (39, 2), (40, 2), (51, 1), (52, 1), (25, 2)]
noncomputable def cxRk : Cx := mkCx Try.prog [] [] wrP
end Go.Ev
