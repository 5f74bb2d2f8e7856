/- ConfAgree: what two sides are, and what is on its way, as states. Definitions alone. No conditions. -/
import Derived.Test.YtiplgpnegolegaaCaD
set_option linter.unusedVariables false
namespace Go.Spec
/-- A side: its own first address, the other's, the next number, the one that is due; its own addresses, the other's; the question that is out, the reply that is kept. -/
structure Sd where
  (f g nx ex : Int) (os ps : List Int) (o : Option (Int × Int × Int)) (kp : Option (Int × Int))
/-- Questions on their way. -/
structure Qt where
  (m : Nat) (n k a : List Int)
/-- Replies on their way. -/
structure Rt where
  (m : Nat) (n a : List Int)
structure Pr where
  (a b : Sd) (q0 q1 : Qt) (r0 r1 : Rt)
structure Ag where
  (xs ys : List Int) (n : Nat) (bs : List Bool) (ks ns cs as_ : List Int)
end Go.Spec
namespace Go.Ev
open Go Go.Proofs Go.Spec
def plc (x : Int) (m : Nat) : Int := remK (IntKind.wrap .i64 x) ((m : Nat) : Int)
def gtC (l : List Int) (x : Int) (m : Nat) : Int := List.getD l (0 + (Int.toNat (plc x m))) 0
def nO {α : Type} (x : Option α) : Nat := match x with | none => 0 | some _ => 1
def ptO {α : Type} (x : Option α) (i : Nat) : SC := match x with | none => .raw (.pointer none) | some _ => .ptr i 0 0
def e32 (xs : List Int) : Option SO := some (.own false .ext 0 1 (.ints .u32 xs))
def quO (o : Option (Int × Int × Int)) (r : St) : St := match o with
  | none => r
  | some c => obj 49 3 [iv .u32 c.1, iv .u8 c.2.1, iv .u32 c.2.2] :: r
def reO (o : Option (Int × Int)) (r : St) : St := match o with
  | none => r
  | some c => obj 53 2 [iv .u32 c.1, iv .u8 c.2] :: r
def sdN (s : Sd) : Nat := 6 + nO s.o + nO s.kp
def sdL (b : Nat) (s : Sd) (r : St) : St :=
  obj 89 6 [iv .u32 s.f, .ref (b + 1), iv .u32 s.g, .ref (b + 2), .ptr (b + 3) 0 0, .ptr (b + 4 + nO s.o) 0 0] :: e32 s.os :: e32 s.ps
    :: obj 102 2 [iv .u32 s.nx, ptO s.o (b + 4)]
    :: quO s.o (obj 105 3 [iv .u32 s.ex, .ref (b + 5 + nO s.o), ptO s.kp (b + 6 + nO s.o)]
      :: some (.clo (.func 36) [.one (.ptr b 0 0)] []) :: reO s.kp r)
def qtO (q : Qt) : Option SO := some (.own true .row 49 3 (.tab q.m [.ints .u32 q.n, .ints .u8 q.k, .ints .u32 q.a]))
def rtO (q : Rt) : Option SO := some (.own true .row 53 2 (.tab q.m [.ints .u32 q.n, .ints .u8 q.a]))
def prT (p : Pr) : Nat := 4 + sdN p.a + sdN p.b
def prL (E : Ag) (p : Pr) (r : St) : St :=
  e32 E.xs :: e32 E.ys :: mvO E.n E.bs E.ks E.ns E.cs E.as_
    :: obj 73 6 [.ptr 4 0 0, .ptr (4 + sdN p.a) 0 0, .ref (prT p), .ref (prT p + 1), .ref (prT p + 2), .ref (prT p + 3)]
    :: sdL 4 p.a (sdL (4 + sdN p.a) p.b (qtO p.q0 :: qtO p.q1 :: rtO p.r0 :: rtO p.r1 :: r))
def kS (E : Ag) : St := [e32 E.xs, e32 E.ys, mvO E.n E.bs E.ks E.ns E.cs E.as_]
def caFr (n : Nat) (i : Int) : Fr := frm 150 [(15, .sa (.one (.ptr 3 0 0))), (70, .sa (.one (.ref 2))), (71, .sa (.one (iv .i64 ((n : Nat) : Int)))), (72, .sa (.one (iv .i64 i)))]
def caFrD (n t : Nat) (i : Int) : Fr := frm 150 [(15, .sa (.one (.ptr 3 0 0))), (17, .sa (.one (.ptr t 0 0))), (70, .sa (.one (.ref 2))), (71, .sa (.one (iv .i64 ((n : Nat) : Int)))), (72, .sa (.one (iv .i64 i)))]
noncomputable def caK (M : Nat) (k : SV → St → Prop) : Exit → Fr → St → Prop := kBlock 0 (kSeq (ev cxCa (M + 73) 3 6 (codeAt Try.prog 6 [1, 1, 1, 1, 1, 1, 1])) (kRet (Cx.P cxCa) [(ResultVar.tmp 10)] 3 k))
noncomputable def caKl (L M : Nat) (k : SV → St → Prop) : Exit → Fr → St → Prop := kBlock 1 (kSeq (ev cxCa (L + 67) 3 6 (codeAt Try.prog 6 [1, 1, 1, 1, 1, 1, 0, 1, 0, 0, 1, 1, 1])) (kSeq (ev cxCa (L + 70) 3 6 (codeAt Try.prog 6 [1, 1, 1, 1, 1, 1, 0, 1, 0])) (caK M k)))
/-- The loop's head. -/
noncomputable def caH (E : Ag) (p : Pr) (i : Int) (L M : Nat) (k : SV → St → Prop) : Prop := ev cxCa (L + 71) 3 6 (codeAt Try.prog 6 [1, 1, 1, 1, 1, 1, 0, 1, 0]) (caFr E.n i) (prL E p []) (caK M k)
/-- Ahead of a move. -/
noncomputable def caD (E : Ag) (p : Pr) (b : Bool) (kd xn ck ca : Int) (i : Int) (L M : Nat) (k : SV → St → Prop) : Prop := ev cxCa (L + 64) 3 6 (codeAt Try.prog 6 [1, 1, 1, 1, 1, 1, 0, 1, 0, 0, 1, 1, 0, 0, 1, 0]) (caFrD E.n (prT p + 4) i) (prL E p [obj 76 5 [bv b, iv .u8 kd, iv .u16 xn, iv .u8 ck, iv .u32 ca]]) (kSeq (ev cxCa (L + 64) 3 6 (codeAt Try.prog 6 [1, 1, 1, 1, 1, 1, 0, 1, 0, 0, 1, 1, 0, 0, 1, 1])) (caKl L M k))
/-- Ahead of the look. -/
noncomputable def caG (E : Ag) (p : Pr) (i : Int) (L M : Nat) (k : SV → St → Prop) : Prop := ev cxCa (L + 63) 3 6 (codeAt Try.prog 6 [1, 1, 1, 1, 1, 1, 0, 1, 0, 0, 1, 1, 0, 0, 1, 1, 0]) (caFr E.n i) (prL E p []) (kSeq (ev cxCa (L + 63) 3 6 (codeAt Try.prog 6 [1, 1, 1, 1, 1, 1, 0, 1, 0, 0, 1, 1, 0, 0, 1, 1, 1])) (caKl L M k))
/-- Behind the loop. -/
noncomputable def caZ (E : Ag) (p : Pr) (M : Nat) (k : SV → St → Prop) : Prop := ev cxCa (M + 71) 3 6 (codeAt Try.prog 6 [1, 1, 1, 1, 1, 1, 1, 0, 0]) (frm 150 [(15, .sa (.one (.ptr 3 0 0)))]) (prL E p []) (kSeq (ev cxCa (M + 71) 3 6 (codeAt Try.prog 6 [1, 1, 1, 1, 1, 1, 1, 0, 1])) (kSeq (ev cxCa (M + 72) 3 6 (codeAt Try.prog 6 [1, 1, 1, 1, 1, 1, 1, 1])) (kRet (Cx.P cxCa) [(ResultVar.tmp 10)] 3 k)))
end Go.Ev
