/- Texts of this claim, merged. No conditions. -/
import Derived.Test.YtjeinfbicgpkiaaEvD
import Derived.Test.YtjeinfbicgpkiaaProg
set_option linter.unusedVariables false
set_option linter.unusedSimpArgs false
namespace Go.Spec
open Go Go.Ev
/-- Where the first one stands that is not less than m; -1: nowhere. -/
def idxGe (m : Int) : List Int → Int → Int
  | [], _ => -1
  | x :: r, i => match decide (x ≥ m) with
    | true => i
    | false => idxGe m r (i + 1)
/-- Are all of them less than m? -/
def thereB (m : Int) (xs : List Int) : Bool := Bool.not (decide (idxGe m xs 0 ≥ 0))
def okU16 (xs : List Int) : Bool := xs.all (fun x => decide (0 ≤ x ∧ x ≤ 65535))
/-- The numbers from i on, c of them. -/
def upI (i : Int) : Nat → List Int
  | 0 => []
  | c + 1 => i :: upI (i + 1) c
end Go.Spec
namespace Go.Ev
open Go Go.Proofs Go.Spec
def rd16 (xs : List Int) : Option SO := some (.own false .ext 0 1 (.ints .u16 xs))
def own16 (xs : List Int) : Option SO := some (.own true .row 22 1 (.ints .u16 xs))
/-- With the closure of there. -/
def sIdxF : SumT := fun args st k => match args, st with
  | [.one (.ref 0), .one (.ref 1)], [some (.own false .ext 0 1 (.ints .u16 xs)), some (.clo (.func 55) [] [.one (.ptr 2 0 0)]), some (.mem true .whole 3 1 (.lst [[.raw (.int .i64 m)]]))] =>
    need (decide (xs.length ≤ 1000000) && okU16 xs) (k (.sa (.one (iv .i64 (idxGe m xs 0)))) st)
  | _, _ => False
def sConF : SumT := fun args st k => match args, st with
  | [.one (.ref 0), .one (.ref 1)], [some (.own false .ext 0 1 (.ints .u16 xs)), some (.clo (.func 55) [] [.one (.ptr 2 0 0)]), some (.mem true .whole 3 1 (.lst [[.raw (.int .i64 m)]]))] =>
    need (decide (xs.length ≤ 1000000) && okU16 xs) (k (.sa (.one (bv (decide (idxGe m xs 0 ≥ 0))))) st)
  | _, _ => False
def fThere (vas : List VA) (k : SV → St → Prop) : Prop := match vas with
  | [.a (.one (.dat .u16 xs)), .a (.one (.raw (.int .i64 m)))] => need (decide (xs.length ≤ 1000000) && okU16 xs) (k (.sa (.one (bv (thereB m xs)))) [])
  | _ => False
def sThere : SumT := pureSum [.cells [some .u16], .cells []] fThere
noncomputable def cxIf : Cx := mkCx Try.prog [] [(57, 2, [0, 1, 7, 8], [])] []
noncomputable def cxCf : Cx := mkCx Try.prog [(57, sIdxF)] [] []
noncomputable def cxTh : Cx := mkCx Try.prog [(53, sConF)] [] []
end Go.Ev
namespace Go.Spec
open Go Go.Ev
/-- Did it come? -/
def hasB (cum : Int) (xs : List Int) (tsn : Int) : Bool := match decide (idxI tsn xs < xs.length) with
  | true => true
  | false => match eqK tsn cum with
    | true => true
    | false => match eqK (subK .u32 cum tsn) 0 with
      | true => false
      | false => decide (subK .u32 cum tsn < 2147483648)
/-- What comes next is taken from the set: the number, the set, the births. -/
def adv : Nat → Int → List Int → List Int → Int × List Int × List Int
  | 0, c, xs, bs => (c, xs, bs)
  | m + 1, c, xs, bs => match decide (idxI (addK .u32 c 1) xs < xs.length) with
    | true => adv m (addK .u32 c 1) (xs.eraseIdx (idxI (addK .u32 c 1) xs)) (bs.eraseIdx (idxI (addK .u32 c 1) xs))
    | false => (c, xs, bs)
def advA (tsn c : Int) (xs bs : List Int) (cl : Nat) : Int × List Int × List Int := adv (xs.length + 1) c (xs ++ [tsn]) (bs ++ [(cl : Int)])
end Go.Spec
namespace Go.Ev
open Go Go.Proofs Go.Spec
def setO (cum : Int) (r : Nat) : Option SO := obj 112 3 [iv .u32 cum, .ref r, .raw (.slice none 0 0)]
def mapS (xs bs : List Int) (cl : Nat) : Option SO := some (.mt true (.ints .u32 xs) true [] bs cl)
def sHasG : SumT := fun args st k => match args, st with
  | [.one (.ptr 0 0 0), .one (.raw (.int .u32 tsn))], [some (.mem w .whole 112 3 (.lst [[.raw (.int .u32 cum), .ref 1, .raw (.slice none 0 0)]])), some (.mt w2 (.ints .u32 xs) true [] bs cl)] => k (.sa (.one (bv (hasB cum xs tsn)))) st
  | _, _ => False
def sAddG : SumT := fun args st k => match args, st with
  | [.one (.ptr 0 0 0), .one (.raw (.int .u32 tsn))], [some (.mem true .whole 112 3 (.lst [[.raw (.int .u32 cum), .ref 1, .raw (.slice none 0 0)]])), some (.mt true (.ints .u32 xs) true [] bs cl)] =>
    need (Bool.not (hasB cum xs tsn) && decide (subK .u32 tsn cum ≤ 65535 ∧ xs.length ≤ 1000000))
      (k (.sa (.one (iv .u8 0))) [setO (advA tsn cum xs bs cl).1 1, mapS (advA tsn cum xs bs cl).2.1 (advA tsn cum xs bs cl).2.2 (cl + 1)])
  | _, _ => False
noncomputable def cxGh : Cx := mkCx Try.prog [] [] []
noncomputable def cxGa : Cx := mkCx Try.prog [(36, sHasG)] [(37, 10, [0], [])] [(37, 2)]
end Go.Ev
namespace Go.Ev
open Go Go.Proofs Go.Spec
def sAll : SumT := fun args st k => match args, st with
  | [.one (.ref 0), .one (.raw (.int .i64 m))], [some (.own w kk T 1 (.ints .u16 xs))] =>
    need (decide (0 ≤ m ∧ m ≤ 65535)) (branch (decide (0 < xs.length)) (k (.sa (.one (.ref 0))) st) (k (.sa (.one (.ref 1))) [some (.own w kk T 1 (.ints .u16 xs)), own16 (upI 0 m.toNat)]))
  | _, _ => False
noncomputable def cxAl : Cx := mkCx Try.prog [] [(46, 5, [5, 12, 13], [⟨5, [], 32⟩])] []
end Go.Ev
namespace Go.Spec
/-- A side: the numbers out, the open ones, the numbers in; up to where all came, what came ahead (its births, the clock); the next number asked, the next one due; the question that is out (its number, kind, streams, more), the reply that is kept. -/
structure Sr where
  (os ps qs : List Int) (cum : Int) (xs bs : List Int) (cl : Nat) (nx ex : Int) (o : Option (Int × Int × List Int × Int)) (kp : Option (Int × Int))
/-- Where the first stream stands on which something is open; -1: nowhere. -/
def idxOp (os : List Int) : List Int → Int → Int
  | [], _ => -1
  | x :: r, i => match decide (os.getD x.toNat 0 > 0) with
    | true => i
    | false => idxOp os r (i + 1)
def allLt (n : Nat) (xs : List Int) : Bool := xs.all (fun x => decide (0 ≤ x ∧ x < n))
end Go.Spec
namespace Go.Ev
open Go Go.Proofs Go.Spec
def nQ {α : Type} (x : Option α) : Nat := match x with | none => 0 | some _ => 1
def pQ {α : Type} (x : Option α) (i : Nat) : SC := match x with | none => .raw (.pointer none) | some _ => .ptr i 0 0
def quW (b : Nat) (o : Option (Int × Int × List Int × Int)) (r : St) : St := match o with
  | none => r
  | some c => obj 48 4 [iv .u32 c.1, iv .u8 c.2.1, .ref (b + 8), iv .u16 c.2.2.2] :: own16 c.2.2.1 :: r
def reW (o : Option (Int × Int)) (r : St) : St := match o with
  | none => r
  | some c => obj 54 2 [iv .u32 c.1, iv .u8 c.2] :: r
def nW (s : Sr) : Nat := 9 + 2 * nQ s.o + nQ s.kp
def askW (b : Nat) (nx : Int) {α : Type} (o : Option α) : Option SO := obj 115 2 [iv .u32 nx, pQ o (b + 7)]
/-- The doer, and what is behind it: it begins at place d; the side's at b. -/
def doW (b d : Nat) (ex : Int) (kp : Option (Int × Int)) (r : St) : St :=
  obj 118 3 [iv .u32 ex, .ref (d + 1), pQ kp (d + 2)] :: some (.clo (.func 33) [.one (.ptr b 0 0)] []) :: reW kp r
def sidO (b : Nat) (x y z d : Nat) : Option SO := obj 92 6 [.ref x, .ref y, .ref z, .ptr (b + 4) 0 0, .ptr (b + 6) 0 0, .ptr d 0 0]
def sideW (b : Nat) (s : Sr) (r : St) : St :=
  sidO b (b + 1) (b + 2) (b + 3) (b + 7 + 2 * nQ s.o) :: own16 s.os :: own16 s.ps :: own16 s.qs :: setO s.cum (b + 5) :: mapS s.xs s.bs s.cl :: askW b s.nx s.o :: quW b s.o (doW b (b + 7 + 2 * nQ s.o) s.ex s.kp r)
/-- Such a doer read off. -/
def rdDo (b d : Nat) (st : St) (f : Int → Option (Int × Int) → St → Prop) : Prop := match st with
  | some (.mem true .whole 118 3 (.lst [[.raw (.int .u32 ex), .ref d1, kc]])) :: some (.clo (.func 33) [.one (.ptr b1 0 0)] []) :: r => match Nat.beq d1 (d + 1) && Nat.beq b1 b with
    | true => match kc with
      | .raw (.pointer none) => f ex none r
      | .ptr d2 0 0 => match Nat.beq d2 (d + 2), r with
        | true, some (.mem true .whole 54 2 (.lst [[.raw (.int .u32 n), .raw (.int .u8 a)]])) :: r' => f ex (some (n, a)) r'
        | _, _ => False
      | _ => False
    | false => False
  | _ => False
def rdQu (b : Nat) (st : St) (f : Int → Option (Int × Int × List Int × Int) → Int → Option (Int × Int) → St → Prop) : Prop := match st with
  | some (.mem true .whole 115 2 (.lst [[.raw (.int .u32 nx), oc]])) :: r => match oc with
    | .raw (.pointer none) => rdDo b (b + 7) r fun ex kp r' => f nx none ex kp r'
    | .ptr p 0 0 => match Nat.beq p (b + 7), r with
      | true, some (.mem true .whole 48 4 (.lst [[.raw (.int .u32 n), .raw (.int .u8 kd), .ref j, .raw (.int .u16 mo)]])) :: some (.own true .row 22 1 (.ints .u16 ss)) :: r' => match Nat.beq j (b + 8) with
        | true => rdDo b (b + 9) r' fun ex kp r2 => f nx (some (n, kd, ss, mo)) ex kp r2
        | false => False
      | _, _ => False
    | _ => False
  | _ => False
/-- Such a side read off a state, and what stands behind it. -/
def rdSd (b : Nat) (st : St) (f : Sr → St → Prop) : Prop := match st with
  | some (.mem true .whole 92 6 (.lst [[.ref x1, .ref x2, .ref x3, .ptr x4 0 0, .ptr x6 0 0, .ptr x7 0 0]])) :: o1 :: o2 :: o3 :: r => match o1, o2, o3 with
    | some (.own true .row 22 1 (.ints .u16 os)), some (.own true .row 22 1 (.ints .u16 ps)), some (.own true .row 22 1 (.ints .u16 qs)) => match r with
      | some (.mem true .whole 112 3 (.lst [[.raw (.int .u32 cum), .ref y5, .raw (.slice none 0 0)]])) :: some (.mt true (.ints .u32 xs) true [] bs cl) :: r' =>
        match Nat.beq x1 (b + 1) && (Nat.beq x2 (b + 2) && (Nat.beq x3 (b + 3) && (Nat.beq x4 (b + 4) && (Nat.beq x6 (b + 6) && Nat.beq y5 (b + 5))))) with
        | true => rdQu b r' fun nx o ex kp r2 => match Nat.beq x7 (b + 7 + 2 * nQ o) with
          | true => f ⟨os, ps, qs, cum, xs, bs, cl, nx, ex, o, kp⟩ r2
          | false => False
        | false => False
      | _ => False
    | _, _, _ => False
  | _ => False
/-- Nothing stands behind it. -/
def lastW (r : St) (p : Prop) : Prop := match r with
  | [] => p
  | _ => False
/-- With the closure of may. -/
def sIfM : SumT := fun args st k => match args, st with
  | [.one (.ref 0), .one (.ref 1)], some (.own w kk T 1 (.ints .u16 xs)) :: some (.clo (.func 54) [] [.one (.ptr 2 0 0)]) :: some (.mem true .whole 25 1 (.lst [[.ptr 3 0 0]])) :: rest => rdSd 3 rest fun s r =>
    need (decide (s.ps.length ≤ 1000000 ∧ xs.length ≤ 1000000) && allLt s.ps.length xs) (lastW r (k (.sa (.one (iv .i64 (idxOp s.ps xs 0)))) st))
  | _, _ => False
def sCoM : SumT := fun args st k => match args, st with
  | [.one (.ref 0), .one (.ref 1)], some (.own w kk T 1 (.ints .u16 xs)) :: some (.clo (.func 54) [] [.one (.ptr 2 0 0)]) :: some (.mem true .whole 25 1 (.lst [[.ptr 3 0 0]])) :: rest => rdSd 3 rest fun s r =>
    need (decide (s.ps.length ≤ 1000000 ∧ xs.length ≤ 1000000) && allLt s.ps.length xs) (lastW r (k (.sa (.one (bv (decide (idxOp s.ps xs 0 ≥ 0))))) st))
  | _, _ => False
def mayS (w : Bool) (kk : MK) (T : TypeId) (xs : List Int) (s : Sr) : St := some (.own w kk T 1 (.ints .u16 xs)) :: some (.clo (.func 54) [] [.one (.ptr 2 0 0)]) :: obj 25 1 [.ptr 3 0 0] :: sideW 3 s []
noncomputable def cxCm : Cx := mkCx Try.prog [(57, sIfM)] [] []
noncomputable def cxIm : Cx := mkCx Try.prog [] [(57, 2, [0, 1, 7, 8], [])] []
end Go.Ev
namespace Go.Spec
open Go Go.Ev
/-- The numbers of some streams begun anew. -/
def resetL : List Int → List Int → List Int
  | [], qs => qs
  | x :: r, qs => resetL r (qs.set x.toNat 0)
def allOf (xs : List Int) (m : Nat) : List Int := match decide (0 < xs.length) with
  | true => xs
  | false => upI 0 m
def doB (kd m : Int) (xs : List Int) : Bool := eqK kd 1 && thereB m xs
def moB (kd m more : Int) : Bool := eqK kd 2 && decide (m + more ≤ 16)
end Go.Spec
namespace Go.Ev
open Go Go.Proofs Go.Spec
/-- A side, with its rows where they are. -/
def sideX (b : Nat) (s : Sr) (x y z : Nat) (r1 r2 r3 : Option SO) (r : St) : St :=
  sidO b x y z (b + 7 + 2 * nQ s.o) :: r1 :: r2 :: r3 :: setO s.cum (b + 5) :: mapS s.xs s.bs s.cl :: askW b s.nx s.o :: quW b s.o (doW b (b + 7 + 2 * nQ s.o) s.ex s.kp r)
def dsK (kd : Int) (j : Nat) (more : Int) (s : Sr) (r : St) (k : SV → St → Prop) : Prop := match r with
  | [some (.own false .ext 0 1 (.ints .u16 xs))] =>
    need (decide (j = nW s ∧ s.qs.length ≤ 16 ∧ 0 ≤ more ∧ more ≤ 65535 ∧ xs.length ≤ 1000000) && okU16 xs)
      (branch (doB kd ((s.qs.length : Nat) : Int) xs) (k (.sa (.one (iv .u8 1))) (sideW 0 { s with qs := resetL (allOf xs s.qs.length) s.qs } [rd16 xs]))
        (branch (moB kd ((s.qs.length : Nat) : Int) more) (k (.sa (.one (iv .u8 1))) (sideX 0 s 1 2 (nW s + 1) (own16 s.os) (own16 s.ps) none [rd16 xs, own16 (s.qs ++ List.replicate more.toNat 0)]))
          (k (.sa (.one (iv .u8 2))) (sideW 0 s [rd16 xs]))))
  | _ => False
def sDoes : SumT := fun args st k => match args with
  | [.one (.ptr 0 0 0), .agg [.raw (.int .u8 kd), .ref j, .raw (.int .u16 more)]] => rdSd 0 st fun s r => dsK kd j more s r k
  | _ => False
def wrR : List (FuncId × Nat) := [(37, 2), (33, 2), (15, 2), (18, 2), (20, 2), (41, 2), (45, 2), (43, 2), (53, 2)]
noncomputable def cxDs : Cx := mkCx Try.prog [(49, sThere), (46, sAll)] [(33, 3, [0, 28, 29, 30], [])] wrR
end Go.Ev
namespace Go.Ev
open Go Go.Proofs Go.Spec
/-- A side whose question is out, or is out no more; the rows of out and open where they are. -/
def sideY (x y : Nat) (r1 r2 : Option SO) (ac : SC) (s : Sr) (c : Int × Int × List Int × Int) (r : St) : St :=
  sidO 0 x y 3 9 :: r1 :: r2 :: own16 s.qs :: setO s.cum 5 :: mapS s.xs s.bs s.cl :: obj 115 2 [iv .u32 s.nx, ac] :: quW 0 (some c) (doW 0 9 s.ex s.kp r)
def nilP : SC := .raw (.pointer none)
def befQ (n rn : Int) : Bool := match eqK (subK .u32 n rn) 0 with
  | true => false
  | false => decide (subK .u32 n rn < 2147483648)
/-- Behind an answer: with or without the question. -/
def ansK (rn ra : Int) (s : Sr) (k : SV → St → Prop) : Prop := match s.o with
  | none => k (.sa (.one (iv .i64 4))) (sideW 0 s [])
  | some c => need (decide (s.os.length ≤ 16 ∧ s.ps.length ≤ 16 ∧ 0 ≤ c.2.2.2 ∧ c.2.2.2 ≤ 65535 ∧ c.2.2.1.length ≤ 1000000) && allLt s.os.length c.2.2.1)
    (branch (befQ c.1 rn) (k (.sa (.one (iv .i64 8))) (sideW 0 s []))
      (branch (eqK rn c.1)
        (branch (eqK ra 1)
          (branch (eqK c.2.1 2)
            (k (.sa (.one (iv .i64 0))) (sideY (11 + nQ s.kp) (12 + nQ s.kp) none none nilP s c [own16 (s.os ++ List.replicate c.2.2.2.toNat 0), own16 (s.ps ++ List.replicate c.2.2.2.toNat 0)]))
            (k (.sa (.one (iv .i64 0))) (sideY 1 2 (own16 (resetL (allOf c.2.2.1 s.os.length) s.os)) (own16 s.ps) nilP s c [])))
          (k (.sa (.one (iv .i64 0))) (sideY 1 2 (own16 s.os) (own16 s.ps) nilP s c [])))
        (k (.sa (.one (iv .i64 5))) (sideW 0 s []))))
def sAns : SumT := fun args st k => match args with
  | [.one (.ptr 0 0 0), .agg [.raw (.int .u32 rn), .raw (.int .u8 ra)]] => rdSd 0 st fun s r => lastW r (ansK rn ra s k)
  | _ => False
noncomputable def cxAn : Cx := mkCx Try.prog [(46, sAll)] [(20, 12, [0, 72, 73, 74], [])] wrR
end Go.Ev
namespace Go.Spec
open Go Go.Ev
/-- Where x stands first in a list; -1: nowhere. -/
def idxL (x : Int) : List Int → Int → Int
  | [], _ => -1
  | a :: r, i => match eqK x a with
    | true => i
    | false => idxL x r (i + 1)
def hasL (xs : List Int) (x : Int) : Bool := xs.contains x
end Go.Spec
namespace Go.Ev
open Go Go.Proofs Go.Spec
def fIdx (vas : List VA) (k : SV → St → Prop) : Prop := match vas with
  | [.a (.one (.dat .u16 xs)), .a (.one (.raw (.int .u16 x)))] => need (decide (xs.length ≤ 1000000)) (k (.sa (.one (iv .i64 (idxL x xs 0)))) [])
  | _ => False
def sIdx : SumT := pureSum [.cells [some .u16], .cells []] fIdx
def fHas (vas : List VA) (k : SV → St → Prop) : Prop := match vas with
  | [.a (.one (.dat .u16 xs)), .a (.one (.raw (.int .u16 x)))] => need (decide (xs.length ≤ 1000000)) (k (.sa (.one (bv (hasL xs x)))) [])
  | _ => False
def sHas : SumT := pureSum [.cells [some .u16], .cells []] fHas
noncomputable def cxIx : Cx := mkCx Try.prog [] [(56, 2, [0, 1, 7, 8], [])] []
noncomputable def cxHa : Cx := mkCx Try.prog [(56, sIdx)] [] []
end Go.Ev
namespace Go.Spec
def eqLL (xs ys : List Int) : Bool := decide (xs = ys)
end Go.Spec
namespace Go.Ev
open Go Go.Proofs Go.Spec
def fEql (vas : List VA) (k : SV → St → Prop) : Prop := match vas with
  | [.a (.one (.dat .u16 xs)), .a (.one (.dat .u16 ys))] => need (decide (xs.length ≤ 1000000 ∧ ys.length ≤ 1000000)) (k (.sa (.one (bv (eqLL xs ys)))) [])
  | _ => False
def sEql : SumT := pureSum [.cells [some .u16], .cells [some .u16]] fEql
noncomputable def cxEq : Cx := mkCx Try.prog [] [(22, 4, [0, 1, 12, 13], [])] []
end Go.Ev
namespace Go.Spec
open Go Go.Ev
structure Dr where
  (os ps qs cs : List Int) (is : Bool) (kd : Int) (ss : List Int) (mo nu nx ex kp : Int)
/-- Is a number among these? -/
def inR (v : Int) : List Int → Bool
  | [] => false
  | x :: r => match eqK x v with
    | true => true
    | false => inR v r
def inB (xs : List Int) (v : Int) : Bool := match inR v xs with
  | true => true
  | false => eqK ((xs.length : Nat) : Int) 0
def cameB (cs : List Int) (tsn cum : Int) : Bool := match decide (subK .u32 cum tsn < 2147483648) with
  | true => true
  | false => inR tsn cs
/-- Is something open on a stream that is meant, from the i-th on? -/
def opR (xs ps : List Int) : Nat → Nat → Bool
  | 0, _ => false
  | m + 1, i => match inB xs i && decide (ps.getD i 0 > 0) with
    | true => true
    | false => opR xs ps m (i + 1)
/-- The numbers of the streams that are meant begun anew, from the i-th on. -/
def clrR (xs : List Int) : Nat → Nat → List Int → List Int
  | 0, _, qs => qs
  | m + 1, i, qs => match inB xs i with
    | true => clrR xs m (i + 1) (qs.set i 0)
    | false => clrR xs m (i + 1) qs
/-- Is a wish none that may be asked? -/
def argB (wk wm : Int) (n : Nat) : Bool := match eqK wk 1 with
  | true => Bool.not (eqK wm 0)
  | false => match eqK wk 2 with
    | true => (match eqK wm 0 with
      | true => true
      | false => Bool.not (eqK ((n : Nat) : Int) 0))
    | false => true
def mayD (d : Dr) (wk : Int) (xs : List Int) (wm : Int) : Int := match argB wk wm xs.length with
  | true => 2
  | false => match decide ((d.os.length : Int) + wm > 16) with
    | true => 7
    | false => match thereB ((d.os.length : Nat) : Int) xs with
      | false => 4
      | true => match eqK wk 1 && opR xs d.ps d.os.length 0 with
        | true => 6
        | false => match d.is with
          | true => 6
          | false => 0
def moreOk (kd mo : Int) : Bool := match eqK kd 2 with
  | true => decide (0 < mo)
  | false => true
end Go.Spec
namespace Go.Ev
open Go Go.Proofs Go.Spec
def own32 (xs : List Int) : Option SO := some (.own true .row 23 1 (.ints .u32 xs))
def drO (b x y z c : Nat) (d : Dr) : Option SO := obj 37 12 [.ref x, .ref y, .ref z, .ref c, bv d.is, iv .u8 d.kd, .ref (b + 5), iv .u16 d.mo, iv .u32 d.nu, iv .u32 d.nx, iv .u32 d.ex, iv .u8 d.kp]
def drW (b : Nat) (d : Dr) (r : St) : St := drO b (b + 1) (b + 2) (b + 3) (b + 4) d :: own16 d.os :: own16 d.ps :: own16 d.qs :: own32 d.cs :: rd16 d.ss :: r
def drX (x y z : Nat) (d : Dr) (r1 r2 r3 : Option SO) (r : St) : St := drO 0 x y z 4 d :: r1 :: r2 :: r3 :: own32 d.cs :: rd16 d.ss :: r
def fIn (vas : List VA) (k : SV → St → Prop) : Prop := match vas with
  | [.a (.one (.dat .u16 xs)), .a (.one (.raw (.int .i64 v)))] => need (decide (xs.length ≤ 1000000) && okU16 xs) (k (.sa (.one (bv (inB xs v)))) [])
  | _ => False
def sIn : SumT := pureSum [.cells [some .u16], .cells []] fIn
def fThR (vas : List VA) (k : SV → St → Prop) : Prop := match vas with
  | [.a (.one (.dat .u16 xs)), .a (.one (.raw (.int .i64 m)))] => need (decide (xs.length ≤ 1000000) && okU16 xs) (k (.sa (.one (bv (thereB m xs)))) [])
  | _ => False
def sThR : SumT := pureSum [.cells [some .u16], .cells []] fThR
def rdDr (b : Nat) (st : St) (f : Dr → St → Prop) : Prop := match st with
  | some (.mem true .whole 37 12 (.lst [[.ref x1, .ref x2, .ref x3, .ref x4, .raw (.bool is), .raw (.int .u8 kd), .ref x5, .raw (.int .u16 mo), .raw (.int .u32 nu), .raw (.int .u32 nx), .raw (.int .u32 ex), .raw (.int .u8 kp)]])) :: o1 :: o2 :: o3 :: r => match o1, o2, o3 with
    | some (.own true .row 22 1 (.ints .u16 os)), some (.own true .row 22 1 (.ints .u16 ps)), some (.own true .row 22 1 (.ints .u16 qs)) => match r with
      | some (.own true .row 23 1 (.ints .u32 cs)) :: some (.own false .ext 0 1 (.ints .u16 ss)) :: r' =>
        match Nat.beq x1 (b + 1) && (Nat.beq x2 (b + 2) && (Nat.beq x3 (b + 3) && (Nat.beq x4 (b + 4) && Nat.beq x5 (b + 5)))) with
        | true => f ⟨os, ps, qs, cs, is, kd, ss, mo, nu, nx, ex, kp⟩ r'
        | false => False
      | _ => False
    | _, _, _ => False
  | _ => False
def sCame : SumT := fun args st k => match args with
  | [.one (.ptr 0 0 0), .one (.raw (.int .u32 tsn)), .one (.raw (.int .u32 cum))] => rdDr 0 st fun d r => need (decide (d.cs.length ≤ 1000000)) (lastW r (k (.sa (.one (bv (cameB d.cs tsn cum)))) (drW 0 d [])))
  | _ => False
def myK (wk : Int) (j : Nat) (wm : Int) (d : Dr) (r : St) (k : SV → St → Prop) : Prop := match r with
  | [some (.own false .ext 0 1 (.ints .u16 xs))] => need (decide (j = 6 ∧ 0 ≤ wm ∧ wm ≤ 65535 ∧ xs.length ≤ 1000000 ∧ d.os.length ≤ 16 ∧ d.os.length = d.ps.length) && okU16 xs) (k (.sa (.one (iv .i64 (mayD d wk xs wm)))) (drW 0 d [rd16 xs]))
  | _ => False
def sMayD : SumT := fun args st k => match args with
  | [.one (.ptr 0 0 0), .agg [.raw (.int .u8 wk), .ref j, .raw (.int .u16 wm)]] => rdDr 0 st fun d r => myK wk j wm d r k
  | _ => False
def doK (wk : Int) (j : Nat) (wm : Int) (d : Dr) (r : St) (k : SV → St → Prop) : Prop := match r with
  | [some (.own false .ext 0 1 (.ints .u16 xs))] => need (decide (j = 6 ∧ 0 ≤ wm ∧ wm ≤ 65535 ∧ xs.length ≤ 1000000 ∧ d.qs.length ≤ 16) && okU16 xs)
    (branch (doB wk ((d.qs.length : Nat) : Int) xs) (k (.sa (.one (iv .u8 1))) (drW 0 { d with qs := clrR xs d.qs.length 0 d.qs } [rd16 xs]))
      (branch (moB wk ((d.qs.length : Nat) : Int) wm)
        (branch (decide (0 < wm)) (k (.sa (.one (iv .u8 1))) (drX 1 2 7 d (own16 d.os) (own16 d.ps) none [rd16 xs, own16 (d.qs ++ List.replicate wm.toNat 0)]))
          (k (.sa (.one (iv .u8 1))) (drW 0 d [rd16 xs])))
        (k (.sa (.one (iv .u8 2))) (drW 0 d [rd16 xs]))))
  | _ => False
def sDoD : SumT := fun args st k => match args with
  | [.one (.ptr 0 0 0), .agg [.raw (.int .u8 wk), .ref j, .raw (.int .u16 wm)]] => rdDr 0 st fun d r => doK wk j wm d r k
  | _ => False
def bkK (a : Int) (d : Dr) (k : SV → St → Prop) : Prop := need (decide (0 ≤ d.mo ∧ d.mo ≤ 65535 ∧ d.ss.length ≤ 1000000 ∧ d.os.length ≤ 16 ∧ d.ps.length ≤ 16) && (okU16 d.ss && moreOk d.kd d.mo))
  (branch (eqK a 1)
    (branch (eqK d.kd 2)
      (k (.tup []) (drX 6 7 3 { d with is := false } none none (own16 d.qs) [own16 (d.os ++ List.replicate d.mo.toNat 0), own16 (d.ps ++ List.replicate d.mo.toNat 0)]))
      (k (.tup []) (drW 0 { d with is := false, os := clrR d.ss d.os.length 0 d.os } [])))
    (k (.tup []) (drW 0 { d with is := false } [])))
def sBack : SumT := fun args st k => match args with
  | [.one (.ptr 0 0 0), .one (.raw (.int .u8 a))] => rdDr 0 st fun d r => lastW r (bkK a d k)
  | _ => False
noncomputable def cxIn : Cx := mkCx Try.prog [] [(35, 2, [0, 1, 5], [])] []
noncomputable def cxTr : Cx := mkCx Try.prog [] [(42, 2, [0, 1, 5], [])] []
noncomputable def cxCa : Cx := mkCx Try.prog [] [(38, 4, [0, 1, 2, 7], [])] []
noncomputable def cxMy : Cx := mkCx Try.prog [(35, sIn), (42, sThR)] [(16, 8, [0, 3, 5], [])] []
def wrD : List (FuncId × Nat) := [(19, 2), (21, 2), (11, 2), (14, 2), (17, 2)]
noncomputable def cxDo : Cx := mkCx Try.prog [(35, sIn), (42, sThR)] [(19, 3, [0, 3, 5], []), (19, 10, [0, 3, 6], [⟨0, [2], 32⟩])] wrD
noncomputable def cxBk : Cx := mkCx Try.prog [(35, sIn)] [(21, 4, [0, 4], [⟨0, [0], 32⟩, ⟨0, [1], 32⟩]), (21, 9, [0, 5], [])] wrD
end Go.Ev
namespace Go.Spec
open Go Go.Ev
def mayR (s : Sr) (wk : Int) (xs : List Int) (wm : Int) : Int := match argB wk wm xs.length with
  | true => 2
  | false => match decide ((s.os.length : Int) + wm > 16) with
    | true => 7
    | false => match thereB ((s.os.length : Nat) : Int) xs with
      | false => 4
      | true => match eqK wk 1 && decide (idxOp s.ps (allOf xs s.os.length) 0 ≥ 0) with
        | true => 6
        | false => 0
end Go.Spec
namespace Go.Ev
open Go Go.Proofs Go.Spec
def maK (wk : Int) (j : Nat) (wm : Int) (s : Sr) (r : St) (k : SV → St → Prop) : Prop := match r with
  | [some (.own false .ext 0 1 (.ints .u16 xs))] =>
    need (decide (j = nW s ∧ s.os.length ≤ 16 ∧ s.os.length = s.ps.length ∧ 0 ≤ wm ∧ wm ≤ 65535 ∧ xs.length ≤ 1000000) && okU16 xs)
      (k (.sa (.one (iv .i64 (mayR s wk xs wm)))) (sideW 0 s [rd16 xs]))
  | _ => False
def sMa : SumT := fun args st k => match args with
  | [.one (.ptr 0 0 0), .agg [.raw (.int .u8 wk), .ref j, .raw (.int .u16 wm)]] => rdSd 0 st fun s r => maK wk j wm s r k
  | _ => False
noncomputable def cxMa : Cx := mkCx Try.prog [(49, sThere), (46, sAll), (53, sCoM)] [] wrR
end Go.Ev
namespace Go.Ev
open Go Go.Proofs
def fClone16 (vas : List VA) (k : SV → St → Prop) : Prop := match vas with
  | [.a (.one (.dat .u16 xs))] => need (decide (xs.length ≤ 70368744177664)) (k (.sa (.one (.ref 0))) [some (.own true .row 22 1 (.ints .u16 xs))])
  | _ => False
def sClone16 : SumT := pureSum [.cells [some .u16]] fClone16
noncomputable def cxCl16 : Cx := mkCx Try.prog [] [] []
end Go.Ev
namespace Go.Spec
open Go Go.Ev
def heavyR (s : Int) : List (List Int) → Bool
  | [] => false
  | x :: r => match decide (s + (1 + ((x.length : Nat) : Int)) > 500) with
    | true => true
    | false => heavyR (s + (1 + ((x.length : Nat) : Int))) r
def okWs (wss : List (List Int)) : Bool := wss.all (fun x => decide (x.length ≤ 140737488355328))
/-- A call. -/
structure Ca where
  (kd sid ssn tsn by_ wk : Int) (ws : List Int) (wm a : Int)
structure Ls where
  (n : Nat) (kds sids ssns tsns bys wks : List Int) (wss : List (List Int)) (wms rs : List Int)
end Go.Spec
namespace Go.Ev
open Go Go.Proofs Go.Spec
def lsO (l : Ls) : Option SO := some (.own false .ext 0 9 (.tab l.n [.ints .u8 l.kds, .ints .u16 l.sids, .ints .u16 l.ssns, .ints .u32 l.tsns, .ints .u32 l.bys, .ints .u8 l.wks, .data .u16 l.wss, .ints .u16 l.wms, .ints .u8 l.rs]))
def sTrue : SumT := fun args st k => match args, st with
  | [], [] => k (.sa (.one (bv true))) []
  | _, _ => False
def sHeavyR : SumT := fun args st k => match args, st with
  | [.one (.ref 0)], [some (.own false .ext 0 9 (.tab n [.ints .u8 kds, .ints .u16 sids, .ints .u16 ssns, .ints .u32 tsns, .ints .u32 bys, .ints .u8 wks, .data .u16 wss, .ints .u16 wms, .ints .u8 rs]))] =>
    need (decide (wss.length = n ∧ n ≤ 140737488355328) && okWs wss) (k (.sa (.one (bv (heavyR 0 wss)))) st)
  | _, _ => False
noncomputable def cxHv : Cx := mkCx Try.prog [] [(9, 3, [3, 6, 7, 8], [])] []
def sumsR : List (FuncId × SumT) := [(8, sTrue), (9, sHeavyR), (49, sThere), (46, sAll), (53, sCoM), (50, sHas), (22, sEql), (40, sClone16), (36, sHasG), (37, sAddG), (33, sDoes), (39, sMa), (20, sAns), (35, sIn), (42, sThR), (38, sCame), (16, sMayD), (19, sDoD), (21, sBack)]
def tidR : List Tidy := [⟨9, [0], 32⟩, ⟨9, [1], 32⟩, ⟨9, [2], 32⟩, ⟨11, [0], 32⟩, ⟨11, [1], 32⟩, ⟨11, [2], 32⟩, ⟨11, [3], 33⟩, ⟨11, [6], 1000000 + 32⟩]
def wrX : List (FuncId × Nat) := [(7, 1), (30, 1), (31, 1), (32, 1), (10, 2), (12, 2), (13, 2)] ++ (wrD ++ wrR)
noncomputable def cxRp : Cx := { mkCx Try.prog sumsR [(3, 8, [2, 9, 11, 69, 70, 71], tidR), (3, 1000012, [2, 9, 11, 13, 14, 15, 69, 70, 71], []), (3, 1000037, [2, 9, 11, 14, 24, 25, 26, 69, 70, 71], []), (3, 1000051, [2, 9, 11, 15, 69, 70, 71], tidR)] wrX with tab := true }
def hdW (l : Ls) (s : Sr) (d : Dr) (r : St) : St := lsO l :: sideW 1 s (drW (1 + nW s) d r)
def frH (l : Ls) (s : Sr) (cum i : Int) : Fr := frm 369 [(2, (.sa (.one (iv .u32 cum)))), (9, (.sa (.one (SC.ptr 1 0 0)))), (11, (.sa (.one (SC.ptr (1 + nW s) 0 0)))), (69, (.sa (.one (SC.ref 0)))), (70, (.sa (.one (iv .i64 ((l.n : Nat) : Int))))), (71, (.sa (.one (iv .i64 i))))]
/-- A call and its wish, behind a state of e objects. -/
def caO (e : Nat) (c : Ca) : St := [obj 40 9 [iv .u8 c.kd, iv .u16 c.sid, iv .u16 c.ssn, iv .u32 c.tsn, iv .u32 c.by_, iv .u8 c.wk, .ref (e + 1), iv .u16 c.wm, iv .u8 c.a], rd16 c.ws, obj 35 3 [iv .u8 c.wk, .ref (e + 1), iv .u16 c.wm]]
def caW (l : Ls) (s : Sr) (d : Dr) (c : Ca) : St := hdW l s d (caO (7 + nW s) c)
def frA (l : Ls) (s : Sr) (cum i : Int) : Fr := frm 369 [(2, (.sa (.one (iv .u32 cum)))), (9, (.sa (.one (SC.ptr 1 0 0)))), (11, (.sa (.one (SC.ptr (1 + nW s) 0 0)))), (13, (.sa (.one (SC.ptr (7 + nW s) 0 0)))), (14, (.sa (.one (SC.ptr (9 + nW s) 0 0)))), (15, (.sa (.one (bv true)))), (69, (.sa (.one (SC.ref 0)))), (70, (.sa (.one (iv .i64 ((l.n : Nat) : Int))))), (71, (.sa (.one (iv .i64 i))))]
/-- Ahead of what is looked at behind a call. -/
def frB (l : Ls) (s : Sr) (b : Bool) (cum i : Int) : Fr := frm 369 [(2, (.sa (.one (iv .u32 cum)))), (9, (.sa (.one (SC.ptr 1 0 0)))), (11, (.sa (.one (SC.ptr (1 + nW s) 0 0)))), (15, (.sa (.one (bv b)))), (69, (.sa (.one (SC.ref 0)))), (70, (.sa (.one (iv .i64 ((l.n : Nat) : Int))))), (71, (.sa (.one (iv .i64 i))))]
def kE (M : Nat) (k : SV → St → Prop) : Exit → Fr → St → Prop := kBlock 0 (kSeq (ev cxRp (M + 84) 1 3 (codeAt Try.prog 3 [1, 1, 1, 1, 1, 1])) (kRet (Cx.P cxRp) [(ResultVar.tmp 8)] 1 k))
def kB (L M : Nat) (k : SV → St → Prop) : Exit → Fr → St → Prop := kSeq (ev cxRp (L + 72) 1 3 (codeAt Try.prog 3 [1, 1, 1, 1, 1, 0, 1, 0, 0, 1, 1, 0, 0, 1, 1, 1, 1, 1])) (kBlock 1 (kSeq (ev cxRp (L + 78) 1 3 (codeAt Try.prog 3 [1, 1, 1, 1, 1, 0, 1, 0, 0, 1, 1, 1])) (kSeq (ev cxRp (L + 81) 1 3 (codeAt Try.prog 3 [1, 1, 1, 1, 1, 0, 1, 0])) (kE M k))))
/-- What is looked at behind a call. -/
def goB (L M : Nat) (l : Ls) (cum i : Int) (k : SV → St → Prop) (s : Sr) (d : Dr) (b : Bool) : Prop := ev cxRp (L + 72) 1 3 (codeAt Try.prog 3 [1, 1, 1, 1, 1, 0, 1, 0, 0, 1, 1, 0, 0, 1, 1, 1, 1, 0]) (frB l s b cum i) (hdW l s d []) (kB L M k)
/-- The loop's head. -/
def goH (L M : Nat) (l : Ls) (cum i : Int) (k : SV → St → Prop) (s : Sr) (d : Dr) : Prop := ev cxRp (L + 82) 1 3 (codeAt Try.prog 3 [1, 1, 1, 1, 1, 0, 1, 0]) (frH l s cum i) (hdW l s d []) (kE M k)
def frC (l : Ls) (s : Sr) (nn e cum i : Int) : Fr := frm 369 [(2, (.sa (.one (iv .u32 cum)))), (9, (.sa (.one (SC.ptr 1 0 0)))), (11, (.sa (.one (SC.ptr (1 + nW s) 0 0)))), (14, (.sa (.one (SC.ptr (7 + nW s) 0 0)))), (24, (.sa (.one (iv .u32 nn)))), (25, (.sa (.one (SC.ptr (9 + nW s) 0 0)))), (26, (.sa (.one (iv .i64 e)))), (69, (.sa (.one (SC.ref 0)))), (70, (.sa (.one (iv .i64 ((l.n : Nat) : Int))))), (71, (.sa (.one (iv .i64 i))))]
def caC (l : Ls) (s : Sr) (d : Dr) (wk : Int) (ws : List Int) (wm yn ya : Int) : St := hdW l s d [obj 35 3 [iv .u8 wk, .ref (8 + nW s), iv .u16 wm], rd16 ws, obj 54 2 [iv .u32 yn, iv .u8 ya]]
/-- Behind Take, ahead of the document's. -/
def goC (L M : Nat) (l : Ls) (cum i : Int) (k : SV → St → Prop) (s : Sr) (d : Dr) (wk : Int) (ws : List Int) (wm nn yn ya e : Int) : Prop := ev cxRp (L + 57) 1 3 (codeAt Try.prog 3 [1, 1, 1, 1, 1, 0, 1, 0, 0, 1, 1, 0, 0, 1, 1, 1, 0, 1, 0, 1, 1, 1, 1, 1, 1, 1, 1, 1, 0, 1, 1, 0, 0]) (frC l s nn e cum i) (caC l s d wk ws wm yn ya) (kSeq (ev cxRp (L + 57) 1 3 (codeAt Try.prog 3 [1, 1, 1, 1, 1, 0, 1, 0, 0, 1, 1, 0, 0, 1, 1, 1, 0, 1, 0, 1, 1, 1, 1, 1, 1, 1, 1, 1, 0, 1, 1, 0, 1])) (kBlock 3 (kBlock 2 (kSeq (ev cxRp (L + 73) 1 3 (codeAt Try.prog 3 [1, 1, 1, 1, 1, 0, 1, 0, 0, 1, 1, 0, 0, 1, 1, 1, 1])) (kBlock 1 (kSeq (ev cxRp (L + 78) 1 3 (codeAt Try.prog 3 [1, 1, 1, 1, 1, 0, 1, 0, 0, 1, 1, 1])) (kSeq (ev cxRp (L + 81) 1 3 (codeAt Try.prog 3 [1, 1, 1, 1, 1, 0, 1, 0])) (kE M k))))))))
/-- Ahead of a call. -/
def goA (L M : Nat) (l : Ls) (cum i : Int) (k : SV → St → Prop) (s : Sr) (d : Dr) (c : Ca) : Prop := ev cxRp (L + 72) 1 3 (codeAt Try.prog 3 [1, 1, 1, 1, 1, 0, 1, 0, 0, 1, 1, 0, 0, 1, 1, 1, 0, 0]) (frA l s cum i) (caW l s d c) (kSeq (ev cxRp (L + 72) 1 3 (codeAt Try.prog 3 [1, 1, 1, 1, 1, 0, 1, 0, 0, 1, 1, 0, 0, 1, 1, 1, 0, 1])) (kSeq (ev cxRp (L + 73) 1 3 (codeAt Try.prog 3 [1, 1, 1, 1, 1, 0, 1, 0, 0, 1, 1, 0, 0, 1, 1, 1, 1])) (kBlock 1 (kSeq (ev cxRp (L + 78) 1 3 (codeAt Try.prog 3 [1, 1, 1, 1, 1, 0, 1, 0, 0, 1, 1, 1])) (kSeq (ev cxRp (L + 81) 1 3 (codeAt Try.prog 3 [1, 1, 1, 1, 1, 0, 1, 0])) (kE M k))))))
end Go.Ev
