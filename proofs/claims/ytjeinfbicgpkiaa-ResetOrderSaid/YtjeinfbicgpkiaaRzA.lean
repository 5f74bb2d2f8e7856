/- ResetOrder: texts ThD, GaD, AlD, SrD, DsD, AnD, IxD, EqD, RfD, MaD, Cl16D, RoD, RoE, RoP, MaT, one behind the other. No conditions. -/
import Derived.Test.YtjeinfbicgpkiaaEvD
import Derived.Test.YtjeinfbicgpkiaaProg
set_option linter.unusedVariables false
set_option linter.unusedSimpArgs false
section
namespace Go.Spec
open Go Go.Ev
def idxGe (m : Int) : List Int → Int → Int
  | [], _ => -1
  | x :: r, i => match decide (x ≥ m) with
    | true => i
    | false => idxGe m r (i + 1)
def thereB (m : Int) (xs : List Int) : Bool := Bool.not (decide (idxGe m xs 0 ≥ 0))
def okU16 (xs : List Int) : Bool := xs.all (fun x => decide (0 ≤ x ∧ x ≤ 65535))
def upI (i : Int) : Nat → List Int
  | 0 => []
  | c + 1 => i :: upI (i + 1) c
end Go.Spec
namespace Go.Ev
open Go Go.Proofs Go.Spec
def rd16 (xs : List Int) : Option SO := some (.own false .ext 0 1 (.ints .u16 xs))
def own16 (xs : List Int) : Option SO := some (.own true .row 22 1 (.ints .u16 xs))
def sIdxF : SumT := fun args st k => match args, st with
  | [.one (.ref 0), .one (.ref 1)], [some (.own false .ext 0 1 (.ints .u16 xs)), some (.clo (.func 55) [] [.one (.ptr 2 0 0)]), some (.mem true .whole 3 1 (.lst [[.raw (.int .i64 m)]]))] =>
    need (decide (xs.length ≤ 70368744177664) && okU16 xs) (k (.sa (.one (iv .i64 (idxGe m xs 0)))) st)
  | _, _ => False
def sConF : SumT := fun args st k => match args, st with
  | [.one (.ref 0), .one (.ref 1)], [some (.own false .ext 0 1 (.ints .u16 xs)), some (.clo (.func 55) [] [.one (.ptr 2 0 0)]), some (.mem true .whole 3 1 (.lst [[.raw (.int .i64 m)]]))] =>
    need (decide (xs.length ≤ 70368744177664) && okU16 xs) (k (.sa (.one (bv (decide (idxGe m xs 0 ≥ 0))))) st)
  | _, _ => False
def fThere (vas : List VA) (k : SV → St → Prop) : Prop := match vas with
  | [.a (.one (.dat .u16 xs)), .a (.one (.raw (.int .i64 m)))] => need (decide (xs.length ≤ 70368744177664) && okU16 xs) (k (.sa (.one (bv (thereB m xs)))) [])
  | _ => False
def sThere : SumT := pureSum [.cells [some .u16], .cells []] fThere
noncomputable def cxIf : Cx := mkCx Try.prog [] [(57, 2, [0, 1, 7, 8], [])] []
noncomputable def cxCf : Cx := mkCx Try.prog [(57, sIdxF)] [] []
noncomputable def cxTh : Cx := mkCx Try.prog [(53, sConF)] [] []
end Go.Ev
end
section
namespace Go.Spec
open Go Go.Ev
def hasB (cum : Int) (xs : List Int) (tsn : Int) : Bool := match decide (idxI tsn xs < xs.length) with
  | true => true
  | false => match eqK tsn cum with
    | true => true
    | false => match eqK (subK .u32 cum tsn) 0 with
      | true => false
      | false => decide (subK .u32 cum tsn < 2147483648)
def adv : Nat → Int → List Int → List Int → Int × List Int × List Int
  | 0, c, xs, bs => (c, xs, bs)
  | m + 1, c, xs, bs => match decide (idxI (addK .u32 c 1) xs < xs.length) with
    | true => adv m (addK .u32 c 1) (xs.eraseIdx (idxI (addK .u32 c 1) xs)) (bs.eraseIdx (idxI (addK .u32 c 1) xs))
    | false => (c, xs, bs)
def advA (tsn c : Int) (xs bs : List Int) (cl : Nat) : Int × List Int × List Int := adv (xs.length + 1) c (xs ++ [tsn]) (bs ++ [(cl : Int)])
end Go.Spec
namespace Go.Ev
open Go Go.Proofs Go.Spec
def setO (cum : Int) (r : Nat) : Option SO := obj 112 3 [iv .u32 cum, .ref r, .raw (.slice none 0 0)]
def mapS (xs bs : List Int) (cl : Nat) : Option SO := some (.mt true (.ints .u32 xs) true [] bs cl)
def sHasG : SumT := fun args st k => match args, st with
  | [.one (.ptr 0 0 0), .one (.raw (.int .u32 tsn))], [some (.mem w .whole 112 3 (.lst [[.raw (.int .u32 cum), .ref 1, .raw (.slice none 0 0)]])), some (.mt w2 (.ints .u32 xs) true [] bs cl)] => k (.sa (.one (bv (hasB cum xs tsn)))) st
  | _, _ => False
def sAddG : SumT := fun args st k => match args, st with
  | [.one (.ptr 0 0 0), .one (.raw (.int .u32 tsn))], [some (.mem true .whole 112 3 (.lst [[.raw (.int .u32 cum), .ref 1, .raw (.slice none 0 0)]])), some (.mt true (.ints .u32 xs) true [] bs cl)] =>
    need (Bool.not (hasB cum xs tsn) && decide (subK .u32 tsn cum ≤ 65535 ∧ xs.length ≤ 70368744177664))
      (k (.sa (.one (iv .u8 0))) [setO (advA tsn cum xs bs cl).1 1, mapS (advA tsn cum xs bs cl).2.1 (advA tsn cum xs bs cl).2.2 (cl + 1)])
  | _, _ => False
noncomputable def cxGh : Cx := mkCx Try.prog [] [] []
noncomputable def cxGa : Cx := mkCx Try.prog [(36, sHasG)] [(37, 10, [0], [])] [(37, 2)]
end Go.Ev
end
section
namespace Go.Ev
open Go Go.Proofs Go.Spec
def sAll : SumT := fun args st k => match args, st with
  | [.one (.ref 0), .one (.raw (.int .i64 m))], [some (.own w kk T 1 (.ints .u16 xs))] =>
    need (decide (0 ≤ m ∧ m ≤ 65535)) (branch (decide (0 < xs.length)) (k (.sa (.one (.ref 0))) st) (k (.sa (.one (.ref 1))) [some (.own w kk T 1 (.ints .u16 xs)), own16 (upI 0 m.toNat)]))
  | _, _ => False
noncomputable def cxAl : Cx := mkCx Try.prog [] [(46, 5, [5, 12, 13], [⟨5, [], 32⟩])] []
end Go.Ev
end
section
namespace Go.Spec
structure Sr where
  (os ps qs : List Int) (cum : Int) (xs bs : List Int) (cl : Nat) (nx ex : Int) (o : Option (Int × Int × List Int × Int)) (kp : Option (Int × Int))
def idxOp (os : List Int) : List Int → Int → Int
  | [], _ => -1
  | x :: r, i => match decide (os.getD x.toNat 0 > 0) with
    | true => i
    | false => idxOp os r (i + 1)
def allLt (n : Nat) (xs : List Int) : Bool := xs.all (fun x => decide (0 ≤ x ∧ x < n))
end Go.Spec
namespace Go.Ev
open Go Go.Proofs Go.Spec
def nQ {α : Type} (x : Option α) : Nat := match x with | none => 0 | some _ => 1
def pQ {α : Type} (x : Option α) (i : Nat) : SC := match x with | none => .raw (.pointer none) | some _ => .ptr i 0 0
def frz16 (xs : List Int) : Option SO := some (.own false .ext 22 1 (.ints .u16 xs))
def quW (b : Nat) (o : Option (Int × Int × List Int × Int)) (r : St) : St := match o with
  | none => r
  | some c => obj 48 4 [iv .u32 c.1, iv .u8 c.2.1, .ref (b + 8), iv .u16 c.2.2.2] :: frz16 c.2.2.1 :: r
def reW (o : Option (Int × Int)) (r : St) : St := match o with
  | none => r
  | some c => obj 54 2 [iv .u32 c.1, iv .u8 c.2] :: r
def nW (s : Sr) : Nat := 9 + 2 * nQ s.o + nQ s.kp
def askW (b : Nat) (nx : Int) {α : Type} (o : Option α) : Option SO := obj 115 2 [iv .u32 nx, pQ o (b + 7)]
def doW (b d : Nat) (ex : Int) (kp : Option (Int × Int)) (r : St) : St :=
  obj 118 3 [iv .u32 ex, .ref (d + 1), pQ kp (d + 2)] :: some (.clo (.func 33) [.one (.ptr b 0 0)] []) :: reW kp r
def sidO (b : Nat) (x y z d : Nat) : Option SO := obj 92 6 [.ref x, .ref y, .ref z, .ptr (b + 4) 0 0, .ptr (b + 6) 0 0, .ptr d 0 0]
def sideW (b : Nat) (s : Sr) (r : St) : St :=
  sidO b (b + 1) (b + 2) (b + 3) (b + 7 + 2 * nQ s.o) :: own16 s.os :: own16 s.ps :: own16 s.qs :: setO s.cum (b + 5) :: mapS s.xs s.bs s.cl :: askW b s.nx s.o :: quW b s.o (doW b (b + 7 + 2 * nQ s.o) s.ex s.kp r)
def rdDo (b d : Nat) (st : St) (f : Int → Option (Int × Int) → St → Prop) : Prop := match st with
  | some (.mem true .whole 118 3 (.lst [[.raw (.int .u32 ex), .ref d1, kc]])) :: some (.clo (.func 33) [.one (.ptr b1 0 0)] []) :: r => match Nat.beq d1 (d + 1) && Nat.beq b1 b with
    | true => match kc with
      | .raw (.pointer none) => f ex none r
      | .ptr d2 0 0 => match Nat.beq d2 (d + 2), r with
        | true, some (.mem true .whole 54 2 (.lst [[.raw (.int .u32 n), .raw (.int .u8 a)]])) :: r' => f ex (some (n, a)) r'
        | _, _ => False
      | _ => False
    | false => False
  | _ => False
def rdQu (b : Nat) (st : St) (f : Int → Option (Int × Int × List Int × Int) → Int → Option (Int × Int) → St → Prop) : Prop := match st with
  | some (.mem true .whole 115 2 (.lst [[.raw (.int .u32 nx), oc]])) :: r => match oc with
    | .raw (.pointer none) => rdDo b (b + 7) r fun ex kp r' => f nx none ex kp r'
    | .ptr p 0 0 => match Nat.beq p (b + 7), r with
      | true, some (.mem true .whole 48 4 (.lst [[.raw (.int .u32 n), .raw (.int .u8 kd), .ref j, .raw (.int .u16 mo)]])) :: some (.own false .ext 22 1 (.ints .u16 ss)) :: r' => match Nat.beq j (b + 8) with
        | true => rdDo b (b + 9) r' fun ex kp r2 => f nx (some (n, kd, ss, mo)) ex kp r2
        | false => False
      | _, _ => False
    | _ => False
  | _ => False
def rdSd (b : Nat) (st : St) (f : Sr → St → Prop) : Prop := match st with
  | some (.mem true .whole 92 6 (.lst [[.ref x1, .ref x2, .ref x3, .ptr x4 0 0, .ptr x6 0 0, .ptr x7 0 0]])) :: o1 :: o2 :: o3 :: r => match o1, o2, o3 with
    | some (.own true .row 22 1 (.ints .u16 os)), some (.own true .row 22 1 (.ints .u16 ps)), some (.own true .row 22 1 (.ints .u16 qs)) => match r with
      | some (.mem true .whole 112 3 (.lst [[.raw (.int .u32 cum), .ref y5, .raw (.slice none 0 0)]])) :: some (.mt true (.ints .u32 xs) true [] bs cl) :: r' =>
        match Nat.beq x1 (b + 1) && (Nat.beq x2 (b + 2) && (Nat.beq x3 (b + 3) && (Nat.beq x4 (b + 4) && (Nat.beq x6 (b + 6) && Nat.beq y5 (b + 5))))) with
        | true => rdQu b r' fun nx o ex kp r2 => match Nat.beq x7 (b + 7 + 2 * nQ o) with
          | true => f ⟨os, ps, qs, cum, xs, bs, cl, nx, ex, o, kp⟩ r2
          | false => False
        | false => False
      | _ => False
    | _, _, _ => False
  | _ => False
def lastW (r : St) (p : Prop) : Prop := match r with
  | [] => p
  | _ => False
def sIfM : SumT := fun args st k => match args, st with
  | [.one (.ref 0), .one (.ref 1)], some (.own w kk T 1 (.ints .u16 xs)) :: some (.clo (.func 54) [] [.one (.ptr 2 0 0)]) :: some (.mem true .whole 25 1 (.lst [[.ptr 3 0 0]])) :: rest => rdSd 3 rest fun s r =>
    need (decide (s.ps.length ≤ 70368744177664 ∧ xs.length ≤ 70368744177664) && allLt s.ps.length xs) (lastW r (k (.sa (.one (iv .i64 (idxOp s.ps xs 0)))) st))
  | _, _ => False
def sCoM : SumT := fun args st k => match args, st with
  | [.one (.ref 0), .one (.ref 1)], some (.own w kk T 1 (.ints .u16 xs)) :: some (.clo (.func 54) [] [.one (.ptr 2 0 0)]) :: some (.mem true .whole 25 1 (.lst [[.ptr 3 0 0]])) :: rest => rdSd 3 rest fun s r =>
    need (decide (s.ps.length ≤ 70368744177664 ∧ xs.length ≤ 70368744177664) && allLt s.ps.length xs) (lastW r (k (.sa (.one (bv (decide (idxOp s.ps xs 0 ≥ 0))))) st))
  | _, _ => False
def mayS (w : Bool) (kk : MK) (T : TypeId) (xs : List Int) (s : Sr) : St := some (.own w kk T 1 (.ints .u16 xs)) :: some (.clo (.func 54) [] [.one (.ptr 2 0 0)]) :: obj 25 1 [.ptr 3 0 0] :: sideW 3 s []
noncomputable def cxCm : Cx := mkCx Try.prog [(57, sIfM)] [] []
noncomputable def cxIm : Cx := mkCx Try.prog [] [(57, 2, [0, 1, 7, 8], [])] []
end Go.Ev
end
section
namespace Go.Spec
open Go Go.Ev
def resetL : List Int → List Int → List Int
  | [], qs => qs
  | x :: r, qs => resetL r (qs.set x.toNat 0)
def allOf (xs : List Int) (m : Nat) : List Int := match decide (0 < xs.length) with
  | true => xs
  | false => upI 0 m
def doB (kd m : Int) (xs : List Int) : Bool := eqK kd 1 && thereB m xs
def moB (kd m more : Int) : Bool := eqK kd 2 && decide (m + more ≤ 16)
end Go.Spec
namespace Go.Ev
open Go Go.Proofs Go.Spec
def sideX (b : Nat) (s : Sr) (x y z : Nat) (r1 r2 r3 : Option SO) (r : St) : St :=
  sidO b x y z (b + 7 + 2 * nQ s.o) :: r1 :: r2 :: r3 :: setO s.cum (b + 5) :: mapS s.xs s.bs s.cl :: askW b s.nx s.o :: quW b s.o (doW b (b + 7 + 2 * nQ s.o) s.ex s.kp r)
def anyR (w : Bool) (kk : MK) (T : TypeId) (xs : List Int) : Option SO := some (.own w kk T 1 (.ints .u16 xs))
def dsK (kd : Int) (j : Nat) (more : Int) (s : Sr) (r : St) (k : SV → St → Prop) : Prop := match r with
  | [some (.own w kk T 1 (.ints .u16 xs))] =>
    need (decide (j = nW s ∧ s.qs.length ≤ 16 ∧ 0 ≤ more ∧ more ≤ 65535 ∧ xs.length ≤ 70368744177664) && okU16 xs)
      (branch (doB kd ((s.qs.length : Nat) : Int) xs) (k (.sa (.one (iv .u8 1))) (sideW 0 { s with qs := resetL (allOf xs s.qs.length) s.qs } [anyR w kk T xs]))
        (branch (moB kd ((s.qs.length : Nat) : Int) more) (k (.sa (.one (iv .u8 1))) (sideX 0 s 1 2 (nW s + 1) (own16 s.os) (own16 s.ps) none [anyR w kk T xs, own16 (s.qs ++ List.replicate more.toNat 0)]))
          (k (.sa (.one (iv .u8 2))) (sideW 0 s [anyR w kk T xs]))))
  | _ => False
def sDoes : SumT := fun args st k => match args with
  | [.one (.ptr 0 0 0), .agg [.raw (.int .u8 kd), .ref j, .raw (.int .u16 more)]] => rdSd 0 st fun s r => dsK kd j more s r k
  | _ => False
def wrR : List (FuncId × Nat) := [(37, 2), (33, 2), (15, 2), (18, 2), (20, 2), (41, 2), (45, 2), (43, 2), (53, 2)]
noncomputable def cxDs : Cx := mkCx Try.prog [(49, sThere), (46, sAll)] [(33, 3, [0, 28, 29, 30], [])] wrR
end Go.Ev
end
section
namespace Go.Ev
open Go Go.Proofs Go.Spec
def sideY (x y : Nat) (r1 r2 : Option SO) (ac : SC) (s : Sr) (c : Int × Int × List Int × Int) (r : St) : St :=
  sidO 0 x y 3 9 :: r1 :: r2 :: own16 s.qs :: setO s.cum 5 :: mapS s.xs s.bs s.cl :: obj 115 2 [iv .u32 s.nx, ac] :: quW 0 (some c) (doW 0 9 s.ex s.kp r)
def nilP : SC := .raw (.pointer none)
def befQ (n rn : Int) : Bool := match eqK (subK .u32 n rn) 0 with
  | true => false
  | false => decide (subK .u32 n rn < 2147483648)
def ansK (rn ra : Int) (s : Sr) (k : SV → St → Prop) : Prop := match s.o with
  | none => k (.sa (.one (iv .i64 4))) (sideW 0 s [])
  | some c => need (decide (s.os.length ≤ 16 ∧ s.ps.length ≤ 16 ∧ 0 ≤ c.2.2.2 ∧ c.2.2.2 ≤ 65535 ∧ c.2.2.1.length ≤ 70368744177664) && allLt s.os.length c.2.2.1)
    (branch (befQ c.1 rn) (k (.sa (.one (iv .i64 8))) (sideW 0 s []))
      (branch (eqK rn c.1)
        (branch (eqK ra 1)
          (branch (eqK c.2.1 2)
            (k (.sa (.one (iv .i64 0))) (sideY (11 + nQ s.kp) (12 + nQ s.kp) none none nilP s c [own16 (s.os ++ List.replicate c.2.2.2.toNat 0), own16 (s.ps ++ List.replicate c.2.2.2.toNat 0)]))
            (k (.sa (.one (iv .i64 0))) (sideY 1 2 (own16 (resetL (allOf c.2.2.1 s.os.length) s.os)) (own16 s.ps) nilP s c [])))
          (k (.sa (.one (iv .i64 0))) (sideY 1 2 (own16 s.os) (own16 s.ps) nilP s c [])))
        (k (.sa (.one (iv .i64 5))) (sideW 0 s []))))
def sAns : SumT := fun args st k => match args with
  | [.one (.ptr 0 0 0), .agg [.raw (.int .u32 rn), .raw (.int .u8 ra)]] => rdSd 0 st fun s r => lastW r (ansK rn ra s k)
  | _ => False
noncomputable def cxAn : Cx := mkCx Try.prog [(46, sAll)] [(20, 12, [0, 72, 73, 74], [])] wrR
end Go.Ev
end
section
namespace Go.Spec
open Go Go.Ev
def idxL (x : Int) : List Int → Int → Int
  | [], _ => -1
  | a :: r, i => match eqK x a with
    | true => i
    | false => idxL x r (i + 1)
def hasL (xs : List Int) (x : Int) : Bool := xs.contains x
end Go.Spec
namespace Go.Ev
open Go Go.Proofs Go.Spec
def fIdx (vas : List VA) (k : SV → St → Prop) : Prop := match vas with
  | [.a (.one (.dat .u16 xs)), .a (.one (.raw (.int .u16 x)))] => need (decide (xs.length ≤ 70368744177664)) (k (.sa (.one (iv .i64 (idxL x xs 0)))) [])
  | _ => False
def sIdx : SumT := pureSum [.cells [some .u16], .cells []] fIdx
def fHas (vas : List VA) (k : SV → St → Prop) : Prop := match vas with
  | [.a (.one (.dat .u16 xs)), .a (.one (.raw (.int .u16 x)))] => need (decide (xs.length ≤ 70368744177664)) (k (.sa (.one (bv (hasL xs x)))) [])
  | _ => False
def sHas : SumT := pureSum [.cells [some .u16], .cells []] fHas
noncomputable def cxIx : Cx := mkCx Try.prog [] [(56, 2, [0, 1, 7, 8], [])] []
noncomputable def cxHa : Cx := mkCx Try.prog [(56, sIdx)] [] []
end Go.Ev
end
section
namespace Go.Spec
def eqLL (xs ys : List Int) : Bool := decide (xs = ys)
end Go.Spec
namespace Go.Ev
open Go Go.Proofs Go.Spec
def fEql (vas : List VA) (k : SV → St → Prop) : Prop := match vas with
  | [.a (.one (.dat .u16 xs)), .a (.one (.dat .u16 ys))] => need (decide (xs.length ≤ 70368744177664 ∧ ys.length ≤ 70368744177664)) (k (.sa (.one (bv (eqLL xs ys)))) [])
  | _ => False
def sEql : SumT := pureSum [.cells [some .u16], .cells [some .u16]] fEql
noncomputable def cxEq : Cx := mkCx Try.prog [] [(22, 4, [0, 1, 12, 13], [])] []
end Go.Ev
end
section
namespace Go.Spec
open Go Go.Ev
structure Dr where
  (os ps qs cs : List Int) (is : Bool) (kd : Int) (ss : List Int) (mo nu nx ex kp : Int)
def inR (v : Int) : List Int → Bool
  | [] => false
  | x :: r => match eqK x v with
    | true => true
    | false => inR v r
def inB (xs : List Int) (v : Int) : Bool := match inR v xs with
  | true => true
  | false => eqK ((xs.length : Nat) : Int) 0
def cameB (cs : List Int) (tsn cum : Int) : Bool := match decide (subK .u32 cum tsn < 2147483648) with
  | true => true
  | false => inR tsn cs
def opR (xs ps : List Int) : Nat → Nat → Bool
  | 0, _ => false
  | m + 1, i => match inB xs i && decide (ps.getD i 0 > 0) with
    | true => true
    | false => opR xs ps m (i + 1)
def clrR (xs : List Int) : Nat → Nat → List Int → List Int
  | 0, _, qs => qs
  | m + 1, i, qs => match inB xs i with
    | true => clrR xs m (i + 1) (qs.set i 0)
    | false => clrR xs m (i + 1) qs
def argB (wk wm : Int) (n : Nat) : Bool := match eqK wk 1 with
  | true => Bool.not (eqK wm 0)
  | false => match eqK wk 2 with
    | true => (match eqK wm 0 with
      | true => true
      | false => Bool.not (eqK ((n : Nat) : Int) 0))
    | false => true
def mayD (d : Dr) (wk : Int) (xs : List Int) (wm : Int) : Int := match argB wk wm xs.length with
  | true => 2
  | false => match decide ((d.os.length : Int) + wm > 16) with
    | true => 7
    | false => match thereB ((d.os.length : Nat) : Int) xs with
      | false => 4
      | true => match eqK wk 1 && opR xs d.ps d.os.length 0 with
        | true => 6
        | false => match d.is with
          | true => 6
          | false => 0
def moreOk (kd mo : Int) : Bool := match eqK kd 2 with
  | true => decide (0 < mo)
  | false => true
end Go.Spec
namespace Go.Ev
open Go Go.Proofs Go.Spec
def own32 (xs : List Int) : Option SO := some (.own true .row 23 1 (.ints .u32 xs))
def drO (b x y z c : Nat) (d : Dr) : Option SO := obj 37 12 [.ref x, .ref y, .ref z, .ref c, bv d.is, iv .u8 d.kd, .ref (b + 5), iv .u16 d.mo, iv .u32 d.nu, iv .u32 d.nx, iv .u32 d.ex, iv .u8 d.kp]
def drW (b : Nat) (d : Dr) (r : St) : St := drO b (b + 1) (b + 2) (b + 3) (b + 4) d :: own16 d.os :: own16 d.ps :: own16 d.qs :: own32 d.cs :: rd16 d.ss :: r
def drX (x y z : Nat) (d : Dr) (r1 r2 r3 : Option SO) (r : St) : St := drO 0 x y z 4 d :: r1 :: r2 :: r3 :: own32 d.cs :: rd16 d.ss :: r
def fIn (vas : List VA) (k : SV → St → Prop) : Prop := match vas with
  | [.a (.one (.dat .u16 xs)), .a (.one (.raw (.int .i64 v)))] => need (decide (xs.length ≤ 70368744177664) && okU16 xs) (k (.sa (.one (bv (inB xs v)))) [])
  | _ => False
def sIn : SumT := pureSum [.cells [some .u16], .cells []] fIn
def fThR (vas : List VA) (k : SV → St → Prop) : Prop := match vas with
  | [.a (.one (.dat .u16 xs)), .a (.one (.raw (.int .i64 m)))] => need (decide (xs.length ≤ 70368744177664) && okU16 xs) (k (.sa (.one (bv (thereB m xs)))) [])
  | _ => False
def sThR : SumT := pureSum [.cells [some .u16], .cells []] fThR
def rdDr (b : Nat) (st : St) (f : Dr → St → Prop) : Prop := match st with
  | some (.mem true .whole 37 12 (.lst [[.ref x1, .ref x2, .ref x3, .ref x4, .raw (.bool is), .raw (.int .u8 kd), .ref x5, .raw (.int .u16 mo), .raw (.int .u32 nu), .raw (.int .u32 nx), .raw (.int .u32 ex), .raw (.int .u8 kp)]])) :: o1 :: o2 :: o3 :: r => match o1, o2, o3 with
    | some (.own true .row 22 1 (.ints .u16 os)), some (.own true .row 22 1 (.ints .u16 ps)), some (.own true .row 22 1 (.ints .u16 qs)) => match r with
      | some (.own true .row 23 1 (.ints .u32 cs)) :: some (.own false .ext 0 1 (.ints .u16 ss)) :: r' =>
        match Nat.beq x1 (b + 1) && (Nat.beq x2 (b + 2) && (Nat.beq x3 (b + 3) && (Nat.beq x4 (b + 4) && Nat.beq x5 (b + 5)))) with
        | true => f ⟨os, ps, qs, cs, is, kd, ss, mo, nu, nx, ex, kp⟩ r'
        | false => False
      | _ => False
    | _, _, _ => False
  | _ => False
def sCame : SumT := fun args st k => match args with
  | [.one (.ptr 0 0 0), .one (.raw (.int .u32 tsn)), .one (.raw (.int .u32 cum))] => rdDr 0 st fun d r => need (decide (d.cs.length ≤ 70368744177664)) (lastW r (k (.sa (.one (bv (cameB d.cs tsn cum)))) (drW 0 d [])))
  | _ => False
def myK (wk : Int) (j : Nat) (wm : Int) (d : Dr) (r : St) (k : SV → St → Prop) : Prop := match r with
  | [some (.own false .ext 0 1 (.ints .u16 xs))] => need (decide (j = 6 ∧ 0 ≤ wm ∧ wm ≤ 65535 ∧ xs.length ≤ 70368744177664 ∧ d.os.length ≤ 16 ∧ d.os.length = d.ps.length) && okU16 xs) (k (.sa (.one (iv .i64 (mayD d wk xs wm)))) (drW 0 d [rd16 xs]))
  | _ => False
def sMayD : SumT := fun args st k => match args with
  | [.one (.ptr 0 0 0), .agg [.raw (.int .u8 wk), .ref j, .raw (.int .u16 wm)]] => rdDr 0 st fun d r => myK wk j wm d r k
  | _ => False
def doK (wk : Int) (j : Nat) (wm : Int) (d : Dr) (r : St) (k : SV → St → Prop) : Prop := match r with
  | [some (.own false .ext 0 1 (.ints .u16 xs))] => need (decide (j = 6 ∧ 0 ≤ wm ∧ wm ≤ 65535 ∧ xs.length ≤ 70368744177664 ∧ d.qs.length ≤ 16) && okU16 xs)
    (branch (doB wk ((d.qs.length : Nat) : Int) xs) (k (.sa (.one (iv .u8 1))) (drW 0 { d with qs := clrR xs d.qs.length 0 d.qs } [rd16 xs]))
      (branch (moB wk ((d.qs.length : Nat) : Int) wm)
        (branch (decide (0 < wm)) (k (.sa (.one (iv .u8 1))) (drX 1 2 7 d (own16 d.os) (own16 d.ps) none [rd16 xs, own16 (d.qs ++ List.replicate wm.toNat 0)]))
          (k (.sa (.one (iv .u8 1))) (drW 0 d [rd16 xs])))
        (k (.sa (.one (iv .u8 2))) (drW 0 d [rd16 xs]))))
  | _ => False
def sDoD : SumT := fun args st k => match args with
  | [.one (.ptr 0 0 0), .agg [.raw (.int .u8 wk), .ref j, .raw (.int .u16 wm)]] => rdDr 0 st fun d r => doK wk j wm d r k
  | _ => False
def bkK (a : Int) (d : Dr) (k : SV → St → Prop) : Prop := need (decide (0 ≤ d.mo ∧ d.mo ≤ 65535 ∧ d.ss.length ≤ 70368744177664 ∧ d.os.length ≤ 16 ∧ d.ps.length ≤ 16) && (okU16 d.ss && moreOk d.kd d.mo))
  (branch (eqK a 1)
    (branch (eqK d.kd 2)
      (k (.tup []) (drX 6 7 3 { d with is := false } none none (own16 d.qs) [own16 (d.os ++ List.replicate d.mo.toNat 0), own16 (d.ps ++ List.replicate d.mo.toNat 0)]))
      (k (.tup []) (drW 0 { d with is := false, os := clrR d.ss d.os.length 0 d.os } [])))
    (k (.tup []) (drW 0 { d with is := false } [])))
def sBack : SumT := fun args st k => match args with
  | [.one (.ptr 0 0 0), .one (.raw (.int .u8 a))] => rdDr 0 st fun d r => lastW r (bkK a d k)
  | _ => False
noncomputable def cxIn : Cx := mkCx Try.prog [] [(35, 2, [0, 1, 5], [])] []
noncomputable def cxTr : Cx := mkCx Try.prog [] [(42, 2, [0, 1, 5], [])] []
noncomputable def cxCa : Cx := mkCx Try.prog [] [(38, 4, [0, 1, 2, 7], [])] []
noncomputable def cxMy : Cx := mkCx Try.prog [(35, sIn), (42, sThR)] [(16, 8, [0, 3, 5], [])] []
def wrD : List (FuncId × Nat) := [(19, 2), (21, 2), (11, 2), (14, 2), (17, 2)]
noncomputable def cxDo : Cx := mkCx Try.prog [(35, sIn), (42, sThR)] [(19, 3, [0, 3, 5], []), (19, 10, [0, 3, 6], [⟨0, [2], 32⟩])] wrD
noncomputable def cxBk : Cx := mkCx Try.prog [(35, sIn)] [(21, 4, [0, 4], [⟨0, [0], 32⟩, ⟨0, [1], 32⟩]), (21, 9, [0, 5], [])] wrD
end Go.Ev
end
section
namespace Go.Spec
open Go Go.Ev
def mayR (s : Sr) (wk : Int) (xs : List Int) (wm : Int) : Int := match argB wk wm xs.length with
  | true => 2
  | false => match decide ((s.os.length : Int) + wm > 16) with
    | true => 7
    | false => match thereB ((s.os.length : Nat) : Int) xs with
      | false => 4
      | true => match eqK wk 1 && decide (idxOp s.ps (allOf xs s.os.length) 0 ≥ 0) with
        | true => 6
        | false => 0
end Go.Spec
namespace Go.Ev
open Go Go.Proofs Go.Spec
def maK (wk : Int) (j : Nat) (wm : Int) (s : Sr) (r : St) (k : SV → St → Prop) : Prop := match r with
  | [some (.own false .ext 0 1 (.ints .u16 xs))] =>
    need (decide (j = nW s ∧ s.os.length ≤ 16 ∧ s.os.length = s.ps.length ∧ 0 ≤ wm ∧ wm ≤ 65535 ∧ xs.length ≤ 70368744177664) && okU16 xs)
      (k (.sa (.one (iv .i64 (mayR s wk xs wm)))) (sideW 0 s [rd16 xs]))
  | _ => False
def sMa : SumT := fun args st k => match args with
  | [.one (.ptr 0 0 0), .agg [.raw (.int .u8 wk), .ref j, .raw (.int .u16 wm)]] => rdSd 0 st fun s r => maK wk j wm s r k
  | _ => False
noncomputable def cxMa : Cx := mkCx Try.prog [(49, sThere), (46, sAll), (53, sCoM)] [] wrR
end Go.Ev
end
section
namespace Go.Ev
open Go Go.Proofs
def fClone16 (vas : List VA) (k : SV → St → Prop) : Prop := match vas with
  | [.a (.one (.dat .u16 xs))] => need (decide (xs.length ≤ 70368744177664)) (k (.sa (.one (.ref 0))) [some (.own true .row 22 1 (.ints .u16 xs))])
  | _ => False
def sClone16 : SumT := pureSum [.cells [some .u16]] fClone16
noncomputable def cxCl16 : Cx := mkCx Try.prog [] [] []
end Go.Ev
end
section
namespace Go.Spec
open Go Go.Ev
def aheadW (ks ss cs : List Int) (t s : Int) : Bool := (List.range ks.length).any fun i => !decide (ks.getD i 0 ∈ cs) && (decide (ss.getD i 0 = s) && (decide (subK .u32 t (ks.getD i 0) < 2147483648) && !decide (ks.getD i 0 = t)))
def bornB (bs : List Int) (cl : Nat) : Bool := decide (bs = (List.range cl).map fun i : Nat => (i : Int))
end Go.Spec
namespace Go.Ev
open Go Go.Proofs Go.Spec
def sAhead : SumT := fun args st k => match args with
  | [.one (.ptr 0 0 0), .agg [.raw (.int .u32 t), .raw (.int .u16 s), .raw (.int .u16 n)]] => (match st.get 0 with
    | some (.mem w .whole T 9 (.lst [[c0, c1, c2, c3, c4, .ref q1, .ref q2, c7, c8]])) => (match st.get q1, st.get q2 with
      | some (.mt w1 (.ints .u32 ks) true [.ints .u32 ts, .ints .u16 ss, .ints .u16 ns] bs cl), some (.mt w2 (.ints .u32 cs) true [] cb cc) => need (decide (T = 78 ∧ ks.length = cl) && bornB bs cl) (k (.sa (.one (bv (aheadW ks ss cs t s)))) st)
      | _, _ => False)
    | _ => False)
  | _ => False
def sTrue : SumT := fun args st k => match args, st with
  | [], [] => k (.sa (.one (bv true))) []
  | _, _ => False
def sumsO : List (FuncId × SumT) := [(8, sTrue), (49, sThere), (46, sAll), (53, sCoM), (50, sHas), (39, sMa), (48, sAhead), (22, sEql), (40, sClone16), (36, sHasG), (37, sAddG), (33, sDoes), (20, sAns)]
def mvO (n : Nat) (kds ns sids wks : List Int) (wss : List (List Int)) (wms : List Int) : Option SO := some (.own false .ext 0 6 (.tab n [.ints .u8 kds, .ints .u16 ns, .ints .u16 sids, .ints .u8 wks, .data .u16 wss, .ints .u16 wms]))
structure Tc where
  (n : Nat) (is : List Bool) (ts ss ns qs kds : List Int) (xss : List (List Int)) (ms : List Int)
structure Bc where
  (n : Nat) (is : List Bool) (ts ss rs vs : List Int)
def thO (t : Tc) : Option SO := some (.own true .row 83 8 (.tab t.n [.bools t.is, .ints .u32 t.ts, .ints .u16 t.ss, .ints .u16 t.ns, .ints .u32 t.qs, .ints .u8 t.kds, .data .u16 t.xss, .ints .u16 t.ms]))
def bkO (b : Bc) : Option SO := some (.own true .row 106 5 (.tab b.n [.bools b.is, .ints .u32 b.ts, .ints .u16 b.ss, .ints .u32 b.rs, .ints .u8 b.vs]))
structure Mc where
  (ks : List Int) (ts ss ns : List Int) (bs : List Int) (cl : Nat) (cs cb : List Int) (cc : Nat) (as_ ab : List Int) (ac : Nat)
def mpW (m : Mc) (r : St) : St := some (.mt true (.ints .u32 m.ks) true [.ints .u32 m.ts, .ints .u16 m.ss, .ints .u16 m.ns] m.bs m.cl) :: some (.mt true (.ints .u32 m.cs) true [] m.cb m.cc) :: some (.mt true (.ints .u32 m.as_) true [] m.ab m.ac) :: r
structure Wy where
  (a c : Sr) (ts : Int) (t : Tc) (k : Bc) (m : Mc) (bad : Bool)
def eW (b : Nat) (w : Wy) : Nat := b + 1 + nW w.a + nW w.c
def wayO (b : Nat) (w : Wy) (tr br : Nat) : Option SO := obj 78 9 [.ptr (b + 1) 0 0, .ptr (b + 1 + nW w.a) 0 0, iv .u32 w.ts, .ref tr, .ref br, .ref (eW b w + 2), .ref (eW b w + 3), .ref (eW b w + 4), bv w.bad]
def wayW (b : Nat) (w : Wy) (r : St) : St := wayO b w (eW b w) (eW b w + 1) :: sideW (b + 1) w.a (sideW (b + 1 + nW w.a) w.c (thO w.t :: bkO w.k :: mpW w.m r))
def wrO : List (FuncId × Nat) := [(7, 1), (30, 1), (31, 1), (32, 1), (10, 2), (12, 2), (13, 2), (27, 1), (28, 2), (29, 2), (47, 2)] ++ wrR
def tidO (t : Nat) : List Tidy := [⟨t, [0, 0], 32⟩, ⟨t, [0, 1], 32⟩, ⟨t, [0, 2], 32⟩, ⟨t, [1, 0], 32⟩, ⟨t, [1, 1], 32⟩, ⟨t, [1, 2], 32⟩, ⟨t, [3], 73⟩, ⟨t, [4], 74⟩]
noncomputable def cxRo : Cx := { mkCx Try.prog sumsO [(5, 7, [7, 32, 33, 34], tidO 7), (5, 1000009, [7, 9, 32, 33, 34], []), (5, 1000010, [7, 32, 33, 34], tidO 7),
  (5, 14, [7, 10], tidO 7), (5, 1000019, [7, 10], []), (5, 1000020, [7, 10], []), (5, 1000021, [7], []), (5, 24, [7], tidO 7), (5, 1000025, [7], []), (5, 1000026, [7], []),
  (28, 1000027, [0, 3, 13], [⟨0, [3], 73⟩]), (28, 1000041, [0, 3, 16], [⟨0, [4], 74⟩])] wrO with tab := true }
structure Mv where
  (n : Nat) (kds ns sids wks : List Int) (wss : List (List Int)) (wms : List Int)
def mvW (v : Mv) : Option SO := mvO v.n v.kds v.ns v.sids v.wks v.wss v.wms
structure Xt where
  (kd nn sd wk : Int) (ws : List Int) (wm : Int)
structure Yt where
  (is : Bool) (ts ss ns qs kd : Int) (xs : List Int) (ms : Int)
structure Zt where
  (is : Bool) (ts ss rs vs : Int)
def xO (x : Xt) (e : Nat) : Option SO := obj 71 6 [iv .u8 x.kd, iv .u16 x.nn, iv .u16 x.sd, iv .u8 x.wk, .ref e, iv .u16 x.wm]
def xA (x : Xt) (e : Nat) : SV := .sa (.agg [iv .u8 x.kd, iv .u16 x.nn, iv .u16 x.sd, iv .u8 x.wk, .ref e, iv .u16 x.wm])
def dO (kd : Int) : Option SO := obj 71 6 [iv .u8 kd, iv .u16 0, iv .u16 0, iv .u8 0, .raw (.slice none 0 0), iv .u16 0]
def dA (kd : Int) : SV := .sa (.agg [iv .u8 kd, iv .u16 0, iv .u16 0, iv .u8 0, .raw (.slice none 0 0), iv .u16 0])
def yO (y : Yt) (e : Nat) : Option SO := obj 83 8 [bv y.is, iv .u32 y.ts, iv .u16 y.ss, iv .u16 y.ns, iv .u32 y.qs, iv .u8 y.kd, .ref e, iv .u16 y.ms]
def zO (z : Zt) : Option SO := obj 106 5 [bv z.is, iv .u32 z.ts, iv .u16 z.ss, iv .u32 z.rs, iv .u8 z.vs]
def oT : Option Tc → Option SO
  | none => none
  | some t => thO t
def oK : Option Bc → Option SO
  | none => none
  | some k => bkO k
def stY (b : Nat) (w : Wy) (tr : Nat) (old : Option SO) (r : St) : St := wayO b w tr (eW b w + 1) :: sideW (b + 1) w.a (sideW (b + 1 + nW w.a) w.c (old :: bkO w.k :: mpW w.m r))
def stX (b : Nat) (w : Wy) (tr : Nat) (old : Option SO) (r : St) : St := wayO b w (eW b w) tr :: sideW (b + 1) w.a (sideW (b + 1 + nW w.a) w.c (thO w.t :: old :: mpW w.m r))
def goH1 (L : Nat) (k : Exit → Fr → St → Prop) (v : Mv) (i : Int) (w : Wy) : Prop := ev cxRo (L + 90) 1 5 (codeAt Try.prog 5 [1, 1, 1, 1, 0, 1, 0]) (frm 142 [(7, .sa (.one (.ptr 1 0 0))), (32, .sa (.one (.ref 0))), (33, .sa (.one (iv .i64 (v.n : Int)))), (34, .sa (.one (iv .i64 i)))]) (mvW v :: wayW 1 w []) k
def goA1 (L : Nat) (k : Exit → Fr → St → Prop) (v : Mv) (i : Int) (w : Wy) (x : Xt) : Prop := ev cxRo (L + 84) 1 5 (codeAt Try.prog 5 [1, 1, 1, 1, 0, 1, 0, 0, 1, 1, 0, 0, 1, 0]) (frm 142 [(7, .sa (.one (.ptr 1 0 0))), (9, .sa (.one (.ptr (eW 1 w + 5) 0 0))), (32, .sa (.one (.ref 0))), (33, .sa (.one (iv .i64 (v.n : Int)))), (34, .sa (.one (iv .i64 i)))]) (mvW v :: wayW 1 w [xO x (eW 1 w + 6), rd16 x.ws]) (kSeq (ev cxRo (L + 84) 1 5 (codeAt Try.prog 5 [1, 1, 1, 1, 0, 1, 0, 0, 1, 1, 0, 0, 1, 1])) k)
def goZ1 (L : Nat) (k : Exit → Fr → St → Prop) (v : Mv) (i : Int) (w : Wy) : Prop := ev cxRo (L + 83) 1 5 (codeAt Try.prog 5 [1, 1, 1, 1, 0, 1, 0, 0, 1, 1, 0, 0, 1, 1, 0]) (frm 142 [(7, .sa (.one (.ptr 1 0 0))), (32, .sa (.one (.ref 0))), (33, .sa (.one (iv .i64 (v.n : Int)))), (34, .sa (.one (iv .i64 i)))]) (mvW v :: wayW 1 w []) (kSeq (ev cxRo (L + 83) 1 5 (codeAt Try.prog 5 [1, 1, 1, 1, 0, 1, 0, 0, 1, 1, 0, 0, 1, 1, 1])) k)
def goY1 (L : Nat) (k : Exit → Fr → St → Prop) (v : Mv) (i : Int) (w : Wy) (x : Xt) (y : Yt) (t' : Tc) (old : Option Tc) : Prop := ev cxRo (L + 64) (eW 1 w + 7) 28 (codeAt Try.prog 28 [1, 1, 0, 1, 1, 1, 1, 1, 1, 1, 0, 1, 1, 0, 1, 1, 1, 1, 0]) (frm 264 [(0, .sa (.one (.ptr 1 0 0))), (3, .sa (.one (.ptr (eW 1 w + 7) 0 0))), (13, .sa (.one (.ptr (eW 1 w + 8) 0 0)))]) (mvW v :: stY 1 w (eW 1 w + 10) (oT old) [xO x (eW 1 w + 6), rd16 x.ws, xO x (eW 1 w + 6), yO y (eW 1 w + 9), rd16 y.xs, thO t']) (kSeq (ev cxRo (L + 64) (eW 1 w + 7) 28 (codeAt Try.prog 28 [1, 1, 0, 1, 1, 1, 1, 1, 1, 1, 0, 1, 1, 0, 1, 1, 1, 1, 1])) (kBlock 0 (kRet (Cx.P cxRo) [] (eW 1 w + 7) (fun v' s' => ev cxRo (L + 83) 1 5 (codeAt Try.prog 5 [1, 1, 1, 1, 0, 1, 0, 0, 1, 1, 0, 0, 1, 1, 0]) (frm 142 [(7, .sa (.one (.ptr 1 0 0))), (9, .sa (.one (.ptr (eW 1 w + 5) 0 0))), (32, .sa (.one (.ref 0))), (33, .sa (.one (iv .i64 (v.n : Int)))), (34, .sa (.one (iv .i64 i))), (38, .sa (.one (.ptr 1 0 0))), (39, xA x (eW 1 w + 6)), (40, v')]) s' (kSeq (ev cxRo (L + 83) 1 5 (codeAt Try.prog 5 [1, 1, 1, 1, 0, 1, 0, 0, 1, 1, 0, 0, 1, 1, 1])) k)))))
def goX1 (L : Nat) (k : Exit → Fr → St → Prop) (v : Mv) (i : Int) (w : Wy) (x : Xt) (z : Zt) (k' : Bc) (old : Option Bc) : Prop := ev cxRo (L + 62) (eW 1 w + 7) 28 (codeAt Try.prog 28 [1, 1, 0, 1, 1, 1, 1, 1, 1, 1, 1, 1, 0, 1, 1, 0, 1, 1, 1, 1, 0]) (frm 264 [(0, .sa (.one (.ptr 1 0 0))), (3, .sa (.one (.ptr (eW 1 w + 7) 0 0))), (16, .sa (.one (.ptr (eW 1 w + 8) 0 0)))]) (mvW v :: stX 1 w (eW 1 w + 9) (oK old) [xO x (eW 1 w + 6), rd16 x.ws, xO x (eW 1 w + 6), zO z, bkO k']) (kSeq (ev cxRo (L + 62) (eW 1 w + 7) 28 (codeAt Try.prog 28 [1, 1, 0, 1, 1, 1, 1, 1, 1, 1, 1, 1, 0, 1, 1, 0, 1, 1, 1, 1, 1])) (kBlock 0 (kRet (Cx.P cxRo) [] (eW 1 w + 7) (fun v' s' => ev cxRo (L + 83) 1 5 (codeAt Try.prog 5 [1, 1, 1, 1, 0, 1, 0, 0, 1, 1, 0, 0, 1, 1, 0]) (frm 142 [(7, .sa (.one (.ptr 1 0 0))), (9, .sa (.one (.ptr (eW 1 w + 5) 0 0))), (32, .sa (.one (.ref 0))), (33, .sa (.one (iv .i64 (v.n : Int)))), (34, .sa (.one (iv .i64 i))), (38, .sa (.one (.ptr 1 0 0))), (39, xA x (eW 1 w + 6)), (40, v')]) s' (kSeq (ev cxRo (L + 83) 1 5 (codeAt Try.prog 5 [1, 1, 1, 1, 0, 1, 0, 0, 1, 1, 0, 0, 1, 1, 1])) k)))))
def goH2 (L : Nat) (k : Exit → Fr → St → Prop) (v : Mv) (x : Int) (w : Wy) : Prop := ev cxRo (L + 88) 1 5 (codeAt Try.prog 5 [1, 1, 1, 1, 1, 0, 1, 0]) (frm 142 [(7, .sa (.one (.ptr 1 0 0))), (10, .sa (.one (iv .i64 x)))]) (mvW v :: wayW 1 w []) k
def k2 (L : Nat) (k : Exit → Fr → St → Prop) : Exit → Fr → St → Prop := kBlock 3 (kSeq (ev cxRo (L + 86) 1 5 (codeAt Try.prog 5 [1, 1, 1, 1, 1, 0, 1, 0, 0, 1, 1])) (kSeq (ev cxRo (L + 88) 1 5 (codeAt Try.prog 5 [1, 1, 1, 1, 1, 0, 1, 0])) k))
def k3 (L : Nat) (k : Exit → Fr → St → Prop) : Exit → Fr → St → Prop := kBlock 5 (kSeq (ev cxRo (L + 88) 1 5 (codeAt Try.prog 5 [1, 1, 1, 1, 1, 1, 0, 1, 1, 0, 1, 0])) k)
def k1 (L : Nat) (k : Exit → Fr → St → Prop) : Exit → Fr → St → Prop := kBlock 1 (kSeq (ev cxRo (L + 87) 1 5 (codeAt Try.prog 5 [1, 1, 1, 1, 0, 1, 0, 0, 1, 1, 1])) (kSeq (ev cxRo (L + 90) 1 5 (codeAt Try.prog 5 [1, 1, 1, 1, 0, 1, 0])) k))
def goD3 (L : Nat) (k : Exit → Fr → St → Prop) (v : Mv) (x : Int) (w : Wy) : Prop := ev cxRo (L + 82) 1 5 (codeAt Try.prog 5 [1, 1, 1, 1, 1, 0, 1, 0, 0, 1, 0, 0, 1, 1, 0]) (frm 142 [(7, .sa (.one (.ptr 1 0 0))), (10, .sa (.one (iv .i64 x)))]) (mvW v :: wayW 1 w []) (k2 L k)
def goD6 (L : Nat) (k : Exit → Fr → St → Prop) (v : Mv) (x : Int) (w : Wy) : Prop := ev cxRo (L + 82) 1 5 (codeAt Try.prog 5 [1, 1, 1, 1, 1, 0, 1, 0, 0, 1, 0, 0, 1, 1, 1]) (frm 142 [(7, .sa (.one (.ptr 1 0 0))), (10, .sa (.one (iv .i64 x)))]) (mvW v :: wayW 1 w []) (k2 L k)
def goD4 (L : Nat) (k : Exit → Fr → St → Prop) (v : Mv) (w : Wy) : Prop := ev cxRo (L + 86) 1 5 (codeAt Try.prog 5 [1, 1, 1, 1, 1, 1, 0, 1, 1, 0, 1, 0, 0, 1, 0]) (frm 142 [(7, .sa (.one (.ptr 1 0 0)))]) (mvW v :: wayW 1 w []) (k3 L k)
def goY2 (L : Nat) (k : Exit → Fr → St → Prop) (v : Mv) (x : Int) (w : Wy) (y : Yt) (t' : Tc) : Prop := ev cxRo (L + 62) (eW 1 w + 5) 28 (codeAt Try.prog 28 [1, 1, 0, 1, 1, 1, 1, 1, 1, 1, 0, 1, 1, 0, 1, 1, 1, 1, 0]) (frm 264 [(0, .sa (.one (.ptr 1 0 0))), (3, .sa (.one (.ptr (eW 1 w + 5) 0 0))), (13, .sa (.one (.ptr (eW 1 w + 6) 0 0)))]) (mvW v :: stY 1 w (eW 1 w + 8) (thO w.t) [dO 3, yO y (eW 1 w + 7), rd16 y.xs, thO t']) (kSeq (ev cxRo (L + 62) (eW 1 w + 5) 28 (codeAt Try.prog 28 [1, 1, 0, 1, 1, 1, 1, 1, 1, 1, 0, 1, 1, 0, 1, 1, 1, 1, 1])) (kBlock 0 (kRet (Cx.P cxRo) [] (eW 1 w + 5) (fun v' s' => ev cxRo (L + 88) 1 5 (codeAt Try.prog 5 [1, 1, 1, 1, 1, 0, 1, 0]) (frm 142 [(7, .sa (.one (.ptr 1 0 0))), (10, .sa (.one (iv .i64 (addK .i64 x 1)))), (58, .sa (.one (iv .i64 x))), (59, .sa (.one (iv .i64 (addK .i64 x 1)))), (68, .sa (.one (.ptr 1 0 0))), (69, dA 3), (70, v')]) s' k))))
def goX2 (L : Nat) (k : Exit → Fr → St → Prop) (v : Mv) (x : Int) (w : Wy) (z : Zt) (k' : Bc) : Prop := ev cxRo (L + 60) (eW 1 w + 5) 28 (codeAt Try.prog 28 [1, 1, 0, 1, 1, 1, 1, 1, 1, 1, 1, 1, 0, 1, 1, 0, 1, 1, 1, 1, 0]) (frm 264 [(0, .sa (.one (.ptr 1 0 0))), (3, .sa (.one (.ptr (eW 1 w + 5) 0 0))), (16, .sa (.one (.ptr (eW 1 w + 6) 0 0)))]) (mvW v :: stX 1 w (eW 1 w + 7) (bkO w.k) [dO 6, zO z, bkO k']) (kSeq (ev cxRo (L + 60) (eW 1 w + 5) 28 (codeAt Try.prog 28 [1, 1, 0, 1, 1, 1, 1, 1, 1, 1, 1, 1, 0, 1, 1, 0, 1, 1, 1, 1, 1])) (kBlock 0 (kRet (Cx.P cxRo) [] (eW 1 w + 5) (fun v' s' => ev cxRo (L + 88) 1 5 (codeAt Try.prog 5 [1, 1, 1, 1, 1, 0, 1, 0]) (frm 142 [(7, .sa (.one (.ptr 1 0 0))), (10, .sa (.one (iv .i64 (addK .i64 x 1)))), (58, .sa (.one (iv .i64 x))), (59, .sa (.one (iv .i64 (addK .i64 x 1)))), (71, .sa (.one (.ptr 1 0 0))), (72, dA 6), (73, v')]) s' k))))
def goX3 (L : Nat) (k : Exit → Fr → St → Prop) (v : Mv) (w : Wy) (z : Zt) (k' : Bc) : Prop := ev cxRo (L + 64) (eW 1 w + 5) 28 (codeAt Try.prog 28 [1, 1, 0, 1, 1, 1, 1, 1, 1, 1, 1, 1, 0, 1, 1, 0, 1, 1, 1, 1, 0]) (frm 264 [(0, .sa (.one (.ptr 1 0 0))), (3, .sa (.one (.ptr (eW 1 w + 5) 0 0))), (16, .sa (.one (.ptr (eW 1 w + 6) 0 0)))]) (mvW v :: stX 1 w (eW 1 w + 7) (bkO w.k) [dO 6, zO z, bkO k']) (kSeq (ev cxRo (L + 64) (eW 1 w + 5) 28 (codeAt Try.prog 28 [1, 1, 0, 1, 1, 1, 1, 1, 1, 1, 1, 1, 0, 1, 1, 0, 1, 1, 1, 1, 1])) (kBlock 0 (kRet (Cx.P cxRo) [] (eW 1 w + 5) (fun v' s' => ev cxRo (L + 88) 1 5 (codeAt Try.prog 5 [1, 1, 1, 1, 1, 1, 0, 1, 1, 0, 1, 0]) (frm 142 [(7, .sa (.one (.ptr 1 0 0))), (93, .sa (.one (.ptr 1 0 0))), (94, dA 6), (95, v')]) s' k))))
def kE0 (K : SV → St → Prop) : Exit → Fr → St → Prop := kRet (Cx.P cxRo) [ResultVar.tmp 6] 1 K
def kE1 (M : Nat) (K : SV → St → Prop) : Exit → Fr → St → Prop := kBlock 0 (kSeq (ev cxRo (M + 95) 1 5 (codeAt Try.prog 5 [1, 1, 1, 1, 1])) (kE0 K))
def kE2 (M : Nat) (K : SV → St → Prop) : Exit → Fr → St → Prop := kBlock 2 (kSeq (ev cxRo (M + 94) 1 5 (codeAt Try.prog 5 [1, 1, 1, 1, 1, 1])) (kE0 K))
def kE3 (M : Nat) (K : SV → St → Prop) : Exit → Fr → St → Prop := kSeq (ev cxRo (M + 92) 1 5 (codeAt Try.prog 5 [1, 1, 1, 1, 1, 1, 0, 1])) (kSeq (ev cxRo (M + 93) 1 5 (codeAt Try.prog 5 [1, 1, 1, 1, 1, 1, 1])) (kE0 K))
def goZ3 (L : Nat) (k : Exit → Fr → St → Prop) (v : Mv) (w : Wy) : Prop := ev cxRo (L + 92) 1 5 (codeAt Try.prog 5 [1, 1, 1, 1, 1, 1, 0, 0]) (frm 142 [(7, .sa (.one (.ptr 1 0 0)))]) (mvW v :: wayW 1 w []) k
def goH3 (L : Nat) (k : Exit → Fr → St → Prop) (v : Mv) (w : Wy) : Prop := ev cxRo (L + 88) 1 5 (codeAt Try.prog 5 [1, 1, 1, 1, 1, 1, 0, 1, 1, 0, 1, 0]) (frm 142 [(7, .sa (.one (.ptr 1 0 0)))]) (mvW v :: wayW 1 w []) k
def kE4 (M : Nat) (K : SV → St → Prop) : Exit → Fr → St → Prop := kBlock 4 (kSeq (ev cxRo (M + 93) 1 5 (codeAt Try.prog 5 [1, 1, 1, 1, 1, 1, 1])) (kE0 K))
def kE5 (M : Nat) (K : SV → St → Prop) : Exit → Fr → St → Prop := kSeq (ev cxRo (M + 92) 1 5 (codeAt Try.prog 5 [1, 1, 1, 1, 1, 1, 1, 1])) (kE0 K)
def goF (L : Nat) (k : Exit → Fr → St → Prop) (v : Mv) (w : Wy) : Prop := ev cxRo (L + 92) 1 5 (codeAt Try.prog 5 [1, 1, 1, 1, 1, 1, 1, 0]) (frm 142 [(7, .sa (.one (.ptr 1 0 0)))]) (mvW v :: wayW 1 w []) k
end Go.Ev
end
section
namespace Go.Ev
open Go Go.Proofs Go.Spec
def tcMap (n : Nat) (f : ∀ (α : Type), α → List α → List α) (t : Tc) : Tc := ⟨n, f _ false t.is, f _ 0 t.ts, f _ 0 t.ss, f _ 0 t.ns, f _ 0 t.qs, f _ 0 t.kds, f _ [] t.xss, f _ 0 t.ms⟩
def bcMap (n : Nat) (f : ∀ (α : Type), α → List α → List α) (t : Bc) : Bc := ⟨n, f _ false t.is, f _ 0 t.ts, f _ 0 t.ss, f _ 0 t.rs, f _ 0 t.vs⟩
def Tc.app (t : Tc) (y : Yt) : Tc := ⟨t.n + 1, fitL false t.n t.is ++ [y.is], fitL 0 t.n t.ts ++ [y.ts], fitL 0 t.n t.ss ++ [y.ss], fitL 0 t.n t.ns ++ [y.ns], fitL 0 t.n t.qs ++ [y.qs], fitL 0 t.n t.kds ++ [y.kd], fitL [] t.n t.xss ++ [y.xs], fitL 0 t.n t.ms ++ [y.ms]⟩
def Bc.app (t : Bc) (z : Zt) : Bc := ⟨t.n + 1, fitL false t.n t.is ++ [z.is], fitL 0 t.n t.ts ++ [z.ts], fitL 0 t.n t.ss ++ [z.ss], fitL 0 t.n t.rs ++ [z.rs], fitL 0 t.n t.vs ++ [z.vs]⟩
def atX (v : Mv) (i : Int) : Xt := ⟨v.kds.getD (0 + i.toNat) 0, v.ns.getD (0 + i.toNat) 0, v.sids.getD (0 + i.toNat) 0, v.wks.getD (0 + i.toNat) 0, v.wss.getD (0 + i.toNat) [], v.wms.getD (0 + i.toNat) 0⟩
end Go.Ev
end
section
namespace Go.Ro
structure Qu where
  n : Int
  kd : Int
  ss : List Int
  mo : Int
inductive Th
  | m (i : Nat)
  | q (x : Qu)
inductive Bk
  | a (i : Nat)
  | r (n v : Int)
structure P where
  ms : List (Nat × Int)
  cm : List Nat
  ak : List Nat
  out : List Int
  op : List Int
  nx : Int
  o : Option Qu
  inn : List Int
  ex : Int
  kp : Option (Int × Int)
  th : List Th
  bk : List Bk
def sid (p : P) (i : Nat) : Nat := (p.ms.getD i (0, 0)).1
def ssn (p : P) (i : Nat) : Int := (p.ms.getD i (0, 0)).2
def allS (ss : List Int) (m : Nat) : List Int := if 0 < ss.length then ss else (List.range m).map fun i : Nat => (i : Int)
def cnt (ms : List (Nat × Int)) (l : List Nat) (s n : Nat) : Nat := (List.range n).countP fun i => decide ((ms.getD i (0, 0)).1 = s) && !decide (i ∈ l)
theorem cnt_succ {ms : List (Nat × Int)} {l : List Nat} {s n : Nat} : cnt ms l s (n + 1) = cnt ms l s n + if (ms.getD n (0, 0)).1 = s ∧ n ∉ l then 1 else 0 := by
  unfold cnt
  rw [List.range_succ, List.countP_append]
  congr 1
  by_cases h1 : (ms.getD n (0, 0)).1 = s <;> by_cases h2 : n ∈ l <;> simp [h1, h2]
theorem cnt_congr {ms ms' : List (Nat × Int)} {l l' : List Nat} {s : Nat} : ∀ {n : Nat}, (∀ i, i < n → (ms'.getD i (0, 0)).1 = (ms.getD i (0, 0)).1 ∧ ((ms.getD i (0, 0)).1 = s → (i ∈ l' ↔ i ∈ l))) → cnt ms' l' s n = cnt ms l s n
  | 0, _ => rfl
  | n + 1, h => by
    rw [cnt_succ, cnt_succ, cnt_congr fun i hi => h i (by omega)]
    obtain ⟨h1, h2⟩ := h n (by omega)
    rw [h1]
    generalize (ms.getD n (0, 0)).1 = x at *
    by_cases hs : x = s
    · have := h2 hs
      by_cases hl : n ∈ l
      · simp [hs, hl, this.2 hl]
      · have hl' : n ∉ l' := fun e => hl (this.1 e)
        simp [hs, hl, hl']
    · simp [hs]
theorem cnt_mono {ms : List (Nat × Int)} {l : List Nat} {s n m : Nat} (h : n ≤ m) : cnt ms l s n ≤ cnt ms l s m := by
  induction m with
  | zero => rw [Nat.le_zero.1 h]; exact Nat.le_refl _
  | succ m ih =>
    rcases Nat.lt_or_ge m n with h' | h'
    · rw [show n = m + 1 from by omega]; exact Nat.le_refl _
    · rw [cnt_succ]; exact Nat.le_trans (ih h') (Nat.le_add_right _ _)
theorem cnt_le {ms : List (Nat × Int)} {l : List Nat} {s : Nat} : ∀ {n : Nat}, cnt ms l s n ≤ n
  | 0 => Nat.le_refl _
  | n + 1 => by rw [cnt_succ]; have := cnt_le (ms := ms) (l := l) (s := s) (n := n); split <;> omega
theorem cnt_zero {ms : List (Nat × Int)} {l : List Nat} {s : Nat} : ∀ {n : Nat}, cnt ms l s n = 0 ↔ ∀ i, i < n → (ms.getD i (0, 0)).1 = s → i ∈ l
  | 0 => by simp [cnt]
  | n + 1 => by
    rw [cnt_succ]
    constructor
    · intro h i hi hs
      by_cases e : i = n
      · subst e
        by_cases hl : i ∈ l
        · exact hl
        · rw [if_pos ⟨hs, hl⟩] at h; omega
      · exact cnt_zero.1 (Nat.eq_zero_of_add_eq_zero_right h) i (by omega) hs
    · intro h
      rw [cnt_zero.2 fun i hi hs => h i (by omega) hs]
      split
      · rename_i hh; exact absurd (h n (by omega) hh.1) hh.2
      · rfl
theorem cnt_sub {ms : List (Nat × Int)} {l l' : List Nat} {s : Nat} (h : ∀ i, i ∈ l → i ∈ l') : ∀ {n : Nat}, cnt ms l' s n ≤ cnt ms l s n
  | 0 => Nat.le_refl _
  | n + 1 => by
    rw [cnt_succ, cnt_succ]
    have := cnt_sub (ms := ms) (s := s) h (n := n)
    have hn := h n
    generalize (ms.getD n (0, 0)).1 = x at *
    split <;> split
    · omega
    · rename_i a b
      exact absurd ⟨a.1, fun e => a.2 (hn e)⟩ b
    · omega
    · omega
theorem cnt_cons {ms : List (Nat × Int)} {l : List Nat} {s k : Nat} (hk : k ∉ l) (hs : (ms.getD k (0, 0)).1 = s) : ∀ {n : Nat}, cnt ms l s n = cnt ms (k :: l) s n + if k < n then 1 else 0
  | 0 => by simp [cnt]
  | n + 1 => by
    rw [cnt_succ, cnt_succ, cnt_cons hk hs (n := n)]
    by_cases e : n = k
    · subst e
      have h1 : (if (ms.getD n (0, 0)).1 = s ∧ n ∉ l then 1 else 0) = 1 := if_pos ⟨hs, hk⟩
      have h2 : (if (ms.getD n (0, 0)).1 = s ∧ n ∉ n :: l then 1 else 0) = 0 := if_neg fun h => h.2 (List.mem_cons_self ..)
      rw [h1, h2]
      simp
    · have h1 : (if (ms.getD n (0, 0)).1 = s ∧ n ∉ k :: l then 1 else 0) = if (ms.getD n (0, 0)).1 = s ∧ n ∉ l then 1 else 0 := by simp [e]
      rw [h1]
      have h2 : (if k < n + 1 then 1 else 0) = if k < n then 1 else 0 := by
        have : (k < n + 1) ↔ k < n := by omega
        simp only [this]
      rw [h2]
      omega
theorem cnt_other {ms : List (Nat × Int)} {l : List Nat} {s k : Nat} (hs : (ms.getD k (0, 0)).1 ≠ s) {n : Nat} : cnt ms (k :: l) s n = cnt ms l s n :=
  cnt_congr fun i hi => ⟨rfl, fun h => by
    have : i ≠ k := fun e => hs (by rw [← e]; exact h)
    simp [this]⟩
def Qok (p : P) (c : Qu) : Prop := (c.kd = 1 ∧ c.mo = 0 ∧ ∀ s ∈ c.ss, 0 ≤ s ∧ s < p.out.length) ∨ (c.kd = 2 ∧ c.ss = [] ∧ 0 < c.mo ∧ (p.out.length : Int) + c.mo ≤ 16)
def moreOf (p : P) : Int := match p.o with
  | some c => if p.ex = p.nx then c.mo else 0
  | none => 0
def under (p : P) (s : Nat) : Prop := ∃ c, p.o = some c ∧ p.ex = p.nx ∧ c.kd = 1 ∧ (s : Int) ∈ allS c.ss p.out.length
structure Inv (p : P) : Prop where
  lo : p.op.length = p.out.length
  l16 : p.out.length ≤ 16
  li : (p.inn.length : Int) = (p.out.length : Int) + moreOf p
  n3 : p.ms.length ≤ 300
  cmN : ∀ i ∈ p.cm, i < p.ms.length
  akC : ∀ i ∈ p.ak, i ∈ p.cm
  inT : ∀ i, i < p.ms.length → i ∉ p.cm → Th.m i ∈ p.th
  tM : ∀ i, Th.m i ∈ p.th → i < p.ms.length
  tQ : ∀ x, Th.q x ∈ p.th → x.n < p.nx ∧ ∀ c, p.o = some c → x.n = c.n → x = c
  bA : ∀ i, Bk.a i ∈ p.bk → i ∈ p.cm
  bR : ∀ n v, Bk.r n v ∈ p.bk → n < p.ex ∧ v = 1
  qs : (p.o = none ∧ p.ex = p.nx) ∨ ∃ c, p.o = some c ∧ c.n = p.nx - 1 ∧ Qok p c ∧ (p.ex = p.nx - 1 ∨ p.ex = p.nx)
  ks : ∀ n v, p.kp = some (n, v) → n = p.ex - 1 ∧ v = 1
  ke : 5 < p.ex → p.kp ≠ none
  x5 : 5 ≤ p.ex
  msS : ∀ i, i < p.ms.length → sid p i < p.out.length
  opS : ∀ s, s < p.out.length → p.op.getD s 0 = (cnt p.ms p.ak s p.ms.length : Int)
  outS : ∀ s, s < p.out.length → ¬ under p s → p.out.getD s 0 = p.inn.getD s 0 + (cnt p.ms p.cm s p.ms.length : Int)
  unS : ∀ s, s < p.out.length → under p s → p.inn.getD s 0 = 0
  qO : ∀ c, p.o = some c → c.kd = 1 → ∀ s, s < p.out.length → (s : Int) ∈ allS c.ss p.out.length → p.op.getD s 0 = 0
  inN : ∀ s, s < p.out.length → 0 ≤ p.inn.getD s 0
  ord : ∀ i, i < p.ms.length → i ∉ p.cm → ssn p i = p.inn.getD (sid p i) 0 + (cnt p.ms p.cm (sid p i) i : Int)
  inX : ∀ s, p.out.length ≤ s → p.inn.getD s 0 = 0
  nd : p.cm.Nodup
section
variable {p : P}
theorem Inv.due (h : Inv p) {i : Nat} (hi : i < p.ms.length) (hc : i ∉ p.cm) (ha : ∀ j, j < i → sid p j = sid p i → j ∈ p.cm) : sid p i < p.inn.length ∧ p.inn.getD (sid p i) 0 = ssn p i := by
  have h1 := h.msS i hi
  have h2 := h.li
  have h3 : 0 ≤ moreOf p := by
    unfold moreOf
    rcases h.qs with ⟨ho, _⟩ | ⟨c, ho, _, hq, _⟩
    · rw [ho]; exact Int.le_refl _
    · rw [ho]; dsimp only
      split
      · rcases hq with ⟨_, hm, _⟩ | ⟨_, _, hm, _⟩ <;> omega
      · omega
  refine ⟨by omega, ?_⟩
  rw [h.ord i hi hc, cnt_zero.2 fun j hj hs => ha j hj hs]
  simp
theorem Inv.opens (h : Inv p) {i : Nat} (hc : i ∈ p.cm) (hk : i ∉ p.ak) : sid p i < p.out.length ∧ 0 < p.op.getD (sid p i) 0 := by
  have hi := h.cmN i hc
  have h1 := h.msS i hi
  refine ⟨h1, ?_⟩
  rw [h.opS _ h1]
  have : cnt p.ms p.ak (sid p i) p.ms.length ≠ 0 := fun e => hk (cnt_zero.1 e i hi rfl)
  omega
theorem Inv.setB (h : Inv p) {bk' : List Bk} (hA : ∀ i, Bk.a i ∈ bk' → i ∈ p.cm) (hR : ∀ n v, Bk.r n v ∈ bk' → n < p.ex ∧ v = 1) : Inv { p with bk := bk' } :=
  ⟨h.lo, h.l16, h.li, h.n3, h.cmN, h.akC, h.inT, h.tM, h.tQ, hA, hR, h.qs, h.ks, h.ke, h.x5, h.msS, h.opS, h.outS, h.unS, h.qO, h.inN, h.ord, h.inX, h.nd⟩
theorem Inv.setT (h : Inv p) {th' : List Th} (h1 : ∀ i, i < p.ms.length → i ∉ p.cm → Th.m i ∈ th') (h2 : ∀ i, Th.m i ∈ th' → i < p.ms.length) (h3 : ∀ x, Th.q x ∈ th' → x.n < p.nx ∧ ∀ c, p.o = some c → x.n = c.n → x = c) : Inv { p with th := th' } :=
  ⟨h.lo, h.l16, h.li, h.n3, h.cmN, h.akC, h1, h2, h3, h.bA, h.bR, h.qs, h.ks, h.ke, h.x5, h.msS, h.opS, h.outS, h.unS, h.qO, h.inN, h.ord, h.inX, h.nd⟩
theorem Inv.moreT (h : Inv p) {y : Th} (hy : y ∈ p.th ∨ (∃ i, i < p.ms.length ∧ y = .m i) ∨ ∃ c, p.o = some c ∧ y = .q c) : Inv { p with th := p.th ++ [y] } := by
  refine h.setT (fun i hi hc => List.mem_append_left _ (h.inT i hi hc)) (fun i hi => ?_) (fun x hx => ?_)
  · rcases List.mem_append.1 hi with hi | hi
    · exact h.tM i hi
    · rw [List.mem_singleton] at hi
      rcases hy with hy | ⟨j, hj, e⟩ | ⟨c, _, e⟩
      · rw [← hi] at hy; exact h.tM i hy
      · rw [e] at hi; cases hi; exact hj
      · rw [e] at hi; cases hi
  · rcases List.mem_append.1 hx with hx | hx
    · exact h.tQ x hx
    · rw [List.mem_singleton] at hx
      rcases hy with hy | ⟨j, hj, e⟩ | ⟨c, hc, e⟩
      · rw [← hx] at hy; exact h.tQ x hy
      · rw [e] at hx; cases hx
      · rw [e] at hx; cases hx
        rcases h.qs with ⟨ho, _⟩ | ⟨c', ho, hn, _⟩
        · rw [ho] at hc; cases hc
        · rw [ho] at hc; cases hc
          exact ⟨by omega, fun c2 h2 _ => by rw [ho] at h2; cases h2; rfl⟩
theorem Inv.moreB (h : Inv p) {y : Bk} (hy : y ∈ p.bk ∨ (∃ i, i ∈ p.cm ∧ y = .a i) ∨ ∃ n, n < p.ex ∧ y = .r n 1) : Inv { p with bk := p.bk ++ [y] } := by
  refine h.setB (fun i hi => ?_) (fun n v hv => ?_)
  · rcases List.mem_append.1 hi with hi | hi
    · exact h.bA i hi
    · rw [List.mem_singleton] at hi
      rcases hy with hy | ⟨j, hj, e⟩ | ⟨n, hn, e⟩
      · rw [← hi] at hy; exact h.bA i hy
      · rw [e] at hi; cases hi; exact hj
      · rw [e] at hi; cases hi
  · rcases List.mem_append.1 hv with hv | hv
    · exact h.bR n v hv
    · rw [List.mem_singleton] at hv
      rcases hy with hy | ⟨j, hj, e⟩ | ⟨m, hm, e⟩
      · rw [← hv] at hy; exact h.bR n v hy
      · rw [e] at hv; cases hv
      · rw [e] at hv; cases hv; exact ⟨hm, rfl⟩
theorem Inv.lessB (h : Inv p) {l : List Bk} (hl : ∀ x ∈ l, x ∈ p.bk) : Inv { p with bk := l } :=
  h.setB (fun i hi => h.bA i (hl _ hi)) (fun n v hv => h.bR n v (hl _ hv))
theorem Inv.lessT (h : Inv p) {l : List Th} {y : Th} (hl : ∀ x ∈ l, x ∈ p.th) (hl2 : ∀ x ∈ p.th, x = y ∨ x ∈ l) (hy : ∀ i, y = .m i → i ∈ p.cm) : Inv { p with th := l } :=
  h.setT (fun i hi hc => by
    rcases hl2 _ (h.inT i hi hc) with e | e
    · exact absurd (hy i e.symm) hc
    · exact e) (fun i hi => h.tM i (hl _ hi)) (fun x hx => h.tQ x (hl _ hx))
theorem Inv.lastT (h : Inv p) {l : List Th} {y : Th} (hl : ∀ x ∈ l, x ∈ p.th) (hl2 : ∀ x ∈ p.th, x = y ∨ x ∈ l) (hy : y ∈ p.th) : Inv { p with th := l ++ [y] } :=
  h.setT (fun i hi hc => by
    rcases hl2 _ (h.inT i hi hc) with e | e
    · rw [e]; simp
    · exact List.mem_append_left _ e) (fun i hi => by
    rcases List.mem_append.1 hi with hi | hi
    · exact h.tM i (hl _ hi)
    · rw [List.mem_singleton] at hi; rw [← hi] at hy; exact h.tM i hy) (fun x hx => by
    rcases List.mem_append.1 hx with hx | hx
    · exact h.tQ x (hl _ hx)
    · rw [List.mem_singleton] at hx; rw [← hx] at hy; exact h.tQ x hy)
theorem getD_set {l : List Int} {i j : Nat} {v : Int} (h : i < l.length) : (l.set i v).getD j 0 = if i = j then v else l.getD j 0 := by
  rw [List.getD_eq_getElem?_getD, List.getElem?_set]
  by_cases e : i = j
  · subst e; simp [h]
  · simp [e, List.getD_eq_getElem?_getD]
theorem Inv.acked (h : Inv p) {i : Nat} (hc : i ∈ p.cm) (hk : i ∉ p.ak) : Inv { p with ak := i :: p.ak, op := p.op.set (sid p i) (p.op.getD (sid p i) 0 - 1) } := by
  have hi := h.cmN i hc
  obtain ⟨h1, h2⟩ := h.opens hc hk
  have hlt : sid p i < p.op.length := by rw [h.lo]; exact h1
  have hop : ∀ s, s < p.out.length → (p.op.set (sid p i) (p.op.getD (sid p i) 0 - 1)).getD s 0 = (cnt p.ms (i :: p.ak) s p.ms.length : Int) := fun s hs => by
    rw [getD_set hlt]
    split
    · rename_i e
      subst e
      rw [h.opS _ h1]
      have := cnt_cons (ms := p.ms) hk (s := sid p i) rfl (n := p.ms.length)
      rw [if_pos hi] at this
      omega
    · rename_i e
      rw [cnt_other (fun e2 => e (by unfold sid; exact e2)), h.opS s hs]
  refine ⟨by rw [List.length_set]; exact h.lo, h.l16, h.li, h.n3, h.cmN, fun j hj => ?_, h.inT, h.tM, h.tQ, h.bA, h.bR, h.qs, h.ks, h.ke, h.x5, h.msS, hop, h.outS, h.unS, fun c ho hkd s hs hm => ?_, h.inN, h.ord, h.inX, h.nd⟩
  · rcases List.mem_cons.1 hj with rfl | hj
    · exact hc
    · exact h.akC j hj
  · have h0 := h.qO c ho hkd s hs hm
    show (p.op.set _ _).getD s 0 = 0
    rw [getD_set hlt]
    split
    · rename_i e
      rw [e] at h2; omega
    · exact h0
theorem Inv.comes (h : Inv p) {i : Nat} (hi : i < p.ms.length) (hc : i ∉ p.cm) (ha : ∀ j, j < i → sid p j = sid p i → j ∈ p.cm) : Inv { p with cm := i :: p.cm, inn := p.inn.set (sid p i) (p.inn.getD (sid p i) 0 + 1) } := by
  obtain ⟨h1, h2⟩ := h.due hi hc ha
  have hso := h.msS i hi
  have hnu : ¬ under p (sid p i) := fun hu => by
    obtain ⟨c, ho, _, hk, hm⟩ := hu
    have h0 := h.qO c ho hk _ hso hm
    rw [h.opS _ hso] at h0
    have := cnt_zero.1 (by omega : cnt p.ms p.ak (sid p i) p.ms.length = 0) i hi rfl
    exact hc (h.akC i this)
  have hin : ∀ s, (p.inn.set (sid p i) (p.inn.getD (sid p i) 0 + 1)).getD s 0 = if sid p i = s then p.inn.getD s 0 + 1 else p.inn.getD s 0 := fun s => by
    rw [getD_set h1]
    split
    · rename_i e; rw [e]
    · rfl
  refine ⟨h.lo, h.l16, by rw [List.length_set]; exact h.li, h.n3, fun j hj => ?_, fun j hj => List.mem_cons_of_mem _ (h.akC j hj), fun j hj hjc => h.inT j hj fun e => hjc (List.mem_cons_of_mem _ e), h.tM, h.tQ, fun j hj => List.mem_cons_of_mem _ (h.bA j hj), h.bR, h.qs, h.ks, h.ke, h.x5, h.msS, h.opS, fun s hs hu => ?_, fun s hs hu => ?_, h.qO, fun s hs => ?_, fun j hj hjc => ?_, fun s hs => ?_, List.nodup_cons.2 ⟨hc, h.nd⟩⟩
  · rcases List.mem_cons.1 hj with rfl | hj
    · exact hi
    · exact h.cmN j hj
  · show p.out.getD s 0 = (p.inn.set _ _).getD s 0 + _
    rw [hin, h.outS s hs hu]
    split
    · rename_i e
      have := cnt_cons (ms := p.ms) hc (s := s) e (n := p.ms.length)
      rw [if_pos hi] at this
      show _ = _ + ((cnt p.ms (i :: p.cm) s p.ms.length : Nat) : Int)
      omega
    · rename_i e
      show _ = _ + ((cnt p.ms (i :: p.cm) s p.ms.length : Nat) : Int)
      rw [cnt_other e]
  · show (p.inn.set _ _).getD s 0 = 0
    rw [hin, if_neg (fun e => hnu (by rw [e]; exact hu))]
    exact h.unS s hs hu
  · show 0 ≤ (p.inn.set _ _).getD s 0
    rw [hin]
    have := h.inN s hs
    split <;> omega
  · have hjc' : j ∉ p.cm := fun e => hjc (List.mem_cons_of_mem _ e)
    have hji : j ≠ i := fun e => hjc (by rw [e]; exact List.mem_cons_self ..)
    show ssn p j = (p.inn.set _ _).getD (sid p j) 0 + _
    rw [hin, h.ord j hj hjc']
    split
    · rename_i e
      have hij : i < j := by
        rcases Nat.lt_or_ge i j with h' | h'
        · exact h'
        · exact absurd (ha j (by omega) e.symm) hjc'
      have := cnt_cons (ms := p.ms) hc (s := sid p j) e (n := j)
      rw [if_pos hij] at this
      show _ = _ + ((cnt p.ms (i :: p.cm) (sid p j) j : Nat) : Int)
      omega
    · rename_i e
      show _ = _ + ((cnt p.ms (i :: p.cm) (sid p j) j : Nat) : Int)
      rw [cnt_other e]
  · show (p.inn.set _ _).getD s 0 = 0
    have hs : p.out.length ≤ s := hs
    rw [hin, if_neg (by omega)]
    exact h.inX s hs
theorem getD_append {α : Type} {l : List α} {x d : α} {j : Nat} : (l ++ [x]).getD j d = if j = l.length then x else l.getD j d := by
  rw [List.getD_eq_getElem?_getD, List.getD_eq_getElem?_getD, List.getElem?_append]
  split
  · rename_i h; rw [if_neg (by omega)]
  · rename_i h
    by_cases e : j = l.length
    · subst e; simp
    · rw [if_neg e, List.getElem?_eq_none (by simp; omega), List.getElem?_eq_none (by omega)]
theorem Inv.send (h : Inv p) (h3 : p.ms.length < 300) {s : Nat} (hs : s < p.out.length) (hn : ∀ c, p.o = some c → c.kd = 1 → (s : Int) ∉ allS c.ss p.out.length) :
    Inv { p with ms := p.ms ++ [(s, p.out.getD s 0)], out := p.out.set s (p.out.getD s 0 + 1), op := p.op.set s (p.op.getD s 0 + 1), th := p.th ++ [.m p.ms.length] } := by
  have hnu : ¬ under p s := fun ⟨c, ho, _, hk, hm⟩ => hn c ho hk hm
  have hms : ∀ i, i < p.ms.length → (p.ms ++ [(s, p.out.getD s 0)]).getD i (0, 0) = p.ms.getD i (0, 0) := fun i hi => by rw [getD_append, if_neg (by omega)]
  have hml : (p.ms ++ [(s, p.out.getD s 0)]).getD p.ms.length (0, 0) = (s, p.out.getD s 0) := by rw [getD_append, if_pos rfl]
  have hlen : (p.ms ++ [(s, p.out.getD s 0)]).length = p.ms.length + 1 := by simp
  have hNc : p.ms.length ∉ p.cm := fun e => by have := h.cmN _ e; omega
  have hNa : p.ms.length ∉ p.ak := fun e => hNc (h.akC _ e)
  have hc : ∀ (l : List Nat) (u n : Nat), n ≤ p.ms.length → cnt (p.ms ++ [(s, p.out.getD s 0)]) l u n = cnt p.ms l u n := fun l u n hn => cnt_congr fun i hi => ⟨by rw [hms i (by omega)], fun _ => Iff.rfl⟩
  have hcs : ∀ (l : List Nat) (u : Nat), p.ms.length ∉ l → cnt (p.ms ++ [(s, p.out.getD s 0)]) l u (p.ms.length + 1) = cnt p.ms l u p.ms.length + if s = u then 1 else 0 := fun l u hl => by
    rw [cnt_succ, hc l u _ (Nat.le_refl _), hml]
    by_cases e : s = u <;> simp [e, hl]
  have hos : ∀ u, (p.out.set s (p.out.getD s 0 + 1)).getD u 0 = if s = u then p.out.getD u 0 + 1 else p.out.getD u 0 := fun u => by
    rw [getD_set hs]; split
    · rename_i e; rw [e]
    · rfl
  have hps : ∀ u, (p.op.set s (p.op.getD s 0 + 1)).getD u 0 = if s = u then p.op.getD u 0 + 1 else p.op.getD u 0 := fun u => by
    rw [getD_set (by rw [h.lo]; exact hs)]; split
    · rename_i e; rw [e]
    · rfl
  have hol : (p.out.set s (p.out.getD s 0 + 1)).length = p.out.length := List.length_set
  have hun : ∀ u, under { p with ms := p.ms ++ [(s, p.out.getD s 0)], out := p.out.set s (p.out.getD s 0 + 1), op := p.op.set s (p.op.getD s 0 + 1), th := p.th ++ [.m p.ms.length] } u ↔ under p u := fun u => by
    unfold under; simp only [hol]
  refine ⟨by simp only [List.length_set]; exact h.lo, by rw [hol]; exact h.l16, by rw [hol]; exact h.li, by rw [hlen]; omega, fun i hi => by rw [hlen]; have := h.cmN i hi; omega, h.akC, fun i hi hic => ?_, fun i hi => ?_, fun x hx => ?_, h.bA, h.bR, ?_, h.ks, h.ke, h.x5, fun i hi => ?_, fun u hu => ?_, fun u hu hnu' => ?_, fun u hu hu' => ?_, fun c ho hk u hu hm => ?_, fun u hu => ?_, fun i hi hic => ?_, fun u hu => ?_, h.nd⟩
  · rw [hlen] at hi
    by_cases e : i = p.ms.length
    · subst e; simp
    · exact List.mem_append_left _ (h.inT i (by omega) hic)
  · rw [hlen]
    rcases List.mem_append.1 hi with hi | hi
    · have := h.tM i hi; omega
    · rw [List.mem_singleton] at hi; cases hi; omega
  · rcases List.mem_append.1 hx with hx | hx
    · exact h.tQ x hx
    · rw [List.mem_singleton] at hx; cases hx
  · rcases h.qs with hq | ⟨c, ho, hn', hq, he⟩
    · exact .inl hq
    · refine .inr ⟨c, ho, hn', ?_, he⟩
      unfold Qok at hq ⊢
      rw [hol]
      exact hq
  · rw [hlen] at hi
    show sid _ i < _
    unfold sid
    rw [hol]
    by_cases e : i = p.ms.length
    · subst e; rw [hml]; exact hs
    · rw [hms i (by omega)]; exact h.msS i (by omega)
  · rw [hol] at hu
    show (p.op.set _ _).getD u 0 = _
    rw [hps, hlen, hcs _ _ hNa, h.opS u hu]
    split <;> simp
  · rw [hol] at hu
    show (p.out.set _ _).getD u 0 = _
    rw [hos, hlen, hcs _ _ hNc, h.outS u hu fun e => hnu' ((hun u).2 e)]
    split <;> simp <;> omega
  · rw [hol] at hu
    exact h.unS u hu ((hun u).1 hu')
  · rw [hol] at hu hm
    have h0 := h.qO c ho hk u hu hm
    show (p.op.set _ _).getD u 0 = 0
    rw [hps, if_neg (fun e => hn c ho hk (by rw [e]; exact hm))]
    exact h0
  · rw [hol] at hu; exact h.inN u hu
  · rw [hlen] at hi
    show ssn _ i = p.inn.getD (sid _ i) 0 + _
    unfold ssn sid
    by_cases e : i = p.ms.length
    · subst e
      rw [hml]
      show p.out.getD s 0 = p.inn.getD s 0 + ((cnt (p.ms ++ [(s, p.out.getD s 0)]) p.cm s p.ms.length : Nat) : Int)
      rw [hc _ _ _ (Nat.le_refl _)]
      exact h.outS s hs hnu
    · have hlt : i < p.ms.length := by omega
      show ((p.ms ++ [(s, p.out.getD s 0)]).getD i (0, 0)).2 = p.inn.getD ((p.ms ++ [(s, p.out.getD s 0)]).getD i (0, 0)).1 0 + ((cnt (p.ms ++ [(s, p.out.getD s 0)]) p.cm ((p.ms ++ [(s, p.out.getD s 0)]).getD i (0, 0)).1 i : Nat) : Int)
      rw [hms i hlt, hc _ _ _ (by omega)]
      exact h.ord i hlt hic
  · rw [hol] at hu; exact h.inX u hu
theorem Inv.ask (h : Inv p) (ho : p.o = none) {c : Qu} (hn : c.n = p.nx) (hq : Qok p c) (hop : c.kd = 1 → ∀ s, s < p.out.length → (s : Int) ∈ allS c.ss p.out.length → p.op.getD s 0 = 0) :
    Inv { p with nx := p.nx + 1, o := some c, th := p.th ++ [.q c] } := by
  have hex : p.ex = p.nx := by
    rcases h.qs with ⟨_, e⟩ | ⟨c', e, _⟩
    · exact e
    · rw [ho] at e; cases e
  have hun : ∀ s, ¬ under { p with nx := p.nx + 1, o := some c, th := p.th ++ [.q c] } s := fun s ⟨c', _, e, _⟩ => by
    have e : p.ex = p.nx + 1 := e
    omega
  have hun0 : ∀ s, ¬ under p s := fun s ⟨c', e, _⟩ => by rw [ho] at e; cases e
  refine ⟨h.lo, h.l16, ?_, h.n3, h.cmN, h.akC, fun i hi hc => List.mem_append_left _ (h.inT i hi hc), fun i hi => ?_, fun x hx => ?_, h.bA, h.bR, .inr ⟨c, rfl, ?_, hq, .inl ?_⟩, h.ks, h.ke, h.x5, h.msS, h.opS, fun s hs _ => h.outS s hs (hun0 s), fun s _ hu => absurd hu (hun s), fun c' hc' => ?_, h.inN, h.ord, h.inX, h.nd⟩
  · have := h.li
    have h1 : moreOf p = 0 := by unfold moreOf; rw [ho]
    have h2 : moreOf { p with nx := p.nx + 1, o := some c, th := p.th ++ [.q c] } = 0 := by
      unfold moreOf
      show (if p.ex = p.nx + 1 then c.mo else 0) = 0
      rw [if_neg (by omega)]
    rw [h2, ← h1]; exact this
  · rcases List.mem_append.1 hi with hi | hi
    · exact h.tM i hi
    · rw [List.mem_singleton] at hi; cases hi
  · rcases List.mem_append.1 hx with hx | hx
    · have := (h.tQ x hx).1
      refine ⟨by show x.n < p.nx + 1; omega, fun c' hc' e => ?_⟩
      cases hc'
      omega
    · rw [List.mem_singleton] at hx; cases hx
      exact ⟨by show c.n < p.nx + 1; omega, fun c' hc' _ => by cases hc'; rfl⟩
  · show c.n = p.nx + 1 - 1; omega
  · show p.ex = p.nx + 1 - 1; omega
  · cases hc'
    exact hop
def rst : List Int → List Int → List Int
  | [], qs => qs
  | x :: r, qs => rst r (qs.set x.toNat 0)
theorem rst_len : ∀ {l qs : List Int}, (rst l qs).length = qs.length
  | [], _ => rfl
  | x :: r, qs => by rw [rst, rst_len, List.length_set]
theorem rst_get {s : Nat} : ∀ {l qs : List Int}, (∀ x ∈ l, 0 ≤ x) → (rst l qs).getD s 0 = if (s : Int) ∈ l then 0 else qs.getD s 0
  | [], qs, _ => by simp [rst]
  | x :: r, qs, h => by
    rw [rst, rst_get fun y hy => h y (List.mem_cons_of_mem _ hy)]
    have hx := h x (List.mem_cons_self ..)
    have hset : (qs.set x.toNat 0).getD s 0 = if x.toNat = s then 0 else qs.getD s 0 := by
      rw [List.getD_eq_getElem?_getD, List.getElem?_set]
      by_cases e : x.toNat = s
      · rw [if_pos e, if_pos e]; split <;> rfl
      · rw [if_neg e, if_neg e, List.getD_eq_getElem?_getD]
    rw [hset]
    by_cases h1 : (s : Int) ∈ r
    · simp [h1]
    · by_cases e : x.toNat = s
      · have : x = (s : Int) := by omega
        subst this; simp
      · have : ¬ (s : Int) = x := by omega
        simp [h1, this, e]
theorem allS_nn {ss : List Int} {m : Nat} (h : ∀ s ∈ ss, 0 ≤ s) : ∀ x ∈ allS ss m, 0 ≤ x := by
  intro x hx
  unfold allS at hx
  split at hx
  · exact h x hx
  · obtain ⟨i, _, rfl⟩ := List.mem_map.1 hx
    omega
theorem getD_rep {l : List Int} {k s : Nat} : (l ++ List.replicate k 0).getD s 0 = l.getD s 0 := by
  rw [List.getD_eq_getElem?_getD, List.getD_eq_getElem?_getD, List.getElem?_append]
  split
  · rfl
  · rename_i h
    rw [List.getElem?_eq_none (l := l) (by omega), List.getElem?_replicate]
    split <;> rfl
theorem Inv.allc (h : Inv p) {s : Nat} (hs : s < p.out.length) (h0 : p.op.getD s 0 = 0) {i : Nat} (hi : i < p.ms.length) (e : sid p i = s) : i ∈ p.cm := by
  rw [h.opS s hs] at h0
  exact h.akC i (cnt_zero.1 (by omega) i hi e)
theorem Inv.done (h : Inv p) {x : Qu} (hx : x.n < p.nx ∧ ∀ c, p.o = some c → x.n = c.n → x = c) (he : x.n = p.ex) :
    p.o = some x ∧ Qok p x ∧ p.inn.length = p.out.length ∧ Inv { p with inn := if x.kd = 1 then rst (allS x.ss p.inn.length) p.inn else p.inn ++ List.replicate x.mo.toNat 0, ex := p.ex + 1, kp := some (x.n, 1) } := by
  rcases h.qs with ⟨_, e⟩ | ⟨c, ho, hn, hq, e⟩
  · omega
  have hen : p.ex = p.nx - 1 := by omega
  have hxc : x = c := hx.2 c ho (by omega)
  subst hxc
  have hm0 : moreOf p = 0 := by unfold moreOf; rw [ho]; dsimp only; rw [if_neg (by omega)]
  have hil : p.inn.length = p.out.length := by have := h.li; omega
  refine ⟨ho, hq, hil, ?_⟩
  have hun0 : ∀ s, ¬ under p s := fun s ⟨c', _, e, _⟩ => by omega
  rcases hq with ⟨hk, hmo, hss⟩ | ⟨hk, hss, hmo, hl⟩
  · rw [if_pos hk, hil]
    have hnn := allS_nn (m := p.out.length) fun s hs => (hss s hs).1
    have hin : ∀ s, (rst (allS x.ss p.out.length) p.inn).getD s 0 = if (s : Int) ∈ allS x.ss p.out.length then 0 else p.inn.getD s 0 := fun s => rst_get hnn
    have hun : ∀ s, under { p with inn := rst (allS x.ss p.out.length) p.inn, ex := p.ex + 1, kp := some (x.n, 1) } s ↔ (s : Int) ∈ allS x.ss p.out.length := fun s => by
      unfold under
      constructor
      · rintro ⟨c, hc, _, _, hm⟩
        have hc : p.o = some c := hc
        rw [ho] at hc; cases hc; exact hm
      · exact fun hm => ⟨x, ho, by show p.ex + 1 = p.nx; omega, hk, hm⟩
    refine ⟨h.lo, h.l16, ?_, h.n3, h.cmN, h.akC, h.inT, h.tM, h.tQ, h.bA, fun n v hb => ?_, .inr ⟨x, ho, hn, .inl ⟨hk, hmo, hss⟩, .inr (by show p.ex + 1 = p.nx; omega)⟩, fun n v hkp => ?_, fun _ => by simp, by have := h.x5; show 5 ≤ p.ex + 1; omega, h.msS, h.opS, fun s hs hu => ?_, fun s hs hu => ?_, h.qO, fun s hs => ?_, fun i hi hic => ?_, fun s hs => ?_, h.nd⟩
    · have : moreOf { p with inn := rst (allS x.ss p.out.length) p.inn, ex := p.ex + 1, kp := some (x.n, 1) } = 0 := by
        unfold moreOf; dsimp only; rw [ho]; dsimp only; split <;> simp [hmo]
      rw [this]
      show (((rst _ p.inn).length : Nat) : Int) = _
      rw [rst_len, hil]; simp
    · have := h.bR n v hb
      exact ⟨by show n < p.ex + 1; omega, this.2⟩
    · cases hkp
      exact ⟨by show x.n = p.ex + 1 - 1; omega, rfl⟩
    · show p.out.getD s 0 = (rst _ p.inn).getD s 0 + _
      rw [hin, if_neg fun e => hu ((hun s).2 e)]
      exact h.outS s hs (hun0 s)
    · show (rst _ p.inn).getD s 0 = 0
      rw [hin, if_pos ((hun s).1 hu)]
    · show 0 ≤ (rst _ p.inn).getD s 0
      rw [hin]; split
      · omega
      · exact h.inN s hs
    · show ssn p i = (rst _ p.inn).getD (sid p i) 0 + _
      have hs := h.msS i hi
      rw [hin, if_neg fun e => hic (h.allc hs (h.qO x ho hk _ hs e) hi rfl)]
      exact h.ord i hi hic
    · show (rst _ p.inn).getD s 0 = 0
      rw [hin]; split
      · rfl
      · exact h.inX s hs
  · rw [if_neg (by omega)]
    have hun : ∀ s, ¬ under { p with inn := p.inn ++ List.replicate x.mo.toNat 0, ex := p.ex + 1, kp := some (x.n, 1) } s := fun s ⟨c, hc, _, hk', _⟩ => by
      have hc : p.o = some c := hc
      rw [ho] at hc; cases hc; omega
    refine ⟨h.lo, h.l16, ?_, h.n3, h.cmN, h.akC, h.inT, h.tM, h.tQ, h.bA, fun n v hb => ?_, .inr ⟨x, ho, hn, .inr ⟨hk, hss, hmo, hl⟩, .inr (by show p.ex + 1 = p.nx; omega)⟩, fun n v hkp => ?_, fun _ => by simp, by have := h.x5; show 5 ≤ p.ex + 1; omega, h.msS, h.opS, fun s hs hu => ?_, fun s hs hu => absurd hu (hun s), h.qO, fun s hs => ?_, fun i hi hic => ?_, fun s hs => ?_, h.nd⟩
    · have : moreOf { p with inn := p.inn ++ List.replicate x.mo.toNat 0, ex := p.ex + 1, kp := some (x.n, 1) } = x.mo := by
        unfold moreOf; dsimp only; rw [ho]; dsimp only; rw [if_pos (by omega)]
      rw [this]
      show (((p.inn ++ List.replicate x.mo.toNat 0).length : Nat) : Int) = _
      rw [List.length_append, List.length_replicate, hil]; simp; omega
    · have := h.bR n v hb
      exact ⟨by show n < p.ex + 1; omega, this.2⟩
    · cases hkp
      exact ⟨by show x.n = p.ex + 1 - 1; omega, rfl⟩
    · show p.out.getD s 0 = (p.inn ++ _).getD s 0 + _
      rw [getD_rep]
      exact h.outS s hs (hun0 s)
    · show 0 ≤ (p.inn ++ _).getD s 0
      rw [getD_rep]; exact h.inN s hs
    · show ssn p i = (p.inn ++ _).getD (sid p i) 0 + _
      rw [getD_rep]; exact h.ord i hi hic
    · show (p.inn ++ _).getD s 0 = 0
      rw [getD_rep]; exact h.inX s hs
theorem Inv.told (h : Inv p) {c : Qu} (ho : p.o = some c) (hc : c.n < p.ex) :
    p.ex = p.nx ∧ Qok p c ∧ Inv { p with o := none, out := if c.kd = 2 then p.out ++ List.replicate c.mo.toNat 0 else rst (allS c.ss p.out.length) p.out, op := if c.kd = 2 then p.op ++ List.replicate c.mo.toNat 0 else p.op } := by
  rcases h.qs with ⟨e, _⟩ | ⟨c', ho', hn, hq, e⟩
  · rw [ho] at e; cases e
  rw [ho] at ho'; cases ho'
  have hen : p.ex = p.nx := by omega
  refine ⟨hen, hq, ?_⟩
  rcases hq with ⟨hk, hmo, hss⟩ | ⟨hk, hss, hmo, hl⟩
  · rw [if_neg (by omega), if_neg (by omega)]
    have hnn := allS_nn (m := p.out.length) fun s hs => (hss s hs).1
    have hou : ∀ s, (rst (allS c.ss p.out.length) p.out).getD s 0 = if (s : Int) ∈ allS c.ss p.out.length then 0 else p.out.getD s 0 := fun s => rst_get hnn
    have hl' : (rst (allS c.ss p.out.length) p.out).length = p.out.length := rst_len
    have hun : ∀ s, under p s ↔ (s : Int) ∈ allS c.ss p.out.length := fun s => by
      constructor
      · rintro ⟨c', hc', _, _, hm⟩
        rw [ho] at hc'; cases hc'; exact hm
      · exact fun hm => ⟨c, ho, hen, hk, hm⟩
    refine ⟨by rw [hl']; exact h.lo, by rw [hl']; exact h.l16, ?_, h.n3, h.cmN, h.akC, h.inT, h.tM, fun x hx => ⟨(h.tQ x hx).1, fun c' e => (by cases e)⟩, h.bA, h.bR, .inl ⟨rfl, hen⟩, h.ks, h.ke, h.x5, fun i hi => by rw [hl']; exact h.msS i hi, fun s hs => by rw [hl'] at hs; exact h.opS s hs, fun s hs _ => ?_, fun s _ ⟨c', e, _⟩ => (by cases e), fun c' e => (by cases e), fun s hs => by rw [hl'] at hs; exact h.inN s hs, h.ord, fun s hs => (by rw [hl'] at hs; exact h.inX s hs), h.nd⟩
    · have h1 := h.li
      have h2 : moreOf p = 0 := by unfold moreOf; rw [ho]; dsimp only; rw [if_pos hen, hmo]
      rw [hl']
      show _ = _ + (0 : Int)
      rw [h1, h2]
    · rw [hl'] at hs
      show (rst _ p.out).getD s 0 = p.inn.getD s 0 + _
      rw [hou]
      by_cases hm : (s : Int) ∈ allS c.ss p.out.length
      · rw [if_pos hm, h.unS s hs ((hun s).2 hm)]
        have h0 := h.qO c ho hk s hs hm
        have : cnt p.ms p.cm s p.ms.length = 0 := cnt_zero.2 fun i hi e => h.allc hs h0 hi e
        show (0 : Int) = 0 + ((cnt p.ms p.cm s p.ms.length : Nat) : Int)
        rw [this]; rfl
      · rw [if_neg hm]
        exact h.outS s hs fun e => hm ((hun s).1 e)
  · rw [if_pos hk, if_pos hk]
    have hl' : (p.out ++ List.replicate c.mo.toNat 0).length = p.out.length + c.mo.toNat := by simp
    have hun : ∀ s, ¬ under p s := fun s ⟨c', hc', _, hk', _⟩ => by rw [ho] at hc'; cases hc'; omega
    have hnone : ∀ (l : List Nat) (s : Nat), p.out.length ≤ s → cnt p.ms l s p.ms.length = 0 := fun l s hs => cnt_zero.2 fun i hi e => by
      have := h.msS i hi
      unfold sid at this
      omega
    have hx : ∀ s, p.out.length ≤ s → p.out.getD s 0 = 0 := fun s hs => by
      rw [List.getD_eq_getElem?_getD, List.getElem?_eq_none hs]; rfl
    have hxp : ∀ s, p.out.length ≤ s → p.op.getD s 0 = 0 := fun s hs => by
      rw [List.getD_eq_getElem?_getD, List.getElem?_eq_none (by rw [h.lo]; exact hs)]; rfl
    refine ⟨by simp [h.lo], by rw [hl']; omega, ?_, h.n3, h.cmN, h.akC, h.inT, h.tM, fun x hx => ⟨(h.tQ x hx).1, fun c' e => (by cases e)⟩, h.bA, h.bR, .inl ⟨rfl, hen⟩, h.ks, h.ke, h.x5, fun i hi => by rw [hl']; have := h.msS i hi; exact Nat.lt_of_lt_of_le this (Nat.le_add_right _ _), fun s hs => ?_, fun s hs _ => ?_, fun s _ ⟨c', e, _⟩ => (by cases e), fun c' e => (by cases e), fun s hs => ?_, h.ord, fun s hs => ?_, h.nd⟩
    · have h1 := h.li
      have h2 : moreOf p = c.mo := by unfold moreOf; rw [ho]; dsimp only; rw [if_pos hen]
      rw [hl']
      show _ = _ + (0 : Int)
      rw [h1, h2]; simp; omega
    · show (p.op ++ _).getD s 0 = _
      rw [getD_rep]
      by_cases hs' : s < p.out.length
      · exact h.opS s hs'
      · rw [hxp s (by omega)]
        show (0 : Int) = ((cnt p.ms p.ak s p.ms.length : Nat) : Int)
        rw [hnone _ _ (by omega)]; rfl
    · show (p.out ++ _).getD s 0 = p.inn.getD s 0 + _
      rw [getD_rep]
      by_cases hs' : s < p.out.length
      · exact h.outS s hs' (hun s)
      · rw [hx s (by omega), h.inX s (by omega)]
        show (0 : Int) = 0 + ((cnt p.ms p.cm s p.ms.length : Nat) : Int)
        rw [hnone _ _ (by omega)]; rfl
    · by_cases hs' : s < p.out.length
      · exact h.inN s hs'
      · show 0 ≤ p.inn.getD s 0
        rw [h.inX s (by omega)]; exact Int.le_refl _
    · rw [hl'] at hs; exact h.inX s (by omega)
theorem getD_zeros {n s : Nat} : (List.replicate n (0 : Int)).getD s 0 = 0 := by
  rw [List.getD_eq_getElem?_getD, List.getElem?_replicate]; split <;> rfl
theorem Inv.init {n : Nat} (hn : n ≤ 16) : Inv ⟨[], [], [], List.replicate n 0, List.replicate n 0, 5, none, List.replicate n 0, 5, none, [], []⟩ :=
  ⟨rfl, by simpa using hn, by simp [moreOf], by simp, fun i hi => by simp at hi, fun i hi => by simp at hi, fun i hi => by simp at hi, fun i hi => by simp at hi, fun x hx => by simp at hx, fun i hi => by simp at hi, fun n v hv => by simp at hv,
   .inl ⟨rfl, rfl⟩, fun n v hv => (by cases hv), fun h => absurd h (show ¬ (5 : Int) < 5 by decide), (show (5 : Int) ≤ 5 by decide), fun i hi => by simp at hi, fun s hs => (by show (List.replicate n (0 : Int)).getD s 0 = _; rw [getD_zeros]; simp [cnt]), fun s hs _ => (by show (List.replicate n (0 : Int)).getD s 0 = (List.replicate n (0 : Int)).getD s 0 + _; rw [getD_zeros]; simp [cnt]), fun s hs ⟨c, e, _⟩ => (by cases e), fun c e => (by cases e), fun s hs => by rw [getD_zeros]; exact Int.le_refl _, fun i hi => by simp at hi, fun s hs => getD_zeros, List.nodup_nil⟩
theorem len_sub : ∀ {l l' : List Nat}, l.Nodup → (∀ x ∈ l, x ∈ l') → l.length ≤ l'.length
  | [], _, _, _ => Nat.zero_le _
  | x :: r, l', hn, h => by
    obtain ⟨h1, h2⟩ := List.nodup_cons.1 hn
    obtain ⟨a, b, rfl⟩ := List.append_of_mem (h x (List.mem_cons_self ..))
    have := len_sub (l := r) (l' := a ++ b) h2 fun y hy => by
      have := h y (List.mem_cons_of_mem _ hy)
      rcases List.mem_append.1 this with e | e
      · exact List.mem_append_left _ e
      · rcases List.mem_cons.1 e with rfl | e
        · exact absurd hy h1
        · exact List.mem_append_right _ e
    simp only [List.length_cons, List.length_append] at this ⊢
    omega
theorem Inv.final (h : Inv p) (ht : p.th = []) (ho : p.o = none) : p.out = p.inn ∧ p.cm.length = p.ms.length := by
  have hall : ∀ i, i < p.ms.length → i ∈ p.cm := fun i hi => by
    by_cases hc : i ∈ p.cm
    · exact hc
    · have := h.inT i hi hc
      rw [ht] at this; simp at this
  constructor
  · have hl := h.li
    have hm : moreOf p = 0 := by unfold moreOf; rw [ho]
    refine List.ext_getElem (by omega) fun s h1 h2 => ?_
    have hu : ¬ under p s := fun ⟨c, e, _⟩ => by rw [ho] at e; cases e
    have := h.outS s h1 hu
    rw [cnt_zero.2 fun i hi _ => hall i hi] at this
    rw [List.getD_eq_getElem?_getD, List.getElem?_eq_getElem h1, List.getD_eq_getElem?_getD, List.getElem?_eq_getElem h2] at this
    simpa using this
  · have h1 : (List.range p.ms.length).length ≤ p.cm.length := by
      refine len_sub List.nodup_range fun i hi => ?_
      exact hall i (by simpa using hi)
    have h2 : p.cm.length ≤ (List.range p.ms.length).length := by
      refine len_sub h.nd fun i hi => ?_
      have := h.cmN i hi
      simpa using this
    simp only [List.length_range] at h1 h2
    omega
def aheadB (ms : List (Nat × Int)) (cm : List Nat) (i : Nat) : Bool := (List.range i).any fun j => decide ((ms.getD j (0, 0)).1 = (ms.getD i (0, 0)).1) && !decide (j ∈ cm)
theorem ahead_no {i : Nat} : aheadB p.ms p.cm i = false ↔ ∀ j, j < i → sid p j = sid p i → j ∈ p.cm := by
  unfold aheadB sid
  rw [List.any_eq_false]
  constructor
  · intro h j hj e
    have := h j (by simpa using hj)
    rw [decide_eq_true e] at this
    simpa using this
  · intro h j hj
    have hj : j < i := by simpa using hj
    by_cases e : (p.ms.getD j (0, 0)).1 = (p.ms.getD i (0, 0)).1
    · have := h j hj e
      simp [e, this]
    · simp only [e, decide_false, Bool.false_and, Bool.false_eq_true, not_false_eq_true]
def goesB (ms : List (Nat × Int)) (cm : List Nat) : Th → Bool
  | .q _ => true
  | .m i => decide (i ∈ cm) || !aheadB ms cm i
theorem Inv.goes (h : Inv p) (ht : p.th ≠ []) : ∃ y ∈ p.th, goesB p.ms p.cm y = true := by
  by_cases hx : ∃ y ∈ p.th, goesB p.ms p.cm y = true
  · exact hx
  · exfalso
    have hno : ∀ y ∈ p.th, goesB p.ms p.cm y = false := fun y hy => by
      cases e : goesB p.ms p.cm y
      · rfl
      · exact absurd ⟨y, hy, e⟩ hx
    have key : ∀ n i, i < n → i < p.ms.length → i ∈ p.cm := by
      intro n
      induction n with
      | zero => intro i hi; omega
      | succ n ih =>
        intro i hi hl
        by_cases hc : i ∈ p.cm
        · exact hc
        · have h1 := hno _ (h.inT i hl hc)
          simp only [goesB, Bool.or_eq_false_iff, Bool.not_eq_false'] at h1
          have h2 : aheadB p.ms p.cm i = false := ahead_no.2 fun j hj _ => ih j (by omega) (by omega)
          rw [h2] at h1
          cases h1.2
    obtain ⟨y, hy⟩ := List.exists_mem_of_ne_nil _ ht
    have h1 := hno y hy
    cases y with
    | q x => cases h1
    | m i =>
      have := key (i + 1) i (by omega) (h.tM i hy)
      simp [goesB, this] at h1
def tri : Nat → Nat
  | 0 => 0
  | n + 1 => tri n + n
theorem tri_le : ∀ n : Nat, tri n ≤ n * n
  | 0 => Nat.le_refl _
  | n + 1 => by
    have := tri_le n
    have h : (n + 1) * (n + 1) = n * n + 2 * n + 1 := by rw [Nat.add_mul, Nat.mul_add]; omega
    rw [tri, h]; omega
def turns (ms : List (Nat × Int)) (cm : List Nat) (th : List Th) (k : Nat) : Nat := tri th.length + (th.findIdx (goesB ms cm) + 1) + 2 * th.length + k
theorem turns_wait {ms : List (Nat × Int)} {cm : List Nat} {y : Th} {r : List Th} {k : Nat} (hy : goesB ms cm y = false) (hx : ∃ z ∈ y :: r, goesB ms cm z = true) : turns ms cm (r ++ [y]) k + 1 ≤ turns ms cm (y :: r) k := by
  obtain ⟨z, hz, hg⟩ := hx
  have hzr : z ∈ r := by
    rcases List.mem_cons.1 hz with rfl | h
    · rw [hy] at hg; cases hg
    · exact h
  have hlt : r.findIdx (goesB ms cm) < r.length := List.findIdx_lt_length_of_exists ⟨z, hzr, hg⟩
  unfold turns
  rw [List.findIdx_append, if_pos hlt, List.findIdx_cons, hy]
  simp only [List.length_append, List.length_cons, List.length_nil, cond_false, Nat.zero_add]
  omega
theorem turns_go {ms : List (Nat × Int)} {cm cm' : List Nat} {y : Th} {r : List Th} {k k' : Nat} (hk : k' ≤ k + 1) : turns ms cm' r k' + 1 ≤ turns ms cm (y :: r) k := by
  have h1 : r.findIdx (goesB ms cm') ≤ r.length := List.findIdx_le_length
  unfold turns
  simp only [List.length_cons, tri]
  omega
theorem turns_back {ms : List (Nat × Int)} {cm : List Nat} {k : Nat} : turns ms cm [] k + 1 ≤ turns ms cm [] (k + 1) := by
  unfold turns; omega
theorem turns_few {ms : List (Nat × Int)} {cm : List Nat} {th : List Th} {k : Nat} (h : th.length + k ≤ 300) : turns ms cm th k ≤ 100000 := by
  have h1 : th.findIdx (goesB ms cm) ≤ th.length := List.findIdx_le_length
  have h2 := tri_le th.length
  have h3 : th.length * th.length ≤ 300 * 300 := Nat.mul_le_mul (by omega) (by omega)
  unfold turns
  omega
end
end Go.Ro
end
section
namespace Go.Ev
open Go Go.Proofs Go.Spec
theorem t_ma (s : Sr) (kd more : Int) (xs : List Int) (N : Nat) (k : SV → St → Prop) : evCall cxMa (ev cxMa (N + 60)) 39 [.one (.ptr 0 0 0), .agg [iv .u8 kd, .ref (nW s), iv .u16 more]] (sideW 0 s [rd16 xs]) k =
    (branch (eqK kd (1)) (branch (decide ((more > (0)))) (k (.sa (.one (iv .i64 (2)))) (sideW 0 s [rd16 xs])) (branch (eqK kd (2)) (branch (eqK more (0)) (k (.sa (.one (iv .i64 (2)))) (sideW 0 s [rd16 xs])) (branch (decide (((((List.length xs) : Nat) : Int) > (0)))) (k (.sa (.one (iv .i64 (2)))) (sideW 0 s [rd16 xs])) (branch (Bool.not (eqK kd (1))) (branch (Bool.not (eqK kd (2))) (k (.sa (.one (iv .i64 (2)))) (sideW 0 s [rd16 xs])) (branch (decide (((addK .i64 (((List.length s.os) : Nat) : Int) (IntKind.wrap .i64 more)) > (16)))) (k (.sa (.one (iv .i64 (7)))) (sideW 0 s [rd16 xs])) (need (decide (((0 + (List.length xs)) ≤ (List.length xs)))) (need ((decide (((List.length (List.take (List.length xs) xs)) ≤ 70368744177664))) && (okU16 (List.take (List.length xs) xs))) (branch (Bool.not (thereB (((List.length s.os) : Nat) : Int) (List.take (List.length xs) xs))) (k (.sa (.one (iv .i64 (4)))) (sideW 0 s [rd16 xs])) (branch (eqK kd (1)) (need (decide ((((0) ≤ (((List.length s.os) : Nat) : Int)) ∧ ((((List.length s.os) : Nat) : Int) ≤ (65535))))) (branch (decide ((0 < (List.length xs)))) (need ((decide ((((List.length s.ps) ≤ 70368744177664) ∧ ((List.length xs) ≤ 70368744177664)))) && (allLt (List.length s.ps) xs)) (branch (decide (((idxOp s.ps xs (0)) ≥ (0)))) (k (.sa (.one (iv .i64 (6)))) (sideW 0 s [rd16 xs])) (k (.sa (.one (iv .i64 (0)))) (sideW 0 s [rd16 xs])))) (need ((decide ((((List.length s.ps) ≤ 70368744177664) ∧ ((List.length (upI (0) (Int.toNat (((List.length s.os) : Nat) : Int)))) ≤ 70368744177664)))) && (allLt (List.length s.ps) (upI (0) (Int.toNat (((List.length s.os) : Nat) : Int))))) (branch (decide (((idxOp s.ps (upI (0) (Int.toNat (((List.length s.os) : Nat) : Int))) (0)) ≥ (0)))) (k (.sa (.one (iv .i64 (6)))) (sideW 0 s [rd16 xs])) (k (.sa (.one (iv .i64 (0)))) (sideW 0 s [rd16 xs])))))) (k (.sa (.one (iv .i64 (0)))) (sideW 0 s [rd16 xs])))))))) (branch (decide (((addK .i64 (((List.length s.os) : Nat) : Int) (IntKind.wrap .i64 more)) > (16)))) (k (.sa (.one (iv .i64 (7)))) (sideW 0 s [rd16 xs])) (need (decide (((0 + (List.length xs)) ≤ (List.length xs)))) (need ((decide (((List.length (List.take (List.length xs) xs)) ≤ 70368744177664))) && (okU16 (List.take (List.length xs) xs))) (branch (Bool.not (thereB (((List.length s.os) : Nat) : Int) (List.take (List.length xs) xs))) (k (.sa (.one (iv .i64 (4)))) (sideW 0 s [rd16 xs])) (branch (eqK kd (1)) (need (decide ((((0) ≤ (((List.length s.os) : Nat) : Int)) ∧ ((((List.length s.os) : Nat) : Int) ≤ (65535))))) (branch (decide ((0 < (List.length xs)))) (need ((decide ((((List.length s.ps) ≤ 70368744177664) ∧ ((List.length xs) ≤ 70368744177664)))) && (allLt (List.length s.ps) xs)) (branch (decide (((idxOp s.ps xs (0)) ≥ (0)))) (k (.sa (.one (iv .i64 (6)))) (sideW 0 s [rd16 xs])) (k (.sa (.one (iv .i64 (0)))) (sideW 0 s [rd16 xs])))) (need ((decide ((((List.length s.ps) ≤ 70368744177664) ∧ ((List.length (upI (0) (Int.toNat (((List.length s.os) : Nat) : Int)))) ≤ 70368744177664)))) && (allLt (List.length s.ps) (upI (0) (Int.toNat (((List.length s.os) : Nat) : Int))))) (branch (decide (((idxOp s.ps (upI (0) (Int.toNat (((List.length s.os) : Nat) : Int))) (0)) ≥ (0)))) (k (.sa (.one (iv .i64 (6)))) (sideW 0 s [rd16 xs])) (k (.sa (.one (iv .i64 (0)))) (sideW 0 s [rd16 xs])))))) (k (.sa (.one (iv .i64 (0)))) (sideW 0 s [rd16 xs])))))))))) (branch (Bool.not (eqK kd (1))) (branch (Bool.not (eqK kd (2))) (k (.sa (.one (iv .i64 (2)))) (sideW 0 s [rd16 xs])) (branch (decide (((addK .i64 (((List.length s.os) : Nat) : Int) (IntKind.wrap .i64 more)) > (16)))) (k (.sa (.one (iv .i64 (7)))) (sideW 0 s [rd16 xs])) (need (decide (((0 + (List.length xs)) ≤ (List.length xs)))) (need ((decide (((List.length (List.take (List.length xs) xs)) ≤ 70368744177664))) && (okU16 (List.take (List.length xs) xs))) (branch (Bool.not (thereB (((List.length s.os) : Nat) : Int) (List.take (List.length xs) xs))) (k (.sa (.one (iv .i64 (4)))) (sideW 0 s [rd16 xs])) (branch (eqK kd (1)) (need (decide ((((0) ≤ (((List.length s.os) : Nat) : Int)) ∧ ((((List.length s.os) : Nat) : Int) ≤ (65535))))) (branch (decide ((0 < (List.length xs)))) (need ((decide ((((List.length s.ps) ≤ 70368744177664) ∧ ((List.length xs) ≤ 70368744177664)))) && (allLt (List.length s.ps) xs)) (branch (decide (((idxOp s.ps xs (0)) ≥ (0)))) (k (.sa (.one (iv .i64 (6)))) (sideW 0 s [rd16 xs])) (k (.sa (.one (iv .i64 (0)))) (sideW 0 s [rd16 xs])))) (need ((decide ((((List.length s.ps) ≤ 70368744177664) ∧ ((List.length (upI (0) (Int.toNat (((List.length s.os) : Nat) : Int)))) ≤ 70368744177664)))) && (allLt (List.length s.ps) (upI (0) (Int.toNat (((List.length s.os) : Nat) : Int))))) (branch (decide (((idxOp s.ps (upI (0) (Int.toNat (((List.length s.os) : Nat) : Int))) (0)) ≥ (0)))) (k (.sa (.one (iv .i64 (6)))) (sideW 0 s [rd16 xs])) (k (.sa (.one (iv .i64 (0)))) (sideW 0 s [rd16 xs])))))) (k (.sa (.one (iv .i64 (0)))) (sideW 0 s [rd16 xs])))))))) (branch (decide (((addK .i64 (((List.length s.os) : Nat) : Int) (IntKind.wrap .i64 more)) > (16)))) (k (.sa (.one (iv .i64 (7)))) (sideW 0 s [rd16 xs])) (need (decide (((0 + (List.length xs)) ≤ (List.length xs)))) (need ((decide (((List.length (List.take (List.length xs) xs)) ≤ 70368744177664))) && (okU16 (List.take (List.length xs) xs))) (branch (Bool.not (thereB (((List.length s.os) : Nat) : Int) (List.take (List.length xs) xs))) (k (.sa (.one (iv .i64 (4)))) (sideW 0 s [rd16 xs])) (branch (eqK kd (1)) (need (decide ((((0) ≤ (((List.length s.os) : Nat) : Int)) ∧ ((((List.length s.os) : Nat) : Int) ≤ (65535))))) (branch (decide ((0 < (List.length xs)))) (need ((decide ((((List.length s.ps) ≤ 70368744177664) ∧ ((List.length xs) ≤ 70368744177664)))) && (allLt (List.length s.ps) xs)) (branch (decide (((idxOp s.ps xs (0)) ≥ (0)))) (k (.sa (.one (iv .i64 (6)))) (sideW 0 s [rd16 xs])) (k (.sa (.one (iv .i64 (0)))) (sideW 0 s [rd16 xs])))) (need ((decide ((((List.length s.ps) ≤ 70368744177664) ∧ ((List.length (upI (0) (Int.toNat (((List.length s.os) : Nat) : Int)))) ≤ 70368744177664)))) && (allLt (List.length s.ps) (upI (0) (Int.toNat (((List.length s.os) : Nat) : Int))))) (branch (decide (((idxOp s.ps (upI (0) (Int.toNat (((List.length s.os) : Nat) : Int))) (0)) ≥ (0)))) (k (.sa (.one (iv .i64 (6)))) (sideW 0 s [rd16 xs])) (k (.sa (.one (iv .i64 (0)))) (sideW 0 s [rd16 xs])))))) (k (.sa (.one (iv .i64 (0)))) (sideW 0 s [rd16 xs])))))))))) (branch (eqK kd (2)) (branch (eqK more (0)) (k (.sa (.one (iv .i64 (2)))) (sideW 0 s [rd16 xs])) (branch (decide (((((List.length xs) : Nat) : Int) > (0)))) (k (.sa (.one (iv .i64 (2)))) (sideW 0 s [rd16 xs])) (branch (Bool.not (eqK kd (1))) (branch (Bool.not (eqK kd (2))) (k (.sa (.one (iv .i64 (2)))) (sideW 0 s [rd16 xs])) (branch (decide (((addK .i64 (((List.length s.os) : Nat) : Int) (IntKind.wrap .i64 more)) > (16)))) (k (.sa (.one (iv .i64 (7)))) (sideW 0 s [rd16 xs])) (need (decide (((0 + (List.length xs)) ≤ (List.length xs)))) (need ((decide (((List.length (List.take (List.length xs) xs)) ≤ 70368744177664))) && (okU16 (List.take (List.length xs) xs))) (branch (Bool.not (thereB (((List.length s.os) : Nat) : Int) (List.take (List.length xs) xs))) (k (.sa (.one (iv .i64 (4)))) (sideW 0 s [rd16 xs])) (branch (eqK kd (1)) (need (decide ((((0) ≤ (((List.length s.os) : Nat) : Int)) ∧ ((((List.length s.os) : Nat) : Int) ≤ (65535))))) (branch (decide ((0 < (List.length xs)))) (need ((decide ((((List.length s.ps) ≤ 70368744177664) ∧ ((List.length xs) ≤ 70368744177664)))) && (allLt (List.length s.ps) xs)) (branch (decide (((idxOp s.ps xs (0)) ≥ (0)))) (k (.sa (.one (iv .i64 (6)))) (sideW 0 s [rd16 xs])) (k (.sa (.one (iv .i64 (0)))) (sideW 0 s [rd16 xs])))) (need ((decide ((((List.length s.ps) ≤ 70368744177664) ∧ ((List.length (upI (0) (Int.toNat (((List.length s.os) : Nat) : Int)))) ≤ 70368744177664)))) && (allLt (List.length s.ps) (upI (0) (Int.toNat (((List.length s.os) : Nat) : Int))))) (branch (decide (((idxOp s.ps (upI (0) (Int.toNat (((List.length s.os) : Nat) : Int))) (0)) ≥ (0)))) (k (.sa (.one (iv .i64 (6)))) (sideW 0 s [rd16 xs])) (k (.sa (.one (iv .i64 (0)))) (sideW 0 s [rd16 xs])))))) (k (.sa (.one (iv .i64 (0)))) (sideW 0 s [rd16 xs])))))))) (branch (decide (((addK .i64 (((List.length s.os) : Nat) : Int) (IntKind.wrap .i64 more)) > (16)))) (k (.sa (.one (iv .i64 (7)))) (sideW 0 s [rd16 xs])) (need (decide (((0 + (List.length xs)) ≤ (List.length xs)))) (need ((decide (((List.length (List.take (List.length xs) xs)) ≤ 70368744177664))) && (okU16 (List.take (List.length xs) xs))) (branch (Bool.not (thereB (((List.length s.os) : Nat) : Int) (List.take (List.length xs) xs))) (k (.sa (.one (iv .i64 (4)))) (sideW 0 s [rd16 xs])) (branch (eqK kd (1)) (need (decide ((((0) ≤ (((List.length s.os) : Nat) : Int)) ∧ ((((List.length s.os) : Nat) : Int) ≤ (65535))))) (branch (decide ((0 < (List.length xs)))) (need ((decide ((((List.length s.ps) ≤ 70368744177664) ∧ ((List.length xs) ≤ 70368744177664)))) && (allLt (List.length s.ps) xs)) (branch (decide (((idxOp s.ps xs (0)) ≥ (0)))) (k (.sa (.one (iv .i64 (6)))) (sideW 0 s [rd16 xs])) (k (.sa (.one (iv .i64 (0)))) (sideW 0 s [rd16 xs])))) (need ((decide ((((List.length s.ps) ≤ 70368744177664) ∧ ((List.length (upI (0) (Int.toNat (((List.length s.os) : Nat) : Int)))) ≤ 70368744177664)))) && (allLt (List.length s.ps) (upI (0) (Int.toNat (((List.length s.os) : Nat) : Int))))) (branch (decide (((idxOp s.ps (upI (0) (Int.toNat (((List.length s.os) : Nat) : Int))) (0)) ≥ (0)))) (k (.sa (.one (iv .i64 (6)))) (sideW 0 s [rd16 xs])) (k (.sa (.one (iv .i64 (0)))) (sideW 0 s [rd16 xs])))))) (k (.sa (.one (iv .i64 (0)))) (sideW 0 s [rd16 xs])))))))))) (branch (Bool.not (eqK kd (1))) (branch (Bool.not (eqK kd (2))) (k (.sa (.one (iv .i64 (2)))) (sideW 0 s [rd16 xs])) (branch (decide (((addK .i64 (((List.length s.os) : Nat) : Int) (IntKind.wrap .i64 more)) > (16)))) (k (.sa (.one (iv .i64 (7)))) (sideW 0 s [rd16 xs])) (need (decide (((0 + (List.length xs)) ≤ (List.length xs)))) (need ((decide (((List.length (List.take (List.length xs) xs)) ≤ 70368744177664))) && (okU16 (List.take (List.length xs) xs))) (branch (Bool.not (thereB (((List.length s.os) : Nat) : Int) (List.take (List.length xs) xs))) (k (.sa (.one (iv .i64 (4)))) (sideW 0 s [rd16 xs])) (branch (eqK kd (1)) (need (decide ((((0) ≤ (((List.length s.os) : Nat) : Int)) ∧ ((((List.length s.os) : Nat) : Int) ≤ (65535))))) (branch (decide ((0 < (List.length xs)))) (need ((decide ((((List.length s.ps) ≤ 70368744177664) ∧ ((List.length xs) ≤ 70368744177664)))) && (allLt (List.length s.ps) xs)) (branch (decide (((idxOp s.ps xs (0)) ≥ (0)))) (k (.sa (.one (iv .i64 (6)))) (sideW 0 s [rd16 xs])) (k (.sa (.one (iv .i64 (0)))) (sideW 0 s [rd16 xs])))) (need ((decide ((((List.length s.ps) ≤ 70368744177664) ∧ ((List.length (upI (0) (Int.toNat (((List.length s.os) : Nat) : Int)))) ≤ 70368744177664)))) && (allLt (List.length s.ps) (upI (0) (Int.toNat (((List.length s.os) : Nat) : Int))))) (branch (decide (((idxOp s.ps (upI (0) (Int.toNat (((List.length s.os) : Nat) : Int))) (0)) ≥ (0)))) (k (.sa (.one (iv .i64 (6)))) (sideW 0 s [rd16 xs])) (k (.sa (.one (iv .i64 (0)))) (sideW 0 s [rd16 xs])))))) (k (.sa (.one (iv .i64 (0)))) (sideW 0 s [rd16 xs])))))))) (branch (decide (((addK .i64 (((List.length s.os) : Nat) : Int) (IntKind.wrap .i64 more)) > (16)))) (k (.sa (.one (iv .i64 (7)))) (sideW 0 s [rd16 xs])) (need (decide (((0 + (List.length xs)) ≤ (List.length xs)))) (need ((decide (((List.length (List.take (List.length xs) xs)) ≤ 70368744177664))) && (okU16 (List.take (List.length xs) xs))) (branch (Bool.not (thereB (((List.length s.os) : Nat) : Int) (List.take (List.length xs) xs))) (k (.sa (.one (iv .i64 (4)))) (sideW 0 s [rd16 xs])) (branch (eqK kd (1)) (need (decide ((((0) ≤ (((List.length s.os) : Nat) : Int)) ∧ ((((List.length s.os) : Nat) : Int) ≤ (65535))))) (branch (decide ((0 < (List.length xs)))) (need ((decide ((((List.length s.ps) ≤ 70368744177664) ∧ ((List.length xs) ≤ 70368744177664)))) && (allLt (List.length s.ps) xs)) (branch (decide (((idxOp s.ps xs (0)) ≥ (0)))) (k (.sa (.one (iv .i64 (6)))) (sideW 0 s [rd16 xs])) (k (.sa (.one (iv .i64 (0)))) (sideW 0 s [rd16 xs])))) (need ((decide ((((List.length s.ps) ≤ 70368744177664) ∧ ((List.length (upI (0) (Int.toNat (((List.length s.os) : Nat) : Int)))) ≤ 70368744177664)))) && (allLt (List.length s.ps) (upI (0) (Int.toNat (((List.length s.os) : Nat) : Int))))) (branch (decide (((idxOp s.ps (upI (0) (Int.toNat (((List.length s.os) : Nat) : Int))) (0)) ≥ (0)))) (k (.sa (.one (iv .i64 (6)))) (sideW 0 s [rd16 xs])) (k (.sa (.one (iv .i64 (0)))) (sideW 0 s [rd16 xs])))))) (k (.sa (.one (iv .i64 (0)))) (sideW 0 s [rd16 xs])))))))))) := by
  rcases s with ⟨os, ps, qs, cum, zs, bs, cl, nx, ex, _ | ⟨n, kd, ss, mo⟩, _ | ⟨rn, ra⟩⟩ <;> kernel_rfl
end Go.Ev
end
