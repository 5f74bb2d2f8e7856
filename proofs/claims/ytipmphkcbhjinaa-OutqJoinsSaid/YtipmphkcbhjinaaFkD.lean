/- Pieces that a joiner keeps: contexts, words for states. Definitions alone. No conditions. -/
import Derived.Test.YtipmphkcbhjinaaCl8D
set_option linter.unusedVariables false
namespace Go.Spec
open Go Go.Ev
/-- A piece: its TSN, flags, stream, number, what it is said to be, when it was kept, its bytes. -/
structure Pc where
  t : Int
  f : Int
  s : Int
  n : Int
  p : Int
  b : Int
  d : List Int
deriving DecidableEq
def pz : Pc := ⟨0, 0, 0, 0, 0, 0, []⟩
def keysP (l : List Pc) : List Int := l.map Pc.t
def hasF (f w : Int) : Bool := Bool.not (eqK (andK .u8 f w) 0)
def alikeB (p q : Pc) : Bool := eqK q.s p.s && eqK q.n p.n && eqK (andK .u8 (xorK .u8 q.f p.f) 4) 0
def lookP (l : List Pc) (t : Int) : Option Pc := if idxI t (keysP l) < l.length then some (l.getD (idxI t (keysP l)) pz) else none
/-- Going back from a, at most so many steps: the first piece, and how many steps it was. -/
def backP (l : List Pc) (p : Pc) : Nat → Pc → Option (Pc × Nat)
  | 0, _ => none
  | c + 1, a => if hasF a.f 2 = true then some (a, 0) else match lookP l (subK .u32 a.t 1) with
    | none => none
    | some q => if alikeB p q = true ∧ hasF q.f 1 = false then (backP l p c q).map fun r => (r.1, r.2 + 1) else none
/-- Going on from a: the last piece, and how many steps it was. -/
def forwP (l : List Pc) (p : Pc) : Nat → Pc → Option (Pc × Nat)
  | 0, _ => none
  | c + 1, a => if hasF a.f 1 = true then some (a, 0) else match lookP l (addK .u32 a.t 1) with
    | none => none
    | some q => if alikeB p q = true ∧ hasF q.f 2 = false then (forwP l p c q).map fun r => (r.1, r.2 + 1) else none
def dataP (l : List Pc) (t : Int) : List Int := match lookP l t with | some q => q.d | none => []
def dropP (l : List Pc) (t : Int) : List Pc := if idxI t (keysP l) < l.length then l.eraseIdx (idxI t (keysP l)) else l
/-- Joined from TSN c to TSN e. -/
def joinP (e : Int) : Nat → List Pc → Int → List Int → List Pc × List Int
  | 0, l, _, m => (l, m)
  | k + 1, l, c, m => if c = e then (dropP l c, m ++ dataP l c) else joinP e k (dropP l c) (addK .u32 c 1) (m ++ dataP l c)
/-- With the new piece p among l: the first one, what is kept, what is told. -/
def putJ (l : List Pc) (p : Pc) : Option (Pc × List Pc × List Int) := match backP l p (l.length + 1) p with
  | none => none
  | some (a, i) => match forwP l p (l.length + 1) p with
    | none => none
    | some (b, j) => some (a, joinP b.t (i + j + 1) l a.t [])
def whB (l : List Pc) (p : Pc) : Bool := (putJ l p).isSome
def whA (l : List Pc) (p : Pc) : Pc := ((putJ l p).getD (pz, [], [])).1
def whL (l : List Pc) (p : Pc) : List Pc := ((putJ l p).getD (pz, [], [])).2.1
def whM (l : List Pc) (p : Pc) : List Int := ((putJ l p).getD (pz, [], [])).2.2
def lenD (l : List Pc) : Nat := (l.map fun x => x.d.length).sum
def toP (ks fs ss ns ps bs : List Int) (ds : List (List Int)) : List Pc := (List.range ks.length).map fun i => ⟨ks.getD i 0, fs.getD i 0, ss.getD i 0, ns.getD i 0, ps.getD i 0, bs.getD i 0, ds.getD i []⟩
def okP (l : List Pc) (t : Int) (xs : List Int) : Bool := decide (l.length ≤ 100000 ∧ lenD l + xs.length ≤ 100000000 ∧ (∀ x ∈ l, 0 ≤ x.t ∧ x.t < 4294967296) ∧ 0 ≤ t ∧ t < 4294967296 ∧ (keysP l).Nodup)
def putNo (l : List Pc) (t : Int) : Bool := decide (idxI t (keysP l) < l.length)
end Go.Spec
namespace Go.Ev
open Go Go.Proofs Go.Spec
def keptT (ks ts fs ss ns ps : List Int) (ds : List (List Int)) (bs : List Int) (cl : Nat) : Option SO :=
  some (.mt true (.ints .u32 ks) true [.ints .u32 ts, .ints .u8 fs, .ints .u16 ss, .ints .u16 ns, .ints .u32 ps, .data .u8 ds] bs cl)
def joinO (held : Int) : Option SO := obj 76 2 [.ref 1, iv .i64 held]
def rd8 (T : Nat) (xs : List Int) : Option SO := some (.own false .ext T 1 (.ints .u8 xs))
def pcO (t f s n p : Int) (q : Nat) : Option SO := obj 41 6 [iv .u32 t, iv .u8 f, iv .u16 s, iv .u16 n, iv .u32 p, .ref q]
def msgO (s : Int) (u : Bool) (p : Int) (c : SC) : Option SO := obj 35 4 [iv .u16 s, bv u, iv .u32 p, c]
def nilS : SC := .raw (.slice none 0 0)
/-- At the heads of the first two loops of Put: the piece (its stream, number, flags), the first one, the last one so far. -/
def stK (held : Int) (ks ts fs ss ns ps : List Int) (ds : List (List Int)) (bs : List Int) (cl : Nat) (ob : Option SO) (t f s n p : Int) (T : Nat) (ys : List Int) (a1 a2 a3 a4 a5 : Int) (T1 : Nat) (zs : List Int) (b1 b2 b3 b4 b5 : Int) (T2 : Nat) (us : List Int) : St :=
  [joinO held, keptT ks ts fs ss ns ps ds bs cl, ob, pcO t f s n p 4, rd8 T ys, msgO 0 false 0 nilS, some (.clo (.func 39) [] [.one (.ptr 3 0 0)]), pcO a1 a2 a3 a4 a5 8, rd8 T1 zs, pcO b1 b2 b3 b4 b5 10, rd8 T2 us]
def stJ (held : Int) (ks ts fs ss ns ps : List Int) (ds : List (List Int)) (bs : List Int) (cl : Nat) (ob : Option SO) (t f s n p : Int) (T : Nat) (ys : List Int) (m1 : Int) (m2 : Bool) (m3 : Int) (mm : List Int) (b1 b2 b3 b4 b5 : Int) (T2 : Nat) (us : List Int) : St :=
  [joinO held, keptT ks ts fs ss ns ps ds bs cl, ob, pcO t f s n p 4, rd8 T ys, msgO m1 m2 m3 (.ref 6), some (.own true .row 5 1 (.ints .u8 mm)), pcO b1 b2 b3 b4 b5 8, rd8 T2 us]
def keptL (l : List Pc) (cl : Nat) : Option SO := keptT (l.map Pc.t) (l.map Pc.t) (l.map Pc.f) (l.map Pc.s) (l.map Pc.n) (l.map Pc.p) (l.map Pc.d) (l.map Pc.b) cl
def own8 (xs : List Int) : Option SO := some (.own true .row 5 1 (.ints .u8 xs))
def noneV : SV := .tup [.agg [iv .u16 0, bv false, iv .u32 0, nilS], .one (iv .u16 0), .one (bv false)]
def putK (held : Int) (l : List Pc) (cl : Nat) (p : Pc) (ob : Option SO) (k : SV → St → Prop) : Prop :=
  branch (putNo l p.t) (k noneV [joinO held, keptL l cl, ob])
    (branch (whB (l ++ [p]) p)
      (k (.tup [.agg [iv .u16 (whA (l ++ [p]) p).s, bv (hasF (whA (l ++ [p]) p).f 4), iv .u32 (whA (l ++ [p]) p).p, .ref 3], .one (iv .u16 p.n), .one (bv true)])
        [joinO (subK .i64 (addK .i64 held ((p.d.length : Nat) : Int)) (((whM (l ++ [p]) p).length : Nat) : Int)), keptL (whL (l ++ [p]) p) (cl + 1), ob, own8 (whM (l ++ [p]) p)])
      (k noneV [joinO (addK .i64 held ((p.d.length : Nat) : Int)), keptL (l ++ [p]) (cl + 1), ob]))
def sPut : SumT := fun args st k => match args, st with
  | [.one (.ptr 0 0 0), .agg [.raw (.int .u32 t), .raw (.int .u8 f), .raw (.int .u16 s), .raw (.int .u16 n), .raw (.int .u32 p), .ref 2]],
    [some (.mem true .whole 76 2 (.lst [[.ref 1, .raw (.int .i64 held)]])), some (.mt true (.ints .u32 ks) true [.ints .u32 ts, .ints .u8 fs, .ints .u16 ss, .ints .u16 ns, .ints .u32 ps, .data .u8 ds] bs cl), some (.own w kk T8 1 (.ints .u8 xs))] =>
    need (decide (ts = ks ∧ fs.length = ks.length ∧ ss.length = ks.length ∧ ns.length = ks.length ∧ ps.length = ks.length ∧ bs.length = ks.length ∧ ds.length = ks.length) && okP (toP ks fs ss ns ps bs ds) t xs)
      (putK held (toP ks fs ss ns ps bs ds) cl ⟨t, f, s, n, p, (cl : Int), xs⟩ (some (.own w kk T8 1 (.ints .u8 xs))) k)
  | _, _ => False
noncomputable def cxK : Cx := mkCx Try.prog [(34, sClone8)]
  [(28, 11, [0, 3, 4, 9, 10, 11], [⟨10, [5], 1000000 + 33⟩, ⟨11, [5], 1000000 + 33⟩]), (28, 16, [0, 3, 4, 9, 10, 11], [⟨10, [5], 1000000 + 33⟩, ⟨11, [5], 1000000 + 33⟩]),
   (28, 24, [0, 3, 4, 11, 16], [⟨4, [3], 33⟩, ⟨11, [5], 1000000 + 33⟩])] []
end Go.Ev
