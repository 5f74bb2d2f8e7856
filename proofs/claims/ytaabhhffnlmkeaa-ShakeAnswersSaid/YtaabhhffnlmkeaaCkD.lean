/- The cookie of chapter 16 as functions of numbers; what the Go functions do, said by them. Definitions alone. No conditions. -/
import Derived.Test.YtaabhhffnlmkeaaSiD
namespace Go.Spec
open Go Go.Ev
/-- What a cookie tells. -/
structure Tc where
  a0 : Int
  a1 : Int
  a2 : Int
  a3 : Int
  a4 : Int
  a5 : Int
  a6 : Int
  xs : List Int
  a8 : Int
  a9 : Int
  a10 : Int
def beB (n s : Int) : Int := IntKind.wrap .u8 (shrK .u64 n s)
def be8 (n : Int) : List Int := [beB n 56, beB n 48, beB n 40, beB n 32, beB n 24, beB n 16, beB n 8, beB n 0]
def be4 (n : Int) : List Int := [beB n 24, beB n 16, beB n 8, beB n 0]
def be2 (n : Int) : List Int := [beB n 8, beB n 0]
def w64 (x : Int) : Int := IntKind.wrap .u64 x
/-- The bytes ahead of the addresses, c of which are told. -/
def headOf (t : Tc) (c : Int) : List Int :=
  be4 (w64 t.a0) ++ be4 (w64 t.a1) ++ be4 (w64 t.a2) ++ be4 (w64 t.a3) ++ be4 (w64 t.a4) ++ be2 (w64 t.a5) ++ be2 (w64 t.a6) ++ be4 (w64 t.a8) ++ be4 (w64 t.a9) ++ be8 t.a10 ++ be4 (w64 c)
def addrsB : List Int → List Int
  | [] => []
  | x :: r => be4 (w64 x) ++ addrsB r
def plainOf (t : Tc) : List Int := headOf t ((t.xs.length : Nat) : Int) ++ addrsB t.xs
def makeOf (key : List Int) (t : Tc) : List Int := plainOf t ++ be8 (sipOf key [plainOf t] 1)
def makeRf (key : List Int) (t : Tc) : List Int := plainOf t ++ be8 (refOf key (plainOf t))
def eqL (a b : List Int) : Bool := a == b
def sameOf (t u : Tc) : Bool := eqL t.xs u.xs && t.a0 == u.a0 && t.a1 == u.a1 && t.a2 == u.a2 && t.a3 == u.a3 && t.a4 == u.a4 && t.a5 == u.a5 && t.a6 == u.a6 && t.a8 == u.a8 && t.a9 == u.a9 && t.a10 == u.a10
end Go.Spec
namespace Go.Ev
open Go Go.Proofs Go.Spec
def fMk (mk : List Int → Tc → List Int) (vas : List VA) (k : SV → St → Prop) : Prop := match vas with
  | [.a (.agg [.raw (.int .u8 k0), .raw (.int .u8 k1), .raw (.int .u8 k2), .raw (.int .u8 k3), .raw (.int .u8 k4), .raw (.int .u8 k5), .raw (.int .u8 k6), .raw (.int .u8 k7), .raw (.int .u8 k8), .raw (.int .u8 k9), .raw (.int .u8 ka), .raw (.int .u8 kb), .raw (.int .u8 kc), .raw (.int .u8 kd), .raw (.int .u8 ke), .raw (.int .u8 kf)]), .a (.agg [.raw (.int .u32 a0), .raw (.int .u32 a1), .raw (.int .u32 a2), .raw (.int .u32 a3), .raw (.int .u32 a4), .raw (.int .u16 a5), .raw (.int .u16 a6), .dat .u32 xs, .raw (.int .u32 a8), .raw (.int .u32 a9), .raw (.int .u64 a10)])] =>
    need (decide (xs.length ≤ 4611686018427387904)) (branch (decide (((xs.length : Nat) : Int) > 3)) (k (.tup [.one (.raw (.slice none 0 0)), .one (iv .i64 2)]) [])
      (k (.tup [.one (.ref 0), .one (iv .i64 0)]) [some (.own true .row 5 1 (.ints .u8 (mk [k0, k1, k2, k3, k4, k5, k6, k7, k8, k9, ka, kb, kc, kd, ke, kf] ⟨a0, a1, a2, a3, a4, a5, a6, xs, a8, a9, a10⟩)))]))
  | _ => False
def tcbV : VP := .cells [none, none, none, none, none, none, none, some .u32, none, none, none]
def sMk (mk : List Int → Tc → List Int) : SumT := pureSum [.cells [], tcbV] (fMk mk)
def fPlain (vas : List VA) (k : SV → St → Prop) : Prop := match vas with
  | [.a (.agg [.raw (.int .u32 a0), .raw (.int .u32 a1), .raw (.int .u32 a2), .raw (.int .u32 a3), .raw (.int .u32 a4), .raw (.int .u16 a5), .raw (.int .u16 a6), .dat .u32 xs, .raw (.int .u32 a8), .raw (.int .u32 a9), .raw (.int .u64 a10)])] =>
    need (decide (xs.length ≤ 1000000)) (k (.sa (.one (.ref 0))) [some (.own true .row 5 1 (.ints .u8 (plainOf ⟨a0, a1, a2, a3, a4, a5, a6, xs, a8, a9, a10⟩)))])
  | _ => False
def sPlain : SumT := pureSum [tcbV] fPlain
def fEq32 (vas : List VA) (k : SV → St → Prop) : Prop := match vas with
  | [.a (.one (.dat .u32 xs)), .a (.one (.dat .u32 ys))] => need (decide (xs.length ≤ 4611686018427387904)) (k (.sa (.one (bv (eqL xs ys)))) [])
  | _ => False
def sEq32 : SumT := pureSum [.cells [some .u32], .cells [some .u32]] fEq32
def fSame (vas : List VA) (k : SV → St → Prop) : Prop := match vas with
  | [.a (.agg [.raw (.int .u32 a0), .raw (.int .u32 a1), .raw (.int .u32 a2), .raw (.int .u32 a3), .raw (.int .u32 a4), .raw (.int .u16 a5), .raw (.int .u16 a6), .dat .u32 xs, .raw (.int .u32 a8), .raw (.int .u32 a9), .raw (.int .u64 a10)]), .a (.agg [.raw (.int .u32 b0), .raw (.int .u32 b1), .raw (.int .u32 b2), .raw (.int .u32 b3), .raw (.int .u32 b4), .raw (.int .u16 b5), .raw (.int .u16 b6), .dat .u32 ys, .raw (.int .u32 b8), .raw (.int .u32 b9), .raw (.int .u64 b10)])] =>
    need (decide (xs.length ≤ 4611686018427387904)) (k (.sa (.one (bv (sameOf ⟨a0, a1, a2, a3, a4, a5, a6, xs, a8, a9, a10⟩ ⟨b0, b1, b2, b3, b4, b5, b6, ys, b8, b9, b10⟩)))) [])
  | _ => False
def sSame : SumT := pureSum [tcbV, tcbV] fSame
def fRSame (vas : List VA) (k : SV → St → Prop) : Prop := match vas with
  | [.a (.agg [.raw (.int .u32 a0), .raw (.int .u32 a1), .raw (.int .u32 a2), .raw (.int .u32 a3), .raw (.int .u32 a4), .raw (.int .u16 a5), .raw (.int .u16 a6), .dat .u32 xs, .raw (.int .u32 a8), .raw (.int .u32 a9), .raw (.int .u64 a10)]), .a (.agg [.raw (.int .u32 b0), .raw (.int .u32 b1), .raw (.int .u32 b2), .raw (.int .u32 b3), .raw (.int .u32 b4), .raw (.int .u16 b5), .raw (.int .u16 b6), .dat .u32 ys, .raw (.int .u32 b8), .raw (.int .u32 b9), .raw (.int .u64 b10)])] =>
    need (decide (xs.length ≤ 1000000 ∧ ys.length ≤ 1000000)) (k (.sa (.one (bv (strEq (strOf (plainOf ⟨a0, a1, a2, a3, a4, a5, a6, xs, a8, a9, a10⟩)) (strOf (plainOf ⟨b0, b1, b2, b3, b4, b5, b6, ys, b8, b9, b10⟩)))))) [])
  | _ => False
def sRSame : SumT := pureSum [tcbV, tcbV] fRSame
noncomputable def cxM : Cx := mkCx Try.prog [(42, sOf)] [(26, 14, [2, 3, 6, 58, 59, 60], [⟨6, [], 34⟩])] [(39, 1), (40, 1), (41, 1)]
noncomputable def cxPl : Cx := mkCx Try.prog [] [(33, 13, [1, 3, 4], [⟨3, [], 34⟩])] []
noncomputable def cxRM : Cx := mkCx Try.prog [(44, sROf), (33, sPlain)] [] []
noncomputable def cxEq : Cx := mkCx Try.prog [] [(25, 4, [0, 1, 12, 13], [])] []
noncomputable def cxRS : Cx := mkCx Try.prog [(33, sPlain)] [] []
end Go.Ev
