/- The sum of chapter 2 as a function of numbers; what the Go functions do, said by it. Definitions alone. No conditions. -/
import Derived.Test.YtaabhhffnlmkeaaEvD
import Derived.Test.YtaabhhffnlmkeaaProg
namespace Go.Spec
open Go.Ev
/-- Four numbers. -/
structure S4 where
  a : Int
  b : Int
  c : Int
  d : Int
def rotI (x k : Int) : Int := orK .u64 (shlK .u64 x k) (shrK .u64 x (64 - k))
def rnd (s : S4) : S4 :=
  let a1 := addK .u64 s.a s.b
  let c1 := addK .u64 s.c s.d
  let b1 := xorK .u64 (rotI s.b 13) a1
  let d1 := xorK .u64 (rotI s.d 16) c1
  let a2 := rotI a1 32
  let c2 := addK .u64 c1 b1
  let a3 := addK .u64 a2 d1
  let b2 := xorK .u64 (rotI b1 17) c2
  let d2 := xorK .u64 (rotI d1 21) a3
  ⟨a3, b2, rotI c2 32, d2⟩
def rnds : Nat → S4 → S4
  | 0, s => s
  | n + 1, s => rnds n (rnd s)
def addA (t : S4) (w : Int) : S4 := ⟨xorK .u64 t.a w, t.b, t.c, t.d⟩
def takeS (s : S4) (w : Int) : S4 := addA (rnds 2 ⟨s.a, s.b, s.c, xorK .u64 s.d w⟩) w
def byteAt (xs : List Int) (j : Nat) (k : Int) : Int := shlK .u64 (IntKind.wrap .u64 (xs.getD j 0)) k
/-- The first eight bytes, the lowest first. -/
def word8 (xs : List Int) : Int :=
  orK .u64 (orK .u64 (orK .u64 (orK .u64 (orK .u64 (orK .u64 (orK .u64 (orK .u64 0 (byteAt xs 0 0)) (byteAt xs 1 8)) (byteAt xs 2 16)) (byteAt xs 3 24)) (byteAt xs 4 32)) (byteAt xs 5 40)) (byteAt xs 6 48)) (byteAt xs 7 56)
/-- What has been fed in: the four numbers, the bytes of a word begun, how many bytes. -/
structure SB where
  s : S4
  r : Int
  n : Int
def fill (t : SB) (y : Int) : SB :=
  if remK (addK .i64 t.n 1) 8 = 0 then ⟨takeS t.s (orK .u64 t.r (shlK .u64 (IntKind.wrap .u64 y) (mulK .i64 8 (remK t.n 8)))), 0, addK .i64 t.n 1⟩
  else ⟨t.s, orK .u64 t.r (shlK .u64 (IntKind.wrap .u64 y) (mulK .i64 8 (remK t.n 8))), addK .i64 t.n 1⟩
def feed : Nat → List Int → SB → SB
  | 0, _, t => t
  | f + 1, ys, t => match ys with
    | [] => t
    | y :: r => if remK t.n 8 = 0 ∧ 8 ≤ (y :: r).length then feed f ((y :: r).drop 8) ⟨takeS t.s (word8 (y :: r)), t.r, addK .i64 t.n 8⟩ else feed f r (fill t y)
/-- So many parts from part i on. -/
def feedAll (xss : List (List Int)) : Nat → Nat → SB → SB
  | 0, _, t => t
  | n + 1, i, t => feedAll xss n (i + 1) (feed (xss.getD i []).length (xss.getD i []) t)
def sip0 (key : List Int) : S4 :=
  ⟨xorK .u64 (word8 (key.take 8)) 8317987319222330741, xorK .u64 (word8 (key.drop 8)) 7237128888997146477, xorK .u64 (word8 (key.take 8)) 7816392313619706465, xorK .u64 (word8 (key.drop 8)) 8387220255154660723⟩
def sipEnd (t : SB) : Int :=
  let u := takeS t.s (orK .u64 t.r (shlK .u64 (IntKind.wrap .u64 (IntKind.wrap .u8 t.n)) 56))
  let v := rnds 4 ⟨u.a, u.b, xorK .u64 u.c 255, u.d⟩
  xorK .u64 (xorK .u64 (xorK .u64 v.a v.b) v.c) v.d
def sipOf (key : List Int) (xss : List (List Int)) (n : Nat) : Int := sipEnd (feedAll xss n 0 ⟨sip0 key, 0, 0⟩)
/-- All bytes of the first n parts. -/
def total (xss : List (List Int)) : Nat → Nat
  | 0 => 0
  | n + 1 => total xss n + (xss.getD n []).length
end Go.Spec
namespace Go.Ev
open Go Go.Proofs Go.Spec
def sRot : SumT := fun args st k => match args, st with
  | [.one (.raw (.int .u64 x)), .one (.raw (.int .i64 n))], [] => need (decide (n = 13 ∨ n = 16 ∨ n = 32 ∨ n = 17 ∨ n = 21)) (k (.sa (.one (iv .u64 (rotI x n)))) [])
  | _, _ => False
def cellsS (s : S4) (r n : Int) : List SC := [iv .u64 s.a, iv .u64 s.b, iv .u64 s.c, iv .u64 s.d, iv .u64 r, iv .i64 n]
def sRounds : SumT := fun args st k => match args, st with
  | [.one (.ptr 0 0 0), .one (.raw (.int .i64 m))], [some (.mem true .whole T 6 (.lst [[.raw (.int .u64 a), .raw (.int .u64 b), .raw (.int .u64 c), .raw (.int .u64 d), .raw (.int .u64 r), .raw (.int .i64 n)]]))] =>
    need (decide (0 ≤ m ∧ m ≤ 1000)) (k (.tup []) [obj T 6 (cellsS (rnds m.toNat ⟨a, b, c, d⟩) r n)])
  | _, _ => False
def sTake : SumT := fun args st k => match args, st with
  | [.one (.ptr 0 0 0), .one (.raw (.int .u64 w))], [some (.mem true .whole T 6 (.lst [[.raw (.int .u64 a), .raw (.int .u64 b), .raw (.int .u64 c), .raw (.int .u64 d), .raw (.int .u64 r), .raw (.int .i64 n)]]))] =>
    k (.tup []) [obj T 6 (cellsS (takeS ⟨a, b, c, d⟩ w) r n)]
  | _, _ => False
def fWord (vas : List VA) (k : SV → St → Prop) : Prop := match vas with
  | [.a (.one (.dat .u8 xs))] => need (decide (8 ≤ (xs.length : Int))) (k (.sa (.one (iv .u64 (word8 xs)))) [])
  | _ => False
def sWord : SumT := pureSum [.cells [some .u8]] fWord
/-- Bytes that nobody writes. -/
def rd (xs : List Int) : Option SO := some (.own false .ext 0 1 (.ints .u8 xs))
def cellsB (t : SB) : List SC := cellsS t.s t.r t.n
def sBytes : SumT := fun args st k => match args, st with
  | [.one (.ptr 0 0 0), .one (.ref 1)], [some (.mem true .whole T 6 (.lst [[.raw (.int .u64 a), .raw (.int .u64 b), .raw (.int .u64 c), .raw (.int .u64 d), .raw (.int .u64 r), .raw (.int .i64 n)]])), some (.own false .ext 0 1 (.ints .u8 xs))] =>
    need (decide (0 ≤ n ∧ n + xs.length ≤ 4611686018427387904)) (k (.tup []) [obj T 6 (cellsB (feed xs.length xs ⟨⟨a, b, c, d⟩, r, n⟩)), rd xs])
  | _, _ => False
def fOf (vas : List VA) (k : SV → St → Prop) : Prop := match vas with
  | [.a (.agg [.raw (.int .u8 k0), .raw (.int .u8 k1), .raw (.int .u8 k2), .raw (.int .u8 k3), .raw (.int .u8 k4), .raw (.int .u8 k5), .raw (.int .u8 k6), .raw (.int .u8 k7), .raw (.int .u8 k8), .raw (.int .u8 k9), .raw (.int .u8 ka), .raw (.int .u8 kb), .raw (.int .u8 kc), .raw (.int .u8 kd), .raw (.int .u8 ke), .raw (.int .u8 kf)]), .t 1 (.tab n [.data .u8 xss])] =>
    need (decide (total xss n ≤ 4611686018427387904 ∧ n ≤ 4611686018427387904)) (k (.sa (.one (iv .u64 (sipOf [k0, k1, k2, k3, k4, k5, k6, k7, k8, k9, ka, kb, kc, kd, ke, kf] xss n)))) [])
  | _ => False
def sOf : SumT := pureSum [.cells [], .rows 1 [some .u8] (.tab 0 [.data .u8 []])] fOf
noncomputable def cx0 : Cx := mkCx Try.prog [] [] []
noncomputable def cxR : Cx := mkCx Try.prog [(58, sRot)] [(54, 1, [0, 4, 5], [])] []
noncomputable def cxB : Cx := mkCx Try.prog [(53, sTake), (51, sWord)] [(52, 0, [0, 1], [⟨1, [], 0⟩])] []
noncomputable def cxO : Cx := mkCx Try.prog [(53, sTake), (51, sWord), (52, sBytes), (54, sRounds)] [(42, 4, [7, 24, 25, 26], [])] [(53, 1)]
noncomputable def cxT : Cx := mkCx Try.prog [(58, sRot), (54, sRounds)] [] []
end Go.Ev
namespace Go.Spec
open Go.Ev
def rwStep (xs : List Int) (i x : Int) : Int :=
  if i < ((xs.length : Nat) : Int) then addK .u64 (mulK .u64 256 x) (IntKind.wrap .u64 (xs.getD i.toNat 0)) else mulK .u64 256 x
def rwGo (xs : List Int) : Nat → Int → Int
  | 0, x => x
  | i + 1, x => rwGo xs i (rwStep xs (i : Int) x)
def refWord (xs : List Int) : Int := rwGo xs 8 0
def lastWord (xs : List Int) (i : Nat) : Int := addK .u64 (refWord (xs.drop i)) (mulK .u64 (IntKind.wrap .u64 (remK ((xs.length : Nat) : Int) 256)) 72057594037927936)
def wordAt (xs : List Int) (i : Nat) : Int := if i + 8 ≤ xs.length then refWord ((xs.drop i).take 8) else lastWord xs i
def refGo (xs : List Int) : Nat → Nat → S4 → S4
  | 0, _, v => v
  | f + 1, i, v => if i ≤ xs.length then refGo xs f (i + 8) (takeS v (wordAt xs i)) else v
def ref0 (key : List Int) : S4 :=
  ⟨xorK .u64 (refWord (key.take 8)) 8317987319222330741, xorK .u64 (refWord (key.drop 8)) 7237128888997146477, xorK .u64 (refWord (key.take 8)) 7816392313619706465, xorK .u64 (refWord (key.drop 8)) 8387220255154660723⟩
def refEnd (v : S4) : Int :=
  let u := rnds 4 ⟨v.a, v.b, xorK .u64 v.c 255, v.d⟩
  xorK .u64 (xorK .u64 (xorK .u64 u.a u.b) u.c) u.d
def refOf (key xs : List Int) : Int := refEnd (refGo xs (xs.length / 8 + 1) 0 (ref0 key))
end Go.Spec
namespace Go.Ev
open Go Go.Proofs Go.Spec
def sRound : SumT := fun args st k => match args, st with
  | [.agg [.raw (.int .u64 a), .raw (.int .u64 b), .raw (.int .u64 c), .raw (.int .u64 d)]], [] => k (.sa (.agg [iv .u64 (rnd ⟨a, b, c, d⟩).a, iv .u64 (rnd ⟨a, b, c, d⟩).b, iv .u64 (rnd ⟨a, b, c, d⟩).c, iv .u64 (rnd ⟨a, b, c, d⟩).d])) []
  | _, _ => False
def fRWord (vas : List VA) (k : SV → St → Prop) : Prop := match vas with
  | [.a (.one (.dat .u8 xs))] => k (.sa (.one (iv .u64 (refWord xs)))) []
  | _ => False
def sRWord : SumT := pureSum [.cells [some .u8]] fRWord
def fROf (vas : List VA) (k : SV → St → Prop) : Prop := match vas with
  | [.a (.agg [.raw (.int .u8 k0), .raw (.int .u8 k1), .raw (.int .u8 k2), .raw (.int .u8 k3), .raw (.int .u8 k4), .raw (.int .u8 k5), .raw (.int .u8 k6), .raw (.int .u8 k7), .raw (.int .u8 k8), .raw (.int .u8 k9), .raw (.int .u8 ka), .raw (.int .u8 kb), .raw (.int .u8 kc), .raw (.int .u8 kd), .raw (.int .u8 ke), .raw (.int .u8 kf)]), .a (.one (.dat .u8 xs))] =>
    need (decide (xs.length ≤ 4611686018427387904)) (k (.sa (.one (iv .u64 (refOf [k0, k1, k2, k3, k4, k5, k6, k7, k8, k9, ka, kb, kc, kd, ke, kf] xs)))) [])
  | _ => False
def sROf : SumT := pureSum [.cells [], .cells [some .u8]] fROf
noncomputable def cxQ : Cx := mkCx Try.prog [(59, sRot)] [(55, 3, [0, 3, 4], [])] []
noncomputable def cxP : Cx := mkCx Try.prog [(56, sRound), (55, sRWord)] [(44, 4, [1, 7, 8], [])] []
end Go.Ev
