/- What a cookie is opened to. Definitions alone. No conditions. -/
import Derived.Test.YtaabhhffnlmkeaaCkD
namespace Go.Spec
open Go Go.Ev
/-- A number of bytes, the highest first. -/
def numK : List Int → Int → Int
  | [], x => x
  | c :: r, x => numK r (orK .u64 (shlK .u64 x 8) (IntKind.wrap .u64 c))
def num (b : List Int) (i n : Nat) : Int := numK ((b.drop i).take n) 0
def w4 (b : List Int) (i : Nat) : Int := IntKind.wrap .u32 (num b i 4)
def w2 (b : List Int) (i : Nat) : Int := IntKind.wrap .u16 (num b i 2)
def xsFrom (b : List Int) (i : Nat) : Nat → List Int
  | 0 => []
  | n + 1 => w4 b i :: xsFrom b (i + 4) n
def manyOf (b : List Int) : Nat := (b.length - 52) / 4
def readT (b : List Int) : Tc := ⟨w4 b 0, w4 b 4, w4 b 8, w4 b 12, w4 b 16, w2 b 20, w2 b 22, xsFrom b 44 (manyOf b), w4 b 24, w4 b 28, num b 32 8⟩
def lenOk (b : List Int) : Bool := Nat.beq b.length 52 || Nat.beq b.length 56 || Nat.beq b.length 60 || Nat.beq b.length 64
def macOk (key b : List Int) : Bool := eqK (num b (b.length - 8) 8) (sipOf key [b.take (b.length - 8)] 1)
def cntOk (b : List Int) : Bool := eqK (w4 b 40) (IntKind.wrap .u32 ((manyOf b : Nat) : Int))
def lateB (t : Tc) (now life : Int) : Bool := decide (t.a10 > now) || decide (subK .u64 now t.a10 > life)
def openErr (key b : List Int) (now life : Int) : Int :=
  if (lenOk b && macOk key b && cntOk b) = true then (if lateB (readT b) now life = true then 161 else 0) else 160
def openOk (key b : List Int) (now life : Int) : Bool := lenOk b && macOk key b && cntOk b && !lateB (readT b) now life
def emptyL (xs : List Int) : Bool := xs.isEmpty
end Go.Spec
namespace Go.Ev
open Go Go.Proofs Go.Spec
def zeroTcb : SA := .agg [iv .u32 0, iv .u32 0, iv .u32 0, iv .u32 0, iv .u32 0, iv .u16 0, iv .u16 0, .raw (.slice none 0 0), iv .u32 0, iv .u32 0, iv .u64 0]
def tcbNil (t : Tc) : SA := .agg [iv .u32 t.a0, iv .u32 t.a1, iv .u32 t.a2, iv .u32 t.a3, iv .u32 t.a4, iv .u16 t.a5, iv .u16 t.a6, .raw (.slice none 0 0), iv .u32 t.a8, iv .u32 t.a9, iv .u64 t.a10]
def tcbRef (t : Tc) : SA := .agg [iv .u32 t.a0, iv .u32 t.a1, iv .u32 t.a2, iv .u32 t.a3, iv .u32 t.a4, iv .u16 t.a5, iv .u16 t.a6, .ref 0, iv .u32 t.a8, iv .u32 t.a9, iv .u64 t.a10]
def kOpen (key b : List Int) (now life : Int) (k : SV → St → Prop) : Prop :=
  branch (openOk key b now life) (branch (emptyL (readT b).xs) (k (.tup [tcbNil (readT b), .one (iv .i64 0)]) []) (k (.tup [tcbRef (readT b), .one (iv .i64 0)]) [some (.own true .row 24 1 (.ints .u32 (readT b).xs))]))
    (k (.tup [zeroTcb, .one (iv .i64 (openErr key b now life))]) [])
def fOpen (vas : List VA) (k : SV → St → Prop) : Prop := match vas with
  | [.a (.agg [.raw (.int .u8 k0), .raw (.int .u8 k1), .raw (.int .u8 k2), .raw (.int .u8 k3), .raw (.int .u8 k4), .raw (.int .u8 k5), .raw (.int .u8 k6), .raw (.int .u8 k7), .raw (.int .u8 k8), .raw (.int .u8 k9), .raw (.int .u8 ka), .raw (.int .u8 kb), .raw (.int .u8 kc), .raw (.int .u8 kd), .raw (.int .u8 ke), .raw (.int .u8 kf)]), .a (.one (.dat .u8 b)), .a (.one (.raw (.int .u64 now))), .a (.one (.raw (.int .u64 life)))] =>
    need (decide (b.length ≤ 4611686018427387904)) (kOpen [k0, k1, k2, k3, k4, k5, k6, k7, k8, k9, ka, kb, kc, kd, ke, kf] b now life k)
  | _ => False
def sOpen : SumT := pureSum [.cells [], .cells [some .u8], .cells [], .cells []] fOpen
noncomputable def cxOp : Cx := mkCx Try.prog [(42, sOf)] [] [(45, 1), (46, 1), (47, 1)]
end Go.Ev
