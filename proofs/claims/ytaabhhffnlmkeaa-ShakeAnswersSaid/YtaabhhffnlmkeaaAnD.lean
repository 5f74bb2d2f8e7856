/- The document's opening of cookies, lists that are alike, the law ShakeAnswers: summaries and contexts. Definitions alone. No conditions. -/
import Derived.Test.YtaabhhffnlmkeaaKyD
namespace Go.Spec
open Go Go.Ev
def bytesB (l : List Int) : Bool := l.all fun x => decide (0 ≤ x ∧ x ≤ 255)
end Go.Spec
namespace Go.Ev
open Go Go.Proofs Go.Spec
def fNum (vas : List VA) (k : SV → St → Prop) : Prop := match vas with
  | [.a (.one (.dat .u8 b)), .a (.one (.raw (.int .i64 i))), .a (.one (.raw (.int .i64 n)))] =>
    need (bytesB b && decide (0 ≤ i ∧ 0 ≤ n ∧ n ≤ 8 ∧ i + n ≤ b.length ∧ b.length ≤ 1000000)) (k (.sa (.one (iv .u64 (num b i.toNat n.toNat)))) [])
  | _ => False
def sNum : SumT := pureSum [.cells [some .u8], .cells [], .cells []] fNum
def lenB (b : List Int) : Bool := decide (b.length = 52 ∨ b.length = 56 ∨ b.length = 60 ∨ b.length = 64)
def kRead (t : Tc) (k : SV → St → Prop) : Prop := branch (emptyL t.xs) (k (.sa (tcbNil t)) []) (k (.sa (tcbRef t)) [some (.own true .row 24 1 (.ints .u32 t.xs))])
def fRead (vas : List VA) (k : SV → St → Prop) : Prop := match vas with
  | [.a (.one (.dat .u8 b))] => need (bytesB b && lenB b) (kRead (readT b) k)
  | _ => False
def sRead : SumT := pureSum [.cells [some .u8]] fRead
def fROpen (vas : List VA) (k : SV → St → Prop) : Prop := match vas with
  | [.a (.agg [.raw (.int .u8 k0), .raw (.int .u8 k1), .raw (.int .u8 k2), .raw (.int .u8 k3), .raw (.int .u8 k4), .raw (.int .u8 k5), .raw (.int .u8 k6), .raw (.int .u8 k7), .raw (.int .u8 k8), .raw (.int .u8 k9), .raw (.int .u8 ka), .raw (.int .u8 kb), .raw (.int .u8 kc), .raw (.int .u8 kd), .raw (.int .u8 ke), .raw (.int .u8 kf)]), .a (.one (.dat .u8 b)), .a (.one (.raw (.int .u64 now))), .a (.one (.raw (.int .u64 life)))] =>
    need (bytesB b && (bytesB [k0, k1, k2, k3, k4, k5, k6, k7, k8, k9, ka, kb, kc, kd, ke, kf] && decide (b.length ≤ 1000000))) (kOpen [k0, k1, k2, k3, k4, k5, k6, k7, k8, k9, ka, kb, kc, kd, ke, kf] b now life k)
  | _ => False
def sROpen : SumT := pureSum [.cells [], .cells [some .u8], .cells [], .cells []] fROpen
/-- lanyardref19.same. -/
def sSam : SumT := pureSum [.cells [some .u32], .cells [some .u32]] fEq32
noncomputable def cxNu : Cx := mkCx Try.prog [] [(48, 3, [0, 1, 2, 7, 8], []), (30, 3, [0, 1, 5, 6], [])] []
noncomputable def cxRe : Cx := mkCx Try.prog [(48, sNum)] [] []
noncomputable def cxRo : Cx := mkCx Try.prog [(32, sRead), (27, sMk makeRf)] [] []
noncomputable def cxAn : Cx := mkCx Try.prog [(7, sTrue), (26, sMk makeOf), (31, sOpen), (34, sClone32), (27, sMk makeRf), (12, sROpen), (13, sRSame), (30, sSam)] [] []
end Go.Ev
