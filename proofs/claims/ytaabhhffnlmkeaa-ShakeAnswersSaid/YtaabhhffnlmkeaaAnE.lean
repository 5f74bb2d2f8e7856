/- Opening cookies, told without branches: what comes back is the numbers of the bytes, or zeros. Definitions alone. No conditions. -/
import Derived.Test.YtaabhhffnlmkeaaAnD
namespace Go.Spec
open Go Go.Ev
def zT : Tc := ⟨0, 0, 0, 0, 0, 0, 0, [], 0, 0, 0⟩
def resT (key b : List Int) (now life : Int) : Tc := match openOk key b now life with
  | true => readT b
  | false => zT
end Go.Spec
namespace Go.Ev
open Go Go.Proofs Go.Spec
def kOpen2 (t : Tc) (e : Int) (k : SV → St → Prop) : Prop := k (.tup [tcbRef t, .one (iv .i64 e)]) [some (.own true .row 24 1 (.ints .u32 t.xs))]
def fOpen2 (vas : List VA) (k : SV → St → Prop) : Prop := match vas with
  | [.a (.agg [.raw (.int .u8 k0), .raw (.int .u8 k1), .raw (.int .u8 k2), .raw (.int .u8 k3), .raw (.int .u8 k4), .raw (.int .u8 k5), .raw (.int .u8 k6), .raw (.int .u8 k7), .raw (.int .u8 k8), .raw (.int .u8 k9), .raw (.int .u8 ka), .raw (.int .u8 kb), .raw (.int .u8 kc), .raw (.int .u8 kd), .raw (.int .u8 ke), .raw (.int .u8 kf)]), .a (.one (.dat .u8 b)), .a (.one (.raw (.int .u64 now))), .a (.one (.raw (.int .u64 life)))] =>
    need (decide (b.length ≤ 4611686018427387904)) (kOpen2 (resT [k0, k1, k2, k3, k4, k5, k6, k7, k8, k9, ka, kb, kc, kd, ke, kf] b now life) (openErr [k0, k1, k2, k3, k4, k5, k6, k7, k8, k9, ka, kb, kc, kd, ke, kf] b now life) k)
  | _ => False
def fROpen2 (vas : List VA) (k : SV → St → Prop) : Prop := match vas with
  | [.a (.agg [.raw (.int .u8 k0), .raw (.int .u8 k1), .raw (.int .u8 k2), .raw (.int .u8 k3), .raw (.int .u8 k4), .raw (.int .u8 k5), .raw (.int .u8 k6), .raw (.int .u8 k7), .raw (.int .u8 k8), .raw (.int .u8 k9), .raw (.int .u8 ka), .raw (.int .u8 kb), .raw (.int .u8 kc), .raw (.int .u8 kd), .raw (.int .u8 ke), .raw (.int .u8 kf)]), .a (.one (.dat .u8 b)), .a (.one (.raw (.int .u64 now))), .a (.one (.raw (.int .u64 life)))] =>
    need (bytesB b && (bytesB [k0, k1, k2, k3, k4, k5, k6, k7, k8, k9, ka, kb, kc, kd, ke, kf] && decide (b.length ≤ 1000000))) (kOpen2 (resT [k0, k1, k2, k3, k4, k5, k6, k7, k8, k9, ka, kb, kc, kd, ke, kf] b now life) (openErr [k0, k1, k2, k3, k4, k5, k6, k7, k8, k9, ka, kb, kc, kd, ke, kf] b now life) k)
  | _ => False
def sOpen2 : SumT := pureSum [.cells [], .cells [some .u8], .cells [], .cells []] fOpen2
def sROpen2 : SumT := pureSum [.cells [], .cells [some .u8], .cells [], .cells []] fROpen2
noncomputable def cxAm : Cx := mkCx Try.prog [(7, sTrue), (26, sMk makeOf), (31, sOpen2), (34, sClone32), (27, sMk makeRf), (12, sROpen2), (13, sRSame), (30, sSam)] [] []
end Go.Ev
