/- What the functions of this layer come to on states with numbers that are not known: printed by a program of mine (SymTool.lean), checked by the kernel. No conditions. -/
import Derived.Test.YtaabhhffnlmkeaaSiD
import Derived.Test.YtaabhhffnlmkeaaEvD
set_option linter.unusedVariables false
namespace Go.Ev
open Go Go.Proofs Go.Spec
theorem t_tur13 (x : Int) (k : SV → St → Prop) : evCall cx0 (ev cx0 30) 59 [.one (.raw (.int .u64 x)), .one (.raw (.int .i64 13))] [] k =
    (k (.sa (.one (iv .u64 (orK .u64 (shlK .u64 x (13)) (shrK .u64 x (51)))))) []) := by kernel_rfl
theorem t_tur16 (x : Int) (k : SV → St → Prop) : evCall cx0 (ev cx0 30) 59 [.one (.raw (.int .u64 x)), .one (.raw (.int .i64 16))] [] k =
    (k (.sa (.one (iv .u64 (orK .u64 (shlK .u64 x (16)) (shrK .u64 x (48)))))) []) := by kernel_rfl
theorem t_tur32 (x : Int) (k : SV → St → Prop) : evCall cx0 (ev cx0 30) 59 [.one (.raw (.int .u64 x)), .one (.raw (.int .i64 32))] [] k =
    (k (.sa (.one (iv .u64 (orK .u64 (shlK .u64 x (32)) (shrK .u64 x (32)))))) []) := by kernel_rfl
theorem t_tur17 (x : Int) (k : SV → St → Prop) : evCall cx0 (ev cx0 30) 59 [.one (.raw (.int .u64 x)), .one (.raw (.int .i64 17))] [] k =
    (k (.sa (.one (iv .u64 (orK .u64 (shlK .u64 x (17)) (shrK .u64 x (47)))))) []) := by kernel_rfl
theorem t_tur21 (x : Int) (k : SV → St → Prop) : evCall cx0 (ev cx0 30) 59 [.one (.raw (.int .u64 x)), .one (.raw (.int .i64 21))] [] k =
    (k (.sa (.one (iv .u64 (orK .u64 (shlK .u64 x (21)) (shrK .u64 x (43)))))) []) := by kernel_rfl
theorem t_round4 (a b c d : Int) (k : SV → St → Prop) : evCall cxQ (ev cxQ 60) 56 [.agg [iv .u64 a, iv .u64 b, iv .u64 c, iv .u64 d]] [] k =
    (k (.sa (.agg [(iv .u64 (addK .u64 (Spec.rotI (addK .u64 a b) (32)) (xorK .u64 (Spec.rotI d (16)) (addK .u64 c d)))), (iv .u64 (xorK .u64 (Spec.rotI (xorK .u64 (Spec.rotI b (13)) (addK .u64 a b)) (17)) (addK .u64 (addK .u64 c d) (xorK .u64 (Spec.rotI b (13)) (addK .u64 a b))))), (iv .u64 (Spec.rotI (addK .u64 (addK .u64 c d) (xorK .u64 (Spec.rotI b (13)) (addK .u64 a b))) (32))), (iv .u64 (xorK .u64 (Spec.rotI (xorK .u64 (Spec.rotI d (16)) (addK .u64 c d)) (21)) (addK .u64 (Spec.rotI (addK .u64 a b) (32)) (xorK .u64 (Spec.rotI d (16)) (addK .u64 c d)))))])) []) := by kernel_rfl
theorem t_rword (xs : List Int) (N : Nat) (k : SV → St → Prop) : evCall cxQ (ev cxQ (N + 40)) 55 [.one (.ref 0)] [rd xs] k =
    (ev cxQ (N + 35) 1 55 (codeAt Try.prog 55 [1, 1, 0, 1, 0]) (frm 23 [(0, (.sa (.one (SC.ref 0)))), (3, (.sa (.one (iv .u64 (0))))), (4, (.sa (.one (iv .i64 (7)))))]) [(some (SO.own false MK.ext 0 1 (Ct.ints .u8 xs)))] (kBlock 0 (kSeq (ev cxQ (N + 37) 1 55 (codeAt Try.prog 55 [1, 1, 1])) (kRet (Cx.P cxQ) [(ResultVar.tmp 2)] 1 k)))) := by kernel_rfl
theorem t_rof (k0 k1 k2 k3 k4 k5 k6 k7 k8 k9 ka kb kc kd ke kf : Int) (xs : List Int) (N : Nat) (k : SV → St → Prop) : evCall cxP (ev cxP (N + 40)) 44 [.agg [iv .u8 k0, iv .u8 k1, iv .u8 k2, iv .u8 k3, iv .u8 k4, iv .u8 k5, iv .u8 k6, iv .u8 k7, iv .u8 k8, iv .u8 k9, iv .u8 ka, iv .u8 kb, iv .u8 kc, iv .u8 kd, iv .u8 ke, iv .u8 kf], .one (.ref 0)] [rd xs] k =
    (ev cxP (N + 34) 1 44 (codeAt Try.prog 44 [1, 1, 1, 0, 1, 0]) (frm 83 [(1, (.sa (.one (SC.ref 0)))), (7, (.sa (.one (SC.ptr 1 0 0)))), (8, (.sa (.one (iv .i64 (0)))))]) [(some (SO.own false MK.ext 0 1 (Ct.ints .u8 xs))), (some (SO.mem true MK.whole 106 1 (Ct.lst [[(iv .u64 (xorK .u64 (Spec.refWord [k0, k1, k2, k3, k4, k5, k6, k7]) (8317987319222330741)))], [(iv .u64 (xorK .u64 (Spec.refWord [k8, k9, ka, kb, kc, kd, ke, kf]) (7237128888997146477)))], [(iv .u64 (xorK .u64 (Spec.refWord [k0, k1, k2, k3, k4, k5, k6, k7]) (7816392313619706465)))], [(iv .u64 (xorK .u64 (Spec.refWord [k8, k9, ka, kb, kc, kd, ke, kf]) (8387220255154660723)))]])))] (kBlock 0 (kSeq (ev cxP (N + 36) 1 44 (codeAt Try.prog 44 [1, 1, 1, 1])) (kRet (Cx.P cxP) [(ResultVar.tmp 4)] 1 k)))) := by kernel_rfl
end Go.Ev
