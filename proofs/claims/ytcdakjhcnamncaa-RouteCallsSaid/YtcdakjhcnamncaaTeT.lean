/- What RouteCalls and the methods of routes come to on states with numbers that are not known: printed, checked by the kernel; or drawn from that. No conditions. -/
import Derived.Test.YtcdakjhcnamncaaRkE
import Derived.Test.YtcdakjhcnamncaaEvD
import Derived.Test.YtcdakjhcnamncaaRkF
import Derived.Test.YtcdakjhcnamncaaRkL
set_option linter.unusedVariables false
namespace Go.Ev
open Go Go.Proofs Go.Spec
theorem t_te1 (p0 : Pa) (r0 : Ra) (prim sil al prim2 sil2 al2 kd I : Int) (k : KT) : evCall cxTe (ev cxTe 80) 25 [.one (.ptr 0 0 0), .one (.ptr 6 0 0), .agg [iv .u8 kd, iv .i64 I]] (rtL [p0] prim sil al ++ rfL 6 [r0] prim2 sil2 al2) k =
   (branch (eqK kd (0)) (branch ((missT I [p0] 0) == (missRT I [r0] 0)) (k (.sa (.one (bv ((lostB I 1 sil al) == (lostB I 1 sil2 al2))))) (rtL (missP I [p0] 0) prim (thI I 1 (addK .i64 sil (1)) sil) al ++ rfL 6 (missR I [r0] 0) prim2 (thI I 1 (addK .i64 sil2 (1)) sil2) al2)) (k (rB false) (rtL (missP I [p0] 0) prim (thI I 1 (addK .i64 sil (1)) sil) al ++ rfL 6 (missR I [r0] 0) prim2 (thI I 1 (addK .i64 sil2 (1)) sil2) al2))) (branch (eqK kd (1)) (k (.sa (.one (bv ((hearT I [p0] 0) == (hearRT I [r0] 0))))) (rtL (hearP I [p0] 0) prim (thI I 1 (0) sil) al ++ rfL 6 (hearR I [r0] 0) prim2 (thI I 1 (0) sil2) al2)) (branch (eqK kd (2)) (branch (decide ((I < (0)))) (k (.sa (.one (bv (eqK (thI I 1 (0) (4)) (4))))) (rtL [p0] (thI I 1 I prim) sil al ++ rfL 6 [r0] prim2 sil2 al2)) (branch (decide ((I ≥ (1)))) (k (.sa (.one (bv (eqK (thI I 1 (0) (4)) (4))))) (rtL [p0] (thI I 1 I prim) sil al ++ rfL 6 [r0] prim2 sil2 al2)) (k (.sa (.one (bv (eqK (thI I 1 (0) (4)) (0))))) (rtL [p0] (thI I 1 I prim) sil al ++ rfL 6 [r0] I sil2 al2)))) (k (rB true) (rtL [p0] prim sil al ++ rfL 6 [r0] prim2 sil2 al2))))) := by kernel_rfl
theorem t_fi1 (p0 : Pa) (prim sil al f t : Int) (N : Nat) (k : KT) : evCall cxFi (ev cxFi (N + 80)) 20 [.one (.ptr 0 0 0), .one (iv .u32 f), .one (iv .u32 t)] (rtL [p0] prim sil al) k =
   (fiH1 p0 prim sil al f t 0 N N k) := by kernel_rfl
end Go.Ev
set_option linter.unusedVariables false
namespace Go.Ev
open Go Go.Proofs Go.Spec
theorem t_te2 (p0 p1 : Pa) (r0 r1 : Ra) (prim sil al prim2 sil2 al2 kd I : Int) (k : KT) : evCall cxTe (ev cxTe 80) 25 [.one (.ptr 0 0 0), .one (.ptr 10 0 0), .agg [iv .u8 kd, iv .i64 I]] (rtL [p0, p1] prim sil al ++ rfL 10 [r0, r1] prim2 sil2 al2) k =
   (branch (eqK kd (0)) (branch ((missT I [p0, p1] 0) == (missRT I [r0, r1] 0)) (k (.sa (.one (bv ((lostB I 2 sil al) == (lostB I 2 sil2 al2))))) (rtL (missP I [p0, p1] 0) prim (thI I 2 (addK .i64 sil (1)) sil) al ++ rfL 10 (missR I [r0, r1] 0) prim2 (thI I 2 (addK .i64 sil2 (1)) sil2) al2)) (k (rB false) (rtL (missP I [p0, p1] 0) prim (thI I 2 (addK .i64 sil (1)) sil) al ++ rfL 10 (missR I [r0, r1] 0) prim2 (thI I 2 (addK .i64 sil2 (1)) sil2) al2))) (branch (eqK kd (1)) (k (.sa (.one (bv ((hearT I [p0, p1] 0) == (hearRT I [r0, r1] 0))))) (rtL (hearP I [p0, p1] 0) prim (thI I 2 (0) sil) al ++ rfL 10 (hearR I [r0, r1] 0) prim2 (thI I 2 (0) sil2) al2)) (branch (eqK kd (2)) (branch (decide ((I < (0)))) (k (.sa (.one (bv (eqK (thI I 2 (0) (4)) (4))))) (rtL [p0, p1] (thI I 2 I prim) sil al ++ rfL 10 [r0, r1] prim2 sil2 al2)) (branch (decide ((I ≥ (2)))) (k (.sa (.one (bv (eqK (thI I 2 (0) (4)) (4))))) (rtL [p0, p1] (thI I 2 I prim) sil al ++ rfL 10 [r0, r1] prim2 sil2 al2)) (k (.sa (.one (bv (eqK (thI I 2 (0) (4)) (0))))) (rtL [p0, p1] (thI I 2 I prim) sil al ++ rfL 10 [r0, r1] I sil2 al2)))) (k (rB true) (rtL [p0, p1] prim sil al ++ rfL 10 [r0, r1] prim2 sil2 al2))))) := by kernel_rfl
theorem t_fi2 (p0 p1 : Pa) (prim sil al f t : Int) (N : Nat) (k : KT) : evCall cxFi (ev cxFi (N + 80)) 20 [.one (.ptr 0 0 0), .one (iv .u32 f), .one (iv .u32 t)] (rtL [p0, p1] prim sil al) k =
   (fiH2 p0 p1 prim sil al f t 0 N N k) := by kernel_rfl
end Go.Ev
set_option linter.unusedVariables false
namespace Go.Ev
open Go Go.Proofs Go.Spec
theorem t_te3 (p0 p1 p2 : Pa) (r0 r1 r2 : Ra) (prim sil al prim2 sil2 al2 kd I : Int) (k : KT) : evCall cxTe (ev cxTe 80) 25 [.one (.ptr 0 0 0), .one (.ptr 14 0 0), .agg [iv .u8 kd, iv .i64 I]] (rtL [p0, p1, p2] prim sil al ++ rfL 14 [r0, r1, r2] prim2 sil2 al2) k =
   (branch (eqK kd (0)) (branch ((missT I [p0, p1, p2] 0) == (missRT I [r0, r1, r2] 0)) (k (.sa (.one (bv ((lostB I 3 sil al) == (lostB I 3 sil2 al2))))) (rtL (missP I [p0, p1, p2] 0) prim (thI I 3 (addK .i64 sil (1)) sil) al ++ rfL 14 (missR I [r0, r1, r2] 0) prim2 (thI I 3 (addK .i64 sil2 (1)) sil2) al2)) (k (rB false) (rtL (missP I [p0, p1, p2] 0) prim (thI I 3 (addK .i64 sil (1)) sil) al ++ rfL 14 (missR I [r0, r1, r2] 0) prim2 (thI I 3 (addK .i64 sil2 (1)) sil2) al2))) (branch (eqK kd (1)) (k (.sa (.one (bv ((hearT I [p0, p1, p2] 0) == (hearRT I [r0, r1, r2] 0))))) (rtL (hearP I [p0, p1, p2] 0) prim (thI I 3 (0) sil) al ++ rfL 14 (hearR I [r0, r1, r2] 0) prim2 (thI I 3 (0) sil2) al2)) (branch (eqK kd (2)) (branch (decide ((I < (0)))) (k (.sa (.one (bv (eqK (thI I 3 (0) (4)) (4))))) (rtL [p0, p1, p2] (thI I 3 I prim) sil al ++ rfL 14 [r0, r1, r2] prim2 sil2 al2)) (branch (decide ((I ≥ (3)))) (k (.sa (.one (bv (eqK (thI I 3 (0) (4)) (4))))) (rtL [p0, p1, p2] (thI I 3 I prim) sil al ++ rfL 14 [r0, r1, r2] prim2 sil2 al2)) (k (.sa (.one (bv (eqK (thI I 3 (0) (4)) (0))))) (rtL [p0, p1, p2] (thI I 3 I prim) sil al ++ rfL 14 [r0, r1, r2] I sil2 al2)))) (k (rB true) (rtL [p0, p1, p2] prim sil al ++ rfL 14 [r0, r1, r2] prim2 sil2 al2))))) := by kernel_rfl
theorem t_fi3 (p0 p1 p2 : Pa) (prim sil al f t : Int) (N : Nat) (k : KT) : evCall cxFi (ev cxFi (N + 80)) 20 [.one (.ptr 0 0 0), .one (iv .u32 f), .one (iv .u32 t)] (rtL [p0, p1, p2] prim sil al) k =
   (fiH3 p0 p1 p2 prim sil al f t 0 N N k) := by kernel_rfl
end Go.Ev
set_option linter.unusedVariables false
namespace Go.Ev
open Go Go.Proofs Go.Spec
theorem t_te4 (p0 p1 p2 p3 : Pa) (r0 r1 r2 r3 : Ra) (prim sil al prim2 sil2 al2 kd I : Int) (k : KT) : evCall cxTe (ev cxTe 80) 25 [.one (.ptr 0 0 0), .one (.ptr 18 0 0), .agg [iv .u8 kd, iv .i64 I]] (rtL [p0, p1, p2, p3] prim sil al ++ rfL 18 [r0, r1, r2, r3] prim2 sil2 al2) k =
   (branch (eqK kd (0)) (branch ((missT I [p0, p1, p2, p3] 0) == (missRT I [r0, r1, r2, r3] 0)) (k (.sa (.one (bv ((lostB I 4 sil al) == (lostB I 4 sil2 al2))))) (rtL (missP I [p0, p1, p2, p3] 0) prim (thI I 4 (addK .i64 sil (1)) sil) al ++ rfL 18 (missR I [r0, r1, r2, r3] 0) prim2 (thI I 4 (addK .i64 sil2 (1)) sil2) al2)) (k (rB false) (rtL (missP I [p0, p1, p2, p3] 0) prim (thI I 4 (addK .i64 sil (1)) sil) al ++ rfL 18 (missR I [r0, r1, r2, r3] 0) prim2 (thI I 4 (addK .i64 sil2 (1)) sil2) al2))) (branch (eqK kd (1)) (k (.sa (.one (bv ((hearT I [p0, p1, p2, p3] 0) == (hearRT I [r0, r1, r2, r3] 0))))) (rtL (hearP I [p0, p1, p2, p3] 0) prim (thI I 4 (0) sil) al ++ rfL 18 (hearR I [r0, r1, r2, r3] 0) prim2 (thI I 4 (0) sil2) al2)) (branch (eqK kd (2)) (branch (decide ((I < (0)))) (k (.sa (.one (bv (eqK (thI I 4 (0) (4)) (4))))) (rtL [p0, p1, p2, p3] (thI I 4 I prim) sil al ++ rfL 18 [r0, r1, r2, r3] prim2 sil2 al2)) (branch (decide ((I ≥ (4)))) (k (.sa (.one (bv (eqK (thI I 4 (0) (4)) (4))))) (rtL [p0, p1, p2, p3] (thI I 4 I prim) sil al ++ rfL 18 [r0, r1, r2, r3] prim2 sil2 al2)) (k (.sa (.one (bv (eqK (thI I 4 (0) (4)) (0))))) (rtL [p0, p1, p2, p3] (thI I 4 I prim) sil al ++ rfL 18 [r0, r1, r2, r3] I sil2 al2)))) (k (rB true) (rtL [p0, p1, p2, p3] prim sil al ++ rfL 18 [r0, r1, r2, r3] prim2 sil2 al2))))) := by kernel_rfl
theorem t_fi4 (p0 p1 p2 p3 : Pa) (prim sil al f t : Int) (N : Nat) (k : KT) : evCall cxFi (ev cxFi (N + 80)) 20 [.one (.ptr 0 0 0), .one (iv .u32 f), .one (iv .u32 t)] (rtL [p0, p1, p2, p3] prim sil al) k =
   (fiH4 p0 p1 p2 p3 prim sil al f t 0 N N k) := by kernel_rfl
end Go.Ev
set_option linter.unusedVariables false
namespace Go.Ev
open Go Go.Proofs Go.Spec
theorem t_te6 (p0 p1 p2 p3 p4 p5 : Pa) (r0 r1 r2 r3 r4 r5 : Ra) (prim sil al prim2 sil2 al2 kd I : Int) (k : KT) : evCall cxTe (ev cxTe 80) 25 [.one (.ptr 0 0 0), .one (.ptr 26 0 0), .agg [iv .u8 kd, iv .i64 I]] (rtL [p0, p1, p2, p3, p4, p5] prim sil al ++ rfL 26 [r0, r1, r2, r3, r4, r5] prim2 sil2 al2) k =
   (branch (eqK kd (0)) (branch ((missT I [p0, p1, p2, p3, p4, p5] 0) == (missRT I [r0, r1, r2, r3, r4, r5] 0)) (k (.sa (.one (bv ((lostB I 6 sil al) == (lostB I 6 sil2 al2))))) (rtL (missP I [p0, p1, p2, p3, p4, p5] 0) prim (thI I 6 (addK .i64 sil (1)) sil) al ++ rfL 26 (missR I [r0, r1, r2, r3, r4, r5] 0) prim2 (thI I 6 (addK .i64 sil2 (1)) sil2) al2)) (k (rB false) (rtL (missP I [p0, p1, p2, p3, p4, p5] 0) prim (thI I 6 (addK .i64 sil (1)) sil) al ++ rfL 26 (missR I [r0, r1, r2, r3, r4, r5] 0) prim2 (thI I 6 (addK .i64 sil2 (1)) sil2) al2))) (branch (eqK kd (1)) (k (.sa (.one (bv ((hearT I [p0, p1, p2, p3, p4, p5] 0) == (hearRT I [r0, r1, r2, r3, r4, r5] 0))))) (rtL (hearP I [p0, p1, p2, p3, p4, p5] 0) prim (thI I 6 (0) sil) al ++ rfL 26 (hearR I [r0, r1, r2, r3, r4, r5] 0) prim2 (thI I 6 (0) sil2) al2)) (branch (eqK kd (2)) (branch (decide ((I < (0)))) (k (.sa (.one (bv (eqK (thI I 6 (0) (4)) (4))))) (rtL [p0, p1, p2, p3, p4, p5] (thI I 6 I prim) sil al ++ rfL 26 [r0, r1, r2, r3, r4, r5] prim2 sil2 al2)) (branch (decide ((I ≥ (6)))) (k (.sa (.one (bv (eqK (thI I 6 (0) (4)) (4))))) (rtL [p0, p1, p2, p3, p4, p5] (thI I 6 I prim) sil al ++ rfL 26 [r0, r1, r2, r3, r4, r5] prim2 sil2 al2)) (k (.sa (.one (bv (eqK (thI I 6 (0) (4)) (0))))) (rtL [p0, p1, p2, p3, p4, p5] (thI I 6 I prim) sil al ++ rfL 26 [r0, r1, r2, r3, r4, r5] I sil2 al2)))) (k (rB true) (rtL [p0, p1, p2, p3, p4, p5] prim sil al ++ rfL 26 [r0, r1, r2, r3, r4, r5] prim2 sil2 al2))))) := by kernel_rfl
theorem t_fi6 (p0 p1 p2 p3 p4 p5 : Pa) (prim sil al f t : Int) (N : Nat) (k : KT) : evCall cxFi (ev cxFi (N + 80)) 20 [.one (.ptr 0 0 0), .one (iv .u32 f), .one (iv .u32 t)] (rtL [p0, p1, p2, p3, p4, p5] prim sil al) k =
   (fiH6 p0 p1 p2 p3 p4 p5 prim sil al f t 0 N N k) := by kernel_rfl
end Go.Ev
set_option linter.unusedVariables false
namespace Go.Ev
open Go Go.Proofs Go.Spec
theorem t_te9 (p0 p1 p2 p3 p4 p5 p6 p7 p8 : Pa) (r0 r1 r2 r3 r4 r5 r6 r7 r8 : Ra) (prim sil al prim2 sil2 al2 kd I : Int) (k : KT) : evCall cxTe (ev cxTe 80) 25 [.one (.ptr 0 0 0), .one (.ptr 38 0 0), .agg [iv .u8 kd, iv .i64 I]] (rtL [p0, p1, p2, p3, p4, p5, p6, p7, p8] prim sil al ++ rfL 38 [r0, r1, r2, r3, r4, r5, r6, r7, r8] prim2 sil2 al2) k =
   (branch (eqK kd (0)) (branch ((missT I [p0, p1, p2, p3, p4, p5, p6, p7, p8] 0) == (missRT I [r0, r1, r2, r3, r4, r5, r6, r7, r8] 0)) (k (.sa (.one (bv ((lostB I 9 sil al) == (lostB I 9 sil2 al2))))) (rtL (missP I [p0, p1, p2, p3, p4, p5, p6, p7, p8] 0) prim (thI I 9 (addK .i64 sil (1)) sil) al ++ rfL 38 (missR I [r0, r1, r2, r3, r4, r5, r6, r7, r8] 0) prim2 (thI I 9 (addK .i64 sil2 (1)) sil2) al2)) (k (rB false) (rtL (missP I [p0, p1, p2, p3, p4, p5, p6, p7, p8] 0) prim (thI I 9 (addK .i64 sil (1)) sil) al ++ rfL 38 (missR I [r0, r1, r2, r3, r4, r5, r6, r7, r8] 0) prim2 (thI I 9 (addK .i64 sil2 (1)) sil2) al2))) (branch (eqK kd (1)) (k (.sa (.one (bv ((hearT I [p0, p1, p2, p3, p4, p5, p6, p7, p8] 0) == (hearRT I [r0, r1, r2, r3, r4, r5, r6, r7, r8] 0))))) (rtL (hearP I [p0, p1, p2, p3, p4, p5, p6, p7, p8] 0) prim (thI I 9 (0) sil) al ++ rfL 38 (hearR I [r0, r1, r2, r3, r4, r5, r6, r7, r8] 0) prim2 (thI I 9 (0) sil2) al2)) (branch (eqK kd (2)) (branch (decide ((I < (0)))) (k (.sa (.one (bv (eqK (thI I 9 (0) (4)) (4))))) (rtL [p0, p1, p2, p3, p4, p5, p6, p7, p8] (thI I 9 I prim) sil al ++ rfL 38 [r0, r1, r2, r3, r4, r5, r6, r7, r8] prim2 sil2 al2)) (branch (decide ((I ≥ (9)))) (k (.sa (.one (bv (eqK (thI I 9 (0) (4)) (4))))) (rtL [p0, p1, p2, p3, p4, p5, p6, p7, p8] (thI I 9 I prim) sil al ++ rfL 38 [r0, r1, r2, r3, r4, r5, r6, r7, r8] prim2 sil2 al2)) (k (.sa (.one (bv (eqK (thI I 9 (0) (4)) (0))))) (rtL [p0, p1, p2, p3, p4, p5, p6, p7, p8] (thI I 9 I prim) sil al ++ rfL 38 [r0, r1, r2, r3, r4, r5, r6, r7, r8] I sil2 al2)))) (k (rB true) (rtL [p0, p1, p2, p3, p4, p5, p6, p7, p8] prim sil al ++ rfL 38 [r0, r1, r2, r3, r4, r5, r6, r7, r8] prim2 sil2 al2))))) := by kernel_rfl
theorem t_fi9 (p0 p1 p2 p3 p4 p5 p6 p7 p8 : Pa) (prim sil al f t : Int) (N : Nat) (k : KT) : evCall cxFi (ev cxFi (N + 80)) 20 [.one (.ptr 0 0 0), .one (iv .u32 f), .one (iv .u32 t)] (rtL [p0, p1, p2, p3, p4, p5, p6, p7, p8] prim sil al) k =
   (fiH9 p0 p1 p2 p3 p4 p5 p6 p7 p8 prim sil al f t 0 N N k) := by kernel_rfl
end Go.Ev
set_option linter.unusedVariables false
namespace Go.Ev
open Go Go.Proofs Go.Spec
theorem t_fs1_0 (p0 : Pa) (prim sil al f t : Int) (L M : Nat) (k : KT) : fiH1 p0 prim sil al f t (0) (L + 1) M k =
   (Again (branch (eqK p0.f f) (branch (eqK p0.t t) (k (rI 0) (rtL [p0] prim sil al)) (lf (fiH1 p0 prim sil al f t (1) L M k))) (lf (fiH1 p0 prim sil al f t (1) L M k)))) := by kernel_rfl
theorem t_fs1_1 (p0 : Pa) (prim sil al f t : Int) (L M : Nat) (k : KT) : fiH1 p0 prim sil al f t (1) (L + 1) M k =
   (Again (k (.sa (.one (iv .i64 (-(1))))) (rtL [p0] prim sil al))) := by kernel_rfl
end Go.Ev
set_option linter.unusedVariables false
namespace Go.Ev
open Go Go.Proofs Go.Spec
theorem t_fs2_0 (p0 p1 : Pa) (prim sil al f t : Int) (L M : Nat) (k : KT) : fiH2 p0 p1 prim sil al f t (0) (L + 1) M k =
   (Again (branch (eqK p0.f f) (branch (eqK p0.t t) (k (rI 0) (rtL [p0, p1] prim sil al)) (lf (fiH2 p0 p1 prim sil al f t (1) L M k))) (lf (fiH2 p0 p1 prim sil al f t (1) L M k)))) := by kernel_rfl
theorem t_fs2_1 (p0 p1 : Pa) (prim sil al f t : Int) (L M : Nat) (k : KT) : fiH2 p0 p1 prim sil al f t (1) (L + 1) M k =
   (Again (branch (eqK p1.f f) (branch (eqK p1.t t) (k (rI 1) (rtL [p0, p1] prim sil al)) (lf (fiH2 p0 p1 prim sil al f t (2) L M k))) (lf (fiH2 p0 p1 prim sil al f t (2) L M k)))) := by kernel_rfl
theorem t_fs2_2 (p0 p1 : Pa) (prim sil al f t : Int) (L M : Nat) (k : KT) : fiH2 p0 p1 prim sil al f t (2) (L + 1) M k =
   (Again (k (.sa (.one (iv .i64 (-(1))))) (rtL [p0, p1] prim sil al))) := by kernel_rfl
end Go.Ev
set_option linter.unusedVariables false
namespace Go.Ev
open Go Go.Proofs Go.Spec
theorem t_fs3_0 (p0 p1 p2 : Pa) (prim sil al f t : Int) (L M : Nat) (k : KT) : fiH3 p0 p1 p2 prim sil al f t (0) (L + 1) M k =
   (Again (branch (eqK p0.f f) (branch (eqK p0.t t) (k (rI 0) (rtL [p0, p1, p2] prim sil al)) (lf (fiH3 p0 p1 p2 prim sil al f t (1) L M k))) (lf (fiH3 p0 p1 p2 prim sil al f t (1) L M k)))) := by kernel_rfl
theorem t_fs3_1 (p0 p1 p2 : Pa) (prim sil al f t : Int) (L M : Nat) (k : KT) : fiH3 p0 p1 p2 prim sil al f t (1) (L + 1) M k =
   (Again (branch (eqK p1.f f) (branch (eqK p1.t t) (k (rI 1) (rtL [p0, p1, p2] prim sil al)) (lf (fiH3 p0 p1 p2 prim sil al f t (2) L M k))) (lf (fiH3 p0 p1 p2 prim sil al f t (2) L M k)))) := by kernel_rfl
theorem t_fs3_2 (p0 p1 p2 : Pa) (prim sil al f t : Int) (L M : Nat) (k : KT) : fiH3 p0 p1 p2 prim sil al f t (2) (L + 1) M k =
   (Again (branch (eqK p2.f f) (branch (eqK p2.t t) (k (rI 2) (rtL [p0, p1, p2] prim sil al)) (lf (fiH3 p0 p1 p2 prim sil al f t (3) L M k))) (lf (fiH3 p0 p1 p2 prim sil al f t (3) L M k)))) := by kernel_rfl
theorem t_fs3_3 (p0 p1 p2 : Pa) (prim sil al f t : Int) (L M : Nat) (k : KT) : fiH3 p0 p1 p2 prim sil al f t (3) (L + 1) M k =
   (Again (k (.sa (.one (iv .i64 (-(1))))) (rtL [p0, p1, p2] prim sil al))) := by kernel_rfl
end Go.Ev
set_option linter.unusedVariables false
namespace Go.Ev
open Go Go.Proofs Go.Spec
theorem t_fs4_0 (p0 p1 p2 p3 : Pa) (prim sil al f t : Int) (L M : Nat) (k : KT) : fiH4 p0 p1 p2 p3 prim sil al f t (0) (L + 1) M k =
   (Again (branch (eqK p0.f f) (branch (eqK p0.t t) (k (rI 0) (rtL [p0, p1, p2, p3] prim sil al)) (lf (fiH4 p0 p1 p2 p3 prim sil al f t (1) L M k))) (lf (fiH4 p0 p1 p2 p3 prim sil al f t (1) L M k)))) := by kernel_rfl
theorem t_fs4_1 (p0 p1 p2 p3 : Pa) (prim sil al f t : Int) (L M : Nat) (k : KT) : fiH4 p0 p1 p2 p3 prim sil al f t (1) (L + 1) M k =
   (Again (branch (eqK p1.f f) (branch (eqK p1.t t) (k (rI 1) (rtL [p0, p1, p2, p3] prim sil al)) (lf (fiH4 p0 p1 p2 p3 prim sil al f t (2) L M k))) (lf (fiH4 p0 p1 p2 p3 prim sil al f t (2) L M k)))) := by kernel_rfl
theorem t_fs4_2 (p0 p1 p2 p3 : Pa) (prim sil al f t : Int) (L M : Nat) (k : KT) : fiH4 p0 p1 p2 p3 prim sil al f t (2) (L + 1) M k =
   (Again (branch (eqK p2.f f) (branch (eqK p2.t t) (k (rI 2) (rtL [p0, p1, p2, p3] prim sil al)) (lf (fiH4 p0 p1 p2 p3 prim sil al f t (3) L M k))) (lf (fiH4 p0 p1 p2 p3 prim sil al f t (3) L M k)))) := by kernel_rfl
theorem t_fs4_3 (p0 p1 p2 p3 : Pa) (prim sil al f t : Int) (L M : Nat) (k : KT) : fiH4 p0 p1 p2 p3 prim sil al f t (3) (L + 1) M k =
   (Again (branch (eqK p3.f f) (branch (eqK p3.t t) (k (rI 3) (rtL [p0, p1, p2, p3] prim sil al)) (lf (fiH4 p0 p1 p2 p3 prim sil al f t (4) L M k))) (lf (fiH4 p0 p1 p2 p3 prim sil al f t (4) L M k)))) := by kernel_rfl
theorem t_fs4_4 (p0 p1 p2 p3 : Pa) (prim sil al f t : Int) (L M : Nat) (k : KT) : fiH4 p0 p1 p2 p3 prim sil al f t (4) (L + 1) M k =
   (Again (k (.sa (.one (iv .i64 (-(1))))) (rtL [p0, p1, p2, p3] prim sil al))) := by kernel_rfl
end Go.Ev
set_option linter.unusedVariables false
namespace Go.Ev
open Go Go.Proofs Go.Spec
theorem t_fs6_0 (p0 p1 p2 p3 p4 p5 : Pa) (prim sil al f t : Int) (L M : Nat) (k : KT) : fiH6 p0 p1 p2 p3 p4 p5 prim sil al f t (0) (L + 1) M k =
   (Again (branch (eqK p0.f f) (branch (eqK p0.t t) (k (rI 0) (rtL [p0, p1, p2, p3, p4, p5] prim sil al)) (lf (fiH6 p0 p1 p2 p3 p4 p5 prim sil al f t (1) L M k))) (lf (fiH6 p0 p1 p2 p3 p4 p5 prim sil al f t (1) L M k)))) := by kernel_rfl
theorem t_fs6_1 (p0 p1 p2 p3 p4 p5 : Pa) (prim sil al f t : Int) (L M : Nat) (k : KT) : fiH6 p0 p1 p2 p3 p4 p5 prim sil al f t (1) (L + 1) M k =
   (Again (branch (eqK p1.f f) (branch (eqK p1.t t) (k (rI 1) (rtL [p0, p1, p2, p3, p4, p5] prim sil al)) (lf (fiH6 p0 p1 p2 p3 p4 p5 prim sil al f t (2) L M k))) (lf (fiH6 p0 p1 p2 p3 p4 p5 prim sil al f t (2) L M k)))) := by kernel_rfl
theorem t_fs6_2 (p0 p1 p2 p3 p4 p5 : Pa) (prim sil al f t : Int) (L M : Nat) (k : KT) : fiH6 p0 p1 p2 p3 p4 p5 prim sil al f t (2) (L + 1) M k =
   (Again (branch (eqK p2.f f) (branch (eqK p2.t t) (k (rI 2) (rtL [p0, p1, p2, p3, p4, p5] prim sil al)) (lf (fiH6 p0 p1 p2 p3 p4 p5 prim sil al f t (3) L M k))) (lf (fiH6 p0 p1 p2 p3 p4 p5 prim sil al f t (3) L M k)))) := by kernel_rfl
theorem t_fs6_3 (p0 p1 p2 p3 p4 p5 : Pa) (prim sil al f t : Int) (L M : Nat) (k : KT) : fiH6 p0 p1 p2 p3 p4 p5 prim sil al f t (3) (L + 1) M k =
   (Again (branch (eqK p3.f f) (branch (eqK p3.t t) (k (rI 3) (rtL [p0, p1, p2, p3, p4, p5] prim sil al)) (lf (fiH6 p0 p1 p2 p3 p4 p5 prim sil al f t (4) L M k))) (lf (fiH6 p0 p1 p2 p3 p4 p5 prim sil al f t (4) L M k)))) := by kernel_rfl
theorem t_fs6_4 (p0 p1 p2 p3 p4 p5 : Pa) (prim sil al f t : Int) (L M : Nat) (k : KT) : fiH6 p0 p1 p2 p3 p4 p5 prim sil al f t (4) (L + 1) M k =
   (Again (branch (eqK p4.f f) (branch (eqK p4.t t) (k (rI 4) (rtL [p0, p1, p2, p3, p4, p5] prim sil al)) (lf (fiH6 p0 p1 p2 p3 p4 p5 prim sil al f t (5) L M k))) (lf (fiH6 p0 p1 p2 p3 p4 p5 prim sil al f t (5) L M k)))) := by kernel_rfl
theorem t_fs6_5 (p0 p1 p2 p3 p4 p5 : Pa) (prim sil al f t : Int) (L M : Nat) (k : KT) : fiH6 p0 p1 p2 p3 p4 p5 prim sil al f t (5) (L + 1) M k =
   (Again (branch (eqK p5.f f) (branch (eqK p5.t t) (k (rI 5) (rtL [p0, p1, p2, p3, p4, p5] prim sil al)) (lf (fiH6 p0 p1 p2 p3 p4 p5 prim sil al f t (6) L M k))) (lf (fiH6 p0 p1 p2 p3 p4 p5 prim sil al f t (6) L M k)))) := by kernel_rfl
theorem t_fs6_6 (p0 p1 p2 p3 p4 p5 : Pa) (prim sil al f t : Int) (L M : Nat) (k : KT) : fiH6 p0 p1 p2 p3 p4 p5 prim sil al f t (6) (L + 1) M k =
   (Again (k (.sa (.one (iv .i64 (-(1))))) (rtL [p0, p1, p2, p3, p4, p5] prim sil al))) := by kernel_rfl
end Go.Ev
set_option linter.unusedVariables false
namespace Go.Ev
open Go Go.Proofs Go.Spec
theorem t_fs9_0 (p0 p1 p2 p3 p4 p5 p6 p7 p8 : Pa) (prim sil al f t : Int) (L M : Nat) (k : KT) : fiH9 p0 p1 p2 p3 p4 p5 p6 p7 p8 prim sil al f t (0) (L + 1) M k =
   (Again (branch (eqK p0.f f) (branch (eqK p0.t t) (k (rI 0) (rtL [p0, p1, p2, p3, p4, p5, p6, p7, p8] prim sil al)) (lf (fiH9 p0 p1 p2 p3 p4 p5 p6 p7 p8 prim sil al f t (1) L M k))) (lf (fiH9 p0 p1 p2 p3 p4 p5 p6 p7 p8 prim sil al f t (1) L M k)))) := by kernel_rfl
theorem t_fs9_1 (p0 p1 p2 p3 p4 p5 p6 p7 p8 : Pa) (prim sil al f t : Int) (L M : Nat) (k : KT) : fiH9 p0 p1 p2 p3 p4 p5 p6 p7 p8 prim sil al f t (1) (L + 1) M k =
   (Again (branch (eqK p1.f f) (branch (eqK p1.t t) (k (rI 1) (rtL [p0, p1, p2, p3, p4, p5, p6, p7, p8] prim sil al)) (lf (fiH9 p0 p1 p2 p3 p4 p5 p6 p7 p8 prim sil al f t (2) L M k))) (lf (fiH9 p0 p1 p2 p3 p4 p5 p6 p7 p8 prim sil al f t (2) L M k)))) := by kernel_rfl
theorem t_fs9_2 (p0 p1 p2 p3 p4 p5 p6 p7 p8 : Pa) (prim sil al f t : Int) (L M : Nat) (k : KT) : fiH9 p0 p1 p2 p3 p4 p5 p6 p7 p8 prim sil al f t (2) (L + 1) M k =
   (Again (branch (eqK p2.f f) (branch (eqK p2.t t) (k (rI 2) (rtL [p0, p1, p2, p3, p4, p5, p6, p7, p8] prim sil al)) (lf (fiH9 p0 p1 p2 p3 p4 p5 p6 p7 p8 prim sil al f t (3) L M k))) (lf (fiH9 p0 p1 p2 p3 p4 p5 p6 p7 p8 prim sil al f t (3) L M k)))) := by kernel_rfl
theorem t_fs9_3 (p0 p1 p2 p3 p4 p5 p6 p7 p8 : Pa) (prim sil al f t : Int) (L M : Nat) (k : KT) : fiH9 p0 p1 p2 p3 p4 p5 p6 p7 p8 prim sil al f t (3) (L + 1) M k =
   (Again (branch (eqK p3.f f) (branch (eqK p3.t t) (k (rI 3) (rtL [p0, p1, p2, p3, p4, p5, p6, p7, p8] prim sil al)) (lf (fiH9 p0 p1 p2 p3 p4 p5 p6 p7 p8 prim sil al f t (4) L M k))) (lf (fiH9 p0 p1 p2 p3 p4 p5 p6 p7 p8 prim sil al f t (4) L M k)))) := by kernel_rfl
theorem t_fs9_4 (p0 p1 p2 p3 p4 p5 p6 p7 p8 : Pa) (prim sil al f t : Int) (L M : Nat) (k : KT) : fiH9 p0 p1 p2 p3 p4 p5 p6 p7 p8 prim sil al f t (4) (L + 1) M k =
   (Again (branch (eqK p4.f f) (branch (eqK p4.t t) (k (rI 4) (rtL [p0, p1, p2, p3, p4, p5, p6, p7, p8] prim sil al)) (lf (fiH9 p0 p1 p2 p3 p4 p5 p6 p7 p8 prim sil al f t (5) L M k))) (lf (fiH9 p0 p1 p2 p3 p4 p5 p6 p7 p8 prim sil al f t (5) L M k)))) := by kernel_rfl
theorem t_fs9_5 (p0 p1 p2 p3 p4 p5 p6 p7 p8 : Pa) (prim sil al f t : Int) (L M : Nat) (k : KT) : fiH9 p0 p1 p2 p3 p4 p5 p6 p7 p8 prim sil al f t (5) (L + 1) M k =
   (Again (branch (eqK p5.f f) (branch (eqK p5.t t) (k (rI 5) (rtL [p0, p1, p2, p3, p4, p5, p6, p7, p8] prim sil al)) (lf (fiH9 p0 p1 p2 p3 p4 p5 p6 p7 p8 prim sil al f t (6) L M k))) (lf (fiH9 p0 p1 p2 p3 p4 p5 p6 p7 p8 prim sil al f t (6) L M k)))) := by kernel_rfl
theorem t_fs9_6 (p0 p1 p2 p3 p4 p5 p6 p7 p8 : Pa) (prim sil al f t : Int) (L M : Nat) (k : KT) : fiH9 p0 p1 p2 p3 p4 p5 p6 p7 p8 prim sil al f t (6) (L + 1) M k =
   (Again (branch (eqK p6.f f) (branch (eqK p6.t t) (k (rI 6) (rtL [p0, p1, p2, p3, p4, p5, p6, p7, p8] prim sil al)) (lf (fiH9 p0 p1 p2 p3 p4 p5 p6 p7 p8 prim sil al f t (7) L M k))) (lf (fiH9 p0 p1 p2 p3 p4 p5 p6 p7 p8 prim sil al f t (7) L M k)))) := by kernel_rfl
theorem t_fs9_7 (p0 p1 p2 p3 p4 p5 p6 p7 p8 : Pa) (prim sil al f t : Int) (L M : Nat) (k : KT) : fiH9 p0 p1 p2 p3 p4 p5 p6 p7 p8 prim sil al f t (7) (L + 1) M k =
   (Again (branch (eqK p7.f f) (branch (eqK p7.t t) (k (rI 7) (rtL [p0, p1, p2, p3, p4, p5, p6, p7, p8] prim sil al)) (lf (fiH9 p0 p1 p2 p3 p4 p5 p6 p7 p8 prim sil al f t (8) L M k))) (lf (fiH9 p0 p1 p2 p3 p4 p5 p6 p7 p8 prim sil al f t (8) L M k)))) := by kernel_rfl
theorem t_fs9_8 (p0 p1 p2 p3 p4 p5 p6 p7 p8 : Pa) (prim sil al f t : Int) (L M : Nat) (k : KT) : fiH9 p0 p1 p2 p3 p4 p5 p6 p7 p8 prim sil al f t (8) (L + 1) M k =
   (Again (branch (eqK p8.f f) (branch (eqK p8.t t) (k (rI 8) (rtL [p0, p1, p2, p3, p4, p5, p6, p7, p8] prim sil al)) (lf (fiH9 p0 p1 p2 p3 p4 p5 p6 p7 p8 prim sil al f t (9) L M k))) (lf (fiH9 p0 p1 p2 p3 p4 p5 p6 p7 p8 prim sil al f t (9) L M k)))) := by kernel_rfl
theorem t_fs9_9 (p0 p1 p2 p3 p4 p5 p6 p7 p8 : Pa) (prim sil al f t : Int) (L M : Nat) (k : KT) : fiH9 p0 p1 p2 p3 p4 p5 p6 p7 p8 prim sil al f t (9) (L + 1) M k =
   (Again (k (.sa (.one (iv .i64 (-(1))))) (rtL [p0, p1, p2, p3, p4, p5, p6, p7, p8] prim sil al))) := by kernel_rfl
end Go.Ev
set_option linter.unusedVariables false
namespace Go.Ev
open Go Go.Proofs Go.Spec
theorem t_sd (xs : List Int) (N : Nat) (k : KT) : evCall cxSd (ev cxSd (N + 40)) 37 [.one (.ref 0)] [exO xs] k =
   (branch (decide (((((List.length xs) : Nat) : Int) ≥ (1)))) (ev cxSd (N + 35) 1 37 (codeAt Try.prog 37 [1, 1, 0, 1, 0]) (frm 46 [(0, (.sa (.one (SC.ref 0)))), (3, (.sa (.one (bv (decide (((((List.length xs) : Nat) : Int) ≤ (3)))))))), (4, (rI 0))]) [(exO xs)] (kBlock 0 (kSeq (ev cxSd (N + 37) 1 37 (codeAt Try.prog 37 [1, 1, 1])) (kRet (Cx.P cxSd) [(ResultVar.tmp 2)] 1 k)))) (ev cxSd (N + 35) 1 37 (codeAt Try.prog 37 [1, 1, 0, 1, 0]) (frm 46 [(0, (.sa (.one (SC.ref 0)))), (3, (rB false)), (4, (rI 0))]) [(exO xs)] (kBlock 0 (kSeq (ev cxSd (N + 37) 1 37 (codeAt Try.prog 37 [1, 1, 1])) (kRet (Cx.P cxSd) [(ResultVar.tmp 2)] 1 k))))) := by kernel_rfl
end Go.Ev
set_option linter.unusedVariables false
namespace Go.Ev
open Go Go.Proofs Go.Spec
theorem t_sd1 (xs : List Int) (ok : Bool) (i : Int) (L M : Nat) (k : KT) : ev cxSd (L + 35) 1 37 (codeAt Try.prog 37 [1, 1, 0, 1, 0]) (frm 46 [(0, (.sa (.one (SC.ref 0)))), (3, (.sa (.one (bv ok)))), (4, (.sa (.one (iv .i64 i))))]) [exO xs] (kBlock 0 (kSeq (ev cxSd (M + 37) 1 37 (codeAt Try.prog 37 [1, 1, 1])) (kRet (Cx.P cxSd) [(ResultVar.tmp 2)] 1 k))) =
   (Again (branch (decide ((i < (((List.length xs) : Nat) : Int)))) (branch ok (need (decide (((0) ≤ i))) (need (decide ((i < (((List.length xs) : Nat) : Int)))) (need (decide (((0 + (Int.toNat i)) < (List.length xs)))) (ev cxSd (L + 28) 1 37 (codeAt Try.prog 37 [1, 1, 0, 1, 0, 0, 1, 0, 0, 1, 1, 0]) (frm 46 [(0, (.sa (.one (SC.ref 0)))), (3, (.sa (.one (bv (Bool.not (eqK (List.getD xs (0 + (Int.toNat i)) (0)) (0))))))), (4, (.sa (.one (iv .i64 i)))), (5, (rI 0))]) [(exO xs)] (kBlock 2 (kBlock 1 (kSeq (ev cxSd (L + 32) 1 37 (codeAt Try.prog 37 [1, 1, 0, 1, 0, 0, 1, 1])) (kSeq (ev cxSd (L + 34) 1 37 (codeAt Try.prog 37 [1, 1, 0, 1, 0])) (kBlock 0 (kSeq (ev cxSd (M + 37) 1 37 (codeAt Try.prog 37 [1, 1, 1])) (kRet (Cx.P cxSd) [(ResultVar.tmp 2)] 1 k))))))))))) (ev cxSd (L + 28) 1 37 (codeAt Try.prog 37 [1, 1, 0, 1, 0, 0, 1, 0, 0, 1, 1, 0]) (frm 46 [(0, (.sa (.one (SC.ref 0)))), (3, (rB false)), (4, (.sa (.one (iv .i64 i)))), (5, (rI 0))]) [(exO xs)] (kBlock 2 (kBlock 1 (kSeq (ev cxSd (L + 32) 1 37 (codeAt Try.prog 37 [1, 1, 0, 1, 0, 0, 1, 1])) (kSeq (ev cxSd (L + 34) 1 37 (codeAt Try.prog 37 [1, 1, 0, 1, 0])) (kBlock 0 (kSeq (ev cxSd (M + 37) 1 37 (codeAt Try.prog 37 [1, 1, 1])) (kRet (Cx.P cxSd) [(ResultVar.tmp 2)] 1 k))))))))) (k (.sa (.one (bv ok))) [(exO xs)]))) := by kernel_rfl
end Go.Ev
set_option linter.unusedVariables false
namespace Go.Ev
open Go Go.Proofs Go.Spec
theorem t_sd2 (xs : List Int) (ok : Bool) (i j : Int) (L A M : Nat) (k : KT) : ev cxSd (L + 28) 1 37 (codeAt Try.prog 37 [1, 1, 0, 1, 0, 0, 1, 0, 0, 1, 1, 0]) (frm 46 [(0, (.sa (.one (SC.ref 0)))), (3, (.sa (.one (bv ok)))), (4, (.sa (.one (iv .i64 i)))), (5, (.sa (.one (iv .i64 j))))]) [exO xs] (kBlock 2 (kBlock 1 (kSeq (ev cxSd (A + 32) 1 37 (codeAt Try.prog 37 [1, 1, 0, 1, 0, 0, 1, 1])) (kSeq (ev cxSd (A + 34) 1 37 (codeAt Try.prog 37 [1, 1, 0, 1, 0])) (kBlock 0 (kSeq (ev cxSd (M + 37) 1 37 (codeAt Try.prog 37 [1, 1, 1])) (kRet (Cx.P cxSd) [(ResultVar.tmp 2)] 1 k))))))) =
   (Again (branch (decide ((j < i))) (branch ok (need (decide (((0) ≤ i))) (need (decide ((i < (((List.length xs) : Nat) : Int)))) (need (decide (((0 + (Int.toNat i)) < (List.length xs)))) (need (decide (((0) ≤ j))) (need (decide ((j < (((List.length xs) : Nat) : Int)))) (need (decide (((0 + (Int.toNat j)) < (List.length xs)))) (ev cxSd (L + 27) 1 37 (codeAt Try.prog 37 [1, 1, 0, 1, 0, 0, 1, 0, 0, 1, 1, 0]) (frm 46 [(0, (.sa (.one (SC.ref 0)))), (3, (.sa (.one (bv (Bool.not (eqK (List.getD xs (0 + (Int.toNat i)) (0)) (List.getD xs (0 + (Int.toNat j)) (0)))))))), (4, (.sa (.one (iv .i64 i)))), (5, (.sa (.one (iv .i64 (addK .i64 j (1))))))]) [(exO xs)] (kBlock 2 (kBlock 1 (kSeq (ev cxSd (A + 32) 1 37 (codeAt Try.prog 37 [1, 1, 0, 1, 0, 0, 1, 1])) (kSeq (ev cxSd (A + 34) 1 37 (codeAt Try.prog 37 [1, 1, 0, 1, 0])) (kBlock 0 (kSeq (ev cxSd (M + 37) 1 37 (codeAt Try.prog 37 [1, 1, 1])) (kRet (Cx.P cxSd) [(ResultVar.tmp 2)] 1 k)))))))))))))) (ev cxSd (L + 27) 1 37 (codeAt Try.prog 37 [1, 1, 0, 1, 0, 0, 1, 0, 0, 1, 1, 0]) (frm 46 [(0, (.sa (.one (SC.ref 0)))), (3, (rB false)), (4, (.sa (.one (iv .i64 i)))), (5, (.sa (.one (iv .i64 (addK .i64 j (1))))))]) [(exO xs)] (kBlock 2 (kBlock 1 (kSeq (ev cxSd (A + 32) 1 37 (codeAt Try.prog 37 [1, 1, 0, 1, 0, 0, 1, 1])) (kSeq (ev cxSd (A + 34) 1 37 (codeAt Try.prog 37 [1, 1, 0, 1, 0])) (kBlock 0 (kSeq (ev cxSd (M + 37) 1 37 (codeAt Try.prog 37 [1, 1, 1])) (kRet (Cx.P cxSd) [(ResultVar.tmp 2)] 1 k))))))))) (ev cxSd (A + 34) 1 37 (codeAt Try.prog 37 [1, 1, 0, 1, 0]) (frm 46 [(0, (.sa (.one (SC.ref 0)))), (3, (.sa (.one (bv ok)))), (4, (.sa (.one (iv .i64 (addK .i64 i (1))))))]) [(exO xs)] (kBlock 0 (kSeq (ev cxSd (M + 37) 1 37 (codeAt Try.prog 37 [1, 1, 1])) (kRet (Cx.P cxSd) [(ResultVar.tmp 2)] 1 k)))))) := by kernel_rfl
end Go.Ev
set_option linter.unusedVariables false
namespace Go.Ev
open Go Go.Proofs Go.Spec
theorem t_rfb (mtu ss sr rr mm ri rmin rmax it pt al beat life : Int) (xs ys : List Int) (k : KT) : evCall cxRfB (ev cxRfB 60) 24 [(.agg (cellsCfg ⟨mtu, ss, sr, rr, mm, ri, rmin, rmax, it, pt, al, beat, life⟩)), .one (.ref 0), .one (.ref 1)] [exO xs, exO ys] k =
   (branch (Bool.not (mayB (Cfg.mk mtu ss sr rr mm ri rmin rmax it pt al beat life))) (k (.tup [(.one (SC.raw (Value.pointer Option.none))), (.one (bv false))]) [(exO xs), (exO ys)]) (need (decide (((0 + (List.length xs)) ≤ (List.length xs)))) (need (decide (((List.length (List.take (List.length xs) xs)) ≤ 1000000))) (branch (Bool.not (addrB (List.take (List.length xs) xs))) (k (.tup [(.one (SC.raw (Value.pointer Option.none))), (.one (bv false))]) [(exO xs), (exO ys)]) (need (decide (((0 + (List.length ys)) ≤ (List.length ys)))) (need (decide (((List.length (List.take (List.length ys) ys)) ≤ 1000000))) (branch (Bool.not (addrB (List.take (List.length ys) ys))) (k (.tup [(.one (SC.raw (Value.pointer Option.none))), (.one (bv false))]) [(exO xs), (exO ys)]) (ev cxRfB 54 2 24 (codeAt Try.prog 24 [1, 1, 1, 0, 1, 0]) (frm 63 [(1, (.sa (.one (SC.ref 0)))), (2, (.sa (.one (SC.ref 1)))), (3, (.sa (.one (SC.ptr 2 0 0)))), (8, (.sa (.one (SC.ptr 3 0 0)))), (9, (rI 0))]) [(exO xs), (exO ys), (obj 25 13 [(iv .i64 mtu), (iv .u16 ss), (iv .i64 sr), (iv .i64 rr), (iv .i64 mm), (iv .u32 ri), (iv .u32 rmin), (iv .u32 rmax), (iv .u8 it), (iv .u8 pt), (iv .u8 al), (iv .u32 beat), (iv .u32 life)]), (obj 59 4 [(SC.raw (Value.slice Option.none 0 0)), (iv .i64 (0)), (iv .i64 (0)), (iv .i64 (IntKind.wrap .i64 al))])] (kBlock 0 (kSeq (ev cxRfB 56 2 24 (codeAt Try.prog 24 [1, 1, 1, 1])) (kRet (Cx.P cxRfB) [(ResultVar.tmp 6), (ResultVar.tmp 7)] 2 k))))))))))) := by kernel_rfl
theorem t_rlb (mtu ss sr rr mm ri rmin rmax it pt al beat life : Int) (xs ys ks is : List Int) (n : Nat) (k : KT) : evCall cxRlB (ev cxRlB 60) 6 [(.agg (cellsCfg ⟨mtu, ss, sr, rr, mm, ri, rmin, rmax, it, pt, al, beat, life⟩)), .one (.ref 0), .one (.ref 1), .one (.ref 2)] [exO xs, exO ys, taO n ks is] k =
   (branch (decide ((((n : Nat) : Int) > (2000)))) (k (rB true) [exO xs, exO ys, taO n ks is]) (branch (decide (((((List.length xs) : Nat) : Int) > (1000)))) (k (rB true) [exO xs, exO ys, taO n ks is]) (branch (decide (((((List.length ys) : Nat) : Int) > (1000)))) (k (rB true) [exO xs, exO ys, taO n ks is]) (need (decide (((0 + (List.length xs)) ≤ (List.length xs)))) (need (decide (((0 + (List.length ys)) ≤ (List.length ys)))) (need ((decide (((List.length (List.take (List.length xs) xs)) ≤ 1000000))) && ((decide (((List.length (List.take (List.length ys) ys)) ≤ 1000000))) && (Bool.not ((addrB (List.take (List.length xs) xs)) && (addrB (List.take (List.length ys) ys)))))) (need (decide (((0 + (List.length xs)) ≤ (List.length xs)))) (need (decide (((0 + (List.length ys)) ≤ (List.length ys)))) (need ((decide (((List.length (List.take (List.length xs) xs)) ≤ 1000000))) && ((decide (((List.length (List.take (List.length ys) ys)) ≤ 1000000))) && (Bool.not ((addrB (List.take (List.length xs) xs)) && (addrB (List.take (List.length ys) ys)))))) (k (rB true) [exO xs, exO ys, taO n ks is])))))))))) := by kernel_rfl
end Go.Ev
