/- What RouteCalls and the methods of routes come to on states with numbers that are not known: printed, checked by the kernel; or drawn from that. No conditions. -/
import Derived.Test.YtcdakjhcnamncaaRkD
import Derived.Test.YtcdakjhcnamncaaEvD
set_option linter.unusedVariables false
namespace Go.Ev
open Go Go.Proofs Go.Spec
section
variable (p0 : Pa) (prim sil al : Int) (m : Nat) (k : KT)
theorem t_mi1_0 : evCall cxRk (ev cxRk 60) 10 [.one (.ptr 0 0 0), .one (iv .i64 (0))] (rtL [p0] prim sil al) k =
   (k (.tup [(.one (bv (Bool.not (p0.d == (decide (((addK .i64 p0.m (1)) > p0.tr))))))), (.one (bv (decide (((addK .i64 sil (1)) > al)))))]) (rtL [(paW p0 (addK .i64 p0.m (1)) (decide (((addK .i64 p0.m (1)) > p0.tr))))] prim (addK .i64 sil (1)) al)) := by kernel_rfl
theorem t_mi1_n : evCall cxRk (ev cxRk 60) 10 [.one (.ptr 0 0 0), .one (iv .i64 (Int.negSucc m))] (rtL [p0] prim sil al) k =
   (branch (decide (((Int.negSucc m) < (0)))) (k (.tup [(.one (bv false)), (.one (bv false))]) (rtL [p0] prim sil al)) False) := by kernel_rfl
theorem t_mi1_p : evCall cxRk (ev cxRk 60) 10 [.one (.ptr 0 0 0), .one (iv .i64 ((m + 1 : Nat) : Int))] (rtL [p0] prim sil al) k =
   (branch (decide (((((m + 1) : Nat) : Int) ≥ (1)))) (k (.tup [(.one (bv false)), (.one (bv false))]) (rtL [p0] prim sil al)) False) := by kernel_rfl
theorem t_he1_0 : evCall cxRk (ev cxRk 60) 11 [.one (.ptr 0 0 0), .one (iv .i64 (0))] (rtL [p0] prim sil al) k =
   (k (.sa (.one (bv (Bool.not (p0.d == false))))) (rtL [(paW p0 (0) false)] prim (0) al)) := by kernel_rfl
theorem t_he1_n : evCall cxRk (ev cxRk 60) 11 [.one (.ptr 0 0 0), .one (iv .i64 (Int.negSucc m))] (rtL [p0] prim sil al) k =
   (branch (decide (((Int.negSucc m) < (0)))) (k (rB false) (rtL [p0] prim sil al)) False) := by kernel_rfl
theorem t_he1_p : evCall cxRk (ev cxRk 60) 11 [.one (.ptr 0 0 0), .one (iv .i64 ((m + 1 : Nat) : Int))] (rtL [p0] prim sil al) k =
   (branch (decide (((((m + 1) : Nat) : Int) ≥ (1)))) (k (rB false) (rtL [p0] prim sil al)) False) := by kernel_rfl
theorem t_pr1_0 : evCall cxRk (ev cxRk 60) 21 [.one (.ptr 0 0 0), .one (iv .i64 (0))] (rtL [p0] prim sil al) k =
   (k (rI 0) (rtL [p0] (0) sil al)) := by kernel_rfl
theorem t_pr1_n : evCall cxRk (ev cxRk 60) 21 [.one (.ptr 0 0 0), .one (iv .i64 (Int.negSucc m))] (rtL [p0] prim sil al) k =
   (branch (decide (((Int.negSucc m) < (0)))) (k (rI 4) (rtL [p0] prim sil al)) False) := by kernel_rfl
theorem t_pr1_p : evCall cxRk (ev cxRk 60) 21 [.one (.ptr 0 0 0), .one (iv .i64 ((m + 1 : Nat) : Int))] (rtL [p0] prim sil al) k =
   (branch (decide (((((m + 1) : Nat) : Int) ≥ (1)))) (k (rI 4) (rtL [p0] prim sil al)) False) := by kernel_rfl
theorem t_nx1_0 : evCall cxRk (ev cxRk 60) 16 [.one (.ptr 0 0 0), .one (iv .i64 (0))] (rtL [p0] prim sil al) k =
   (k (rI 0) (rtL [p0] prim sil al)) := by kernel_rfl
theorem t_nx1_n : evCall cxRk (ev cxRk 60) 16 [.one (.ptr 0 0 0), .one (iv .i64 (Int.negSucc m))] (rtL [p0] prim sil al) k =
   (branch (decide (((Int.negSucc m) < (0)))) (k (rI 0) (rtL [p0] prim sil al)) False) := by kernel_rfl
theorem t_nx1_p : evCall cxRk (ev cxRk 60) 16 [.one (.ptr 0 0 0), .one (iv .i64 ((m + 1 : Nat) : Int))] (rtL [p0] prim sil al) k =
   (branch (decide (((((m + 1) : Nat) : Int) ≥ (1)))) (k (rI 0) (rtL [p0] prim sil al)) False) := by kernel_rfl
theorem t_ch1_0 : evCall cxRk (ev cxRk 60) 18 [.one (.ptr 0 0 0)] (rtL [p0] (0) sil al) k =
   (branch (Bool.not p0.d) (k (rI 0) (rtL [p0] (0) sil al)) (k (rI 0) (rtL [p0] (0) sil al))) := by kernel_rfl
end
section
variable (p0 : Ra) (prim sil al : Int) (m : Nat) (k : KT)
theorem t_mr1_0 : evCall cxRk (ev cxRk 60) 39 [.one (.ptr 0 0 0), .one (iv .i64 (0))] (rfL 0 [p0] prim sil al) k =
   (branch (decide (((addK .i64 p0.m (1)) > p0.tr))) (k (.tup [(.one (bv (Bool.not (p0.a == false)))), (.one (bv (decide (((addK .i64 sil (1)) > al)))))]) (rfL 0 [(raW p0 (addK .i64 p0.m (1)) false)] prim (addK .i64 sil (1)) al)) (k (.tup [(.one (bv (Bool.not (p0.a == p0.a)))), (.one (bv (decide (((addK .i64 sil (1)) > al)))))]) (rfL 0 [(raW p0 (addK .i64 p0.m (1)) p0.a)] prim (addK .i64 sil (1)) al))) := by kernel_rfl
theorem t_mr1_n : evCall cxRk (ev cxRk 60) 39 [.one (.ptr 0 0 0), .one (iv .i64 (Int.negSucc m))] (rfL 0 [p0] prim sil al) k =
   (k (.tup [(.one (bv false)), (.one (bv false))]) (rfL 0 [p0] prim sil al)) := by kernel_rfl
theorem t_mr1_p : evCall cxRk (ev cxRk 60) 39 [.one (.ptr 0 0 0), .one (iv .i64 ((m + 1 : Nat) : Int))] (rfL 0 [p0] prim sil al) k =
   (k (.tup [(.one (bv false)), (.one (bv false))]) (rfL 0 [p0] prim sil al)) := by kernel_rfl
theorem t_hr1_0 : evCall cxRk (ev cxRk 60) 40 [.one (.ptr 0 0 0), .one (iv .i64 (0))] (rfL 0 [p0] prim sil al) k =
   (k (.sa (.one (bv (Bool.not p0.a)))) (rfL 0 [(raW p0 (0) true)] prim (0) al)) := by kernel_rfl
theorem t_hr1_n : evCall cxRk (ev cxRk 60) 40 [.one (.ptr 0 0 0), .one (iv .i64 (Int.negSucc m))] (rfL 0 [p0] prim sil al) k =
   (k (rB false) (rfL 0 [p0] prim sil al)) := by kernel_rfl
theorem t_hr1_p : evCall cxRk (ev cxRk 60) 40 [.one (.ptr 0 0 0), .one (iv .i64 ((m + 1 : Nat) : Int))] (rfL 0 [p0] prim sil al) k =
   (k (rB false) (rfL 0 [p0] prim sil al)) := by kernel_rfl
theorem t_nr1_0 : evCall cxRk (ev cxRk 60) 27 [.one (.ptr 0 0 0), .one (iv .i64 (0))] (rfL 0 [p0] prim sil al) k =
   (k (rI 0) (rfL 0 [p0] prim sil al)) := by kernel_rfl
theorem t_nr1_n : evCall cxRk (ev cxRk 60) 27 [.one (.ptr 0 0 0), .one (iv .i64 (Int.negSucc m))] (rfL 0 [p0] prim sil al) k =
   (k (rI 0) (rfL 0 [p0] prim sil al)) := by kernel_rfl
theorem t_nr1_p : evCall cxRk (ev cxRk 60) 27 [.one (.ptr 0 0 0), .one (iv .i64 ((m + 1 : Nat) : Int))] (rfL 0 [p0] prim sil al) k =
   (k (rI 0) (rfL 0 [p0] prim sil al)) := by kernel_rfl
theorem t_cr1_0 : evCall cxRk (ev cxRk 60) 26 [.one (.ptr 0 0 0)] (rfL 0 [p0] (0) sil al) k =
   (branch p0.a (k (rI 0) (rfL 0 [p0] (0) sil al)) (k (rI 0) (rfL 0 [p0] (0) sil al))) := by kernel_rfl
end
section
variable (p0 p1 : Pa) (prim sil al : Int) (m : Nat) (k : KT)
theorem t_mi2_0 : evCall cxRk (ev cxRk 60) 10 [.one (.ptr 0 0 0), .one (iv .i64 (0))] (rtL [p0, p1] prim sil al) k =
   (k (.tup [(.one (bv (Bool.not (p0.d == (decide (((addK .i64 p0.m (1)) > p0.tr))))))), (.one (bv (decide (((addK .i64 sil (1)) > al)))))]) (rtL [(paW p0 (addK .i64 p0.m (1)) (decide (((addK .i64 p0.m (1)) > p0.tr)))), p1] prim (addK .i64 sil (1)) al)) := by kernel_rfl
theorem t_mi2_1 : evCall cxRk (ev cxRk 60) 10 [.one (.ptr 0 0 0), .one (iv .i64 (1))] (rtL [p0, p1] prim sil al) k =
   (k (.tup [(.one (bv (Bool.not (p1.d == (decide (((addK .i64 p1.m (1)) > p1.tr))))))), (.one (bv (decide (((addK .i64 sil (1)) > al)))))]) (rtL [p0, (paW p1 (addK .i64 p1.m (1)) (decide (((addK .i64 p1.m (1)) > p1.tr))))] prim (addK .i64 sil (1)) al)) := by kernel_rfl
theorem t_mi2_n : evCall cxRk (ev cxRk 60) 10 [.one (.ptr 0 0 0), .one (iv .i64 (Int.negSucc m))] (rtL [p0, p1] prim sil al) k =
   (branch (decide (((Int.negSucc m) < (0)))) (k (.tup [(.one (bv false)), (.one (bv false))]) (rtL [p0, p1] prim sil al)) False) := by kernel_rfl
theorem t_mi2_p : evCall cxRk (ev cxRk 60) 10 [.one (.ptr 0 0 0), .one (iv .i64 ((m + 2 : Nat) : Int))] (rtL [p0, p1] prim sil al) k =
   (branch (decide (((((m + 2) : Nat) : Int) ≥ (2)))) (k (.tup [(.one (bv false)), (.one (bv false))]) (rtL [p0, p1] prim sil al)) False) := by kernel_rfl
theorem t_he2_0 : evCall cxRk (ev cxRk 60) 11 [.one (.ptr 0 0 0), .one (iv .i64 (0))] (rtL [p0, p1] prim sil al) k =
   (k (.sa (.one (bv (Bool.not (p0.d == false))))) (rtL [(paW p0 (0) false), p1] prim (0) al)) := by kernel_rfl
theorem t_he2_1 : evCall cxRk (ev cxRk 60) 11 [.one (.ptr 0 0 0), .one (iv .i64 (1))] (rtL [p0, p1] prim sil al) k =
   (k (.sa (.one (bv (Bool.not (p1.d == false))))) (rtL [p0, (paW p1 (0) false)] prim (0) al)) := by kernel_rfl
theorem t_he2_n : evCall cxRk (ev cxRk 60) 11 [.one (.ptr 0 0 0), .one (iv .i64 (Int.negSucc m))] (rtL [p0, p1] prim sil al) k =
   (branch (decide (((Int.negSucc m) < (0)))) (k (rB false) (rtL [p0, p1] prim sil al)) False) := by kernel_rfl
theorem t_he2_p : evCall cxRk (ev cxRk 60) 11 [.one (.ptr 0 0 0), .one (iv .i64 ((m + 2 : Nat) : Int))] (rtL [p0, p1] prim sil al) k =
   (branch (decide (((((m + 2) : Nat) : Int) ≥ (2)))) (k (rB false) (rtL [p0, p1] prim sil al)) False) := by kernel_rfl
theorem t_pr2_0 : evCall cxRk (ev cxRk 60) 21 [.one (.ptr 0 0 0), .one (iv .i64 (0))] (rtL [p0, p1] prim sil al) k =
   (k (rI 0) (rtL [p0, p1] (0) sil al)) := by kernel_rfl
theorem t_pr2_1 : evCall cxRk (ev cxRk 60) 21 [.one (.ptr 0 0 0), .one (iv .i64 (1))] (rtL [p0, p1] prim sil al) k =
   (k (rI 0) (rtL [p0, p1] (1) sil al)) := by kernel_rfl
theorem t_pr2_n : evCall cxRk (ev cxRk 60) 21 [.one (.ptr 0 0 0), .one (iv .i64 (Int.negSucc m))] (rtL [p0, p1] prim sil al) k =
   (branch (decide (((Int.negSucc m) < (0)))) (k (rI 4) (rtL [p0, p1] prim sil al)) False) := by kernel_rfl
theorem t_pr2_p : evCall cxRk (ev cxRk 60) 21 [.one (.ptr 0 0 0), .one (iv .i64 ((m + 2 : Nat) : Int))] (rtL [p0, p1] prim sil al) k =
   (branch (decide (((((m + 2) : Nat) : Int) ≥ (2)))) (k (rI 4) (rtL [p0, p1] prim sil al)) False) := by kernel_rfl
theorem t_nx2_0 : evCall cxRk (ev cxRk 60) 16 [.one (.ptr 0 0 0), .one (iv .i64 (0))] (rtL [p0, p1] prim sil al) k =
   (branch (Bool.not p1.d) (k (rI 1) (rtL [p0, p1] prim sil al)) (k (rI 1) (rtL [p0, p1] prim sil al))) := by kernel_rfl
theorem t_nx2_1 : evCall cxRk (ev cxRk 60) 16 [.one (.ptr 0 0 0), .one (iv .i64 (1))] (rtL [p0, p1] prim sil al) k =
   (branch (Bool.not p0.d) (k (rI 0) (rtL [p0, p1] prim sil al)) (k (rI 0) (rtL [p0, p1] prim sil al))) := by kernel_rfl
theorem t_nx2_n : evCall cxRk (ev cxRk 60) 16 [.one (.ptr 0 0 0), .one (iv .i64 (Int.negSucc m))] (rtL [p0, p1] prim sil al) k =
   (branch (decide (((Int.negSucc m) < (0)))) (k (rI 0) (rtL [p0, p1] prim sil al)) False) := by kernel_rfl
theorem t_nx2_p : evCall cxRk (ev cxRk 60) 16 [.one (.ptr 0 0 0), .one (iv .i64 ((m + 2 : Nat) : Int))] (rtL [p0, p1] prim sil al) k =
   (branch (decide (((((m + 2) : Nat) : Int) ≥ (2)))) (k (rI 0) (rtL [p0, p1] prim sil al)) False) := by kernel_rfl
theorem t_ch2_0 : evCall cxRk (ev cxRk 60) 18 [.one (.ptr 0 0 0)] (rtL [p0, p1] (0) sil al) k =
   (branch (Bool.not p0.d) (k (rI 0) (rtL [p0, p1] (0) sil al)) (branch (Bool.not p1.d) (k (rI 1) (rtL [p0, p1] (0) sil al)) (k (rI 1) (rtL [p0, p1] (0) sil al)))) := by kernel_rfl
theorem t_ch2_1 : evCall cxRk (ev cxRk 60) 18 [.one (.ptr 0 0 0)] (rtL [p0, p1] (1) sil al) k =
   (branch (Bool.not p1.d) (k (rI 1) (rtL [p0, p1] (1) sil al)) (branch (Bool.not p0.d) (k (rI 0) (rtL [p0, p1] (1) sil al)) (k (rI 0) (rtL [p0, p1] (1) sil al)))) := by kernel_rfl
end
section
variable (p0 p1 : Ra) (prim sil al : Int) (m : Nat) (k : KT)
theorem t_mr2_0 : evCall cxRk (ev cxRk 60) 39 [.one (.ptr 0 0 0), .one (iv .i64 (0))] (rfL 0 [p0, p1] prim sil al) k =
   (branch (decide (((addK .i64 p0.m (1)) > p0.tr))) (k (.tup [(.one (bv (Bool.not (p0.a == false)))), (.one (bv (decide (((addK .i64 sil (1)) > al)))))]) (rfL 0 [(raW p0 (addK .i64 p0.m (1)) false), p1] prim (addK .i64 sil (1)) al)) (k (.tup [(.one (bv (Bool.not (p0.a == p0.a)))), (.one (bv (decide (((addK .i64 sil (1)) > al)))))]) (rfL 0 [(raW p0 (addK .i64 p0.m (1)) p0.a), p1] prim (addK .i64 sil (1)) al))) := by kernel_rfl
theorem t_mr2_1 : evCall cxRk (ev cxRk 60) 39 [.one (.ptr 0 0 0), .one (iv .i64 (1))] (rfL 0 [p0, p1] prim sil al) k =
   (branch (decide (((addK .i64 p1.m (1)) > p1.tr))) (k (.tup [(.one (bv (Bool.not (p1.a == false)))), (.one (bv (decide (((addK .i64 sil (1)) > al)))))]) (rfL 0 [p0, (raW p1 (addK .i64 p1.m (1)) false)] prim (addK .i64 sil (1)) al)) (k (.tup [(.one (bv (Bool.not (p1.a == p1.a)))), (.one (bv (decide (((addK .i64 sil (1)) > al)))))]) (rfL 0 [p0, (raW p1 (addK .i64 p1.m (1)) p1.a)] prim (addK .i64 sil (1)) al))) := by kernel_rfl
theorem t_mr2_n : evCall cxRk (ev cxRk 60) 39 [.one (.ptr 0 0 0), .one (iv .i64 (Int.negSucc m))] (rfL 0 [p0, p1] prim sil al) k =
   (k (.tup [(.one (bv false)), (.one (bv false))]) (rfL 0 [p0, p1] prim sil al)) := by kernel_rfl
theorem t_mr2_p : evCall cxRk (ev cxRk 60) 39 [.one (.ptr 0 0 0), .one (iv .i64 ((m + 2 : Nat) : Int))] (rfL 0 [p0, p1] prim sil al) k =
   (k (.tup [(.one (bv false)), (.one (bv false))]) (rfL 0 [p0, p1] prim sil al)) := by kernel_rfl
theorem t_hr2_0 : evCall cxRk (ev cxRk 60) 40 [.one (.ptr 0 0 0), .one (iv .i64 (0))] (rfL 0 [p0, p1] prim sil al) k =
   (k (.sa (.one (bv (Bool.not p0.a)))) (rfL 0 [(raW p0 (0) true), p1] prim (0) al)) := by kernel_rfl
theorem t_hr2_1 : evCall cxRk (ev cxRk 60) 40 [.one (.ptr 0 0 0), .one (iv .i64 (1))] (rfL 0 [p0, p1] prim sil al) k =
   (k (.sa (.one (bv (Bool.not p1.a)))) (rfL 0 [p0, (raW p1 (0) true)] prim (0) al)) := by kernel_rfl
theorem t_hr2_n : evCall cxRk (ev cxRk 60) 40 [.one (.ptr 0 0 0), .one (iv .i64 (Int.negSucc m))] (rfL 0 [p0, p1] prim sil al) k =
   (k (rB false) (rfL 0 [p0, p1] prim sil al)) := by kernel_rfl
theorem t_hr2_p : evCall cxRk (ev cxRk 60) 40 [.one (.ptr 0 0 0), .one (iv .i64 ((m + 2 : Nat) : Int))] (rfL 0 [p0, p1] prim sil al) k =
   (k (rB false) (rfL 0 [p0, p1] prim sil al)) := by kernel_rfl
theorem t_nr2_0 : evCall cxRk (ev cxRk 60) 27 [.one (.ptr 0 0 0), .one (iv .i64 (0))] (rfL 0 [p0, p1] prim sil al) k =
   (branch p1.a (k (rI 1) (rfL 0 [p0, p1] prim sil al)) (k (rI 1) (rfL 0 [p0, p1] prim sil al))) := by kernel_rfl
theorem t_nr2_1 : evCall cxRk (ev cxRk 60) 27 [.one (.ptr 0 0 0), .one (iv .i64 (1))] (rfL 0 [p0, p1] prim sil al) k =
   (branch p0.a (k (rI 0) (rfL 0 [p0, p1] prim sil al)) (k (rI 0) (rfL 0 [p0, p1] prim sil al))) := by kernel_rfl
theorem t_nr2_n : evCall cxRk (ev cxRk 60) 27 [.one (.ptr 0 0 0), .one (iv .i64 (Int.negSucc m))] (rfL 0 [p0, p1] prim sil al) k =
   (k (rI 0) (rfL 0 [p0, p1] prim sil al)) := by kernel_rfl
theorem t_nr2_p : evCall cxRk (ev cxRk 60) 27 [.one (.ptr 0 0 0), .one (iv .i64 ((m + 2 : Nat) : Int))] (rfL 0 [p0, p1] prim sil al) k =
   (k (rI 0) (rfL 0 [p0, p1] prim sil al)) := by kernel_rfl
theorem t_cr2_0 : evCall cxRk (ev cxRk 60) 26 [.one (.ptr 0 0 0)] (rfL 0 [p0, p1] (0) sil al) k =
   (branch p0.a (k (rI 0) (rfL 0 [p0, p1] (0) sil al)) (branch p1.a (k (rI 1) (rfL 0 [p0, p1] (0) sil al)) (k (rI 1) (rfL 0 [p0, p1] (0) sil al)))) := by kernel_rfl
theorem t_cr2_1 : evCall cxRk (ev cxRk 60) 26 [.one (.ptr 0 0 0)] (rfL 0 [p0, p1] (1) sil al) k =
   (branch p1.a (k (rI 1) (rfL 0 [p0, p1] (1) sil al)) (branch p0.a (k (rI 0) (rfL 0 [p0, p1] (1) sil al)) (k (rI 0) (rfL 0 [p0, p1] (1) sil al)))) := by kernel_rfl
end
section
variable (p0 p1 p2 : Pa) (prim sil al : Int) (m : Nat) (k : KT)
theorem t_mi3_0 : evCall cxRk (ev cxRk 60) 10 [.one (.ptr 0 0 0), .one (iv .i64 (0))] (rtL [p0, p1, p2] prim sil al) k =
   (k (.tup [(.one (bv (Bool.not (p0.d == (decide (((addK .i64 p0.m (1)) > p0.tr))))))), (.one (bv (decide (((addK .i64 sil (1)) > al)))))]) (rtL [(paW p0 (addK .i64 p0.m (1)) (decide (((addK .i64 p0.m (1)) > p0.tr)))), p1, p2] prim (addK .i64 sil (1)) al)) := by kernel_rfl
theorem t_mi3_1 : evCall cxRk (ev cxRk 60) 10 [.one (.ptr 0 0 0), .one (iv .i64 (1))] (rtL [p0, p1, p2] prim sil al) k =
   (k (.tup [(.one (bv (Bool.not (p1.d == (decide (((addK .i64 p1.m (1)) > p1.tr))))))), (.one (bv (decide (((addK .i64 sil (1)) > al)))))]) (rtL [p0, (paW p1 (addK .i64 p1.m (1)) (decide (((addK .i64 p1.m (1)) > p1.tr)))), p2] prim (addK .i64 sil (1)) al)) := by kernel_rfl
theorem t_mi3_2 : evCall cxRk (ev cxRk 60) 10 [.one (.ptr 0 0 0), .one (iv .i64 (2))] (rtL [p0, p1, p2] prim sil al) k =
   (k (.tup [(.one (bv (Bool.not (p2.d == (decide (((addK .i64 p2.m (1)) > p2.tr))))))), (.one (bv (decide (((addK .i64 sil (1)) > al)))))]) (rtL [p0, p1, (paW p2 (addK .i64 p2.m (1)) (decide (((addK .i64 p2.m (1)) > p2.tr))))] prim (addK .i64 sil (1)) al)) := by kernel_rfl
theorem t_mi3_n : evCall cxRk (ev cxRk 60) 10 [.one (.ptr 0 0 0), .one (iv .i64 (Int.negSucc m))] (rtL [p0, p1, p2] prim sil al) k =
   (branch (decide (((Int.negSucc m) < (0)))) (k (.tup [(.one (bv false)), (.one (bv false))]) (rtL [p0, p1, p2] prim sil al)) False) := by kernel_rfl
theorem t_mi3_p : evCall cxRk (ev cxRk 60) 10 [.one (.ptr 0 0 0), .one (iv .i64 ((m + 3 : Nat) : Int))] (rtL [p0, p1, p2] prim sil al) k =
   (branch (decide (((((m + 3) : Nat) : Int) ≥ (3)))) (k (.tup [(.one (bv false)), (.one (bv false))]) (rtL [p0, p1, p2] prim sil al)) False) := by kernel_rfl
theorem t_he3_0 : evCall cxRk (ev cxRk 60) 11 [.one (.ptr 0 0 0), .one (iv .i64 (0))] (rtL [p0, p1, p2] prim sil al) k =
   (k (.sa (.one (bv (Bool.not (p0.d == false))))) (rtL [(paW p0 (0) false), p1, p2] prim (0) al)) := by kernel_rfl
theorem t_he3_1 : evCall cxRk (ev cxRk 60) 11 [.one (.ptr 0 0 0), .one (iv .i64 (1))] (rtL [p0, p1, p2] prim sil al) k =
   (k (.sa (.one (bv (Bool.not (p1.d == false))))) (rtL [p0, (paW p1 (0) false), p2] prim (0) al)) := by kernel_rfl
theorem t_he3_2 : evCall cxRk (ev cxRk 60) 11 [.one (.ptr 0 0 0), .one (iv .i64 (2))] (rtL [p0, p1, p2] prim sil al) k =
   (k (.sa (.one (bv (Bool.not (p2.d == false))))) (rtL [p0, p1, (paW p2 (0) false)] prim (0) al)) := by kernel_rfl
theorem t_he3_n : evCall cxRk (ev cxRk 60) 11 [.one (.ptr 0 0 0), .one (iv .i64 (Int.negSucc m))] (rtL [p0, p1, p2] prim sil al) k =
   (branch (decide (((Int.negSucc m) < (0)))) (k (rB false) (rtL [p0, p1, p2] prim sil al)) False) := by kernel_rfl
theorem t_he3_p : evCall cxRk (ev cxRk 60) 11 [.one (.ptr 0 0 0), .one (iv .i64 ((m + 3 : Nat) : Int))] (rtL [p0, p1, p2] prim sil al) k =
   (branch (decide (((((m + 3) : Nat) : Int) ≥ (3)))) (k (rB false) (rtL [p0, p1, p2] prim sil al)) False) := by kernel_rfl
theorem t_pr3_0 : evCall cxRk (ev cxRk 60) 21 [.one (.ptr 0 0 0), .one (iv .i64 (0))] (rtL [p0, p1, p2] prim sil al) k =
   (k (rI 0) (rtL [p0, p1, p2] (0) sil al)) := by kernel_rfl
theorem t_pr3_1 : evCall cxRk (ev cxRk 60) 21 [.one (.ptr 0 0 0), .one (iv .i64 (1))] (rtL [p0, p1, p2] prim sil al) k =
   (k (rI 0) (rtL [p0, p1, p2] (1) sil al)) := by kernel_rfl
theorem t_pr3_2 : evCall cxRk (ev cxRk 60) 21 [.one (.ptr 0 0 0), .one (iv .i64 (2))] (rtL [p0, p1, p2] prim sil al) k =
   (k (rI 0) (rtL [p0, p1, p2] (2) sil al)) := by kernel_rfl
theorem t_pr3_n : evCall cxRk (ev cxRk 60) 21 [.one (.ptr 0 0 0), .one (iv .i64 (Int.negSucc m))] (rtL [p0, p1, p2] prim sil al) k =
   (branch (decide (((Int.negSucc m) < (0)))) (k (rI 4) (rtL [p0, p1, p2] prim sil al)) False) := by kernel_rfl
theorem t_pr3_p : evCall cxRk (ev cxRk 60) 21 [.one (.ptr 0 0 0), .one (iv .i64 ((m + 3 : Nat) : Int))] (rtL [p0, p1, p2] prim sil al) k =
   (branch (decide (((((m + 3) : Nat) : Int) ≥ (3)))) (k (rI 4) (rtL [p0, p1, p2] prim sil al)) False) := by kernel_rfl
theorem t_nx3_0 : evCall cxRk (ev cxRk 60) 16 [.one (.ptr 0 0 0), .one (iv .i64 (0))] (rtL [p0, p1, p2] prim sil al) k =
   (fun (K : Int → Prop) => (branch (Bool.not p1.d) (K 1) (branch (Bool.not p2.d) (K 2) (K 1)))) (fun v => k (rI v) (rtL [p0, p1, p2] prim sil al)) := by kernel_rfl
theorem t_nx3_1 : evCall cxRk (ev cxRk 60) 16 [.one (.ptr 0 0 0), .one (iv .i64 (1))] (rtL [p0, p1, p2] prim sil al) k =
   (fun (K : Int → Prop) => (branch (Bool.not p2.d) (K 2) (branch (Bool.not p0.d) (K 0) (K 2)))) (fun v => k (rI v) (rtL [p0, p1, p2] prim sil al)) := by kernel_rfl
theorem t_nx3_2 : evCall cxRk (ev cxRk 60) 16 [.one (.ptr 0 0 0), .one (iv .i64 (2))] (rtL [p0, p1, p2] prim sil al) k =
   (fun (K : Int → Prop) => (branch (Bool.not p0.d) (K 0) (branch (Bool.not p1.d) (K 1) (K 0)))) (fun v => k (rI v) (rtL [p0, p1, p2] prim sil al)) := by kernel_rfl
theorem t_nx3_n : evCall cxRk (ev cxRk 60) 16 [.one (.ptr 0 0 0), .one (iv .i64 (Int.negSucc m))] (rtL [p0, p1, p2] prim sil al) k =
   (branch (decide (((Int.negSucc m) < (0)))) (k (rI 0) (rtL [p0, p1, p2] prim sil al)) False) := by kernel_rfl
theorem t_nx3_p : evCall cxRk (ev cxRk 60) 16 [.one (.ptr 0 0 0), .one (iv .i64 ((m + 3 : Nat) : Int))] (rtL [p0, p1, p2] prim sil al) k =
   (branch (decide (((((m + 3) : Nat) : Int) ≥ (3)))) (k (rI 0) (rtL [p0, p1, p2] prim sil al)) False) := by kernel_rfl
theorem t_ch3_0 : evCall cxRk (ev cxRk 60) 18 [.one (.ptr 0 0 0)] (rtL [p0, p1, p2] (0) sil al) k =
   (fun (K : Int → Prop) => (branch (Bool.not p0.d) (K 0) (branch (Bool.not p1.d) (K 1) (branch (Bool.not p2.d) (K 2) (K 1))))) (fun v => k (rI v) (rtL [p0, p1, p2] (0) sil al)) := by kernel_rfl
theorem t_ch3_1 : evCall cxRk (ev cxRk 60) 18 [.one (.ptr 0 0 0)] (rtL [p0, p1, p2] (1) sil al) k =
   (fun (K : Int → Prop) => (branch (Bool.not p1.d) (K 1) (branch (Bool.not p2.d) (K 2) (branch (Bool.not p0.d) (K 0) (K 2))))) (fun v => k (rI v) (rtL [p0, p1, p2] (1) sil al)) := by kernel_rfl
theorem t_ch3_2 : evCall cxRk (ev cxRk 60) 18 [.one (.ptr 0 0 0)] (rtL [p0, p1, p2] (2) sil al) k =
   (fun (K : Int → Prop) => (branch (Bool.not p2.d) (K 2) (branch (Bool.not p0.d) (K 0) (branch (Bool.not p1.d) (K 1) (K 0))))) (fun v => k (rI v) (rtL [p0, p1, p2] (2) sil al)) := by kernel_rfl
end
section
variable (p0 p1 p2 : Ra) (prim sil al : Int) (m : Nat) (k : KT)
theorem t_mr3_0 : evCall cxRk (ev cxRk 60) 39 [.one (.ptr 0 0 0), .one (iv .i64 (0))] (rfL 0 [p0, p1, p2] prim sil al) k =
   (branch (decide (((addK .i64 p0.m (1)) > p0.tr))) (k (.tup [(.one (bv (Bool.not (p0.a == false)))), (.one (bv (decide (((addK .i64 sil (1)) > al)))))]) (rfL 0 [(raW p0 (addK .i64 p0.m (1)) false), p1, p2] prim (addK .i64 sil (1)) al)) (k (.tup [(.one (bv (Bool.not (p0.a == p0.a)))), (.one (bv (decide (((addK .i64 sil (1)) > al)))))]) (rfL 0 [(raW p0 (addK .i64 p0.m (1)) p0.a), p1, p2] prim (addK .i64 sil (1)) al))) := by kernel_rfl
theorem t_mr3_1 : evCall cxRk (ev cxRk 60) 39 [.one (.ptr 0 0 0), .one (iv .i64 (1))] (rfL 0 [p0, p1, p2] prim sil al) k =
   (branch (decide (((addK .i64 p1.m (1)) > p1.tr))) (k (.tup [(.one (bv (Bool.not (p1.a == false)))), (.one (bv (decide (((addK .i64 sil (1)) > al)))))]) (rfL 0 [p0, (raW p1 (addK .i64 p1.m (1)) false), p2] prim (addK .i64 sil (1)) al)) (k (.tup [(.one (bv (Bool.not (p1.a == p1.a)))), (.one (bv (decide (((addK .i64 sil (1)) > al)))))]) (rfL 0 [p0, (raW p1 (addK .i64 p1.m (1)) p1.a), p2] prim (addK .i64 sil (1)) al))) := by kernel_rfl
theorem t_mr3_2 : evCall cxRk (ev cxRk 60) 39 [.one (.ptr 0 0 0), .one (iv .i64 (2))] (rfL 0 [p0, p1, p2] prim sil al) k =
   (branch (decide (((addK .i64 p2.m (1)) > p2.tr))) (k (.tup [(.one (bv (Bool.not (p2.a == false)))), (.one (bv (decide (((addK .i64 sil (1)) > al)))))]) (rfL 0 [p0, p1, (raW p2 (addK .i64 p2.m (1)) false)] prim (addK .i64 sil (1)) al)) (k (.tup [(.one (bv (Bool.not (p2.a == p2.a)))), (.one (bv (decide (((addK .i64 sil (1)) > al)))))]) (rfL 0 [p0, p1, (raW p2 (addK .i64 p2.m (1)) p2.a)] prim (addK .i64 sil (1)) al))) := by kernel_rfl
theorem t_mr3_n : evCall cxRk (ev cxRk 60) 39 [.one (.ptr 0 0 0), .one (iv .i64 (Int.negSucc m))] (rfL 0 [p0, p1, p2] prim sil al) k =
   (k (.tup [(.one (bv false)), (.one (bv false))]) (rfL 0 [p0, p1, p2] prim sil al)) := by kernel_rfl
theorem t_mr3_p : evCall cxRk (ev cxRk 60) 39 [.one (.ptr 0 0 0), .one (iv .i64 ((m + 3 : Nat) : Int))] (rfL 0 [p0, p1, p2] prim sil al) k =
   (k (.tup [(.one (bv false)), (.one (bv false))]) (rfL 0 [p0, p1, p2] prim sil al)) := by kernel_rfl
theorem t_hr3_0 : evCall cxRk (ev cxRk 60) 40 [.one (.ptr 0 0 0), .one (iv .i64 (0))] (rfL 0 [p0, p1, p2] prim sil al) k =
   (k (.sa (.one (bv (Bool.not p0.a)))) (rfL 0 [(raW p0 (0) true), p1, p2] prim (0) al)) := by kernel_rfl
theorem t_hr3_1 : evCall cxRk (ev cxRk 60) 40 [.one (.ptr 0 0 0), .one (iv .i64 (1))] (rfL 0 [p0, p1, p2] prim sil al) k =
   (k (.sa (.one (bv (Bool.not p1.a)))) (rfL 0 [p0, (raW p1 (0) true), p2] prim (0) al)) := by kernel_rfl
theorem t_hr3_2 : evCall cxRk (ev cxRk 60) 40 [.one (.ptr 0 0 0), .one (iv .i64 (2))] (rfL 0 [p0, p1, p2] prim sil al) k =
   (k (.sa (.one (bv (Bool.not p2.a)))) (rfL 0 [p0, p1, (raW p2 (0) true)] prim (0) al)) := by kernel_rfl
theorem t_hr3_n : evCall cxRk (ev cxRk 60) 40 [.one (.ptr 0 0 0), .one (iv .i64 (Int.negSucc m))] (rfL 0 [p0, p1, p2] prim sil al) k =
   (k (rB false) (rfL 0 [p0, p1, p2] prim sil al)) := by kernel_rfl
theorem t_hr3_p : evCall cxRk (ev cxRk 60) 40 [.one (.ptr 0 0 0), .one (iv .i64 ((m + 3 : Nat) : Int))] (rfL 0 [p0, p1, p2] prim sil al) k =
   (k (rB false) (rfL 0 [p0, p1, p2] prim sil al)) := by kernel_rfl
theorem t_nr3_0 : evCall cxRk (ev cxRk 60) 27 [.one (.ptr 0 0 0), .one (iv .i64 (0))] (rfL 0 [p0, p1, p2] prim sil al) k =
   (fun (K : Int → Prop) => (branch p1.a (K 1) (branch p2.a (K 2) (K 1)))) (fun v => k (rI v) (rfL 0 [p0, p1, p2] prim sil al)) := by kernel_rfl
theorem t_nr3_1 : evCall cxRk (ev cxRk 60) 27 [.one (.ptr 0 0 0), .one (iv .i64 (1))] (rfL 0 [p0, p1, p2] prim sil al) k =
   (fun (K : Int → Prop) => (branch p2.a (K 2) (branch p0.a (K 0) (K 2)))) (fun v => k (rI v) (rfL 0 [p0, p1, p2] prim sil al)) := by kernel_rfl
theorem t_nr3_2 : evCall cxRk (ev cxRk 60) 27 [.one (.ptr 0 0 0), .one (iv .i64 (2))] (rfL 0 [p0, p1, p2] prim sil al) k =
   (fun (K : Int → Prop) => (branch p0.a (K 0) (branch p1.a (K 1) (K 0)))) (fun v => k (rI v) (rfL 0 [p0, p1, p2] prim sil al)) := by kernel_rfl
theorem t_nr3_n : evCall cxRk (ev cxRk 60) 27 [.one (.ptr 0 0 0), .one (iv .i64 (Int.negSucc m))] (rfL 0 [p0, p1, p2] prim sil al) k =
   (k (rI 0) (rfL 0 [p0, p1, p2] prim sil al)) := by kernel_rfl
theorem t_nr3_p : evCall cxRk (ev cxRk 60) 27 [.one (.ptr 0 0 0), .one (iv .i64 ((m + 3 : Nat) : Int))] (rfL 0 [p0, p1, p2] prim sil al) k =
   (k (rI 0) (rfL 0 [p0, p1, p2] prim sil al)) := by kernel_rfl
theorem t_cr3_0 : evCall cxRk (ev cxRk 60) 26 [.one (.ptr 0 0 0)] (rfL 0 [p0, p1, p2] (0) sil al) k =
   (fun (K : Int → Prop) => (branch p0.a (K 0) (branch p1.a (K 1) (branch p2.a (K 2) (K 1))))) (fun v => k (rI v) (rfL 0 [p0, p1, p2] (0) sil al)) := by kernel_rfl
theorem t_cr3_1 : evCall cxRk (ev cxRk 60) 26 [.one (.ptr 0 0 0)] (rfL 0 [p0, p1, p2] (1) sil al) k =
   (fun (K : Int → Prop) => (branch p1.a (K 1) (branch p2.a (K 2) (branch p0.a (K 0) (K 2))))) (fun v => k (rI v) (rfL 0 [p0, p1, p2] (1) sil al)) := by kernel_rfl
theorem t_cr3_2 : evCall cxRk (ev cxRk 60) 26 [.one (.ptr 0 0 0)] (rfL 0 [p0, p1, p2] (2) sil al) k =
   (fun (K : Int → Prop) => (branch p2.a (K 2) (branch p0.a (K 0) (branch p1.a (K 1) (K 0))))) (fun v => k (rI v) (rfL 0 [p0, p1, p2] (2) sil al)) := by kernel_rfl
end
section
variable (p0 p1 p2 p3 : Pa) (prim sil al : Int) (m : Nat) (k : KT)
theorem t_mi4_0 : evCall cxRk (ev cxRk 60) 10 [.one (.ptr 0 0 0), .one (iv .i64 (0))] (rtL [p0, p1, p2, p3] prim sil al) k =
   (k (.tup [(.one (bv (Bool.not (p0.d == (decide (((addK .i64 p0.m (1)) > p0.tr))))))), (.one (bv (decide (((addK .i64 sil (1)) > al)))))]) (rtL [(paW p0 (addK .i64 p0.m (1)) (decide (((addK .i64 p0.m (1)) > p0.tr)))), p1, p2, p3] prim (addK .i64 sil (1)) al)) := by kernel_rfl
theorem t_mi4_1 : evCall cxRk (ev cxRk 60) 10 [.one (.ptr 0 0 0), .one (iv .i64 (1))] (rtL [p0, p1, p2, p3] prim sil al) k =
   (k (.tup [(.one (bv (Bool.not (p1.d == (decide (((addK .i64 p1.m (1)) > p1.tr))))))), (.one (bv (decide (((addK .i64 sil (1)) > al)))))]) (rtL [p0, (paW p1 (addK .i64 p1.m (1)) (decide (((addK .i64 p1.m (1)) > p1.tr)))), p2, p3] prim (addK .i64 sil (1)) al)) := by kernel_rfl
theorem t_mi4_2 : evCall cxRk (ev cxRk 60) 10 [.one (.ptr 0 0 0), .one (iv .i64 (2))] (rtL [p0, p1, p2, p3] prim sil al) k =
   (k (.tup [(.one (bv (Bool.not (p2.d == (decide (((addK .i64 p2.m (1)) > p2.tr))))))), (.one (bv (decide (((addK .i64 sil (1)) > al)))))]) (rtL [p0, p1, (paW p2 (addK .i64 p2.m (1)) (decide (((addK .i64 p2.m (1)) > p2.tr)))), p3] prim (addK .i64 sil (1)) al)) := by kernel_rfl
theorem t_mi4_3 : evCall cxRk (ev cxRk 60) 10 [.one (.ptr 0 0 0), .one (iv .i64 (3))] (rtL [p0, p1, p2, p3] prim sil al) k =
   (k (.tup [(.one (bv (Bool.not (p3.d == (decide (((addK .i64 p3.m (1)) > p3.tr))))))), (.one (bv (decide (((addK .i64 sil (1)) > al)))))]) (rtL [p0, p1, p2, (paW p3 (addK .i64 p3.m (1)) (decide (((addK .i64 p3.m (1)) > p3.tr))))] prim (addK .i64 sil (1)) al)) := by kernel_rfl
theorem t_mi4_n : evCall cxRk (ev cxRk 60) 10 [.one (.ptr 0 0 0), .one (iv .i64 (Int.negSucc m))] (rtL [p0, p1, p2, p3] prim sil al) k =
   (branch (decide (((Int.negSucc m) < (0)))) (k (.tup [(.one (bv false)), (.one (bv false))]) (rtL [p0, p1, p2, p3] prim sil al)) False) := by kernel_rfl
theorem t_mi4_p : evCall cxRk (ev cxRk 60) 10 [.one (.ptr 0 0 0), .one (iv .i64 ((m + 4 : Nat) : Int))] (rtL [p0, p1, p2, p3] prim sil al) k =
   (branch (decide (((((m + 4) : Nat) : Int) ≥ (4)))) (k (.tup [(.one (bv false)), (.one (bv false))]) (rtL [p0, p1, p2, p3] prim sil al)) False) := by kernel_rfl
theorem t_he4_0 : evCall cxRk (ev cxRk 60) 11 [.one (.ptr 0 0 0), .one (iv .i64 (0))] (rtL [p0, p1, p2, p3] prim sil al) k =
   (k (.sa (.one (bv (Bool.not (p0.d == false))))) (rtL [(paW p0 (0) false), p1, p2, p3] prim (0) al)) := by kernel_rfl
theorem t_he4_1 : evCall cxRk (ev cxRk 60) 11 [.one (.ptr 0 0 0), .one (iv .i64 (1))] (rtL [p0, p1, p2, p3] prim sil al) k =
   (k (.sa (.one (bv (Bool.not (p1.d == false))))) (rtL [p0, (paW p1 (0) false), p2, p3] prim (0) al)) := by kernel_rfl
theorem t_he4_2 : evCall cxRk (ev cxRk 60) 11 [.one (.ptr 0 0 0), .one (iv .i64 (2))] (rtL [p0, p1, p2, p3] prim sil al) k =
   (k (.sa (.one (bv (Bool.not (p2.d == false))))) (rtL [p0, p1, (paW p2 (0) false), p3] prim (0) al)) := by kernel_rfl
theorem t_he4_3 : evCall cxRk (ev cxRk 60) 11 [.one (.ptr 0 0 0), .one (iv .i64 (3))] (rtL [p0, p1, p2, p3] prim sil al) k =
   (k (.sa (.one (bv (Bool.not (p3.d == false))))) (rtL [p0, p1, p2, (paW p3 (0) false)] prim (0) al)) := by kernel_rfl
theorem t_he4_n : evCall cxRk (ev cxRk 60) 11 [.one (.ptr 0 0 0), .one (iv .i64 (Int.negSucc m))] (rtL [p0, p1, p2, p3] prim sil al) k =
   (branch (decide (((Int.negSucc m) < (0)))) (k (rB false) (rtL [p0, p1, p2, p3] prim sil al)) False) := by kernel_rfl
theorem t_he4_p : evCall cxRk (ev cxRk 60) 11 [.one (.ptr 0 0 0), .one (iv .i64 ((m + 4 : Nat) : Int))] (rtL [p0, p1, p2, p3] prim sil al) k =
   (branch (decide (((((m + 4) : Nat) : Int) ≥ (4)))) (k (rB false) (rtL [p0, p1, p2, p3] prim sil al)) False) := by kernel_rfl
theorem t_pr4_0 : evCall cxRk (ev cxRk 60) 21 [.one (.ptr 0 0 0), .one (iv .i64 (0))] (rtL [p0, p1, p2, p3] prim sil al) k =
   (k (rI 0) (rtL [p0, p1, p2, p3] (0) sil al)) := by kernel_rfl
theorem t_pr4_1 : evCall cxRk (ev cxRk 60) 21 [.one (.ptr 0 0 0), .one (iv .i64 (1))] (rtL [p0, p1, p2, p3] prim sil al) k =
   (k (rI 0) (rtL [p0, p1, p2, p3] (1) sil al)) := by kernel_rfl
theorem t_pr4_2 : evCall cxRk (ev cxRk 60) 21 [.one (.ptr 0 0 0), .one (iv .i64 (2))] (rtL [p0, p1, p2, p3] prim sil al) k =
   (k (rI 0) (rtL [p0, p1, p2, p3] (2) sil al)) := by kernel_rfl
theorem t_pr4_3 : evCall cxRk (ev cxRk 60) 21 [.one (.ptr 0 0 0), .one (iv .i64 (3))] (rtL [p0, p1, p2, p3] prim sil al) k =
   (k (rI 0) (rtL [p0, p1, p2, p3] (3) sil al)) := by kernel_rfl
theorem t_pr4_n : evCall cxRk (ev cxRk 60) 21 [.one (.ptr 0 0 0), .one (iv .i64 (Int.negSucc m))] (rtL [p0, p1, p2, p3] prim sil al) k =
   (branch (decide (((Int.negSucc m) < (0)))) (k (rI 4) (rtL [p0, p1, p2, p3] prim sil al)) False) := by kernel_rfl
theorem t_pr4_p : evCall cxRk (ev cxRk 60) 21 [.one (.ptr 0 0 0), .one (iv .i64 ((m + 4 : Nat) : Int))] (rtL [p0, p1, p2, p3] prim sil al) k =
   (branch (decide (((((m + 4) : Nat) : Int) ≥ (4)))) (k (rI 4) (rtL [p0, p1, p2, p3] prim sil al)) False) := by kernel_rfl
theorem t_nx4_0 : evCall cxRk (ev cxRk 60) 16 [.one (.ptr 0 0 0), .one (iv .i64 (0))] (rtL [p0, p1, p2, p3] prim sil al) k =
   (fun (K : Int → Prop) => (branch (Bool.not p1.d) (K 1) (branch (Bool.not p2.d) (K 2) (branch (Bool.not p3.d) (K 3) (K 1))))) (fun v => k (rI v) (rtL [p0, p1, p2, p3] prim sil al)) := by kernel_rfl
theorem t_nx4_1 : evCall cxRk (ev cxRk 60) 16 [.one (.ptr 0 0 0), .one (iv .i64 (1))] (rtL [p0, p1, p2, p3] prim sil al) k =
   (fun (K : Int → Prop) => (branch (Bool.not p2.d) (K 2) (branch (Bool.not p3.d) (K 3) (branch (Bool.not p0.d) (K 0) (K 2))))) (fun v => k (rI v) (rtL [p0, p1, p2, p3] prim sil al)) := by kernel_rfl
theorem t_nx4_2 : evCall cxRk (ev cxRk 60) 16 [.one (.ptr 0 0 0), .one (iv .i64 (2))] (rtL [p0, p1, p2, p3] prim sil al) k =
   (fun (K : Int → Prop) => (branch (Bool.not p3.d) (K 3) (branch (Bool.not p0.d) (K 0) (branch (Bool.not p1.d) (K 1) (K 3))))) (fun v => k (rI v) (rtL [p0, p1, p2, p3] prim sil al)) := by kernel_rfl
theorem t_nx4_3 : evCall cxRk (ev cxRk 60) 16 [.one (.ptr 0 0 0), .one (iv .i64 (3))] (rtL [p0, p1, p2, p3] prim sil al) k =
   (fun (K : Int → Prop) => (branch (Bool.not p0.d) (K 0) (branch (Bool.not p1.d) (K 1) (branch (Bool.not p2.d) (K 2) (K 0))))) (fun v => k (rI v) (rtL [p0, p1, p2, p3] prim sil al)) := by kernel_rfl
theorem t_nx4_n : evCall cxRk (ev cxRk 60) 16 [.one (.ptr 0 0 0), .one (iv .i64 (Int.negSucc m))] (rtL [p0, p1, p2, p3] prim sil al) k =
   (branch (decide (((Int.negSucc m) < (0)))) (k (rI 0) (rtL [p0, p1, p2, p3] prim sil al)) False) := by kernel_rfl
theorem t_nx4_p : evCall cxRk (ev cxRk 60) 16 [.one (.ptr 0 0 0), .one (iv .i64 ((m + 4 : Nat) : Int))] (rtL [p0, p1, p2, p3] prim sil al) k =
   (branch (decide (((((m + 4) : Nat) : Int) ≥ (4)))) (k (rI 0) (rtL [p0, p1, p2, p3] prim sil al)) False) := by kernel_rfl
theorem t_ch4_0 : evCall cxRk (ev cxRk 60) 18 [.one (.ptr 0 0 0)] (rtL [p0, p1, p2, p3] (0) sil al) k =
   (fun (K : Int → Prop) => (branch (Bool.not p0.d) (K 0) (branch (Bool.not p1.d) (K 1) (branch (Bool.not p2.d) (K 2) (branch (Bool.not p3.d) (K 3) (K 1)))))) (fun v => k (rI v) (rtL [p0, p1, p2, p3] (0) sil al)) := by kernel_rfl
theorem t_ch4_1 : evCall cxRk (ev cxRk 60) 18 [.one (.ptr 0 0 0)] (rtL [p0, p1, p2, p3] (1) sil al) k =
   (fun (K : Int → Prop) => (branch (Bool.not p1.d) (K 1) (branch (Bool.not p2.d) (K 2) (branch (Bool.not p3.d) (K 3) (branch (Bool.not p0.d) (K 0) (K 2)))))) (fun v => k (rI v) (rtL [p0, p1, p2, p3] (1) sil al)) := by kernel_rfl
theorem t_ch4_2 : evCall cxRk (ev cxRk 60) 18 [.one (.ptr 0 0 0)] (rtL [p0, p1, p2, p3] (2) sil al) k =
   (fun (K : Int → Prop) => (branch (Bool.not p2.d) (K 2) (branch (Bool.not p3.d) (K 3) (branch (Bool.not p0.d) (K 0) (branch (Bool.not p1.d) (K 1) (K 3)))))) (fun v => k (rI v) (rtL [p0, p1, p2, p3] (2) sil al)) := by kernel_rfl
theorem t_ch4_3 : evCall cxRk (ev cxRk 60) 18 [.one (.ptr 0 0 0)] (rtL [p0, p1, p2, p3] (3) sil al) k =
   (fun (K : Int → Prop) => (branch (Bool.not p3.d) (K 3) (branch (Bool.not p0.d) (K 0) (branch (Bool.not p1.d) (K 1) (branch (Bool.not p2.d) (K 2) (K 0)))))) (fun v => k (rI v) (rtL [p0, p1, p2, p3] (3) sil al)) := by kernel_rfl
end
section
variable (p0 p1 p2 p3 : Ra) (prim sil al : Int) (m : Nat) (k : KT)
theorem t_mr4_0 : evCall cxRk (ev cxRk 60) 39 [.one (.ptr 0 0 0), .one (iv .i64 (0))] (rfL 0 [p0, p1, p2, p3] prim sil al) k =
   (branch (decide (((addK .i64 p0.m (1)) > p0.tr))) (k (.tup [(.one (bv (Bool.not (p0.a == false)))), (.one (bv (decide (((addK .i64 sil (1)) > al)))))]) (rfL 0 [(raW p0 (addK .i64 p0.m (1)) false), p1, p2, p3] prim (addK .i64 sil (1)) al)) (k (.tup [(.one (bv (Bool.not (p0.a == p0.a)))), (.one (bv (decide (((addK .i64 sil (1)) > al)))))]) (rfL 0 [(raW p0 (addK .i64 p0.m (1)) p0.a), p1, p2, p3] prim (addK .i64 sil (1)) al))) := by kernel_rfl
theorem t_mr4_1 : evCall cxRk (ev cxRk 60) 39 [.one (.ptr 0 0 0), .one (iv .i64 (1))] (rfL 0 [p0, p1, p2, p3] prim sil al) k =
   (branch (decide (((addK .i64 p1.m (1)) > p1.tr))) (k (.tup [(.one (bv (Bool.not (p1.a == false)))), (.one (bv (decide (((addK .i64 sil (1)) > al)))))]) (rfL 0 [p0, (raW p1 (addK .i64 p1.m (1)) false), p2, p3] prim (addK .i64 sil (1)) al)) (k (.tup [(.one (bv (Bool.not (p1.a == p1.a)))), (.one (bv (decide (((addK .i64 sil (1)) > al)))))]) (rfL 0 [p0, (raW p1 (addK .i64 p1.m (1)) p1.a), p2, p3] prim (addK .i64 sil (1)) al))) := by kernel_rfl
theorem t_mr4_2 : evCall cxRk (ev cxRk 60) 39 [.one (.ptr 0 0 0), .one (iv .i64 (2))] (rfL 0 [p0, p1, p2, p3] prim sil al) k =
   (branch (decide (((addK .i64 p2.m (1)) > p2.tr))) (k (.tup [(.one (bv (Bool.not (p2.a == false)))), (.one (bv (decide (((addK .i64 sil (1)) > al)))))]) (rfL 0 [p0, p1, (raW p2 (addK .i64 p2.m (1)) false), p3] prim (addK .i64 sil (1)) al)) (k (.tup [(.one (bv (Bool.not (p2.a == p2.a)))), (.one (bv (decide (((addK .i64 sil (1)) > al)))))]) (rfL 0 [p0, p1, (raW p2 (addK .i64 p2.m (1)) p2.a), p3] prim (addK .i64 sil (1)) al))) := by kernel_rfl
theorem t_mr4_3 : evCall cxRk (ev cxRk 60) 39 [.one (.ptr 0 0 0), .one (iv .i64 (3))] (rfL 0 [p0, p1, p2, p3] prim sil al) k =
   (branch (decide (((addK .i64 p3.m (1)) > p3.tr))) (k (.tup [(.one (bv (Bool.not (p3.a == false)))), (.one (bv (decide (((addK .i64 sil (1)) > al)))))]) (rfL 0 [p0, p1, p2, (raW p3 (addK .i64 p3.m (1)) false)] prim (addK .i64 sil (1)) al)) (k (.tup [(.one (bv (Bool.not (p3.a == p3.a)))), (.one (bv (decide (((addK .i64 sil (1)) > al)))))]) (rfL 0 [p0, p1, p2, (raW p3 (addK .i64 p3.m (1)) p3.a)] prim (addK .i64 sil (1)) al))) := by kernel_rfl
theorem t_mr4_n : evCall cxRk (ev cxRk 60) 39 [.one (.ptr 0 0 0), .one (iv .i64 (Int.negSucc m))] (rfL 0 [p0, p1, p2, p3] prim sil al) k =
   (k (.tup [(.one (bv false)), (.one (bv false))]) (rfL 0 [p0, p1, p2, p3] prim sil al)) := by kernel_rfl
theorem t_mr4_p : evCall cxRk (ev cxRk 60) 39 [.one (.ptr 0 0 0), .one (iv .i64 ((m + 4 : Nat) : Int))] (rfL 0 [p0, p1, p2, p3] prim sil al) k =
   (k (.tup [(.one (bv false)), (.one (bv false))]) (rfL 0 [p0, p1, p2, p3] prim sil al)) := by kernel_rfl
theorem t_hr4_0 : evCall cxRk (ev cxRk 60) 40 [.one (.ptr 0 0 0), .one (iv .i64 (0))] (rfL 0 [p0, p1, p2, p3] prim sil al) k =
   (k (.sa (.one (bv (Bool.not p0.a)))) (rfL 0 [(raW p0 (0) true), p1, p2, p3] prim (0) al)) := by kernel_rfl
theorem t_hr4_1 : evCall cxRk (ev cxRk 60) 40 [.one (.ptr 0 0 0), .one (iv .i64 (1))] (rfL 0 [p0, p1, p2, p3] prim sil al) k =
   (k (.sa (.one (bv (Bool.not p1.a)))) (rfL 0 [p0, (raW p1 (0) true), p2, p3] prim (0) al)) := by kernel_rfl
theorem t_hr4_2 : evCall cxRk (ev cxRk 60) 40 [.one (.ptr 0 0 0), .one (iv .i64 (2))] (rfL 0 [p0, p1, p2, p3] prim sil al) k =
   (k (.sa (.one (bv (Bool.not p2.a)))) (rfL 0 [p0, p1, (raW p2 (0) true), p3] prim (0) al)) := by kernel_rfl
theorem t_hr4_3 : evCall cxRk (ev cxRk 60) 40 [.one (.ptr 0 0 0), .one (iv .i64 (3))] (rfL 0 [p0, p1, p2, p3] prim sil al) k =
   (k (.sa (.one (bv (Bool.not p3.a)))) (rfL 0 [p0, p1, p2, (raW p3 (0) true)] prim (0) al)) := by kernel_rfl
theorem t_hr4_n : evCall cxRk (ev cxRk 60) 40 [.one (.ptr 0 0 0), .one (iv .i64 (Int.negSucc m))] (rfL 0 [p0, p1, p2, p3] prim sil al) k =
   (k (rB false) (rfL 0 [p0, p1, p2, p3] prim sil al)) := by kernel_rfl
theorem t_hr4_p : evCall cxRk (ev cxRk 60) 40 [.one (.ptr 0 0 0), .one (iv .i64 ((m + 4 : Nat) : Int))] (rfL 0 [p0, p1, p2, p3] prim sil al) k =
   (k (rB false) (rfL 0 [p0, p1, p2, p3] prim sil al)) := by kernel_rfl
theorem t_nr4_0 : evCall cxRk (ev cxRk 60) 27 [.one (.ptr 0 0 0), .one (iv .i64 (0))] (rfL 0 [p0, p1, p2, p3] prim sil al) k =
   (fun (K : Int → Prop) => (branch p1.a (K 1) (branch p2.a (K 2) (branch p3.a (K 3) (K 1))))) (fun v => k (rI v) (rfL 0 [p0, p1, p2, p3] prim sil al)) := by kernel_rfl
theorem t_nr4_1 : evCall cxRk (ev cxRk 60) 27 [.one (.ptr 0 0 0), .one (iv .i64 (1))] (rfL 0 [p0, p1, p2, p3] prim sil al) k =
   (fun (K : Int → Prop) => (branch p2.a (K 2) (branch p3.a (K 3) (branch p0.a (K 0) (K 2))))) (fun v => k (rI v) (rfL 0 [p0, p1, p2, p3] prim sil al)) := by kernel_rfl
theorem t_nr4_2 : evCall cxRk (ev cxRk 60) 27 [.one (.ptr 0 0 0), .one (iv .i64 (2))] (rfL 0 [p0, p1, p2, p3] prim sil al) k =
   (fun (K : Int → Prop) => (branch p3.a (K 3) (branch p0.a (K 0) (branch p1.a (K 1) (K 3))))) (fun v => k (rI v) (rfL 0 [p0, p1, p2, p3] prim sil al)) := by kernel_rfl
theorem t_nr4_3 : evCall cxRk (ev cxRk 60) 27 [.one (.ptr 0 0 0), .one (iv .i64 (3))] (rfL 0 [p0, p1, p2, p3] prim sil al) k =
   (fun (K : Int → Prop) => (branch p0.a (K 0) (branch p1.a (K 1) (branch p2.a (K 2) (K 0))))) (fun v => k (rI v) (rfL 0 [p0, p1, p2, p3] prim sil al)) := by kernel_rfl
theorem t_nr4_n : evCall cxRk (ev cxRk 60) 27 [.one (.ptr 0 0 0), .one (iv .i64 (Int.negSucc m))] (rfL 0 [p0, p1, p2, p3] prim sil al) k =
   (k (rI 0) (rfL 0 [p0, p1, p2, p3] prim sil al)) := by kernel_rfl
theorem t_nr4_p : evCall cxRk (ev cxRk 60) 27 [.one (.ptr 0 0 0), .one (iv .i64 ((m + 4 : Nat) : Int))] (rfL 0 [p0, p1, p2, p3] prim sil al) k =
   (k (rI 0) (rfL 0 [p0, p1, p2, p3] prim sil al)) := by kernel_rfl
theorem t_cr4_0 : evCall cxRk (ev cxRk 60) 26 [.one (.ptr 0 0 0)] (rfL 0 [p0, p1, p2, p3] (0) sil al) k =
   (fun (K : Int → Prop) => (branch p0.a (K 0) (branch p1.a (K 1) (branch p2.a (K 2) (branch p3.a (K 3) (K 1)))))) (fun v => k (rI v) (rfL 0 [p0, p1, p2, p3] (0) sil al)) := by kernel_rfl
theorem t_cr4_1 : evCall cxRk (ev cxRk 60) 26 [.one (.ptr 0 0 0)] (rfL 0 [p0, p1, p2, p3] (1) sil al) k =
   (fun (K : Int → Prop) => (branch p1.a (K 1) (branch p2.a (K 2) (branch p3.a (K 3) (branch p0.a (K 0) (K 2)))))) (fun v => k (rI v) (rfL 0 [p0, p1, p2, p3] (1) sil al)) := by kernel_rfl
theorem t_cr4_2 : evCall cxRk (ev cxRk 60) 26 [.one (.ptr 0 0 0)] (rfL 0 [p0, p1, p2, p3] (2) sil al) k =
   (fun (K : Int → Prop) => (branch p2.a (K 2) (branch p3.a (K 3) (branch p0.a (K 0) (branch p1.a (K 1) (K 3)))))) (fun v => k (rI v) (rfL 0 [p0, p1, p2, p3] (2) sil al)) := by kernel_rfl
theorem t_cr4_3 : evCall cxRk (ev cxRk 60) 26 [.one (.ptr 0 0 0)] (rfL 0 [p0, p1, p2, p3] (3) sil al) k =
   (fun (K : Int → Prop) => (branch p3.a (K 3) (branch p0.a (K 0) (branch p1.a (K 1) (branch p2.a (K 2) (K 0)))))) (fun v => k (rI v) (rfL 0 [p0, p1, p2, p3] (3) sil al)) := by kernel_rfl
end
section
variable (p0 p1 p2 p3 p4 p5 : Pa) (prim sil al : Int) (m : Nat) (k : KT)
theorem t_mi6_0 : evCall cxRk (ev cxRk 60) 10 [.one (.ptr 0 0 0), .one (iv .i64 (0))] (rtL [p0, p1, p2, p3, p4, p5] prim sil al) k =
   (k (.tup [(.one (bv (Bool.not (p0.d == (decide (((addK .i64 p0.m (1)) > p0.tr))))))), (.one (bv (decide (((addK .i64 sil (1)) > al)))))]) (rtL [(paW p0 (addK .i64 p0.m (1)) (decide (((addK .i64 p0.m (1)) > p0.tr)))), p1, p2, p3, p4, p5] prim (addK .i64 sil (1)) al)) := by kernel_rfl
theorem t_mi6_1 : evCall cxRk (ev cxRk 60) 10 [.one (.ptr 0 0 0), .one (iv .i64 (1))] (rtL [p0, p1, p2, p3, p4, p5] prim sil al) k =
   (k (.tup [(.one (bv (Bool.not (p1.d == (decide (((addK .i64 p1.m (1)) > p1.tr))))))), (.one (bv (decide (((addK .i64 sil (1)) > al)))))]) (rtL [p0, (paW p1 (addK .i64 p1.m (1)) (decide (((addK .i64 p1.m (1)) > p1.tr)))), p2, p3, p4, p5] prim (addK .i64 sil (1)) al)) := by kernel_rfl
theorem t_mi6_2 : evCall cxRk (ev cxRk 60) 10 [.one (.ptr 0 0 0), .one (iv .i64 (2))] (rtL [p0, p1, p2, p3, p4, p5] prim sil al) k =
   (k (.tup [(.one (bv (Bool.not (p2.d == (decide (((addK .i64 p2.m (1)) > p2.tr))))))), (.one (bv (decide (((addK .i64 sil (1)) > al)))))]) (rtL [p0, p1, (paW p2 (addK .i64 p2.m (1)) (decide (((addK .i64 p2.m (1)) > p2.tr)))), p3, p4, p5] prim (addK .i64 sil (1)) al)) := by kernel_rfl
theorem t_mi6_3 : evCall cxRk (ev cxRk 60) 10 [.one (.ptr 0 0 0), .one (iv .i64 (3))] (rtL [p0, p1, p2, p3, p4, p5] prim sil al) k =
   (k (.tup [(.one (bv (Bool.not (p3.d == (decide (((addK .i64 p3.m (1)) > p3.tr))))))), (.one (bv (decide (((addK .i64 sil (1)) > al)))))]) (rtL [p0, p1, p2, (paW p3 (addK .i64 p3.m (1)) (decide (((addK .i64 p3.m (1)) > p3.tr)))), p4, p5] prim (addK .i64 sil (1)) al)) := by kernel_rfl
theorem t_mi6_4 : evCall cxRk (ev cxRk 60) 10 [.one (.ptr 0 0 0), .one (iv .i64 (4))] (rtL [p0, p1, p2, p3, p4, p5] prim sil al) k =
   (k (.tup [(.one (bv (Bool.not (p4.d == (decide (((addK .i64 p4.m (1)) > p4.tr))))))), (.one (bv (decide (((addK .i64 sil (1)) > al)))))]) (rtL [p0, p1, p2, p3, (paW p4 (addK .i64 p4.m (1)) (decide (((addK .i64 p4.m (1)) > p4.tr)))), p5] prim (addK .i64 sil (1)) al)) := by kernel_rfl
theorem t_mi6_5 : evCall cxRk (ev cxRk 60) 10 [.one (.ptr 0 0 0), .one (iv .i64 (5))] (rtL [p0, p1, p2, p3, p4, p5] prim sil al) k =
   (k (.tup [(.one (bv (Bool.not (p5.d == (decide (((addK .i64 p5.m (1)) > p5.tr))))))), (.one (bv (decide (((addK .i64 sil (1)) > al)))))]) (rtL [p0, p1, p2, p3, p4, (paW p5 (addK .i64 p5.m (1)) (decide (((addK .i64 p5.m (1)) > p5.tr))))] prim (addK .i64 sil (1)) al)) := by kernel_rfl
theorem t_mi6_n : evCall cxRk (ev cxRk 60) 10 [.one (.ptr 0 0 0), .one (iv .i64 (Int.negSucc m))] (rtL [p0, p1, p2, p3, p4, p5] prim sil al) k =
   (branch (decide (((Int.negSucc m) < (0)))) (k (.tup [(.one (bv false)), (.one (bv false))]) (rtL [p0, p1, p2, p3, p4, p5] prim sil al)) False) := by kernel_rfl
theorem t_mi6_p : evCall cxRk (ev cxRk 60) 10 [.one (.ptr 0 0 0), .one (iv .i64 ((m + 6 : Nat) : Int))] (rtL [p0, p1, p2, p3, p4, p5] prim sil al) k =
   (branch (decide (((((m + 6) : Nat) : Int) ≥ (6)))) (k (.tup [(.one (bv false)), (.one (bv false))]) (rtL [p0, p1, p2, p3, p4, p5] prim sil al)) False) := by kernel_rfl
theorem t_he6_0 : evCall cxRk (ev cxRk 60) 11 [.one (.ptr 0 0 0), .one (iv .i64 (0))] (rtL [p0, p1, p2, p3, p4, p5] prim sil al) k =
   (k (.sa (.one (bv (Bool.not (p0.d == false))))) (rtL [(paW p0 (0) false), p1, p2, p3, p4, p5] prim (0) al)) := by kernel_rfl
theorem t_he6_1 : evCall cxRk (ev cxRk 60) 11 [.one (.ptr 0 0 0), .one (iv .i64 (1))] (rtL [p0, p1, p2, p3, p4, p5] prim sil al) k =
   (k (.sa (.one (bv (Bool.not (p1.d == false))))) (rtL [p0, (paW p1 (0) false), p2, p3, p4, p5] prim (0) al)) := by kernel_rfl
theorem t_he6_2 : evCall cxRk (ev cxRk 60) 11 [.one (.ptr 0 0 0), .one (iv .i64 (2))] (rtL [p0, p1, p2, p3, p4, p5] prim sil al) k =
   (k (.sa (.one (bv (Bool.not (p2.d == false))))) (rtL [p0, p1, (paW p2 (0) false), p3, p4, p5] prim (0) al)) := by kernel_rfl
theorem t_he6_3 : evCall cxRk (ev cxRk 60) 11 [.one (.ptr 0 0 0), .one (iv .i64 (3))] (rtL [p0, p1, p2, p3, p4, p5] prim sil al) k =
   (k (.sa (.one (bv (Bool.not (p3.d == false))))) (rtL [p0, p1, p2, (paW p3 (0) false), p4, p5] prim (0) al)) := by kernel_rfl
theorem t_he6_4 : evCall cxRk (ev cxRk 60) 11 [.one (.ptr 0 0 0), .one (iv .i64 (4))] (rtL [p0, p1, p2, p3, p4, p5] prim sil al) k =
   (k (.sa (.one (bv (Bool.not (p4.d == false))))) (rtL [p0, p1, p2, p3, (paW p4 (0) false), p5] prim (0) al)) := by kernel_rfl
theorem t_he6_5 : evCall cxRk (ev cxRk 60) 11 [.one (.ptr 0 0 0), .one (iv .i64 (5))] (rtL [p0, p1, p2, p3, p4, p5] prim sil al) k =
   (k (.sa (.one (bv (Bool.not (p5.d == false))))) (rtL [p0, p1, p2, p3, p4, (paW p5 (0) false)] prim (0) al)) := by kernel_rfl
theorem t_he6_n : evCall cxRk (ev cxRk 60) 11 [.one (.ptr 0 0 0), .one (iv .i64 (Int.negSucc m))] (rtL [p0, p1, p2, p3, p4, p5] prim sil al) k =
   (branch (decide (((Int.negSucc m) < (0)))) (k (rB false) (rtL [p0, p1, p2, p3, p4, p5] prim sil al)) False) := by kernel_rfl
theorem t_he6_p : evCall cxRk (ev cxRk 60) 11 [.one (.ptr 0 0 0), .one (iv .i64 ((m + 6 : Nat) : Int))] (rtL [p0, p1, p2, p3, p4, p5] prim sil al) k =
   (branch (decide (((((m + 6) : Nat) : Int) ≥ (6)))) (k (rB false) (rtL [p0, p1, p2, p3, p4, p5] prim sil al)) False) := by kernel_rfl
theorem t_pr6_0 : evCall cxRk (ev cxRk 60) 21 [.one (.ptr 0 0 0), .one (iv .i64 (0))] (rtL [p0, p1, p2, p3, p4, p5] prim sil al) k =
   (k (rI 0) (rtL [p0, p1, p2, p3, p4, p5] (0) sil al)) := by kernel_rfl
theorem t_pr6_1 : evCall cxRk (ev cxRk 60) 21 [.one (.ptr 0 0 0), .one (iv .i64 (1))] (rtL [p0, p1, p2, p3, p4, p5] prim sil al) k =
   (k (rI 0) (rtL [p0, p1, p2, p3, p4, p5] (1) sil al)) := by kernel_rfl
theorem t_pr6_2 : evCall cxRk (ev cxRk 60) 21 [.one (.ptr 0 0 0), .one (iv .i64 (2))] (rtL [p0, p1, p2, p3, p4, p5] prim sil al) k =
   (k (rI 0) (rtL [p0, p1, p2, p3, p4, p5] (2) sil al)) := by kernel_rfl
theorem t_pr6_3 : evCall cxRk (ev cxRk 60) 21 [.one (.ptr 0 0 0), .one (iv .i64 (3))] (rtL [p0, p1, p2, p3, p4, p5] prim sil al) k =
   (k (rI 0) (rtL [p0, p1, p2, p3, p4, p5] (3) sil al)) := by kernel_rfl
theorem t_pr6_4 : evCall cxRk (ev cxRk 60) 21 [.one (.ptr 0 0 0), .one (iv .i64 (4))] (rtL [p0, p1, p2, p3, p4, p5] prim sil al) k =
   (k (rI 0) (rtL [p0, p1, p2, p3, p4, p5] (4) sil al)) := by kernel_rfl
theorem t_pr6_5 : evCall cxRk (ev cxRk 60) 21 [.one (.ptr 0 0 0), .one (iv .i64 (5))] (rtL [p0, p1, p2, p3, p4, p5] prim sil al) k =
   (k (rI 0) (rtL [p0, p1, p2, p3, p4, p5] (5) sil al)) := by kernel_rfl
theorem t_pr6_n : evCall cxRk (ev cxRk 60) 21 [.one (.ptr 0 0 0), .one (iv .i64 (Int.negSucc m))] (rtL [p0, p1, p2, p3, p4, p5] prim sil al) k =
   (branch (decide (((Int.negSucc m) < (0)))) (k (rI 4) (rtL [p0, p1, p2, p3, p4, p5] prim sil al)) False) := by kernel_rfl
theorem t_pr6_p : evCall cxRk (ev cxRk 60) 21 [.one (.ptr 0 0 0), .one (iv .i64 ((m + 6 : Nat) : Int))] (rtL [p0, p1, p2, p3, p4, p5] prim sil al) k =
   (branch (decide (((((m + 6) : Nat) : Int) ≥ (6)))) (k (rI 4) (rtL [p0, p1, p2, p3, p4, p5] prim sil al)) False) := by kernel_rfl
theorem t_nx6_0 : evCall cxRk (ev cxRk 60) 16 [.one (.ptr 0 0 0), .one (iv .i64 (0))] (rtL [p0, p1, p2, p3, p4, p5] prim sil al) k =
   (fun (K : Int → Prop) => (branch (Bool.not p1.d) (K 1) (branch (Bool.not p2.d) (K 2) (branch (Bool.not p3.d) (K 3) (branch (Bool.not p4.d) (K 4) (branch (Bool.not p5.d) (K 5) (K 1))))))) (fun v => k (rI v) (rtL [p0, p1, p2, p3, p4, p5] prim sil al)) := by kernel_rfl
theorem t_nx6_1 : evCall cxRk (ev cxRk 60) 16 [.one (.ptr 0 0 0), .one (iv .i64 (1))] (rtL [p0, p1, p2, p3, p4, p5] prim sil al) k =
   (fun (K : Int → Prop) => (branch (Bool.not p2.d) (K 2) (branch (Bool.not p3.d) (K 3) (branch (Bool.not p4.d) (K 4) (branch (Bool.not p5.d) (K 5) (branch (Bool.not p0.d) (K 0) (K 2))))))) (fun v => k (rI v) (rtL [p0, p1, p2, p3, p4, p5] prim sil al)) := by kernel_rfl
theorem t_nx6_2 : evCall cxRk (ev cxRk 60) 16 [.one (.ptr 0 0 0), .one (iv .i64 (2))] (rtL [p0, p1, p2, p3, p4, p5] prim sil al) k =
   (fun (K : Int → Prop) => (branch (Bool.not p3.d) (K 3) (branch (Bool.not p4.d) (K 4) (branch (Bool.not p5.d) (K 5) (branch (Bool.not p0.d) (K 0) (branch (Bool.not p1.d) (K 1) (K 3))))))) (fun v => k (rI v) (rtL [p0, p1, p2, p3, p4, p5] prim sil al)) := by kernel_rfl
theorem t_nx6_3 : evCall cxRk (ev cxRk 60) 16 [.one (.ptr 0 0 0), .one (iv .i64 (3))] (rtL [p0, p1, p2, p3, p4, p5] prim sil al) k =
   (fun (K : Int → Prop) => (branch (Bool.not p4.d) (K 4) (branch (Bool.not p5.d) (K 5) (branch (Bool.not p0.d) (K 0) (branch (Bool.not p1.d) (K 1) (branch (Bool.not p2.d) (K 2) (K 4))))))) (fun v => k (rI v) (rtL [p0, p1, p2, p3, p4, p5] prim sil al)) := by kernel_rfl
theorem t_nx6_4 : evCall cxRk (ev cxRk 60) 16 [.one (.ptr 0 0 0), .one (iv .i64 (4))] (rtL [p0, p1, p2, p3, p4, p5] prim sil al) k =
   (fun (K : Int → Prop) => (branch (Bool.not p5.d) (K 5) (branch (Bool.not p0.d) (K 0) (branch (Bool.not p1.d) (K 1) (branch (Bool.not p2.d) (K 2) (branch (Bool.not p3.d) (K 3) (K 5))))))) (fun v => k (rI v) (rtL [p0, p1, p2, p3, p4, p5] prim sil al)) := by kernel_rfl
theorem t_nx6_5 : evCall cxRk (ev cxRk 60) 16 [.one (.ptr 0 0 0), .one (iv .i64 (5))] (rtL [p0, p1, p2, p3, p4, p5] prim sil al) k =
   (fun (K : Int → Prop) => (branch (Bool.not p0.d) (K 0) (branch (Bool.not p1.d) (K 1) (branch (Bool.not p2.d) (K 2) (branch (Bool.not p3.d) (K 3) (branch (Bool.not p4.d) (K 4) (K 0))))))) (fun v => k (rI v) (rtL [p0, p1, p2, p3, p4, p5] prim sil al)) := by kernel_rfl
theorem t_nx6_n : evCall cxRk (ev cxRk 60) 16 [.one (.ptr 0 0 0), .one (iv .i64 (Int.negSucc m))] (rtL [p0, p1, p2, p3, p4, p5] prim sil al) k =
   (branch (decide (((Int.negSucc m) < (0)))) (k (rI 0) (rtL [p0, p1, p2, p3, p4, p5] prim sil al)) False) := by kernel_rfl
theorem t_nx6_p : evCall cxRk (ev cxRk 60) 16 [.one (.ptr 0 0 0), .one (iv .i64 ((m + 6 : Nat) : Int))] (rtL [p0, p1, p2, p3, p4, p5] prim sil al) k =
   (branch (decide (((((m + 6) : Nat) : Int) ≥ (6)))) (k (rI 0) (rtL [p0, p1, p2, p3, p4, p5] prim sil al)) False) := by kernel_rfl
theorem t_ch6_0 : evCall cxRk (ev cxRk 60) 18 [.one (.ptr 0 0 0)] (rtL [p0, p1, p2, p3, p4, p5] (0) sil al) k =
   (fun (K : Int → Prop) => (branch (Bool.not p0.d) (K 0) (branch (Bool.not p1.d) (K 1) (branch (Bool.not p2.d) (K 2) (branch (Bool.not p3.d) (K 3) (branch (Bool.not p4.d) (K 4) (branch (Bool.not p5.d) (K 5) (K 1)))))))) (fun v => k (rI v) (rtL [p0, p1, p2, p3, p4, p5] (0) sil al)) := by kernel_rfl
theorem t_ch6_1 : evCall cxRk (ev cxRk 60) 18 [.one (.ptr 0 0 0)] (rtL [p0, p1, p2, p3, p4, p5] (1) sil al) k =
   (fun (K : Int → Prop) => (branch (Bool.not p1.d) (K 1) (branch (Bool.not p2.d) (K 2) (branch (Bool.not p3.d) (K 3) (branch (Bool.not p4.d) (K 4) (branch (Bool.not p5.d) (K 5) (branch (Bool.not p0.d) (K 0) (K 2)))))))) (fun v => k (rI v) (rtL [p0, p1, p2, p3, p4, p5] (1) sil al)) := by kernel_rfl
theorem t_ch6_2 : evCall cxRk (ev cxRk 60) 18 [.one (.ptr 0 0 0)] (rtL [p0, p1, p2, p3, p4, p5] (2) sil al) k =
   (fun (K : Int → Prop) => (branch (Bool.not p2.d) (K 2) (branch (Bool.not p3.d) (K 3) (branch (Bool.not p4.d) (K 4) (branch (Bool.not p5.d) (K 5) (branch (Bool.not p0.d) (K 0) (branch (Bool.not p1.d) (K 1) (K 3)))))))) (fun v => k (rI v) (rtL [p0, p1, p2, p3, p4, p5] (2) sil al)) := by kernel_rfl
theorem t_ch6_3 : evCall cxRk (ev cxRk 60) 18 [.one (.ptr 0 0 0)] (rtL [p0, p1, p2, p3, p4, p5] (3) sil al) k =
   (fun (K : Int → Prop) => (branch (Bool.not p3.d) (K 3) (branch (Bool.not p4.d) (K 4) (branch (Bool.not p5.d) (K 5) (branch (Bool.not p0.d) (K 0) (branch (Bool.not p1.d) (K 1) (branch (Bool.not p2.d) (K 2) (K 4)))))))) (fun v => k (rI v) (rtL [p0, p1, p2, p3, p4, p5] (3) sil al)) := by kernel_rfl
theorem t_ch6_4 : evCall cxRk (ev cxRk 60) 18 [.one (.ptr 0 0 0)] (rtL [p0, p1, p2, p3, p4, p5] (4) sil al) k =
   (fun (K : Int → Prop) => (branch (Bool.not p4.d) (K 4) (branch (Bool.not p5.d) (K 5) (branch (Bool.not p0.d) (K 0) (branch (Bool.not p1.d) (K 1) (branch (Bool.not p2.d) (K 2) (branch (Bool.not p3.d) (K 3) (K 5)))))))) (fun v => k (rI v) (rtL [p0, p1, p2, p3, p4, p5] (4) sil al)) := by kernel_rfl
theorem t_ch6_5 : evCall cxRk (ev cxRk 60) 18 [.one (.ptr 0 0 0)] (rtL [p0, p1, p2, p3, p4, p5] (5) sil al) k =
   (fun (K : Int → Prop) => (branch (Bool.not p5.d) (K 5) (branch (Bool.not p0.d) (K 0) (branch (Bool.not p1.d) (K 1) (branch (Bool.not p2.d) (K 2) (branch (Bool.not p3.d) (K 3) (branch (Bool.not p4.d) (K 4) (K 0)))))))) (fun v => k (rI v) (rtL [p0, p1, p2, p3, p4, p5] (5) sil al)) := by kernel_rfl
end
section
variable (p0 p1 p2 p3 p4 p5 : Ra) (prim sil al : Int) (m : Nat) (k : KT)
theorem t_mr6_0 : evCall cxRk (ev cxRk 60) 39 [.one (.ptr 0 0 0), .one (iv .i64 (0))] (rfL 0 [p0, p1, p2, p3, p4, p5] prim sil al) k =
   (branch (decide (((addK .i64 p0.m (1)) > p0.tr))) (k (.tup [(.one (bv (Bool.not (p0.a == false)))), (.one (bv (decide (((addK .i64 sil (1)) > al)))))]) (rfL 0 [(raW p0 (addK .i64 p0.m (1)) false), p1, p2, p3, p4, p5] prim (addK .i64 sil (1)) al)) (k (.tup [(.one (bv (Bool.not (p0.a == p0.a)))), (.one (bv (decide (((addK .i64 sil (1)) > al)))))]) (rfL 0 [(raW p0 (addK .i64 p0.m (1)) p0.a), p1, p2, p3, p4, p5] prim (addK .i64 sil (1)) al))) := by kernel_rfl
theorem t_mr6_1 : evCall cxRk (ev cxRk 60) 39 [.one (.ptr 0 0 0), .one (iv .i64 (1))] (rfL 0 [p0, p1, p2, p3, p4, p5] prim sil al) k =
   (branch (decide (((addK .i64 p1.m (1)) > p1.tr))) (k (.tup [(.one (bv (Bool.not (p1.a == false)))), (.one (bv (decide (((addK .i64 sil (1)) > al)))))]) (rfL 0 [p0, (raW p1 (addK .i64 p1.m (1)) false), p2, p3, p4, p5] prim (addK .i64 sil (1)) al)) (k (.tup [(.one (bv (Bool.not (p1.a == p1.a)))), (.one (bv (decide (((addK .i64 sil (1)) > al)))))]) (rfL 0 [p0, (raW p1 (addK .i64 p1.m (1)) p1.a), p2, p3, p4, p5] prim (addK .i64 sil (1)) al))) := by kernel_rfl
theorem t_mr6_2 : evCall cxRk (ev cxRk 60) 39 [.one (.ptr 0 0 0), .one (iv .i64 (2))] (rfL 0 [p0, p1, p2, p3, p4, p5] prim sil al) k =
   (branch (decide (((addK .i64 p2.m (1)) > p2.tr))) (k (.tup [(.one (bv (Bool.not (p2.a == false)))), (.one (bv (decide (((addK .i64 sil (1)) > al)))))]) (rfL 0 [p0, p1, (raW p2 (addK .i64 p2.m (1)) false), p3, p4, p5] prim (addK .i64 sil (1)) al)) (k (.tup [(.one (bv (Bool.not (p2.a == p2.a)))), (.one (bv (decide (((addK .i64 sil (1)) > al)))))]) (rfL 0 [p0, p1, (raW p2 (addK .i64 p2.m (1)) p2.a), p3, p4, p5] prim (addK .i64 sil (1)) al))) := by kernel_rfl
theorem t_mr6_3 : evCall cxRk (ev cxRk 60) 39 [.one (.ptr 0 0 0), .one (iv .i64 (3))] (rfL 0 [p0, p1, p2, p3, p4, p5] prim sil al) k =
   (branch (decide (((addK .i64 p3.m (1)) > p3.tr))) (k (.tup [(.one (bv (Bool.not (p3.a == false)))), (.one (bv (decide (((addK .i64 sil (1)) > al)))))]) (rfL 0 [p0, p1, p2, (raW p3 (addK .i64 p3.m (1)) false), p4, p5] prim (addK .i64 sil (1)) al)) (k (.tup [(.one (bv (Bool.not (p3.a == p3.a)))), (.one (bv (decide (((addK .i64 sil (1)) > al)))))]) (rfL 0 [p0, p1, p2, (raW p3 (addK .i64 p3.m (1)) p3.a), p4, p5] prim (addK .i64 sil (1)) al))) := by kernel_rfl
theorem t_mr6_4 : evCall cxRk (ev cxRk 60) 39 [.one (.ptr 0 0 0), .one (iv .i64 (4))] (rfL 0 [p0, p1, p2, p3, p4, p5] prim sil al) k =
   (branch (decide (((addK .i64 p4.m (1)) > p4.tr))) (k (.tup [(.one (bv (Bool.not (p4.a == false)))), (.one (bv (decide (((addK .i64 sil (1)) > al)))))]) (rfL 0 [p0, p1, p2, p3, (raW p4 (addK .i64 p4.m (1)) false), p5] prim (addK .i64 sil (1)) al)) (k (.tup [(.one (bv (Bool.not (p4.a == p4.a)))), (.one (bv (decide (((addK .i64 sil (1)) > al)))))]) (rfL 0 [p0, p1, p2, p3, (raW p4 (addK .i64 p4.m (1)) p4.a), p5] prim (addK .i64 sil (1)) al))) := by kernel_rfl
theorem t_mr6_5 : evCall cxRk (ev cxRk 60) 39 [.one (.ptr 0 0 0), .one (iv .i64 (5))] (rfL 0 [p0, p1, p2, p3, p4, p5] prim sil al) k =
   (branch (decide (((addK .i64 p5.m (1)) > p5.tr))) (k (.tup [(.one (bv (Bool.not (p5.a == false)))), (.one (bv (decide (((addK .i64 sil (1)) > al)))))]) (rfL 0 [p0, p1, p2, p3, p4, (raW p5 (addK .i64 p5.m (1)) false)] prim (addK .i64 sil (1)) al)) (k (.tup [(.one (bv (Bool.not (p5.a == p5.a)))), (.one (bv (decide (((addK .i64 sil (1)) > al)))))]) (rfL 0 [p0, p1, p2, p3, p4, (raW p5 (addK .i64 p5.m (1)) p5.a)] prim (addK .i64 sil (1)) al))) := by kernel_rfl
theorem t_mr6_n : evCall cxRk (ev cxRk 60) 39 [.one (.ptr 0 0 0), .one (iv .i64 (Int.negSucc m))] (rfL 0 [p0, p1, p2, p3, p4, p5] prim sil al) k =
   (k (.tup [(.one (bv false)), (.one (bv false))]) (rfL 0 [p0, p1, p2, p3, p4, p5] prim sil al)) := by kernel_rfl
theorem t_mr6_p : evCall cxRk (ev cxRk 60) 39 [.one (.ptr 0 0 0), .one (iv .i64 ((m + 6 : Nat) : Int))] (rfL 0 [p0, p1, p2, p3, p4, p5] prim sil al) k =
   (k (.tup [(.one (bv false)), (.one (bv false))]) (rfL 0 [p0, p1, p2, p3, p4, p5] prim sil al)) := by kernel_rfl
theorem t_hr6_0 : evCall cxRk (ev cxRk 60) 40 [.one (.ptr 0 0 0), .one (iv .i64 (0))] (rfL 0 [p0, p1, p2, p3, p4, p5] prim sil al) k =
   (k (.sa (.one (bv (Bool.not p0.a)))) (rfL 0 [(raW p0 (0) true), p1, p2, p3, p4, p5] prim (0) al)) := by kernel_rfl
theorem t_hr6_1 : evCall cxRk (ev cxRk 60) 40 [.one (.ptr 0 0 0), .one (iv .i64 (1))] (rfL 0 [p0, p1, p2, p3, p4, p5] prim sil al) k =
   (k (.sa (.one (bv (Bool.not p1.a)))) (rfL 0 [p0, (raW p1 (0) true), p2, p3, p4, p5] prim (0) al)) := by kernel_rfl
theorem t_hr6_2 : evCall cxRk (ev cxRk 60) 40 [.one (.ptr 0 0 0), .one (iv .i64 (2))] (rfL 0 [p0, p1, p2, p3, p4, p5] prim sil al) k =
   (k (.sa (.one (bv (Bool.not p2.a)))) (rfL 0 [p0, p1, (raW p2 (0) true), p3, p4, p5] prim (0) al)) := by kernel_rfl
theorem t_hr6_3 : evCall cxRk (ev cxRk 60) 40 [.one (.ptr 0 0 0), .one (iv .i64 (3))] (rfL 0 [p0, p1, p2, p3, p4, p5] prim sil al) k =
   (k (.sa (.one (bv (Bool.not p3.a)))) (rfL 0 [p0, p1, p2, (raW p3 (0) true), p4, p5] prim (0) al)) := by kernel_rfl
theorem t_hr6_4 : evCall cxRk (ev cxRk 60) 40 [.one (.ptr 0 0 0), .one (iv .i64 (4))] (rfL 0 [p0, p1, p2, p3, p4, p5] prim sil al) k =
   (k (.sa (.one (bv (Bool.not p4.a)))) (rfL 0 [p0, p1, p2, p3, (raW p4 (0) true), p5] prim (0) al)) := by kernel_rfl
theorem t_hr6_5 : evCall cxRk (ev cxRk 60) 40 [.one (.ptr 0 0 0), .one (iv .i64 (5))] (rfL 0 [p0, p1, p2, p3, p4, p5] prim sil al) k =
   (k (.sa (.one (bv (Bool.not p5.a)))) (rfL 0 [p0, p1, p2, p3, p4, (raW p5 (0) true)] prim (0) al)) := by kernel_rfl
theorem t_hr6_n : evCall cxRk (ev cxRk 60) 40 [.one (.ptr 0 0 0), .one (iv .i64 (Int.negSucc m))] (rfL 0 [p0, p1, p2, p3, p4, p5] prim sil al) k =
   (k (rB false) (rfL 0 [p0, p1, p2, p3, p4, p5] prim sil al)) := by kernel_rfl
theorem t_hr6_p : evCall cxRk (ev cxRk 60) 40 [.one (.ptr 0 0 0), .one (iv .i64 ((m + 6 : Nat) : Int))] (rfL 0 [p0, p1, p2, p3, p4, p5] prim sil al) k =
   (k (rB false) (rfL 0 [p0, p1, p2, p3, p4, p5] prim sil al)) := by kernel_rfl
theorem t_nr6_0 : evCall cxRk (ev cxRk 60) 27 [.one (.ptr 0 0 0), .one (iv .i64 (0))] (rfL 0 [p0, p1, p2, p3, p4, p5] prim sil al) k =
   (fun (K : Int → Prop) => (branch p1.a (K 1) (branch p2.a (K 2) (branch p3.a (K 3) (branch p4.a (K 4) (branch p5.a (K 5) (K 1))))))) (fun v => k (rI v) (rfL 0 [p0, p1, p2, p3, p4, p5] prim sil al)) := by kernel_rfl
theorem t_nr6_1 : evCall cxRk (ev cxRk 60) 27 [.one (.ptr 0 0 0), .one (iv .i64 (1))] (rfL 0 [p0, p1, p2, p3, p4, p5] prim sil al) k =
   (fun (K : Int → Prop) => (branch p2.a (K 2) (branch p3.a (K 3) (branch p4.a (K 4) (branch p5.a (K 5) (branch p0.a (K 0) (K 2))))))) (fun v => k (rI v) (rfL 0 [p0, p1, p2, p3, p4, p5] prim sil al)) := by kernel_rfl
theorem t_nr6_2 : evCall cxRk (ev cxRk 60) 27 [.one (.ptr 0 0 0), .one (iv .i64 (2))] (rfL 0 [p0, p1, p2, p3, p4, p5] prim sil al) k =
   (fun (K : Int → Prop) => (branch p3.a (K 3) (branch p4.a (K 4) (branch p5.a (K 5) (branch p0.a (K 0) (branch p1.a (K 1) (K 3))))))) (fun v => k (rI v) (rfL 0 [p0, p1, p2, p3, p4, p5] prim sil al)) := by kernel_rfl
theorem t_nr6_3 : evCall cxRk (ev cxRk 60) 27 [.one (.ptr 0 0 0), .one (iv .i64 (3))] (rfL 0 [p0, p1, p2, p3, p4, p5] prim sil al) k =
   (fun (K : Int → Prop) => (branch p4.a (K 4) (branch p5.a (K 5) (branch p0.a (K 0) (branch p1.a (K 1) (branch p2.a (K 2) (K 4))))))) (fun v => k (rI v) (rfL 0 [p0, p1, p2, p3, p4, p5] prim sil al)) := by kernel_rfl
theorem t_nr6_4 : evCall cxRk (ev cxRk 60) 27 [.one (.ptr 0 0 0), .one (iv .i64 (4))] (rfL 0 [p0, p1, p2, p3, p4, p5] prim sil al) k =
   (fun (K : Int → Prop) => (branch p5.a (K 5) (branch p0.a (K 0) (branch p1.a (K 1) (branch p2.a (K 2) (branch p3.a (K 3) (K 5))))))) (fun v => k (rI v) (rfL 0 [p0, p1, p2, p3, p4, p5] prim sil al)) := by kernel_rfl
theorem t_nr6_5 : evCall cxRk (ev cxRk 60) 27 [.one (.ptr 0 0 0), .one (iv .i64 (5))] (rfL 0 [p0, p1, p2, p3, p4, p5] prim sil al) k =
   (fun (K : Int → Prop) => (branch p0.a (K 0) (branch p1.a (K 1) (branch p2.a (K 2) (branch p3.a (K 3) (branch p4.a (K 4) (K 0))))))) (fun v => k (rI v) (rfL 0 [p0, p1, p2, p3, p4, p5] prim sil al)) := by kernel_rfl
theorem t_nr6_n : evCall cxRk (ev cxRk 60) 27 [.one (.ptr 0 0 0), .one (iv .i64 (Int.negSucc m))] (rfL 0 [p0, p1, p2, p3, p4, p5] prim sil al) k =
   (k (rI 0) (rfL 0 [p0, p1, p2, p3, p4, p5] prim sil al)) := by kernel_rfl
theorem t_nr6_p : evCall cxRk (ev cxRk 60) 27 [.one (.ptr 0 0 0), .one (iv .i64 ((m + 6 : Nat) : Int))] (rfL 0 [p0, p1, p2, p3, p4, p5] prim sil al) k =
   (k (rI 0) (rfL 0 [p0, p1, p2, p3, p4, p5] prim sil al)) := by kernel_rfl
theorem t_cr6_0 : evCall cxRk (ev cxRk 60) 26 [.one (.ptr 0 0 0)] (rfL 0 [p0, p1, p2, p3, p4, p5] (0) sil al) k =
   (fun (K : Int → Prop) => (branch p0.a (K 0) (branch p1.a (K 1) (branch p2.a (K 2) (branch p3.a (K 3) (branch p4.a (K 4) (branch p5.a (K 5) (K 1)))))))) (fun v => k (rI v) (rfL 0 [p0, p1, p2, p3, p4, p5] (0) sil al)) := by kernel_rfl
theorem t_cr6_1 : evCall cxRk (ev cxRk 60) 26 [.one (.ptr 0 0 0)] (rfL 0 [p0, p1, p2, p3, p4, p5] (1) sil al) k =
   (fun (K : Int → Prop) => (branch p1.a (K 1) (branch p2.a (K 2) (branch p3.a (K 3) (branch p4.a (K 4) (branch p5.a (K 5) (branch p0.a (K 0) (K 2)))))))) (fun v => k (rI v) (rfL 0 [p0, p1, p2, p3, p4, p5] (1) sil al)) := by kernel_rfl
theorem t_cr6_2 : evCall cxRk (ev cxRk 60) 26 [.one (.ptr 0 0 0)] (rfL 0 [p0, p1, p2, p3, p4, p5] (2) sil al) k =
   (fun (K : Int → Prop) => (branch p2.a (K 2) (branch p3.a (K 3) (branch p4.a (K 4) (branch p5.a (K 5) (branch p0.a (K 0) (branch p1.a (K 1) (K 3)))))))) (fun v => k (rI v) (rfL 0 [p0, p1, p2, p3, p4, p5] (2) sil al)) := by kernel_rfl
theorem t_cr6_3 : evCall cxRk (ev cxRk 60) 26 [.one (.ptr 0 0 0)] (rfL 0 [p0, p1, p2, p3, p4, p5] (3) sil al) k =
   (fun (K : Int → Prop) => (branch p3.a (K 3) (branch p4.a (K 4) (branch p5.a (K 5) (branch p0.a (K 0) (branch p1.a (K 1) (branch p2.a (K 2) (K 4)))))))) (fun v => k (rI v) (rfL 0 [p0, p1, p2, p3, p4, p5] (3) sil al)) := by kernel_rfl
theorem t_cr6_4 : evCall cxRk (ev cxRk 60) 26 [.one (.ptr 0 0 0)] (rfL 0 [p0, p1, p2, p3, p4, p5] (4) sil al) k =
   (fun (K : Int → Prop) => (branch p4.a (K 4) (branch p5.a (K 5) (branch p0.a (K 0) (branch p1.a (K 1) (branch p2.a (K 2) (branch p3.a (K 3) (K 5)))))))) (fun v => k (rI v) (rfL 0 [p0, p1, p2, p3, p4, p5] (4) sil al)) := by kernel_rfl
theorem t_cr6_5 : evCall cxRk (ev cxRk 60) 26 [.one (.ptr 0 0 0)] (rfL 0 [p0, p1, p2, p3, p4, p5] (5) sil al) k =
   (fun (K : Int → Prop) => (branch p5.a (K 5) (branch p0.a (K 0) (branch p1.a (K 1) (branch p2.a (K 2) (branch p3.a (K 3) (branch p4.a (K 4) (K 0)))))))) (fun v => k (rI v) (rfL 0 [p0, p1, p2, p3, p4, p5] (5) sil al)) := by kernel_rfl
end
section
variable (p0 p1 p2 p3 p4 p5 p6 p7 p8 : Pa) (prim sil al : Int) (m : Nat) (k : KT)
theorem t_mi9_0 : evCall cxRk (ev cxRk 60) 10 [.one (.ptr 0 0 0), .one (iv .i64 (0))] (rtL [p0, p1, p2, p3, p4, p5, p6, p7, p8] prim sil al) k =
   (k (.tup [(.one (bv (Bool.not (p0.d == (decide (((addK .i64 p0.m (1)) > p0.tr))))))), (.one (bv (decide (((addK .i64 sil (1)) > al)))))]) (rtL [(paW p0 (addK .i64 p0.m (1)) (decide (((addK .i64 p0.m (1)) > p0.tr)))), p1, p2, p3, p4, p5, p6, p7, p8] prim (addK .i64 sil (1)) al)) := by kernel_rfl
theorem t_mi9_1 : evCall cxRk (ev cxRk 60) 10 [.one (.ptr 0 0 0), .one (iv .i64 (1))] (rtL [p0, p1, p2, p3, p4, p5, p6, p7, p8] prim sil al) k =
   (k (.tup [(.one (bv (Bool.not (p1.d == (decide (((addK .i64 p1.m (1)) > p1.tr))))))), (.one (bv (decide (((addK .i64 sil (1)) > al)))))]) (rtL [p0, (paW p1 (addK .i64 p1.m (1)) (decide (((addK .i64 p1.m (1)) > p1.tr)))), p2, p3, p4, p5, p6, p7, p8] prim (addK .i64 sil (1)) al)) := by kernel_rfl
theorem t_mi9_2 : evCall cxRk (ev cxRk 60) 10 [.one (.ptr 0 0 0), .one (iv .i64 (2))] (rtL [p0, p1, p2, p3, p4, p5, p6, p7, p8] prim sil al) k =
   (k (.tup [(.one (bv (Bool.not (p2.d == (decide (((addK .i64 p2.m (1)) > p2.tr))))))), (.one (bv (decide (((addK .i64 sil (1)) > al)))))]) (rtL [p0, p1, (paW p2 (addK .i64 p2.m (1)) (decide (((addK .i64 p2.m (1)) > p2.tr)))), p3, p4, p5, p6, p7, p8] prim (addK .i64 sil (1)) al)) := by kernel_rfl
theorem t_mi9_3 : evCall cxRk (ev cxRk 60) 10 [.one (.ptr 0 0 0), .one (iv .i64 (3))] (rtL [p0, p1, p2, p3, p4, p5, p6, p7, p8] prim sil al) k =
   (k (.tup [(.one (bv (Bool.not (p3.d == (decide (((addK .i64 p3.m (1)) > p3.tr))))))), (.one (bv (decide (((addK .i64 sil (1)) > al)))))]) (rtL [p0, p1, p2, (paW p3 (addK .i64 p3.m (1)) (decide (((addK .i64 p3.m (1)) > p3.tr)))), p4, p5, p6, p7, p8] prim (addK .i64 sil (1)) al)) := by kernel_rfl
theorem t_mi9_4 : evCall cxRk (ev cxRk 60) 10 [.one (.ptr 0 0 0), .one (iv .i64 (4))] (rtL [p0, p1, p2, p3, p4, p5, p6, p7, p8] prim sil al) k =
   (k (.tup [(.one (bv (Bool.not (p4.d == (decide (((addK .i64 p4.m (1)) > p4.tr))))))), (.one (bv (decide (((addK .i64 sil (1)) > al)))))]) (rtL [p0, p1, p2, p3, (paW p4 (addK .i64 p4.m (1)) (decide (((addK .i64 p4.m (1)) > p4.tr)))), p5, p6, p7, p8] prim (addK .i64 sil (1)) al)) := by kernel_rfl
theorem t_mi9_5 : evCall cxRk (ev cxRk 60) 10 [.one (.ptr 0 0 0), .one (iv .i64 (5))] (rtL [p0, p1, p2, p3, p4, p5, p6, p7, p8] prim sil al) k =
   (k (.tup [(.one (bv (Bool.not (p5.d == (decide (((addK .i64 p5.m (1)) > p5.tr))))))), (.one (bv (decide (((addK .i64 sil (1)) > al)))))]) (rtL [p0, p1, p2, p3, p4, (paW p5 (addK .i64 p5.m (1)) (decide (((addK .i64 p5.m (1)) > p5.tr)))), p6, p7, p8] prim (addK .i64 sil (1)) al)) := by kernel_rfl
theorem t_mi9_6 : evCall cxRk (ev cxRk 60) 10 [.one (.ptr 0 0 0), .one (iv .i64 (6))] (rtL [p0, p1, p2, p3, p4, p5, p6, p7, p8] prim sil al) k =
   (k (.tup [(.one (bv (Bool.not (p6.d == (decide (((addK .i64 p6.m (1)) > p6.tr))))))), (.one (bv (decide (((addK .i64 sil (1)) > al)))))]) (rtL [p0, p1, p2, p3, p4, p5, (paW p6 (addK .i64 p6.m (1)) (decide (((addK .i64 p6.m (1)) > p6.tr)))), p7, p8] prim (addK .i64 sil (1)) al)) := by kernel_rfl
theorem t_mi9_7 : evCall cxRk (ev cxRk 60) 10 [.one (.ptr 0 0 0), .one (iv .i64 (7))] (rtL [p0, p1, p2, p3, p4, p5, p6, p7, p8] prim sil al) k =
   (k (.tup [(.one (bv (Bool.not (p7.d == (decide (((addK .i64 p7.m (1)) > p7.tr))))))), (.one (bv (decide (((addK .i64 sil (1)) > al)))))]) (rtL [p0, p1, p2, p3, p4, p5, p6, (paW p7 (addK .i64 p7.m (1)) (decide (((addK .i64 p7.m (1)) > p7.tr)))), p8] prim (addK .i64 sil (1)) al)) := by kernel_rfl
theorem t_mi9_8 : evCall cxRk (ev cxRk 60) 10 [.one (.ptr 0 0 0), .one (iv .i64 (8))] (rtL [p0, p1, p2, p3, p4, p5, p6, p7, p8] prim sil al) k =
   (k (.tup [(.one (bv (Bool.not (p8.d == (decide (((addK .i64 p8.m (1)) > p8.tr))))))), (.one (bv (decide (((addK .i64 sil (1)) > al)))))]) (rtL [p0, p1, p2, p3, p4, p5, p6, p7, (paW p8 (addK .i64 p8.m (1)) (decide (((addK .i64 p8.m (1)) > p8.tr))))] prim (addK .i64 sil (1)) al)) := by kernel_rfl
theorem t_mi9_n : evCall cxRk (ev cxRk 60) 10 [.one (.ptr 0 0 0), .one (iv .i64 (Int.negSucc m))] (rtL [p0, p1, p2, p3, p4, p5, p6, p7, p8] prim sil al) k =
   (branch (decide (((Int.negSucc m) < (0)))) (k (.tup [(.one (bv false)), (.one (bv false))]) (rtL [p0, p1, p2, p3, p4, p5, p6, p7, p8] prim sil al)) False) := by kernel_rfl
theorem t_mi9_p : evCall cxRk (ev cxRk 60) 10 [.one (.ptr 0 0 0), .one (iv .i64 ((m + 9 : Nat) : Int))] (rtL [p0, p1, p2, p3, p4, p5, p6, p7, p8] prim sil al) k =
   (branch (decide (((((m + 9) : Nat) : Int) ≥ (9)))) (k (.tup [(.one (bv false)), (.one (bv false))]) (rtL [p0, p1, p2, p3, p4, p5, p6, p7, p8] prim sil al)) False) := by kernel_rfl
theorem t_he9_0 : evCall cxRk (ev cxRk 60) 11 [.one (.ptr 0 0 0), .one (iv .i64 (0))] (rtL [p0, p1, p2, p3, p4, p5, p6, p7, p8] prim sil al) k =
   (k (.sa (.one (bv (Bool.not (p0.d == false))))) (rtL [(paW p0 (0) false), p1, p2, p3, p4, p5, p6, p7, p8] prim (0) al)) := by kernel_rfl
theorem t_he9_1 : evCall cxRk (ev cxRk 60) 11 [.one (.ptr 0 0 0), .one (iv .i64 (1))] (rtL [p0, p1, p2, p3, p4, p5, p6, p7, p8] prim sil al) k =
   (k (.sa (.one (bv (Bool.not (p1.d == false))))) (rtL [p0, (paW p1 (0) false), p2, p3, p4, p5, p6, p7, p8] prim (0) al)) := by kernel_rfl
theorem t_he9_2 : evCall cxRk (ev cxRk 60) 11 [.one (.ptr 0 0 0), .one (iv .i64 (2))] (rtL [p0, p1, p2, p3, p4, p5, p6, p7, p8] prim sil al) k =
   (k (.sa (.one (bv (Bool.not (p2.d == false))))) (rtL [p0, p1, (paW p2 (0) false), p3, p4, p5, p6, p7, p8] prim (0) al)) := by kernel_rfl
theorem t_he9_3 : evCall cxRk (ev cxRk 60) 11 [.one (.ptr 0 0 0), .one (iv .i64 (3))] (rtL [p0, p1, p2, p3, p4, p5, p6, p7, p8] prim sil al) k =
   (k (.sa (.one (bv (Bool.not (p3.d == false))))) (rtL [p0, p1, p2, (paW p3 (0) false), p4, p5, p6, p7, p8] prim (0) al)) := by kernel_rfl
theorem t_he9_4 : evCall cxRk (ev cxRk 60) 11 [.one (.ptr 0 0 0), .one (iv .i64 (4))] (rtL [p0, p1, p2, p3, p4, p5, p6, p7, p8] prim sil al) k =
   (k (.sa (.one (bv (Bool.not (p4.d == false))))) (rtL [p0, p1, p2, p3, (paW p4 (0) false), p5, p6, p7, p8] prim (0) al)) := by kernel_rfl
theorem t_he9_5 : evCall cxRk (ev cxRk 60) 11 [.one (.ptr 0 0 0), .one (iv .i64 (5))] (rtL [p0, p1, p2, p3, p4, p5, p6, p7, p8] prim sil al) k =
   (k (.sa (.one (bv (Bool.not (p5.d == false))))) (rtL [p0, p1, p2, p3, p4, (paW p5 (0) false), p6, p7, p8] prim (0) al)) := by kernel_rfl
theorem t_he9_6 : evCall cxRk (ev cxRk 60) 11 [.one (.ptr 0 0 0), .one (iv .i64 (6))] (rtL [p0, p1, p2, p3, p4, p5, p6, p7, p8] prim sil al) k =
   (k (.sa (.one (bv (Bool.not (p6.d == false))))) (rtL [p0, p1, p2, p3, p4, p5, (paW p6 (0) false), p7, p8] prim (0) al)) := by kernel_rfl
theorem t_he9_7 : evCall cxRk (ev cxRk 60) 11 [.one (.ptr 0 0 0), .one (iv .i64 (7))] (rtL [p0, p1, p2, p3, p4, p5, p6, p7, p8] prim sil al) k =
   (k (.sa (.one (bv (Bool.not (p7.d == false))))) (rtL [p0, p1, p2, p3, p4, p5, p6, (paW p7 (0) false), p8] prim (0) al)) := by kernel_rfl
theorem t_he9_8 : evCall cxRk (ev cxRk 60) 11 [.one (.ptr 0 0 0), .one (iv .i64 (8))] (rtL [p0, p1, p2, p3, p4, p5, p6, p7, p8] prim sil al) k =
   (k (.sa (.one (bv (Bool.not (p8.d == false))))) (rtL [p0, p1, p2, p3, p4, p5, p6, p7, (paW p8 (0) false)] prim (0) al)) := by kernel_rfl
theorem t_he9_n : evCall cxRk (ev cxRk 60) 11 [.one (.ptr 0 0 0), .one (iv .i64 (Int.negSucc m))] (rtL [p0, p1, p2, p3, p4, p5, p6, p7, p8] prim sil al) k =
   (branch (decide (((Int.negSucc m) < (0)))) (k (rB false) (rtL [p0, p1, p2, p3, p4, p5, p6, p7, p8] prim sil al)) False) := by kernel_rfl
theorem t_he9_p : evCall cxRk (ev cxRk 60) 11 [.one (.ptr 0 0 0), .one (iv .i64 ((m + 9 : Nat) : Int))] (rtL [p0, p1, p2, p3, p4, p5, p6, p7, p8] prim sil al) k =
   (branch (decide (((((m + 9) : Nat) : Int) ≥ (9)))) (k (rB false) (rtL [p0, p1, p2, p3, p4, p5, p6, p7, p8] prim sil al)) False) := by kernel_rfl
theorem t_pr9_0 : evCall cxRk (ev cxRk 60) 21 [.one (.ptr 0 0 0), .one (iv .i64 (0))] (rtL [p0, p1, p2, p3, p4, p5, p6, p7, p8] prim sil al) k =
   (k (rI 0) (rtL [p0, p1, p2, p3, p4, p5, p6, p7, p8] (0) sil al)) := by kernel_rfl
theorem t_pr9_1 : evCall cxRk (ev cxRk 60) 21 [.one (.ptr 0 0 0), .one (iv .i64 (1))] (rtL [p0, p1, p2, p3, p4, p5, p6, p7, p8] prim sil al) k =
   (k (rI 0) (rtL [p0, p1, p2, p3, p4, p5, p6, p7, p8] (1) sil al)) := by kernel_rfl
theorem t_pr9_2 : evCall cxRk (ev cxRk 60) 21 [.one (.ptr 0 0 0), .one (iv .i64 (2))] (rtL [p0, p1, p2, p3, p4, p5, p6, p7, p8] prim sil al) k =
   (k (rI 0) (rtL [p0, p1, p2, p3, p4, p5, p6, p7, p8] (2) sil al)) := by kernel_rfl
theorem t_pr9_3 : evCall cxRk (ev cxRk 60) 21 [.one (.ptr 0 0 0), .one (iv .i64 (3))] (rtL [p0, p1, p2, p3, p4, p5, p6, p7, p8] prim sil al) k =
   (k (rI 0) (rtL [p0, p1, p2, p3, p4, p5, p6, p7, p8] (3) sil al)) := by kernel_rfl
theorem t_pr9_4 : evCall cxRk (ev cxRk 60) 21 [.one (.ptr 0 0 0), .one (iv .i64 (4))] (rtL [p0, p1, p2, p3, p4, p5, p6, p7, p8] prim sil al) k =
   (k (rI 0) (rtL [p0, p1, p2, p3, p4, p5, p6, p7, p8] (4) sil al)) := by kernel_rfl
theorem t_pr9_5 : evCall cxRk (ev cxRk 60) 21 [.one (.ptr 0 0 0), .one (iv .i64 (5))] (rtL [p0, p1, p2, p3, p4, p5, p6, p7, p8] prim sil al) k =
   (k (rI 0) (rtL [p0, p1, p2, p3, p4, p5, p6, p7, p8] (5) sil al)) := by kernel_rfl
theorem t_pr9_6 : evCall cxRk (ev cxRk 60) 21 [.one (.ptr 0 0 0), .one (iv .i64 (6))] (rtL [p0, p1, p2, p3, p4, p5, p6, p7, p8] prim sil al) k =
   (k (rI 0) (rtL [p0, p1, p2, p3, p4, p5, p6, p7, p8] (6) sil al)) := by kernel_rfl
theorem t_pr9_7 : evCall cxRk (ev cxRk 60) 21 [.one (.ptr 0 0 0), .one (iv .i64 (7))] (rtL [p0, p1, p2, p3, p4, p5, p6, p7, p8] prim sil al) k =
   (k (rI 0) (rtL [p0, p1, p2, p3, p4, p5, p6, p7, p8] (7) sil al)) := by kernel_rfl
theorem t_pr9_8 : evCall cxRk (ev cxRk 60) 21 [.one (.ptr 0 0 0), .one (iv .i64 (8))] (rtL [p0, p1, p2, p3, p4, p5, p6, p7, p8] prim sil al) k =
   (k (rI 0) (rtL [p0, p1, p2, p3, p4, p5, p6, p7, p8] (8) sil al)) := by kernel_rfl
theorem t_pr9_n : evCall cxRk (ev cxRk 60) 21 [.one (.ptr 0 0 0), .one (iv .i64 (Int.negSucc m))] (rtL [p0, p1, p2, p3, p4, p5, p6, p7, p8] prim sil al) k =
   (branch (decide (((Int.negSucc m) < (0)))) (k (rI 4) (rtL [p0, p1, p2, p3, p4, p5, p6, p7, p8] prim sil al)) False) := by kernel_rfl
theorem t_pr9_p : evCall cxRk (ev cxRk 60) 21 [.one (.ptr 0 0 0), .one (iv .i64 ((m + 9 : Nat) : Int))] (rtL [p0, p1, p2, p3, p4, p5, p6, p7, p8] prim sil al) k =
   (branch (decide (((((m + 9) : Nat) : Int) ≥ (9)))) (k (rI 4) (rtL [p0, p1, p2, p3, p4, p5, p6, p7, p8] prim sil al)) False) := by kernel_rfl
theorem t_nx9_0 : evCall cxRk (ev cxRk 60) 16 [.one (.ptr 0 0 0), .one (iv .i64 (0))] (rtL [p0, p1, p2, p3, p4, p5, p6, p7, p8] prim sil al) k =
   (fun (K : Int → Prop) => (branch (Bool.not p1.d) (K 1) (branch (Bool.not p2.d) (K 2) (branch (Bool.not p3.d) (K 3) (branch (Bool.not p4.d) (K 4) (branch (Bool.not p5.d) (K 5) (branch (Bool.not p6.d) (K 6) (branch (Bool.not p7.d) (K 7) (branch (Bool.not p8.d) (K 8) (K 1)))))))))) (fun v => k (rI v) (rtL [p0, p1, p2, p3, p4, p5, p6, p7, p8] prim sil al)) := by kernel_rfl
theorem t_nx9_1 : evCall cxRk (ev cxRk 60) 16 [.one (.ptr 0 0 0), .one (iv .i64 (1))] (rtL [p0, p1, p2, p3, p4, p5, p6, p7, p8] prim sil al) k =
   (fun (K : Int → Prop) => (branch (Bool.not p2.d) (K 2) (branch (Bool.not p3.d) (K 3) (branch (Bool.not p4.d) (K 4) (branch (Bool.not p5.d) (K 5) (branch (Bool.not p6.d) (K 6) (branch (Bool.not p7.d) (K 7) (branch (Bool.not p8.d) (K 8) (branch (Bool.not p0.d) (K 0) (K 2)))))))))) (fun v => k (rI v) (rtL [p0, p1, p2, p3, p4, p5, p6, p7, p8] prim sil al)) := by kernel_rfl
theorem t_nx9_2 : evCall cxRk (ev cxRk 60) 16 [.one (.ptr 0 0 0), .one (iv .i64 (2))] (rtL [p0, p1, p2, p3, p4, p5, p6, p7, p8] prim sil al) k =
   (fun (K : Int → Prop) => (branch (Bool.not p3.d) (K 3) (branch (Bool.not p4.d) (K 4) (branch (Bool.not p5.d) (K 5) (branch (Bool.not p6.d) (K 6) (branch (Bool.not p7.d) (K 7) (branch (Bool.not p8.d) (K 8) (branch (Bool.not p0.d) (K 0) (branch (Bool.not p1.d) (K 1) (K 3)))))))))) (fun v => k (rI v) (rtL [p0, p1, p2, p3, p4, p5, p6, p7, p8] prim sil al)) := by kernel_rfl
theorem t_nx9_3 : evCall cxRk (ev cxRk 60) 16 [.one (.ptr 0 0 0), .one (iv .i64 (3))] (rtL [p0, p1, p2, p3, p4, p5, p6, p7, p8] prim sil al) k =
   (fun (K : Int → Prop) => (branch (Bool.not p4.d) (K 4) (branch (Bool.not p5.d) (K 5) (branch (Bool.not p6.d) (K 6) (branch (Bool.not p7.d) (K 7) (branch (Bool.not p8.d) (K 8) (branch (Bool.not p0.d) (K 0) (branch (Bool.not p1.d) (K 1) (branch (Bool.not p2.d) (K 2) (K 4)))))))))) (fun v => k (rI v) (rtL [p0, p1, p2, p3, p4, p5, p6, p7, p8] prim sil al)) := by kernel_rfl
theorem t_nx9_4 : evCall cxRk (ev cxRk 60) 16 [.one (.ptr 0 0 0), .one (iv .i64 (4))] (rtL [p0, p1, p2, p3, p4, p5, p6, p7, p8] prim sil al) k =
   (fun (K : Int → Prop) => (branch (Bool.not p5.d) (K 5) (branch (Bool.not p6.d) (K 6) (branch (Bool.not p7.d) (K 7) (branch (Bool.not p8.d) (K 8) (branch (Bool.not p0.d) (K 0) (branch (Bool.not p1.d) (K 1) (branch (Bool.not p2.d) (K 2) (branch (Bool.not p3.d) (K 3) (K 5)))))))))) (fun v => k (rI v) (rtL [p0, p1, p2, p3, p4, p5, p6, p7, p8] prim sil al)) := by kernel_rfl
theorem t_nx9_5 : evCall cxRk (ev cxRk 60) 16 [.one (.ptr 0 0 0), .one (iv .i64 (5))] (rtL [p0, p1, p2, p3, p4, p5, p6, p7, p8] prim sil al) k =
   (fun (K : Int → Prop) => (branch (Bool.not p6.d) (K 6) (branch (Bool.not p7.d) (K 7) (branch (Bool.not p8.d) (K 8) (branch (Bool.not p0.d) (K 0) (branch (Bool.not p1.d) (K 1) (branch (Bool.not p2.d) (K 2) (branch (Bool.not p3.d) (K 3) (branch (Bool.not p4.d) (K 4) (K 6)))))))))) (fun v => k (rI v) (rtL [p0, p1, p2, p3, p4, p5, p6, p7, p8] prim sil al)) := by kernel_rfl
theorem t_nx9_6 : evCall cxRk (ev cxRk 60) 16 [.one (.ptr 0 0 0), .one (iv .i64 (6))] (rtL [p0, p1, p2, p3, p4, p5, p6, p7, p8] prim sil al) k =
   (fun (K : Int → Prop) => (branch (Bool.not p7.d) (K 7) (branch (Bool.not p8.d) (K 8) (branch (Bool.not p0.d) (K 0) (branch (Bool.not p1.d) (K 1) (branch (Bool.not p2.d) (K 2) (branch (Bool.not p3.d) (K 3) (branch (Bool.not p4.d) (K 4) (branch (Bool.not p5.d) (K 5) (K 7)))))))))) (fun v => k (rI v) (rtL [p0, p1, p2, p3, p4, p5, p6, p7, p8] prim sil al)) := by kernel_rfl
theorem t_nx9_7 : evCall cxRk (ev cxRk 60) 16 [.one (.ptr 0 0 0), .one (iv .i64 (7))] (rtL [p0, p1, p2, p3, p4, p5, p6, p7, p8] prim sil al) k =
   (fun (K : Int → Prop) => (branch (Bool.not p8.d) (K 8) (branch (Bool.not p0.d) (K 0) (branch (Bool.not p1.d) (K 1) (branch (Bool.not p2.d) (K 2) (branch (Bool.not p3.d) (K 3) (branch (Bool.not p4.d) (K 4) (branch (Bool.not p5.d) (K 5) (branch (Bool.not p6.d) (K 6) (K 8)))))))))) (fun v => k (rI v) (rtL [p0, p1, p2, p3, p4, p5, p6, p7, p8] prim sil al)) := by kernel_rfl
theorem t_nx9_8 : evCall cxRk (ev cxRk 60) 16 [.one (.ptr 0 0 0), .one (iv .i64 (8))] (rtL [p0, p1, p2, p3, p4, p5, p6, p7, p8] prim sil al) k =
   (fun (K : Int → Prop) => (branch (Bool.not p0.d) (K 0) (branch (Bool.not p1.d) (K 1) (branch (Bool.not p2.d) (K 2) (branch (Bool.not p3.d) (K 3) (branch (Bool.not p4.d) (K 4) (branch (Bool.not p5.d) (K 5) (branch (Bool.not p6.d) (K 6) (branch (Bool.not p7.d) (K 7) (K 0)))))))))) (fun v => k (rI v) (rtL [p0, p1, p2, p3, p4, p5, p6, p7, p8] prim sil al)) := by kernel_rfl
theorem t_nx9_n : evCall cxRk (ev cxRk 60) 16 [.one (.ptr 0 0 0), .one (iv .i64 (Int.negSucc m))] (rtL [p0, p1, p2, p3, p4, p5, p6, p7, p8] prim sil al) k =
   (branch (decide (((Int.negSucc m) < (0)))) (k (rI 0) (rtL [p0, p1, p2, p3, p4, p5, p6, p7, p8] prim sil al)) False) := by kernel_rfl
theorem t_nx9_p : evCall cxRk (ev cxRk 60) 16 [.one (.ptr 0 0 0), .one (iv .i64 ((m + 9 : Nat) : Int))] (rtL [p0, p1, p2, p3, p4, p5, p6, p7, p8] prim sil al) k =
   (branch (decide (((((m + 9) : Nat) : Int) ≥ (9)))) (k (rI 0) (rtL [p0, p1, p2, p3, p4, p5, p6, p7, p8] prim sil al)) False) := by kernel_rfl
theorem t_ch9_0 : evCall cxRk (ev cxRk 60) 18 [.one (.ptr 0 0 0)] (rtL [p0, p1, p2, p3, p4, p5, p6, p7, p8] (0) sil al) k =
   (fun (K : Int → Prop) => (branch (Bool.not p0.d) (K 0) (branch (Bool.not p1.d) (K 1) (branch (Bool.not p2.d) (K 2) (branch (Bool.not p3.d) (K 3) (branch (Bool.not p4.d) (K 4) (branch (Bool.not p5.d) (K 5) (branch (Bool.not p6.d) (K 6) (branch (Bool.not p7.d) (K 7) (branch (Bool.not p8.d) (K 8) (K 1))))))))))) (fun v => k (rI v) (rtL [p0, p1, p2, p3, p4, p5, p6, p7, p8] (0) sil al)) := by kernel_rfl
theorem t_ch9_1 : evCall cxRk (ev cxRk 60) 18 [.one (.ptr 0 0 0)] (rtL [p0, p1, p2, p3, p4, p5, p6, p7, p8] (1) sil al) k =
   (fun (K : Int → Prop) => (branch (Bool.not p1.d) (K 1) (branch (Bool.not p2.d) (K 2) (branch (Bool.not p3.d) (K 3) (branch (Bool.not p4.d) (K 4) (branch (Bool.not p5.d) (K 5) (branch (Bool.not p6.d) (K 6) (branch (Bool.not p7.d) (K 7) (branch (Bool.not p8.d) (K 8) (branch (Bool.not p0.d) (K 0) (K 2))))))))))) (fun v => k (rI v) (rtL [p0, p1, p2, p3, p4, p5, p6, p7, p8] (1) sil al)) := by kernel_rfl
theorem t_ch9_2 : evCall cxRk (ev cxRk 60) 18 [.one (.ptr 0 0 0)] (rtL [p0, p1, p2, p3, p4, p5, p6, p7, p8] (2) sil al) k =
   (fun (K : Int → Prop) => (branch (Bool.not p2.d) (K 2) (branch (Bool.not p3.d) (K 3) (branch (Bool.not p4.d) (K 4) (branch (Bool.not p5.d) (K 5) (branch (Bool.not p6.d) (K 6) (branch (Bool.not p7.d) (K 7) (branch (Bool.not p8.d) (K 8) (branch (Bool.not p0.d) (K 0) (branch (Bool.not p1.d) (K 1) (K 3))))))))))) (fun v => k (rI v) (rtL [p0, p1, p2, p3, p4, p5, p6, p7, p8] (2) sil al)) := by kernel_rfl
theorem t_ch9_3 : evCall cxRk (ev cxRk 60) 18 [.one (.ptr 0 0 0)] (rtL [p0, p1, p2, p3, p4, p5, p6, p7, p8] (3) sil al) k =
   (fun (K : Int → Prop) => (branch (Bool.not p3.d) (K 3) (branch (Bool.not p4.d) (K 4) (branch (Bool.not p5.d) (K 5) (branch (Bool.not p6.d) (K 6) (branch (Bool.not p7.d) (K 7) (branch (Bool.not p8.d) (K 8) (branch (Bool.not p0.d) (K 0) (branch (Bool.not p1.d) (K 1) (branch (Bool.not p2.d) (K 2) (K 4))))))))))) (fun v => k (rI v) (rtL [p0, p1, p2, p3, p4, p5, p6, p7, p8] (3) sil al)) := by kernel_rfl
theorem t_ch9_4 : evCall cxRk (ev cxRk 60) 18 [.one (.ptr 0 0 0)] (rtL [p0, p1, p2, p3, p4, p5, p6, p7, p8] (4) sil al) k =
   (fun (K : Int → Prop) => (branch (Bool.not p4.d) (K 4) (branch (Bool.not p5.d) (K 5) (branch (Bool.not p6.d) (K 6) (branch (Bool.not p7.d) (K 7) (branch (Bool.not p8.d) (K 8) (branch (Bool.not p0.d) (K 0) (branch (Bool.not p1.d) (K 1) (branch (Bool.not p2.d) (K 2) (branch (Bool.not p3.d) (K 3) (K 5))))))))))) (fun v => k (rI v) (rtL [p0, p1, p2, p3, p4, p5, p6, p7, p8] (4) sil al)) := by kernel_rfl
theorem t_ch9_5 : evCall cxRk (ev cxRk 60) 18 [.one (.ptr 0 0 0)] (rtL [p0, p1, p2, p3, p4, p5, p6, p7, p8] (5) sil al) k =
   (fun (K : Int → Prop) => (branch (Bool.not p5.d) (K 5) (branch (Bool.not p6.d) (K 6) (branch (Bool.not p7.d) (K 7) (branch (Bool.not p8.d) (K 8) (branch (Bool.not p0.d) (K 0) (branch (Bool.not p1.d) (K 1) (branch (Bool.not p2.d) (K 2) (branch (Bool.not p3.d) (K 3) (branch (Bool.not p4.d) (K 4) (K 6))))))))))) (fun v => k (rI v) (rtL [p0, p1, p2, p3, p4, p5, p6, p7, p8] (5) sil al)) := by kernel_rfl
theorem t_ch9_6 : evCall cxRk (ev cxRk 60) 18 [.one (.ptr 0 0 0)] (rtL [p0, p1, p2, p3, p4, p5, p6, p7, p8] (6) sil al) k =
   (fun (K : Int → Prop) => (branch (Bool.not p6.d) (K 6) (branch (Bool.not p7.d) (K 7) (branch (Bool.not p8.d) (K 8) (branch (Bool.not p0.d) (K 0) (branch (Bool.not p1.d) (K 1) (branch (Bool.not p2.d) (K 2) (branch (Bool.not p3.d) (K 3) (branch (Bool.not p4.d) (K 4) (branch (Bool.not p5.d) (K 5) (K 7))))))))))) (fun v => k (rI v) (rtL [p0, p1, p2, p3, p4, p5, p6, p7, p8] (6) sil al)) := by kernel_rfl
theorem t_ch9_7 : evCall cxRk (ev cxRk 60) 18 [.one (.ptr 0 0 0)] (rtL [p0, p1, p2, p3, p4, p5, p6, p7, p8] (7) sil al) k =
   (fun (K : Int → Prop) => (branch (Bool.not p7.d) (K 7) (branch (Bool.not p8.d) (K 8) (branch (Bool.not p0.d) (K 0) (branch (Bool.not p1.d) (K 1) (branch (Bool.not p2.d) (K 2) (branch (Bool.not p3.d) (K 3) (branch (Bool.not p4.d) (K 4) (branch (Bool.not p5.d) (K 5) (branch (Bool.not p6.d) (K 6) (K 8))))))))))) (fun v => k (rI v) (rtL [p0, p1, p2, p3, p4, p5, p6, p7, p8] (7) sil al)) := by kernel_rfl
theorem t_ch9_8 : evCall cxRk (ev cxRk 60) 18 [.one (.ptr 0 0 0)] (rtL [p0, p1, p2, p3, p4, p5, p6, p7, p8] (8) sil al) k =
   (fun (K : Int → Prop) => (branch (Bool.not p8.d) (K 8) (branch (Bool.not p0.d) (K 0) (branch (Bool.not p1.d) (K 1) (branch (Bool.not p2.d) (K 2) (branch (Bool.not p3.d) (K 3) (branch (Bool.not p4.d) (K 4) (branch (Bool.not p5.d) (K 5) (branch (Bool.not p6.d) (K 6) (branch (Bool.not p7.d) (K 7) (K 0))))))))))) (fun v => k (rI v) (rtL [p0, p1, p2, p3, p4, p5, p6, p7, p8] (8) sil al)) := by kernel_rfl
end
section
variable (p0 p1 p2 p3 p4 p5 p6 p7 p8 : Ra) (prim sil al : Int) (m : Nat) (k : KT)
theorem t_mr9_0 : evCall cxRk (ev cxRk 60) 39 [.one (.ptr 0 0 0), .one (iv .i64 (0))] (rfL 0 [p0, p1, p2, p3, p4, p5, p6, p7, p8] prim sil al) k =
   (branch (decide (((addK .i64 p0.m (1)) > p0.tr))) (k (.tup [(.one (bv (Bool.not (p0.a == false)))), (.one (bv (decide (((addK .i64 sil (1)) > al)))))]) (rfL 0 [(raW p0 (addK .i64 p0.m (1)) false), p1, p2, p3, p4, p5, p6, p7, p8] prim (addK .i64 sil (1)) al)) (k (.tup [(.one (bv (Bool.not (p0.a == p0.a)))), (.one (bv (decide (((addK .i64 sil (1)) > al)))))]) (rfL 0 [(raW p0 (addK .i64 p0.m (1)) p0.a), p1, p2, p3, p4, p5, p6, p7, p8] prim (addK .i64 sil (1)) al))) := by kernel_rfl
theorem t_mr9_1 : evCall cxRk (ev cxRk 60) 39 [.one (.ptr 0 0 0), .one (iv .i64 (1))] (rfL 0 [p0, p1, p2, p3, p4, p5, p6, p7, p8] prim sil al) k =
   (branch (decide (((addK .i64 p1.m (1)) > p1.tr))) (k (.tup [(.one (bv (Bool.not (p1.a == false)))), (.one (bv (decide (((addK .i64 sil (1)) > al)))))]) (rfL 0 [p0, (raW p1 (addK .i64 p1.m (1)) false), p2, p3, p4, p5, p6, p7, p8] prim (addK .i64 sil (1)) al)) (k (.tup [(.one (bv (Bool.not (p1.a == p1.a)))), (.one (bv (decide (((addK .i64 sil (1)) > al)))))]) (rfL 0 [p0, (raW p1 (addK .i64 p1.m (1)) p1.a), p2, p3, p4, p5, p6, p7, p8] prim (addK .i64 sil (1)) al))) := by kernel_rfl
theorem t_mr9_2 : evCall cxRk (ev cxRk 60) 39 [.one (.ptr 0 0 0), .one (iv .i64 (2))] (rfL 0 [p0, p1, p2, p3, p4, p5, p6, p7, p8] prim sil al) k =
   (branch (decide (((addK .i64 p2.m (1)) > p2.tr))) (k (.tup [(.one (bv (Bool.not (p2.a == false)))), (.one (bv (decide (((addK .i64 sil (1)) > al)))))]) (rfL 0 [p0, p1, (raW p2 (addK .i64 p2.m (1)) false), p3, p4, p5, p6, p7, p8] prim (addK .i64 sil (1)) al)) (k (.tup [(.one (bv (Bool.not (p2.a == p2.a)))), (.one (bv (decide (((addK .i64 sil (1)) > al)))))]) (rfL 0 [p0, p1, (raW p2 (addK .i64 p2.m (1)) p2.a), p3, p4, p5, p6, p7, p8] prim (addK .i64 sil (1)) al))) := by kernel_rfl
theorem t_mr9_3 : evCall cxRk (ev cxRk 60) 39 [.one (.ptr 0 0 0), .one (iv .i64 (3))] (rfL 0 [p0, p1, p2, p3, p4, p5, p6, p7, p8] prim sil al) k =
   (branch (decide (((addK .i64 p3.m (1)) > p3.tr))) (k (.tup [(.one (bv (Bool.not (p3.a == false)))), (.one (bv (decide (((addK .i64 sil (1)) > al)))))]) (rfL 0 [p0, p1, p2, (raW p3 (addK .i64 p3.m (1)) false), p4, p5, p6, p7, p8] prim (addK .i64 sil (1)) al)) (k (.tup [(.one (bv (Bool.not (p3.a == p3.a)))), (.one (bv (decide (((addK .i64 sil (1)) > al)))))]) (rfL 0 [p0, p1, p2, (raW p3 (addK .i64 p3.m (1)) p3.a), p4, p5, p6, p7, p8] prim (addK .i64 sil (1)) al))) := by kernel_rfl
theorem t_mr9_4 : evCall cxRk (ev cxRk 60) 39 [.one (.ptr 0 0 0), .one (iv .i64 (4))] (rfL 0 [p0, p1, p2, p3, p4, p5, p6, p7, p8] prim sil al) k =
   (branch (decide (((addK .i64 p4.m (1)) > p4.tr))) (k (.tup [(.one (bv (Bool.not (p4.a == false)))), (.one (bv (decide (((addK .i64 sil (1)) > al)))))]) (rfL 0 [p0, p1, p2, p3, (raW p4 (addK .i64 p4.m (1)) false), p5, p6, p7, p8] prim (addK .i64 sil (1)) al)) (k (.tup [(.one (bv (Bool.not (p4.a == p4.a)))), (.one (bv (decide (((addK .i64 sil (1)) > al)))))]) (rfL 0 [p0, p1, p2, p3, (raW p4 (addK .i64 p4.m (1)) p4.a), p5, p6, p7, p8] prim (addK .i64 sil (1)) al))) := by kernel_rfl
theorem t_mr9_5 : evCall cxRk (ev cxRk 60) 39 [.one (.ptr 0 0 0), .one (iv .i64 (5))] (rfL 0 [p0, p1, p2, p3, p4, p5, p6, p7, p8] prim sil al) k =
   (branch (decide (((addK .i64 p5.m (1)) > p5.tr))) (k (.tup [(.one (bv (Bool.not (p5.a == false)))), (.one (bv (decide (((addK .i64 sil (1)) > al)))))]) (rfL 0 [p0, p1, p2, p3, p4, (raW p5 (addK .i64 p5.m (1)) false), p6, p7, p8] prim (addK .i64 sil (1)) al)) (k (.tup [(.one (bv (Bool.not (p5.a == p5.a)))), (.one (bv (decide (((addK .i64 sil (1)) > al)))))]) (rfL 0 [p0, p1, p2, p3, p4, (raW p5 (addK .i64 p5.m (1)) p5.a), p6, p7, p8] prim (addK .i64 sil (1)) al))) := by kernel_rfl
theorem t_mr9_6 : evCall cxRk (ev cxRk 60) 39 [.one (.ptr 0 0 0), .one (iv .i64 (6))] (rfL 0 [p0, p1, p2, p3, p4, p5, p6, p7, p8] prim sil al) k =
   (branch (decide (((addK .i64 p6.m (1)) > p6.tr))) (k (.tup [(.one (bv (Bool.not (p6.a == false)))), (.one (bv (decide (((addK .i64 sil (1)) > al)))))]) (rfL 0 [p0, p1, p2, p3, p4, p5, (raW p6 (addK .i64 p6.m (1)) false), p7, p8] prim (addK .i64 sil (1)) al)) (k (.tup [(.one (bv (Bool.not (p6.a == p6.a)))), (.one (bv (decide (((addK .i64 sil (1)) > al)))))]) (rfL 0 [p0, p1, p2, p3, p4, p5, (raW p6 (addK .i64 p6.m (1)) p6.a), p7, p8] prim (addK .i64 sil (1)) al))) := by kernel_rfl
theorem t_mr9_7 : evCall cxRk (ev cxRk 60) 39 [.one (.ptr 0 0 0), .one (iv .i64 (7))] (rfL 0 [p0, p1, p2, p3, p4, p5, p6, p7, p8] prim sil al) k =
   (branch (decide (((addK .i64 p7.m (1)) > p7.tr))) (k (.tup [(.one (bv (Bool.not (p7.a == false)))), (.one (bv (decide (((addK .i64 sil (1)) > al)))))]) (rfL 0 [p0, p1, p2, p3, p4, p5, p6, (raW p7 (addK .i64 p7.m (1)) false), p8] prim (addK .i64 sil (1)) al)) (k (.tup [(.one (bv (Bool.not (p7.a == p7.a)))), (.one (bv (decide (((addK .i64 sil (1)) > al)))))]) (rfL 0 [p0, p1, p2, p3, p4, p5, p6, (raW p7 (addK .i64 p7.m (1)) p7.a), p8] prim (addK .i64 sil (1)) al))) := by kernel_rfl
theorem t_mr9_8 : evCall cxRk (ev cxRk 60) 39 [.one (.ptr 0 0 0), .one (iv .i64 (8))] (rfL 0 [p0, p1, p2, p3, p4, p5, p6, p7, p8] prim sil al) k =
   (branch (decide (((addK .i64 p8.m (1)) > p8.tr))) (k (.tup [(.one (bv (Bool.not (p8.a == false)))), (.one (bv (decide (((addK .i64 sil (1)) > al)))))]) (rfL 0 [p0, p1, p2, p3, p4, p5, p6, p7, (raW p8 (addK .i64 p8.m (1)) false)] prim (addK .i64 sil (1)) al)) (k (.tup [(.one (bv (Bool.not (p8.a == p8.a)))), (.one (bv (decide (((addK .i64 sil (1)) > al)))))]) (rfL 0 [p0, p1, p2, p3, p4, p5, p6, p7, (raW p8 (addK .i64 p8.m (1)) p8.a)] prim (addK .i64 sil (1)) al))) := by kernel_rfl
theorem t_mr9_n : evCall cxRk (ev cxRk 60) 39 [.one (.ptr 0 0 0), .one (iv .i64 (Int.negSucc m))] (rfL 0 [p0, p1, p2, p3, p4, p5, p6, p7, p8] prim sil al) k =
   (k (.tup [(.one (bv false)), (.one (bv false))]) (rfL 0 [p0, p1, p2, p3, p4, p5, p6, p7, p8] prim sil al)) := by kernel_rfl
theorem t_mr9_p : evCall cxRk (ev cxRk 60) 39 [.one (.ptr 0 0 0), .one (iv .i64 ((m + 9 : Nat) : Int))] (rfL 0 [p0, p1, p2, p3, p4, p5, p6, p7, p8] prim sil al) k =
   (k (.tup [(.one (bv false)), (.one (bv false))]) (rfL 0 [p0, p1, p2, p3, p4, p5, p6, p7, p8] prim sil al)) := by kernel_rfl
theorem t_hr9_0 : evCall cxRk (ev cxRk 60) 40 [.one (.ptr 0 0 0), .one (iv .i64 (0))] (rfL 0 [p0, p1, p2, p3, p4, p5, p6, p7, p8] prim sil al) k =
   (k (.sa (.one (bv (Bool.not p0.a)))) (rfL 0 [(raW p0 (0) true), p1, p2, p3, p4, p5, p6, p7, p8] prim (0) al)) := by kernel_rfl
theorem t_hr9_1 : evCall cxRk (ev cxRk 60) 40 [.one (.ptr 0 0 0), .one (iv .i64 (1))] (rfL 0 [p0, p1, p2, p3, p4, p5, p6, p7, p8] prim sil al) k =
   (k (.sa (.one (bv (Bool.not p1.a)))) (rfL 0 [p0, (raW p1 (0) true), p2, p3, p4, p5, p6, p7, p8] prim (0) al)) := by kernel_rfl
theorem t_hr9_2 : evCall cxRk (ev cxRk 60) 40 [.one (.ptr 0 0 0), .one (iv .i64 (2))] (rfL 0 [p0, p1, p2, p3, p4, p5, p6, p7, p8] prim sil al) k =
   (k (.sa (.one (bv (Bool.not p2.a)))) (rfL 0 [p0, p1, (raW p2 (0) true), p3, p4, p5, p6, p7, p8] prim (0) al)) := by kernel_rfl
theorem t_hr9_3 : evCall cxRk (ev cxRk 60) 40 [.one (.ptr 0 0 0), .one (iv .i64 (3))] (rfL 0 [p0, p1, p2, p3, p4, p5, p6, p7, p8] prim sil al) k =
   (k (.sa (.one (bv (Bool.not p3.a)))) (rfL 0 [p0, p1, p2, (raW p3 (0) true), p4, p5, p6, p7, p8] prim (0) al)) := by kernel_rfl
theorem t_hr9_4 : evCall cxRk (ev cxRk 60) 40 [.one (.ptr 0 0 0), .one (iv .i64 (4))] (rfL 0 [p0, p1, p2, p3, p4, p5, p6, p7, p8] prim sil al) k =
   (k (.sa (.one (bv (Bool.not p4.a)))) (rfL 0 [p0, p1, p2, p3, (raW p4 (0) true), p5, p6, p7, p8] prim (0) al)) := by kernel_rfl
theorem t_hr9_5 : evCall cxRk (ev cxRk 60) 40 [.one (.ptr 0 0 0), .one (iv .i64 (5))] (rfL 0 [p0, p1, p2, p3, p4, p5, p6, p7, p8] prim sil al) k =
   (k (.sa (.one (bv (Bool.not p5.a)))) (rfL 0 [p0, p1, p2, p3, p4, (raW p5 (0) true), p6, p7, p8] prim (0) al)) := by kernel_rfl
theorem t_hr9_6 : evCall cxRk (ev cxRk 60) 40 [.one (.ptr 0 0 0), .one (iv .i64 (6))] (rfL 0 [p0, p1, p2, p3, p4, p5, p6, p7, p8] prim sil al) k =
   (k (.sa (.one (bv (Bool.not p6.a)))) (rfL 0 [p0, p1, p2, p3, p4, p5, (raW p6 (0) true), p7, p8] prim (0) al)) := by kernel_rfl
theorem t_hr9_7 : evCall cxRk (ev cxRk 60) 40 [.one (.ptr 0 0 0), .one (iv .i64 (7))] (rfL 0 [p0, p1, p2, p3, p4, p5, p6, p7, p8] prim sil al) k =
   (k (.sa (.one (bv (Bool.not p7.a)))) (rfL 0 [p0, p1, p2, p3, p4, p5, p6, (raW p7 (0) true), p8] prim (0) al)) := by kernel_rfl
theorem t_hr9_8 : evCall cxRk (ev cxRk 60) 40 [.one (.ptr 0 0 0), .one (iv .i64 (8))] (rfL 0 [p0, p1, p2, p3, p4, p5, p6, p7, p8] prim sil al) k =
   (k (.sa (.one (bv (Bool.not p8.a)))) (rfL 0 [p0, p1, p2, p3, p4, p5, p6, p7, (raW p8 (0) true)] prim (0) al)) := by kernel_rfl
theorem t_hr9_n : evCall cxRk (ev cxRk 60) 40 [.one (.ptr 0 0 0), .one (iv .i64 (Int.negSucc m))] (rfL 0 [p0, p1, p2, p3, p4, p5, p6, p7, p8] prim sil al) k =
   (k (rB false) (rfL 0 [p0, p1, p2, p3, p4, p5, p6, p7, p8] prim sil al)) := by kernel_rfl
theorem t_hr9_p : evCall cxRk (ev cxRk 60) 40 [.one (.ptr 0 0 0), .one (iv .i64 ((m + 9 : Nat) : Int))] (rfL 0 [p0, p1, p2, p3, p4, p5, p6, p7, p8] prim sil al) k =
   (k (rB false) (rfL 0 [p0, p1, p2, p3, p4, p5, p6, p7, p8] prim sil al)) := by kernel_rfl
theorem t_nr9_0 : evCall cxRk (ev cxRk 60) 27 [.one (.ptr 0 0 0), .one (iv .i64 (0))] (rfL 0 [p0, p1, p2, p3, p4, p5, p6, p7, p8] prim sil al) k =
   (fun (K : Int → Prop) => (branch p1.a (K 1) (branch p2.a (K 2) (branch p3.a (K 3) (branch p4.a (K 4) (branch p5.a (K 5) (branch p6.a (K 6) (branch p7.a (K 7) (branch p8.a (K 8) (K 1)))))))))) (fun v => k (rI v) (rfL 0 [p0, p1, p2, p3, p4, p5, p6, p7, p8] prim sil al)) := by kernel_rfl
theorem t_nr9_1 : evCall cxRk (ev cxRk 60) 27 [.one (.ptr 0 0 0), .one (iv .i64 (1))] (rfL 0 [p0, p1, p2, p3, p4, p5, p6, p7, p8] prim sil al) k =
   (fun (K : Int → Prop) => (branch p2.a (K 2) (branch p3.a (K 3) (branch p4.a (K 4) (branch p5.a (K 5) (branch p6.a (K 6) (branch p7.a (K 7) (branch p8.a (K 8) (branch p0.a (K 0) (K 2)))))))))) (fun v => k (rI v) (rfL 0 [p0, p1, p2, p3, p4, p5, p6, p7, p8] prim sil al)) := by kernel_rfl
theorem t_nr9_2 : evCall cxRk (ev cxRk 60) 27 [.one (.ptr 0 0 0), .one (iv .i64 (2))] (rfL 0 [p0, p1, p2, p3, p4, p5, p6, p7, p8] prim sil al) k =
   (fun (K : Int → Prop) => (branch p3.a (K 3) (branch p4.a (K 4) (branch p5.a (K 5) (branch p6.a (K 6) (branch p7.a (K 7) (branch p8.a (K 8) (branch p0.a (K 0) (branch p1.a (K 1) (K 3)))))))))) (fun v => k (rI v) (rfL 0 [p0, p1, p2, p3, p4, p5, p6, p7, p8] prim sil al)) := by kernel_rfl
theorem t_nr9_3 : evCall cxRk (ev cxRk 60) 27 [.one (.ptr 0 0 0), .one (iv .i64 (3))] (rfL 0 [p0, p1, p2, p3, p4, p5, p6, p7, p8] prim sil al) k =
   (fun (K : Int → Prop) => (branch p4.a (K 4) (branch p5.a (K 5) (branch p6.a (K 6) (branch p7.a (K 7) (branch p8.a (K 8) (branch p0.a (K 0) (branch p1.a (K 1) (branch p2.a (K 2) (K 4)))))))))) (fun v => k (rI v) (rfL 0 [p0, p1, p2, p3, p4, p5, p6, p7, p8] prim sil al)) := by kernel_rfl
theorem t_nr9_4 : evCall cxRk (ev cxRk 60) 27 [.one (.ptr 0 0 0), .one (iv .i64 (4))] (rfL 0 [p0, p1, p2, p3, p4, p5, p6, p7, p8] prim sil al) k =
   (fun (K : Int → Prop) => (branch p5.a (K 5) (branch p6.a (K 6) (branch p7.a (K 7) (branch p8.a (K 8) (branch p0.a (K 0) (branch p1.a (K 1) (branch p2.a (K 2) (branch p3.a (K 3) (K 5)))))))))) (fun v => k (rI v) (rfL 0 [p0, p1, p2, p3, p4, p5, p6, p7, p8] prim sil al)) := by kernel_rfl
theorem t_nr9_5 : evCall cxRk (ev cxRk 60) 27 [.one (.ptr 0 0 0), .one (iv .i64 (5))] (rfL 0 [p0, p1, p2, p3, p4, p5, p6, p7, p8] prim sil al) k =
   (fun (K : Int → Prop) => (branch p6.a (K 6) (branch p7.a (K 7) (branch p8.a (K 8) (branch p0.a (K 0) (branch p1.a (K 1) (branch p2.a (K 2) (branch p3.a (K 3) (branch p4.a (K 4) (K 6)))))))))) (fun v => k (rI v) (rfL 0 [p0, p1, p2, p3, p4, p5, p6, p7, p8] prim sil al)) := by kernel_rfl
theorem t_nr9_6 : evCall cxRk (ev cxRk 60) 27 [.one (.ptr 0 0 0), .one (iv .i64 (6))] (rfL 0 [p0, p1, p2, p3, p4, p5, p6, p7, p8] prim sil al) k =
   (fun (K : Int → Prop) => (branch p7.a (K 7) (branch p8.a (K 8) (branch p0.a (K 0) (branch p1.a (K 1) (branch p2.a (K 2) (branch p3.a (K 3) (branch p4.a (K 4) (branch p5.a (K 5) (K 7)))))))))) (fun v => k (rI v) (rfL 0 [p0, p1, p2, p3, p4, p5, p6, p7, p8] prim sil al)) := by kernel_rfl
theorem t_nr9_7 : evCall cxRk (ev cxRk 60) 27 [.one (.ptr 0 0 0), .one (iv .i64 (7))] (rfL 0 [p0, p1, p2, p3, p4, p5, p6, p7, p8] prim sil al) k =
   (fun (K : Int → Prop) => (branch p8.a (K 8) (branch p0.a (K 0) (branch p1.a (K 1) (branch p2.a (K 2) (branch p3.a (K 3) (branch p4.a (K 4) (branch p5.a (K 5) (branch p6.a (K 6) (K 8)))))))))) (fun v => k (rI v) (rfL 0 [p0, p1, p2, p3, p4, p5, p6, p7, p8] prim sil al)) := by kernel_rfl
theorem t_nr9_8 : evCall cxRk (ev cxRk 60) 27 [.one (.ptr 0 0 0), .one (iv .i64 (8))] (rfL 0 [p0, p1, p2, p3, p4, p5, p6, p7, p8] prim sil al) k =
   (fun (K : Int → Prop) => (branch p0.a (K 0) (branch p1.a (K 1) (branch p2.a (K 2) (branch p3.a (K 3) (branch p4.a (K 4) (branch p5.a (K 5) (branch p6.a (K 6) (branch p7.a (K 7) (K 0)))))))))) (fun v => k (rI v) (rfL 0 [p0, p1, p2, p3, p4, p5, p6, p7, p8] prim sil al)) := by kernel_rfl
theorem t_nr9_n : evCall cxRk (ev cxRk 60) 27 [.one (.ptr 0 0 0), .one (iv .i64 (Int.negSucc m))] (rfL 0 [p0, p1, p2, p3, p4, p5, p6, p7, p8] prim sil al) k =
   (k (rI 0) (rfL 0 [p0, p1, p2, p3, p4, p5, p6, p7, p8] prim sil al)) := by kernel_rfl
theorem t_nr9_p : evCall cxRk (ev cxRk 60) 27 [.one (.ptr 0 0 0), .one (iv .i64 ((m + 9 : Nat) : Int))] (rfL 0 [p0, p1, p2, p3, p4, p5, p6, p7, p8] prim sil al) k =
   (k (rI 0) (rfL 0 [p0, p1, p2, p3, p4, p5, p6, p7, p8] prim sil al)) := by kernel_rfl
theorem t_cr9_0 : evCall cxRk (ev cxRk 60) 26 [.one (.ptr 0 0 0)] (rfL 0 [p0, p1, p2, p3, p4, p5, p6, p7, p8] (0) sil al) k =
   (fun (K : Int → Prop) => (branch p0.a (K 0) (branch p1.a (K 1) (branch p2.a (K 2) (branch p3.a (K 3) (branch p4.a (K 4) (branch p5.a (K 5) (branch p6.a (K 6) (branch p7.a (K 7) (branch p8.a (K 8) (K 1))))))))))) (fun v => k (rI v) (rfL 0 [p0, p1, p2, p3, p4, p5, p6, p7, p8] (0) sil al)) := by kernel_rfl
theorem t_cr9_1 : evCall cxRk (ev cxRk 60) 26 [.one (.ptr 0 0 0)] (rfL 0 [p0, p1, p2, p3, p4, p5, p6, p7, p8] (1) sil al) k =
   (fun (K : Int → Prop) => (branch p1.a (K 1) (branch p2.a (K 2) (branch p3.a (K 3) (branch p4.a (K 4) (branch p5.a (K 5) (branch p6.a (K 6) (branch p7.a (K 7) (branch p8.a (K 8) (branch p0.a (K 0) (K 2))))))))))) (fun v => k (rI v) (rfL 0 [p0, p1, p2, p3, p4, p5, p6, p7, p8] (1) sil al)) := by kernel_rfl
theorem t_cr9_2 : evCall cxRk (ev cxRk 60) 26 [.one (.ptr 0 0 0)] (rfL 0 [p0, p1, p2, p3, p4, p5, p6, p7, p8] (2) sil al) k =
   (fun (K : Int → Prop) => (branch p2.a (K 2) (branch p3.a (K 3) (branch p4.a (K 4) (branch p5.a (K 5) (branch p6.a (K 6) (branch p7.a (K 7) (branch p8.a (K 8) (branch p0.a (K 0) (branch p1.a (K 1) (K 3))))))))))) (fun v => k (rI v) (rfL 0 [p0, p1, p2, p3, p4, p5, p6, p7, p8] (2) sil al)) := by kernel_rfl
theorem t_cr9_3 : evCall cxRk (ev cxRk 60) 26 [.one (.ptr 0 0 0)] (rfL 0 [p0, p1, p2, p3, p4, p5, p6, p7, p8] (3) sil al) k =
   (fun (K : Int → Prop) => (branch p3.a (K 3) (branch p4.a (K 4) (branch p5.a (K 5) (branch p6.a (K 6) (branch p7.a (K 7) (branch p8.a (K 8) (branch p0.a (K 0) (branch p1.a (K 1) (branch p2.a (K 2) (K 4))))))))))) (fun v => k (rI v) (rfL 0 [p0, p1, p2, p3, p4, p5, p6, p7, p8] (3) sil al)) := by kernel_rfl
theorem t_cr9_4 : evCall cxRk (ev cxRk 60) 26 [.one (.ptr 0 0 0)] (rfL 0 [p0, p1, p2, p3, p4, p5, p6, p7, p8] (4) sil al) k =
   (fun (K : Int → Prop) => (branch p4.a (K 4) (branch p5.a (K 5) (branch p6.a (K 6) (branch p7.a (K 7) (branch p8.a (K 8) (branch p0.a (K 0) (branch p1.a (K 1) (branch p2.a (K 2) (branch p3.a (K 3) (K 5))))))))))) (fun v => k (rI v) (rfL 0 [p0, p1, p2, p3, p4, p5, p6, p7, p8] (4) sil al)) := by kernel_rfl
theorem t_cr9_5 : evCall cxRk (ev cxRk 60) 26 [.one (.ptr 0 0 0)] (rfL 0 [p0, p1, p2, p3, p4, p5, p6, p7, p8] (5) sil al) k =
   (fun (K : Int → Prop) => (branch p5.a (K 5) (branch p6.a (K 6) (branch p7.a (K 7) (branch p8.a (K 8) (branch p0.a (K 0) (branch p1.a (K 1) (branch p2.a (K 2) (branch p3.a (K 3) (branch p4.a (K 4) (K 6))))))))))) (fun v => k (rI v) (rfL 0 [p0, p1, p2, p3, p4, p5, p6, p7, p8] (5) sil al)) := by kernel_rfl
theorem t_cr9_6 : evCall cxRk (ev cxRk 60) 26 [.one (.ptr 0 0 0)] (rfL 0 [p0, p1, p2, p3, p4, p5, p6, p7, p8] (6) sil al) k =
   (fun (K : Int → Prop) => (branch p6.a (K 6) (branch p7.a (K 7) (branch p8.a (K 8) (branch p0.a (K 0) (branch p1.a (K 1) (branch p2.a (K 2) (branch p3.a (K 3) (branch p4.a (K 4) (branch p5.a (K 5) (K 7))))))))))) (fun v => k (rI v) (rfL 0 [p0, p1, p2, p3, p4, p5, p6, p7, p8] (6) sil al)) := by kernel_rfl
theorem t_cr9_7 : evCall cxRk (ev cxRk 60) 26 [.one (.ptr 0 0 0)] (rfL 0 [p0, p1, p2, p3, p4, p5, p6, p7, p8] (7) sil al) k =
   (fun (K : Int → Prop) => (branch p7.a (K 7) (branch p8.a (K 8) (branch p0.a (K 0) (branch p1.a (K 1) (branch p2.a (K 2) (branch p3.a (K 3) (branch p4.a (K 4) (branch p5.a (K 5) (branch p6.a (K 6) (K 8))))))))))) (fun v => k (rI v) (rfL 0 [p0, p1, p2, p3, p4, p5, p6, p7, p8] (7) sil al)) := by kernel_rfl
theorem t_cr9_8 : evCall cxRk (ev cxRk 60) 26 [.one (.ptr 0 0 0)] (rfL 0 [p0, p1, p2, p3, p4, p5, p6, p7, p8] (8) sil al) k =
   (fun (K : Int → Prop) => (branch p8.a (K 8) (branch p0.a (K 0) (branch p1.a (K 1) (branch p2.a (K 2) (branch p3.a (K 3) (branch p4.a (K 4) (branch p5.a (K 5) (branch p6.a (K 6) (branch p7.a (K 7) (K 0))))))))))) (fun v => k (rI v) (rfL 0 [p0, p1, p2, p3, p4, p5, p6, p7, p8] (8) sil al)) := by kernel_rfl
end
end Go.Ev
