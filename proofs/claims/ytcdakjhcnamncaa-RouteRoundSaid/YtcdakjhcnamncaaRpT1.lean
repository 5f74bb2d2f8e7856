/- What the functions of this layer come to on states with numbers that are not known: printed by a program of mine (SymTool.lean), checked by the kernel. No conditions. -/
import Derived.Test.YtcdakjhcnamncaaRpD
import Derived.Test.YtcdakjhcnamncaaEvD
set_option linter.unusedVariables false
namespace Go.Ev
open Go Go.Proofs Go.Spec
theorem t_mi1_0 (p0 : Pa) (prim sil al : Int) (k : SV → St → Prop) : evCall cxRp (ev cxRp 60) 10 [.one (.ptr 0 0 0), .one (iv .i64 (0))] (rtL [p0] prim sil al) k =
    (k (.tup [(.one (bv (Bool.not ((Spec.Pa.d p0) == (decide (((addK .i64 (Spec.Pa.m p0) (1)) > (Spec.Pa.tr p0)))))))), (.one (bv (decide (((addK .i64 sil (1)) > al)))))]) [(obj 74 4 [(SC.ref 1), (iv .i64 prim), (iv .i64 (addK .i64 sil (1))), (iv .i64 al)]), (rowO [p0] 2), (obj 81 8 [(iv .u32 (Spec.Pa.f p0)), (iv .u32 (Spec.Pa.t p0)), (SC.ptr 3 0 0), (SC.ptr 4 0 0), (iv .i64 (Spec.Pa.tr p0)), (iv .i64 (addK .i64 (Spec.Pa.m p0) (1))), (bv (decide (((addK .i64 (Spec.Pa.m p0) (1)) > (Spec.Pa.tr p0))))), (SC.raw (Value.slice Option.none 0 0))]), (tO p0), (wO p0)]) := by kernel_rfl
theorem t_mi1_n (p0 : Pa) (prim sil al : Int) (m : Nat) (k : SV → St → Prop) : evCall cxRp (ev cxRp 60) 10 [.one (.ptr 0 0 0), .one (iv .i64 (Int.negSucc m))] (rtL [p0] prim sil al) k =
    (branch (decide (((Int.negSucc m) < (0)))) (k (.tup [(.one (bv false)), (.one (bv false))]) (rtL [p0] prim sil al)) False) := by kernel_rfl
theorem t_mi1_p (p0 : Pa) (prim sil al : Int) (m : Nat) (k : SV → St → Prop) : evCall cxRp (ev cxRp 60) 10 [.one (.ptr 0 0 0), .one (iv .i64 ((m + 1 : Nat) : Int))] (rtL [p0] prim sil al) k =
    (branch (decide (((((m + 1) : Nat) : Int) ≥ (1)))) (k (.tup [(.one (bv false)), (.one (bv false))]) (rtL [p0] prim sil al)) False) := by kernel_rfl
theorem t_he1_0 (p0 : Pa) (prim sil al : Int) (k : SV → St → Prop) : evCall cxRp (ev cxRp 60) 11 [.one (.ptr 0 0 0), .one (iv .i64 (0))] (rtL [p0] prim sil al) k =
    (k (.sa (.one (bv (Bool.not ((Spec.Pa.d p0) == false))))) [(obj 74 4 [(SC.ref 1), (iv .i64 prim), (iv .i64 (0)), (iv .i64 al)]), (rowO [p0] 2), (obj 81 8 [(iv .u32 (Spec.Pa.f p0)), (iv .u32 (Spec.Pa.t p0)), (SC.ptr 3 0 0), (SC.ptr 4 0 0), (iv .i64 (Spec.Pa.tr p0)), (iv .i64 (0)), (bv false), (SC.raw (Value.slice Option.none 0 0))]), (tO p0), (wO p0)]) := by kernel_rfl
theorem t_he1_n (p0 : Pa) (prim sil al : Int) (m : Nat) (k : SV → St → Prop) : evCall cxRp (ev cxRp 60) 11 [.one (.ptr 0 0 0), .one (iv .i64 (Int.negSucc m))] (rtL [p0] prim sil al) k =
    (branch (decide (((Int.negSucc m) < (0)))) (k (.sa (.one (bv false))) (rtL [p0] prim sil al)) False) := by kernel_rfl
theorem t_he1_p (p0 : Pa) (prim sil al : Int) (m : Nat) (k : SV → St → Prop) : evCall cxRp (ev cxRp 60) 11 [.one (.ptr 0 0 0), .one (iv .i64 ((m + 1 : Nat) : Int))] (rtL [p0] prim sil al) k =
    (branch (decide (((((m + 1) : Nat) : Int) ≥ (1)))) (k (.sa (.one (bv false))) (rtL [p0] prim sil al)) False) := by kernel_rfl
theorem t_pr1_0 (p0 : Pa) (prim sil al : Int) (k : SV → St → Prop) : evCall cxRp (ev cxRp 60) 21 [.one (.ptr 0 0 0), .one (iv .i64 (0))] (rtL [p0] prim sil al) k =
    (k (.sa (.one (iv .i64 (0)))) (rtL [p0] (0) sil al)) := by kernel_rfl
theorem t_pr1_n (p0 : Pa) (prim sil al : Int) (m : Nat) (k : SV → St → Prop) : evCall cxRp (ev cxRp 60) 21 [.one (.ptr 0 0 0), .one (iv .i64 (Int.negSucc m))] (rtL [p0] prim sil al) k =
    (branch (decide (((Int.negSucc m) < (0)))) (k (.sa (.one (iv .i64 (4)))) (rtL [p0] prim sil al)) False) := by kernel_rfl
theorem t_pr1_p (p0 : Pa) (prim sil al : Int) (m : Nat) (k : SV → St → Prop) : evCall cxRp (ev cxRp 60) 21 [.one (.ptr 0 0 0), .one (iv .i64 ((m + 1 : Nat) : Int))] (rtL [p0] prim sil al) k =
    (branch (decide (((((m + 1) : Nat) : Int) ≥ (1)))) (k (.sa (.one (iv .i64 (4)))) (rtL [p0] prim sil al)) False) := by kernel_rfl
theorem t_nx1_0 (p0 : Pa) (prim sil al : Int) (k : SV → St → Prop) : evCall cxRp (ev cxRp 60) 16 [.one (.ptr 0 0 0), .one (iv .i64 (0))] (rtL [p0] prim sil al) k =
    (k (.sa (.one (iv .i64 (0)))) (rtL [p0] prim sil al)) := by kernel_rfl
theorem t_nx1_n (p0 : Pa) (prim sil al : Int) (m : Nat) (k : SV → St → Prop) : evCall cxRp (ev cxRp 60) 16 [.one (.ptr 0 0 0), .one (iv .i64 (Int.negSucc m))] (rtL [p0] prim sil al) k =
    (branch (decide (((Int.negSucc m) < (0)))) (k (.sa (.one (iv .i64 (0)))) (rtL [p0] prim sil al)) False) := by kernel_rfl
theorem t_nx1_p (p0 : Pa) (prim sil al : Int) (m : Nat) (k : SV → St → Prop) : evCall cxRp (ev cxRp 60) 16 [.one (.ptr 0 0 0), .one (iv .i64 ((m + 1 : Nat) : Int))] (rtL [p0] prim sil al) k =
    (branch (decide (((((m + 1) : Nat) : Int) ≥ (1)))) (k (.sa (.one (iv .i64 (0)))) (rtL [p0] prim sil al)) False) := by kernel_rfl
end Go.Ev
