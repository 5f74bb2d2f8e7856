/- What the functions of this layer come to on states with numbers that are not known: printed by a program of mine (SymTool.lean), checked by the kernel. No conditions. -/
import Derived.Test.YtoikhfkfihejmaaWhD
import Derived.Test.YtoikhfkfihejmaaEvD
set_option linter.unusedVariables false
namespace Go.Ev
open Go Go.Proofs Go.Spec
theorem t_up (i : Int) (n : Nat) (ts xs ks vs bs : List Int) (cl : Nat) (N : Nat) (k : SV → St → Prop) : evCall cxUp (ev cxUp (N + 30)) 14 [.one (.ptr 0 0 0), .one (iv .i64 i)] [wO 1 2, rT n ts xs, rM ks vs bs cl] k =
    (ev cxUp (N + 29) 3 14 (codeAt Try.prog 14 [0]) (frm 34 [(0, (.sa (.one (SC.ptr 0 0 0)))), (1, (.sa (.one (iv .i64 i))))]) [(obj 45 2 [(SC.ref 1), (SC.ref 2)]), (some (SO.own true MK.row 47 2 (Ct.tab n [(Col.ints .u64 ts), (Col.ints .i64 xs)]))), (some (SO.mt true (KC.ints .i64 ks) false [(Col.ints .i64 vs)] bs cl))] (kBlock 0 (kRet (Cx.P cxUp) [] 3 k))) := by kernel_rfl
theorem t_dn (i : Int) (n : Nat) (ts xs ks vs bs : List Int) (cl : Nat) (N : Nat) (k : SV → St → Prop) : evCall cxDn (ev cxDn (N + 30)) 16 [.one (.ptr 0 0 0), .one (iv .i64 i)] [wO 1 2, rT n ts xs, rM ks vs bs cl] k =
    (ev cxDn (N + 29) 3 16 (codeAt Try.prog 16 [0]) (frm 66 [(0, (.sa (.one (SC.ptr 0 0 0)))), (1, (.sa (.one (iv .i64 i))))]) [(obj 45 2 [(SC.ref 1), (SC.ref 2)]), (some (SO.own true MK.row 47 2 (Ct.tab n [(Col.ints .u64 ts), (Col.ints .i64 xs)]))), (some (SO.mt true (KC.ints .i64 ks) false [(Col.ints .i64 vs)] bs cl))] (kBlock 0 (kRet (Cx.P cxDn) [] 3 k))) := by kernel_rfl
end Go.Ev
