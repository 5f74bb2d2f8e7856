/- What the functions of this layer come to on states with numbers that are not known: printed by a program of mine (SymTool.lean), checked by the kernel. No conditions. -/
import Derived.Test.YtefkhlicocadcaaLkD
import Derived.Test.YtefkhlicocadcaaEvD
set_option linter.unusedVariables false
namespace Go.Ev
open Go Go.Proofs Go.Spec
theorem t_con0 (w : Bool) (c n : Int) (k : SV → St → Prop) : evCall cxL0 (ev cxL0 100) 25 [.one (.ref 0), lkA c n] [lrow w 0 [] []] k =
    (k (.sa (.one (bv false))) [(some (SO.own w MK.row 31 2 (Ct.tab 0 [(Col.ints .u8 []), (Col.ints .i64 [])])))]) := by kernel_rfl
theorem t_con1 (w : Bool) (c n c1 n1 : Int) (k : SV → St → Prop) : evCall cxL0 (ev cxL0 100) 25 [.one (.ref 0), lkA c n] [lrow w 1 [c1] [n1]] k =
    (branch ((eqK c c1) && ((eqK n n1) && true)) (k (.sa (.one (bv true))) [(some (SO.own w MK.row 31 2 (Ct.tab 1 [(Col.ints .u8 [c1]), (Col.ints .i64 [n1])])))]) (k (.sa (.one (bv false))) [(some (SO.own w MK.row 31 2 (Ct.tab 1 [(Col.ints .u8 [c1]), (Col.ints .i64 [n1])])))])) := by kernel_rfl
theorem t_con2 (w : Bool) (c n c1 n1 c2 n2 : Int) (k : SV → St → Prop) : evCall cxL0 (ev cxL0 100) 25 [.one (.ref 0), lkA c n] [lrow w 2 [c1, c2] [n1, n2]] k =
    (branch ((eqK c c1) && ((eqK n n1) && true)) (k (.sa (.one (bv true))) [(some (SO.own w MK.row 31 2 (Ct.tab 2 [(Col.ints .u8 [c1, c2]), (Col.ints .i64 [n1, n2])])))]) (branch ((eqK c c2) && ((eqK n n2) && true)) (k (.sa (.one (bv true))) [(some (SO.own w MK.row 31 2 (Ct.tab 2 [(Col.ints .u8 [c1, c2]), (Col.ints .i64 [n1, n2])])))]) (k (.sa (.one (bv false))) [(some (SO.own w MK.row 31 2 (Ct.tab 2 [(Col.ints .u8 [c1, c2]), (Col.ints .i64 [n1, n2])])))]))) := by kernel_rfl
theorem t_con3 (w : Bool) (c n c1 n1 c2 n2 c3 n3 : Int) (k : SV → St → Prop) : evCall cxL0 (ev cxL0 100) 25 [.one (.ref 0), lkA c n] [lrow w 3 [c1, c2, c3] [n1, n2, n3]] k =
    (branch ((eqK c c1) && ((eqK n n1) && true)) (k (.sa (.one (bv true))) [(some (SO.own w MK.row 31 2 (Ct.tab 3 [(Col.ints .u8 [c1, c2, c3]), (Col.ints .i64 [n1, n2, n3])])))]) (branch ((eqK c c2) && ((eqK n n2) && true)) (k (.sa (.one (bv true))) [(some (SO.own w MK.row 31 2 (Ct.tab 3 [(Col.ints .u8 [c1, c2, c3]), (Col.ints .i64 [n1, n2, n3])])))]) (branch ((eqK c c3) && ((eqK n n3) && true)) (k (.sa (.one (bv true))) [(some (SO.own w MK.row 31 2 (Ct.tab 3 [(Col.ints .u8 [c1, c2, c3]), (Col.ints .i64 [n1, n2, n3])])))]) (k (.sa (.one (bv false))) [(some (SO.own w MK.row 31 2 (Ct.tab 3 [(Col.ints .u8 [c1, c2, c3]), (Col.ints .i64 [n1, n2, n3])])))])))) := by kernel_rfl
theorem t_conN (c n : Int) (q : Nat) (k : SV → St → Prop) : evCall cxL0 (ev cxL0 100) 25 [.one (.raw (.slice none 0 q)), lkA c n] [] k =
    (k (.sa (.one (bv false))) []) := by kernel_rfl
end Go.Ev
