/- ConfAgree: the end's loop as a word. Definitions alone. No conditions. -/
import Derived.Test.YtiplgpnegolegaaCaE
set_option linter.unusedVariables false
namespace Go.Ev
open Go Go.Proofs Go.Spec
/-- The head of the end's loop. -/
noncomputable def caE (E : Ag) (p : Pr) (j : Int) (N M : Nat) (k : SV → St → Prop) : Prop := ev cxCa N 3 6 (codeAt Try.prog 6 [1, 1, 1, 1, 1, 1, 1, 0, 1, 0]) (frm 150 [(15, .sa (.one (.ptr 3 0 0))), (83, .sa (.one (iv .i64 j)))]) (prL E p []) (kBlock 2 (kSeq (ev cxCa (M + 72) 3 6 (codeAt Try.prog 6 [1, 1, 1, 1, 1, 1, 1, 1])) (kRet (Cx.P cxCa) [(ResultVar.tmp 10)] 3 k)))
end Go.Ev
