/- The law RouteCalls: contexts. Definitions alone. No conditions. -/
import Derived.Test.YtcdakjhcnamncaaRkF
set_option linter.unusedVariables false
namespace Go.Ev
open Go Go.Proofs Go.Spec
abbrev frL (q n : Nat) (i : Int) : Fr := frm 257 [(8, (.sa (.one (SC.ptr 3 0 0)))), (9, (.sa (.one (SC.ptr 4 0 0)))), (11, (.sa (.one (SC.ptr q 0 0)))), (77, (.sa (.one (SC.ref 2)))), (78, (.sa (.one (iv .i64 ((n : Nat) : Int))))), (79, (.sa (.one (iv .i64 i))))]
noncomputable abbrev kE (c : Cx) (M : Nat) (k : KT) : Exit → Fr → St → Prop := kBlock 0 (kSeq (ev c (M + 72) 3 6 (codeAt Try.prog 6 [1, 1, 1, 1, 1, 1, 1, 1])) (kRet (Cx.P c) [(ResultVar.cell 8 4)] 3 k))
abbrev kF (k : KT) (n : Nat) (xs ys ks is : List Int) : Prop := k (rB false) [exO xs, exO ys, taO n ks is]
abbrev kT (k : KT) (n : Nat) (xs ys ks is : List Int) : Prop := k (rB true) [exO xs, exO ys, taO n ks is]
def tidN : Nat → Nat → List Tidy
 | 0, _ => []
 | n + 1, j => ⟨9, [0, 0, j, 7], 26⟩ :: tidN n (j + 1)
noncomputable def cxSd : Cx := mkCx Try.prog [] [(37, 3, [0, 3, 4], []), (37, 7, [0, 3, 4, 5], [])] []
/-- The document's routes of what may not be: none. -/
def fRfBad (vas : List VA) (k : KT) : Prop := match vas with
 | [.a (.agg [.raw (.int .i64 mtu), .raw (.int .u16 ss), .raw (.int .i64 sr), .raw (.int .i64 rr), .raw (.int .i64 mm), .raw (.int .u32 ri), .raw (.int .u32 rmin), .raw (.int .u32 rmax), .raw (.int .u8 it), .raw (.int .u8 pt), .raw (.int .u8 al), .raw (.int .u32 beat), .raw (.int .u32 life)]), .a (.one (.dat .u32 xs)), .a (.one (.dat .u32 ys))] =>
   need (decide (xs.length ≤ 1000000) && (decide (ys.length ≤ 1000000) && Bool.not (addrB xs && addrB ys))) (k (.tup [(.one (SC.raw (Value.pointer Option.none))), (.one (bv false))]) [])
 | _ => False
def sRfBad : SumT := pureSum [.cells [], .cells [some .u32], .cells [some .u32]] fRfBad
noncomputable def cxRfB : Cx := mkCx Try.prog [(37, sAddr), (36, sMay)] [(24, 5, [1, 2, 3, 8, 9], [])] []
noncomputable def cxRlB : Cx := mkCx Try.prog [(7, sTrue), (8, sRnBad), (24, sRfBad)] [] []
noncomputable def cxRl (N : Nat) : Cx := mkCx Try.prog [(7, sTrue), (30, sAddr), (31, sPNew), (37, sAddr), (36, sMay), (25, sTell), (18, sChoose), (26, sChooseR), (16, sNext), (27, sNextR), (10, sMiss), (21, sPrim), (20, sFind)]
 [(6, 12, [8, 9, 11, 77, 78, 79], tidN N 0), (6, 1000016, [8, 9, 11, 13, 77, 78, 79], []), (6, 1000024, [8, 9, 11, 77, 78, 79], []), (6, 1000029, [8, 9, 11], [])] (wrP ++ [(18, 2), (26, 2), (16, 2), (27, 2), (20, 2)])
end Go.Ev
