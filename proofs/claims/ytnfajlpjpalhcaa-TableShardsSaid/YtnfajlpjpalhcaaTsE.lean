/- Table: texts ShE5, ShE6, ShE7, ShE8, TlP, TlQ, SdV, SdW, one behind the other. No conditions. -/
import Derived.Test.YtnfajlpjpalhcaaTsD
import Derived.Test.YtnfajlpjpalhcaaEvD
set_option linter.unusedVariables false
set_option linter.unusedSimpArgs false
section
namespace Go.Ev
open Go Go.Proofs Go.Spec
theorem t_shE4B (a la j p0 f0 g0 : Int) (L M m n b0 cl : Nat) (rs : List MapEntry) (D D2 : TbD) (ks : List Kx) (us c0 c1 c2 d0 d1 d2 : List Int) (k : Exit → Fr → St → Prop) : ev cxSh (L + 58) 20 34 (codeAt Try.prog 34 [1, 0]) (frm 18 [(0, (.sa (.one (SC.ref 19)))), (5, (.sa (.one (SC.ref 14)))), (6, .sa (kint ((lenK ks : Nat) : Int))), (7, .sa (kint j))]) [rowKs m c0 c1 c2, rowKs n d0 d1 d2, obj 4 1 [bv false], tbox 4, some (.abs true 0 D), tbox 6, some (.abs true 0 D2), obj 58 1 [.ref 8], some (.mv true [.u32, .u16, .u16] [⟨[p0, f0, g0], some (.one (iv .i64 1)), b0⟩] rs cl 0), obj 3 1 [iv .i64 la], some (.clo (.func 23) [] [.one (.ptr 11 0 0)]), tbox 4, some (.lp true 4 (frm 147 [(0, .sa (kint a)), (8, (.sa (.one (.ptr 2 0 0)))), (9, (.sa (.one (.ptr 3 0 0)))), (11, (.sa (.one (.ptr 5 0 0)))), (17, (.sa (.one (.ptr 7 0 0)))), (18, (.sa (.one (.ptr 9 0 0)))), (87, (.sa (.one (.ref 4)))), (88, (.sa (.one (.ref 10))))]) [89, 90] (codeAt Try.prog 4 [1, 1, 1, 1, 1, 1, 1, 1, 1, 1, 1, 0, 1, 0, 0]) (codeAt Try.prog 4 [1, 1, 1, 1, 1, 1, 1, 1, 1, 1, 1, 0, 1, 0, 1]) 0 none), obj 64 1 [.ref 12], rowX ks, obj 65 1 [.ref 16], some (.own true .row 3 1 (.ints .i64 us)), some (.clo (.func 34) [] [.one (.ptr 18 0 0)]), obj 57 1 [.ref 14], some (.lp true 23 (frm 59 [(2, (.sa (.one (SC.ptr 13 0 0)))), (3, (.sa (.one (SC.ref 14)))), (4, (.sa (.one (SC.ptr 15 0 0)))), (47, (.sa (.one (SC.ref 14)))), (48, (.sa (.one (SC.ref 17))))]) [49, 50] (codeAt Try.prog 23 [1, 1, 1, 1, 1, 0, 0]) (codeAt Try.prog 23 [1, 1, 1, 1, 1, 0, 1]) 0 none)] (kBlock 0 (kRet (Cx.P cxSh) [] 20 (kRange (ev cxSh (M + 60)) 13 23 19 (frm 59 [(2, (.sa (.one (SC.ptr 13 0 0)))), (3, (.sa (.one (SC.ref 14)))), (4, (.sa (.one (SC.ptr 15 0 0)))), (47, (.sa (.one (SC.ref 14)))), (48, (.sa (.one (SC.ref 17))))]) (kBlock 4 k)))) =
    (Again (branch (decide ((j < (((Spec.lenK ks) : Nat) : Int)))) (need (decide (((0) ≤ j))) (need (decide ((j < (((Spec.lenK ks) : Nat) : Int)))) (need (decide (((0 + (Int.toNat j)) < (Spec.lenK ks)))) (need (decide (((0) ≤ j))) (need (decide ((j < (((List.length us) : Nat) : Int)))) (need (decide (((0 + (Int.toNat j)) < (List.length us)))) (here (Cx.P cxSh) 4 [1, 1, 1, 1, 1, 1, 1, 1, 1, 1, 1, 0, 1, 0, 1, 0, 1, 0, 0] (codeAt (Cx.P cxSh) 4 [1, 1, 1, 1, 1, 1, 1, 1, 1, 1, 1, 0, 1, 0, 1, 0, 1, 0, 0]) (need (Spec.freshM (List.getD (Spec.colP ks) (0 + (Int.toNat j)) (0)) (List.getD (Spec.colF ks) (0 + (Int.toNat j)) (0)) (List.getD (Spec.colG ks) (0 + (Int.toNat j)) (0)) ((MapEntry.mk (Value.agg (Array.mk [(Value.int .u32 p0), (Value.int .u16 f0), (Value.int .u16 g0)])) (Value.int .i64 (1)) b0) :: rs)) (branch (Bool.not (Spec.getB D2 (List.getD (Spec.colP ks) (0 + (Int.toNat j)) (0)) (List.getD (Spec.colF ks) (0 + (Int.toNat j)) (0)) (List.getD (Spec.colG ks) (0 + (Int.toNat j)) (0)))) (k Exit.ret (frm 59 [(2, (.sa (.one (SC.ptr 13 0 0)))), (3, (.sa (.one (SC.ref 14)))), (4, (.sa (.one (SC.ptr 15 0 0)))), (47, (.sa (.one (SC.ref 14)))), (48, (.sa (.one (SC.ref 17))))]) [(some (SO.own false MK.ext 0 3 (Ct.tab m [(Col.ints .u32 c0), (Col.ints .u16 c1), (Col.ints .u16 c2)]))), (some (SO.own false MK.ext 0 3 (Ct.tab n [(Col.ints .u32 d0), (Col.ints .u16 d1), (Col.ints .u16 d2)]))), (obj 4 1 [(bv false)]), (obj 24 1 [(SC.ref 4)]), (some (SO.abs true 0 D)), (obj 24 1 [(SC.ref 6)]), (some (SO.abs true 0 D2)), (obj 58 1 [(SC.ref 8)]), (some (SO.mv true [.u32, .u16, .u16] [(VE.mk [(List.getD (Spec.colP ks) (0 + (Int.toNat j)) (0)), (List.getD (Spec.colF ks) (0 + (Int.toNat j)) (0)), (List.getD (Spec.colG ks) (0 + (Int.toNat j)) (0))] (some (.one (iv .i64 (1)))) cl)] ((MapEntry.mk (Value.agg (Array.mk [(Value.int .u32 p0), (Value.int .u16 f0), (Value.int .u16 g0)])) (Value.int .i64 (1)) b0) :: rs) (cl + 1) 0)), (obj 3 1 [(iv .i64 la)]), (some (SO.clo (Fn.func 23) [] [(.one (SC.ptr 11 0 0))])), (obj 24 1 [(SC.ref 4)]), (some (SO.lp true 4 (frm 147 [(0, (.sa (.one (iv .i64 a)))), (8, (.sa (.one (SC.ptr 2 0 0)))), (9, (.sa (.one (SC.ptr 3 0 0)))), (11, (.sa (.one (SC.ptr 5 0 0)))), (17, (.sa (.one (SC.ptr 7 0 0)))), (18, (.sa (.one (SC.ptr 9 0 0)))), (87, (.sa (.one (SC.ref 4)))), (88, (.sa (.one (SC.ref 10))))]) [89, 90] (codeAt Proofs.Try.prog 4 [1, 1, 1, 1, 1, 1, 1, 1, 1, 1, 1, 0, 1, 0, 0]) (codeAt Proofs.Try.prog 4 [1, 1, 1, 1, 1, 1, 1, 1, 1, 1, 1, 0, 1, 0, 1]) 2 (some (codeAt Try.prog 4 [1, 0, 1, 0, 1])))), (obj 64 1 [(SC.ref 12)]), (some (SO.own true MK.row 36 3 (Ct.tab (Spec.lenK ks) [(Col.ints .u32 (Spec.colP ks)), (Col.ints .u16 (Spec.colF ks)), (Col.ints .u16 (Spec.colG ks))]))), (obj 65 1 [(SC.ref 16)]), (some (SO.own true MK.row 3 1 (Ct.ints .i64 us))), (some (SO.clo (Fn.func 34) [] [(.one (SC.ptr 18 0 0))])), (obj 57 1 [(SC.ref 14)]), (some (SO.lp true 23 (frm 59 [(2, (.sa (.one (SC.ptr 13 0 0)))), (3, (.sa (.one (SC.ref 14)))), (4, (.sa (.one (SC.ptr 15 0 0)))), (47, (.sa (.one (SC.ref 14)))), (48, (.sa (.one (SC.ref 17))))]) [49, 50] (codeAt Proofs.Try.prog 23 [1, 1, 1, 1, 1, 0, 0]) (codeAt Proofs.Try.prog 23 [1, 1, 1, 1, 1, 0, 1]) 3 (some (codeAt Try.prog 4 [1, 0, 1, 0, 1]))))]) (branch (Bool.not (eqK (List.getD us (0 + (Int.toNat j)) (0)) (Spec.getI D2 (List.getD (Spec.colP ks) (0 + (Int.toNat j)) (0)) (List.getD (Spec.colF ks) (0 + (Int.toNat j)) (0)) (List.getD (Spec.colG ks) (0 + (Int.toNat j)) (0))))) (k Exit.ret (frm 59 [(2, (.sa (.one (SC.ptr 13 0 0)))), (3, (.sa (.one (SC.ref 14)))), (4, (.sa (.one (SC.ptr 15 0 0)))), (47, (.sa (.one (SC.ref 14)))), (48, (.sa (.one (SC.ref 17))))]) [(some (SO.own false MK.ext 0 3 (Ct.tab m [(Col.ints .u32 c0), (Col.ints .u16 c1), (Col.ints .u16 c2)]))), (some (SO.own false MK.ext 0 3 (Ct.tab n [(Col.ints .u32 d0), (Col.ints .u16 d1), (Col.ints .u16 d2)]))), (obj 4 1 [(bv false)]), (obj 24 1 [(SC.ref 4)]), (some (SO.abs true 0 D)), (obj 24 1 [(SC.ref 6)]), (some (SO.abs true 0 D2)), (obj 58 1 [(SC.ref 8)]), (some (SO.mv true [.u32, .u16, .u16] [(VE.mk [(List.getD (Spec.colP ks) (0 + (Int.toNat j)) (0)), (List.getD (Spec.colF ks) (0 + (Int.toNat j)) (0)), (List.getD (Spec.colG ks) (0 + (Int.toNat j)) (0))] (some (.one (iv .i64 (1)))) cl)] ((MapEntry.mk (Value.agg (Array.mk [(Value.int .u32 p0), (Value.int .u16 f0), (Value.int .u16 g0)])) (Value.int .i64 (1)) b0) :: rs) (cl + 1) 0)), (obj 3 1 [(iv .i64 la)]), (some (SO.clo (Fn.func 23) [] [(.one (SC.ptr 11 0 0))])), (obj 24 1 [(SC.ref 4)]), (some (SO.lp true 4 (frm 147 [(0, (.sa (.one (iv .i64 a)))), (8, (.sa (.one (SC.ptr 2 0 0)))), (9, (.sa (.one (SC.ptr 3 0 0)))), (11, (.sa (.one (SC.ptr 5 0 0)))), (17, (.sa (.one (SC.ptr 7 0 0)))), (18, (.sa (.one (SC.ptr 9 0 0)))), (87, (.sa (.one (SC.ref 4)))), (88, (.sa (.one (SC.ref 10))))]) [89, 90] (codeAt Proofs.Try.prog 4 [1, 1, 1, 1, 1, 1, 1, 1, 1, 1, 1, 0, 1, 0, 0]) (codeAt Proofs.Try.prog 4 [1, 1, 1, 1, 1, 1, 1, 1, 1, 1, 1, 0, 1, 0, 1]) 2 (some (codeAt Try.prog 4 [1, 0, 1, 0, 1])))), (obj 64 1 [(SC.ref 12)]), (some (SO.own true MK.row 36 3 (Ct.tab (Spec.lenK ks) [(Col.ints .u32 (Spec.colP ks)), (Col.ints .u16 (Spec.colF ks)), (Col.ints .u16 (Spec.colG ks))]))), (obj 65 1 [(SC.ref 16)]), (some (SO.own true MK.row 3 1 (Ct.ints .i64 us))), (some (SO.clo (Fn.func 34) [] [(.one (SC.ptr 18 0 0))])), (obj 57 1 [(SC.ref 14)]), (some (SO.lp true 23 (frm 59 [(2, (.sa (.one (SC.ptr 13 0 0)))), (3, (.sa (.one (SC.ref 14)))), (4, (.sa (.one (SC.ptr 15 0 0)))), (47, (.sa (.one (SC.ref 14)))), (48, (.sa (.one (SC.ref 17))))]) [49, 50] (codeAt Proofs.Try.prog 23 [1, 1, 1, 1, 1, 0, 0]) (codeAt Proofs.Try.prog 23 [1, 1, 1, 1, 1, 0, 1]) 3 (some (codeAt Try.prog 4 [1, 0, 1, 0, 1]))))]) (need ((eqK (List.getD (Spec.colP ks) (0 + (Int.toNat j)) (0)) (List.getD (Spec.colP ks) (0 + (Int.toNat j)) (0))) && ((eqK (List.getD (Spec.colF ks) (0 + (Int.toNat j)) (0)) (List.getD (Spec.colF ks) (0 + (Int.toNat j)) (0))) && (eqK (List.getD (Spec.colG ks) (0 + (Int.toNat j)) (0)) (List.getD (Spec.colG ks) (0 + (Int.toNat j)) (0))))) (branch (decide (((Spec.shI (List.length D.sh) (List.getD (Spec.colP ks) (0 + (Int.toNat j)) (0)) (List.getD (Spec.colF ks) (0 + (Int.toNat j)) (0)) (List.getD (Spec.colG ks) (0 + (Int.toNat j)) (0))) < la))) (k Exit.ret (frm 59 [(2, (.sa (.one (SC.ptr 13 0 0)))), (3, (.sa (.one (SC.ref 14)))), (4, (.sa (.one (SC.ptr 15 0 0)))), (47, (.sa (.one (SC.ref 14)))), (48, (.sa (.one (SC.ref 17))))]) [(some (SO.own false MK.ext 0 3 (Ct.tab m [(Col.ints .u32 c0), (Col.ints .u16 c1), (Col.ints .u16 c2)]))), (some (SO.own false MK.ext 0 3 (Ct.tab n [(Col.ints .u32 d0), (Col.ints .u16 d1), (Col.ints .u16 d2)]))), (obj 4 1 [(bv false)]), (obj 24 1 [(SC.ref 4)]), (some (SO.abs true 0 D)), (obj 24 1 [(SC.ref 6)]), (some (SO.abs true 0 D2)), (obj 58 1 [(SC.ref 8)]), (some (SO.mv true [.u32, .u16, .u16] [(VE.mk [(List.getD (Spec.colP ks) (0 + (Int.toNat j)) (0)), (List.getD (Spec.colF ks) (0 + (Int.toNat j)) (0)), (List.getD (Spec.colG ks) (0 + (Int.toNat j)) (0))] (some (.one (iv .i64 (1)))) cl)] ((MapEntry.mk (Value.agg (Array.mk [(Value.int .u32 p0), (Value.int .u16 f0), (Value.int .u16 g0)])) (Value.int .i64 (1)) b0) :: rs) (cl + 1) 0)), (obj 3 1 [(iv .i64 la)]), (some (SO.clo (Fn.func 23) [] [(.one (SC.ptr 11 0 0))])), (obj 24 1 [(SC.ref 4)]), (some (SO.lp true 4 (frm 147 [(0, (.sa (.one (iv .i64 a)))), (8, (.sa (.one (SC.ptr 2 0 0)))), (9, (.sa (.one (SC.ptr 3 0 0)))), (11, (.sa (.one (SC.ptr 5 0 0)))), (17, (.sa (.one (SC.ptr 7 0 0)))), (18, (.sa (.one (SC.ptr 9 0 0)))), (87, (.sa (.one (SC.ref 4)))), (88, (.sa (.one (SC.ref 10))))]) [89, 90] (codeAt Proofs.Try.prog 4 [1, 1, 1, 1, 1, 1, 1, 1, 1, 1, 1, 0, 1, 0, 0]) (codeAt Proofs.Try.prog 4 [1, 1, 1, 1, 1, 1, 1, 1, 1, 1, 1, 0, 1, 0, 1]) 2 (some (codeAt Try.prog 4 [1, 0, 1, 0, 1])))), (obj 64 1 [(SC.ref 12)]), (some (SO.own true MK.row 36 3 (Ct.tab (Spec.lenK ks) [(Col.ints .u32 (Spec.colP ks)), (Col.ints .u16 (Spec.colF ks)), (Col.ints .u16 (Spec.colG ks))]))), (obj 65 1 [(SC.ref 16)]), (some (SO.own true MK.row 3 1 (Ct.ints .i64 us))), (some (SO.clo (Fn.func 34) [] [(.one (SC.ptr 18 0 0))])), (obj 57 1 [(SC.ref 14)]), (some (SO.lp true 23 (frm 59 [(2, (.sa (.one (SC.ptr 13 0 0)))), (3, (.sa (.one (SC.ref 14)))), (4, (.sa (.one (SC.ptr 15 0 0)))), (47, (.sa (.one (SC.ref 14)))), (48, (.sa (.one (SC.ref 17))))]) [49, 50] (codeAt Proofs.Try.prog 23 [1, 1, 1, 1, 1, 0, 0]) (codeAt Proofs.Try.prog 23 [1, 1, 1, 1, 1, 0, 1]) 3 (some (codeAt Try.prog 4 [1, 0, 1, 0, 1]))))]) (ev cxSh (L + 57) 20 34 (codeAt Try.prog 34 [1, 0]) (frm 18 [(0, (.sa (.one (SC.ref 19)))), (5, (.sa (.one (SC.ref 14)))), (6, (.sa (.one (iv .i64 (((Spec.lenK ks) : Nat) : Int))))), (7, (.sa (.one (iv .i64 (addK .i64 j (1))))))]) [(some (SO.own false MK.ext 0 3 (Ct.tab m [(Col.ints .u32 c0), (Col.ints .u16 c1), (Col.ints .u16 c2)]))), (some (SO.own false MK.ext 0 3 (Ct.tab n [(Col.ints .u32 d0), (Col.ints .u16 d1), (Col.ints .u16 d2)]))), (obj 4 1 [(bv false)]), (obj 24 1 [(SC.ref 4)]), (some (SO.abs true 0 D)), (obj 24 1 [(SC.ref 6)]), (some (SO.abs true 0 D2)), (obj 58 1 [(SC.ref 8)]), (some (SO.mv true [.u32, .u16, .u16] [(VE.mk [(List.getD (Spec.colP ks) (0 + (Int.toNat j)) (0)), (List.getD (Spec.colF ks) (0 + (Int.toNat j)) (0)), (List.getD (Spec.colG ks) (0 + (Int.toNat j)) (0))] (some (.one (iv .i64 (1)))) cl)] ((MapEntry.mk (Value.agg (Array.mk [(Value.int .u32 p0), (Value.int .u16 f0), (Value.int .u16 g0)])) (Value.int .i64 (1)) b0) :: rs) (cl + 1) 0)), (obj 3 1 [(iv .i64 (Spec.shI (List.length D.sh) (List.getD (Spec.colP ks) (0 + (Int.toNat j)) (0)) (List.getD (Spec.colF ks) (0 + (Int.toNat j)) (0)) (List.getD (Spec.colG ks) (0 + (Int.toNat j)) (0))))]), (some (SO.clo (Fn.func 23) [] [(.one (SC.ptr 11 0 0))])), (obj 24 1 [(SC.ref 4)]), (some (SO.lp true 4 (frm 147 [(0, (.sa (.one (iv .i64 a)))), (8, (.sa (.one (SC.ptr 2 0 0)))), (9, (.sa (.one (SC.ptr 3 0 0)))), (11, (.sa (.one (SC.ptr 5 0 0)))), (17, (.sa (.one (SC.ptr 7 0 0)))), (18, (.sa (.one (SC.ptr 9 0 0)))), (87, (.sa (.one (SC.ref 4)))), (88, (.sa (.one (SC.ref 10))))]) [89, 90] (codeAt Proofs.Try.prog 4 [1, 1, 1, 1, 1, 1, 1, 1, 1, 1, 1, 0, 1, 0, 0]) (codeAt Proofs.Try.prog 4 [1, 1, 1, 1, 1, 1, 1, 1, 1, 1, 1, 0, 1, 0, 1]) 0 Option.none)), (obj 64 1 [(SC.ref 12)]), (some (SO.own true MK.row 36 3 (Ct.tab (Spec.lenK ks) [(Col.ints .u32 (Spec.colP ks)), (Col.ints .u16 (Spec.colF ks)), (Col.ints .u16 (Spec.colG ks))]))), (obj 65 1 [(SC.ref 16)]), (some (SO.own true MK.row 3 1 (Ct.ints .i64 us))), (some (SO.clo (Fn.func 34) [] [(.one (SC.ptr 18 0 0))])), (obj 57 1 [(SC.ref 14)]), (some (SO.lp true 23 (frm 59 [(2, (.sa (.one (SC.ptr 13 0 0)))), (3, (.sa (.one (SC.ref 14)))), (4, (.sa (.one (SC.ptr 15 0 0)))), (47, (.sa (.one (SC.ref 14)))), (48, (.sa (.one (SC.ref 17))))]) [49, 50] (codeAt Proofs.Try.prog 23 [1, 1, 1, 1, 1, 0, 0]) (codeAt Proofs.Try.prog 23 [1, 1, 1, 1, 1, 0, 1]) 0 Option.none))] (kBlock 0 (kRet (Cx.P cxSh) [] 20 (kRange (ev cxSh (M + 60)) 13 23 19 (frm 59 [(2, (.sa (.one (SC.ptr 13 0 0)))), (3, (.sa (.one (SC.ref 14)))), (4, (.sa (.one (SC.ptr 15 0 0)))), (47, (.sa (.one (SC.ref 14)))), (48, (.sa (.one (SC.ref 17))))]) (kBlock 4 k))))))))))))))))) (k Exit.normal (frm 59 [(2, (.sa (.one (SC.ptr 13 0 0)))), (3, (.sa (.one (SC.ref 14)))), (4, (.sa (.one (SC.ptr 15 0 0)))), (47, (.sa (.one (SC.ref 14)))), (48, (.sa (.one (SC.ref 17))))]) [(some (SO.own false MK.ext 0 3 (Ct.tab m [(Col.ints .u32 c0), (Col.ints .u16 c1), (Col.ints .u16 c2)]))), (some (SO.own false MK.ext 0 3 (Ct.tab n [(Col.ints .u32 d0), (Col.ints .u16 d1), (Col.ints .u16 d2)]))), (obj 4 1 [(bv false)]), (obj 24 1 [(SC.ref 4)]), (some (SO.abs true 0 D)), (obj 24 1 [(SC.ref 6)]), (some (SO.abs true 0 D2)), (obj 58 1 [(SC.ref 8)]), (some (SO.mv true [.u32, .u16, .u16] [(VE.mk [p0, f0, g0] (some (.one (iv .i64 (1)))) b0)] rs cl 0)), (obj 3 1 [(iv .i64 la)]), (some (SO.clo (Fn.func 23) [] [(.one (SC.ptr 11 0 0))])), (obj 24 1 [(SC.ref 4)]), (some (SO.lp true 4 (frm 147 [(0, (.sa (.one (iv .i64 a)))), (8, (.sa (.one (SC.ptr 2 0 0)))), (9, (.sa (.one (SC.ptr 3 0 0)))), (11, (.sa (.one (SC.ptr 5 0 0)))), (17, (.sa (.one (SC.ptr 7 0 0)))), (18, (.sa (.one (SC.ptr 9 0 0)))), (87, (.sa (.one (SC.ref 4)))), (88, (.sa (.one (SC.ref 10))))]) [89, 90] (codeAt Proofs.Try.prog 4 [1, 1, 1, 1, 1, 1, 1, 1, 1, 1, 1, 0, 1, 0, 0]) (codeAt Proofs.Try.prog 4 [1, 1, 1, 1, 1, 1, 1, 1, 1, 1, 1, 0, 1, 0, 1]) 0 Option.none)), (obj 64 1 [(SC.ref 12)]), (some (SO.own true MK.row 36 3 (Ct.tab (Spec.lenK ks) [(Col.ints .u32 (Spec.colP ks)), (Col.ints .u16 (Spec.colF ks)), (Col.ints .u16 (Spec.colG ks))]))), (obj 65 1 [(SC.ref 16)]), (some (SO.own true MK.row 3 1 (Ct.ints .i64 us))), (some (SO.clo (Fn.func 34) [] [(.one (SC.ptr 18 0 0))])), (obj 57 1 [(SC.ref 14)]), (some (SO.lp true 23 (frm 59 [(2, (.sa (.one (SC.ptr 13 0 0)))), (3, (.sa (.one (SC.ref 14)))), (4, (.sa (.one (SC.ptr 15 0 0)))), (47, (.sa (.one (SC.ref 14)))), (48, (.sa (.one (SC.ref 17))))]) [49, 50] (codeAt Proofs.Try.prog 23 [1, 1, 1, 1, 1, 0, 0]) (codeAt Proofs.Try.prog 23 [1, 1, 1, 1, 1, 0, 1]) 3 Option.none))]))) := by kernel_rfl
end Go.Ev
end
section
namespace Go.Ev
open Go Go.Proofs Go.Spec
theorem t_shE6A (a la : Int) (L m n : Nat) (D D2 : TbD) (ks : List Kx) (us c0 c1 c2 d0 d1 d2 : List Int) (k : Exit → Fr → St → Prop) : (kRet (Cx.P cxSh) [] 13 (kRange (ev cxSh (L + 85)) 2 4 12 (frm 147 [(0, .sa (kint a)), (8, (.sa (.one (.ptr 2 0 0)))), (9, (.sa (.one (.ptr 3 0 0)))), (11, (.sa (.one (.ptr 5 0 0)))), (17, (.sa (.one (.ptr 7 0 0)))), (18, (.sa (.one (.ptr 9 0 0)))), (87, (.sa (.one (.ref 4)))), (88, (.sa (.one (.ref 10))))]) (kBlock 4 (kSeq (ev cxSh (L + 88) 2 4 (codeAt Try.prog 4 [1, 1, 1, 1, 1, 1, 1, 1, 1, 1, 1, 1])) k)))) Exit.normal (frm 59 [(2, (.sa (.one (SC.ptr 13 0 0)))), (3, (.sa (.one (SC.ref 14)))), (4, (.sa (.one (SC.ptr 15 0 0)))), (47, (.sa (.one (SC.ref 14)))), (48, (.sa (.one (SC.ref 17))))]) [rowKs m c0 c1 c2, rowKs n d0 d1 d2, obj 4 1 [bv false], tbox 4, some (.abs true 0 D), tbox 6, some (.abs true 0 D2), obj 58 1 [.ref 8], some (.mp true [] 0), obj 3 1 [iv .i64 la], some (.clo (.func 23) [] [.one (.ptr 11 0 0)]), tbox 4, some (.lp true 4 (frm 147 [(0, .sa (kint a)), (8, (.sa (.one (.ptr 2 0 0)))), (9, (.sa (.one (.ptr 3 0 0)))), (11, (.sa (.one (.ptr 5 0 0)))), (17, (.sa (.one (.ptr 7 0 0)))), (18, (.sa (.one (.ptr 9 0 0)))), (87, (.sa (.one (.ref 4)))), (88, (.sa (.one (.ref 10))))]) [89, 90] (codeAt Try.prog 4 [1, 1, 1, 1, 1, 1, 1, 1, 1, 1, 1, 0, 1, 0, 0]) (codeAt Try.prog 4 [1, 1, 1, 1, 1, 1, 1, 1, 1, 1, 1, 0, 1, 0, 1]) 0 none), obj 64 1 [.ref 12], rowX ks, obj 65 1 [.ref 16], some (.own true .row 3 1 (.ints .i64 us)), some (.clo (.func 34) [] [.one (.ptr 18 0 0)]), obj 57 1 [.ref 14], some (.lp true 23 (frm 59 [(2, (.sa (.one (SC.ptr 13 0 0)))), (3, (.sa (.one (SC.ref 14)))), (4, (.sa (.one (SC.ptr 15 0 0)))), (47, (.sa (.one (SC.ref 14)))), (48, (.sa (.one (SC.ref 17))))]) [49, 50] (codeAt Try.prog 23 [1, 1, 1, 1, 1, 0, 0]) (codeAt Try.prog 23 [1, 1, 1, 1, 1, 0, 1]) 3 none)] =
    (ev cxSh (L + 84) 2 4 (codeAt Try.prog 4 [1, 1, 1, 1, 1, 1, 1, 1, 1, 1, 1, 1, 1, 0, 1, 0]) (frm 147 [(8, (.sa (.one (SC.ptr 2 0 0)))), (9, (.sa (.one (SC.ptr 3 0 0)))), (17, (.sa (.one (SC.ptr 5 0 0)))), (23, (.sa (.one (iv .i64 (0))))), (126, (.sa (.one (iv .i64 a)))), (127, (.sa (.one (iv .i64 (0)))))]) [(some (SO.own false MK.ext 0 3 (Ct.tab m [(Col.ints .u32 c0), (Col.ints .u16 c1), (Col.ints .u16 c2)]))), (some (SO.own false MK.ext 0 3 (Ct.tab n [(Col.ints .u32 d0), (Col.ints .u16 d1), (Col.ints .u16 d2)]))), (obj 4 1 [(bv false)]), (obj 24 1 [(SC.ref 4)]), (some (SO.abs true 0 D)), (obj 58 1 [(SC.ref 6)]), (some (SO.mp true [] 0))] (kBlock 6 (kSeq (ev cxSh (L + 86) 2 4 (codeAt Try.prog 4 [1, 1, 1, 1, 1, 1, 1, 1, 1, 1, 1, 1, 1, 1])) k))) := by kernel_rfl
theorem t_shE6B (a la p0 f0 g0 : Int) (L m n b0 cl : Nat) (rs : List MapEntry) (D D2 : TbD) (ks : List Kx) (us c0 c1 c2 d0 d1 d2 : List Int) (k : Exit → Fr → St → Prop) : (kRet (Cx.P cxSh) [] 13 (kRange (ev cxSh (L + 85)) 2 4 12 (frm 147 [(0, .sa (kint a)), (8, (.sa (.one (.ptr 2 0 0)))), (9, (.sa (.one (.ptr 3 0 0)))), (11, (.sa (.one (.ptr 5 0 0)))), (17, (.sa (.one (.ptr 7 0 0)))), (18, (.sa (.one (.ptr 9 0 0)))), (87, (.sa (.one (.ref 4)))), (88, (.sa (.one (.ref 10))))]) (kBlock 4 (kSeq (ev cxSh (L + 88) 2 4 (codeAt Try.prog 4 [1, 1, 1, 1, 1, 1, 1, 1, 1, 1, 1, 1])) k)))) Exit.normal (frm 59 [(2, (.sa (.one (SC.ptr 13 0 0)))), (3, (.sa (.one (SC.ref 14)))), (4, (.sa (.one (SC.ptr 15 0 0)))), (47, (.sa (.one (SC.ref 14)))), (48, (.sa (.one (SC.ref 17))))]) [rowKs m c0 c1 c2, rowKs n d0 d1 d2, obj 4 1 [bv false], tbox 4, some (.abs true 0 D), tbox 6, some (.abs true 0 D2), obj 58 1 [.ref 8], some (.mv true [.u32, .u16, .u16] [⟨[p0, f0, g0], some (.one (iv .i64 1)), b0⟩] rs cl 0), obj 3 1 [iv .i64 la], some (.clo (.func 23) [] [.one (.ptr 11 0 0)]), tbox 4, some (.lp true 4 (frm 147 [(0, .sa (kint a)), (8, (.sa (.one (.ptr 2 0 0)))), (9, (.sa (.one (.ptr 3 0 0)))), (11, (.sa (.one (.ptr 5 0 0)))), (17, (.sa (.one (.ptr 7 0 0)))), (18, (.sa (.one (.ptr 9 0 0)))), (87, (.sa (.one (.ref 4)))), (88, (.sa (.one (.ref 10))))]) [89, 90] (codeAt Try.prog 4 [1, 1, 1, 1, 1, 1, 1, 1, 1, 1, 1, 0, 1, 0, 0]) (codeAt Try.prog 4 [1, 1, 1, 1, 1, 1, 1, 1, 1, 1, 1, 0, 1, 0, 1]) 0 none), obj 64 1 [.ref 12], rowX ks, obj 65 1 [.ref 16], some (.own true .row 3 1 (.ints .i64 us)), some (.clo (.func 34) [] [.one (.ptr 18 0 0)]), obj 57 1 [.ref 14], some (.lp true 23 (frm 59 [(2, (.sa (.one (SC.ptr 13 0 0)))), (3, (.sa (.one (SC.ref 14)))), (4, (.sa (.one (SC.ptr 15 0 0)))), (47, (.sa (.one (SC.ref 14)))), (48, (.sa (.one (SC.ref 17))))]) [49, 50] (codeAt Try.prog 23 [1, 1, 1, 1, 1, 0, 0]) (codeAt Try.prog 23 [1, 1, 1, 1, 1, 0, 1]) 3 none)] =
    (ev cxSh (L + 84) 2 4 (codeAt Try.prog 4 [1, 1, 1, 1, 1, 1, 1, 1, 1, 1, 1, 1, 1, 0, 1, 0]) (frm 147 [(8, (.sa (.one (SC.ptr 2 0 0)))), (9, (.sa (.one (SC.ptr 3 0 0)))), (17, (.sa (.one (SC.ptr 5 0 0)))), (23, (.sa (.one (iv .i64 (0))))), (126, (.sa (.one (iv .i64 a)))), (127, (.sa (.one (iv .i64 (0)))))]) [(some (SO.own false MK.ext 0 3 (Ct.tab m [(Col.ints .u32 c0), (Col.ints .u16 c1), (Col.ints .u16 c2)]))), (some (SO.own false MK.ext 0 3 (Ct.tab n [(Col.ints .u32 d0), (Col.ints .u16 d1), (Col.ints .u16 d2)]))), (obj 4 1 [(bv false)]), (obj 24 1 [(SC.ref 4)]), (some (SO.abs true 0 D)), (obj 58 1 [(SC.ref 6)]), (some (SO.mv true [.u32, .u16, .u16] [(VE.mk [p0, f0, g0] (some (.one (iv .i64 (1)))) b0)] rs cl 0))] (kBlock 6 (kSeq (ev cxSh (L + 86) 2 4 (codeAt Try.prog 4 [1, 1, 1, 1, 1, 1, 1, 1, 1, 1, 1, 1, 1, 1])) k))) := by kernel_rfl
end Go.Ev
end
section
namespace Go.Ev
open Go Go.Proofs Go.Spec
theorem t_shFA (a i sm : Int) (L m n : Nat) (D : TbD) (c0 c1 c2 d0 d1 d2 : List Int) (k : Exit → Fr → St → Prop) : ev cxSh (L + 84) 2 4 (codeAt Try.prog 4 [1, 1, 1, 1, 1, 1, 1, 1, 1, 1, 1, 1, 1, 0, 1, 0]) (frm 147 [(8, (.sa (.one (.ptr 2 0 0)))), (9, (.sa (.one (.ptr 3 0 0)))), (17, (.sa (.one (.ptr 5 0 0)))), (23, .sa (kint sm)), (126, .sa (kint a)), (127, .sa (kint i))]) [rowKs m c0 c1 c2, rowKs n d0 d1 d2, obj 4 1 [bv false], tbox 4, some (.abs true 0 D), obj 58 1 [.ref 6], some (.mp true [] 0)] k =
    (Again (branch (decide ((i < a))) (ev cxSh (L + 83) 2 4 (codeAt Try.prog 4 [1, 1, 1, 1, 1, 1, 1, 1, 1, 1, 1, 1, 1, 0, 1, 0]) (frm 147 [(8, (.sa (.one (SC.ptr 2 0 0)))), (9, (.sa (.one (SC.ptr 3 0 0)))), (17, (.sa (.one (SC.ptr 5 0 0)))), (23, (.sa (.one (iv .i64 (addK .i64 sm (Spec.cntT D i)))))), (126, (.sa (.one (iv .i64 a)))), (127, (.sa (.one (iv .i64 (addK .i64 i (1))))))]) [(some (SO.own false MK.ext 0 3 (Ct.tab m [(Col.ints .u32 c0), (Col.ints .u16 c1), (Col.ints .u16 c2)]))), (some (SO.own false MK.ext 0 3 (Ct.tab n [(Col.ints .u32 d0), (Col.ints .u16 d1), (Col.ints .u16 d2)]))), (obj 4 1 [(bv false)]), (obj 24 1 [(SC.ref 4)]), (some (SO.abs true 0 D)), (obj 58 1 [(SC.ref 6)]), (some (SO.mp true [] 0))] k) (k (Exit.exit 6) (frm 147 [(8, (.sa (.one (SC.ptr 2 0 0)))), (9, (.sa (.one (SC.ptr 3 0 0)))), (17, (.sa (.one (SC.ptr 5 0 0)))), (23, (.sa (.one (iv .i64 sm)))), (126, (.sa (.one (iv .i64 a)))), (127, (.sa (.one (iv .i64 i)))), (128, (.sa (.one (bv false))))]) [(some (SO.own false MK.ext 0 3 (Ct.tab m [(Col.ints .u32 c0), (Col.ints .u16 c1), (Col.ints .u16 c2)]))), (some (SO.own false MK.ext 0 3 (Ct.tab n [(Col.ints .u32 d0), (Col.ints .u16 d1), (Col.ints .u16 d2)]))), (obj 4 1 [(bv false)]), (obj 24 1 [(SC.ref 4)]), (some (SO.abs true 0 D)), (obj 58 1 [(SC.ref 6)]), (some (SO.mp true [] 0))]))) := by kernel_rfl
theorem t_shFB (a i sm p0 f0 g0 : Int) (L m n b0 cl : Nat) (rs : List MapEntry) (D : TbD) (c0 c1 c2 d0 d1 d2 : List Int) (k : Exit → Fr → St → Prop) : ev cxSh (L + 84) 2 4 (codeAt Try.prog 4 [1, 1, 1, 1, 1, 1, 1, 1, 1, 1, 1, 1, 1, 0, 1, 0]) (frm 147 [(8, (.sa (.one (.ptr 2 0 0)))), (9, (.sa (.one (.ptr 3 0 0)))), (17, (.sa (.one (.ptr 5 0 0)))), (23, .sa (kint sm)), (126, .sa (kint a)), (127, .sa (kint i))]) [rowKs m c0 c1 c2, rowKs n d0 d1 d2, obj 4 1 [bv false], tbox 4, some (.abs true 0 D), obj 58 1 [.ref 6], some (.mv true [.u32, .u16, .u16] [⟨[p0, f0, g0], some (.one (iv .i64 1)), b0⟩] rs cl 0)] k =
    (Again (branch (decide ((i < a))) (ev cxSh (L + 83) 2 4 (codeAt Try.prog 4 [1, 1, 1, 1, 1, 1, 1, 1, 1, 1, 1, 1, 1, 0, 1, 0]) (frm 147 [(8, (.sa (.one (SC.ptr 2 0 0)))), (9, (.sa (.one (SC.ptr 3 0 0)))), (17, (.sa (.one (SC.ptr 5 0 0)))), (23, (.sa (.one (iv .i64 (addK .i64 sm (Spec.cntT D i)))))), (126, (.sa (.one (iv .i64 a)))), (127, (.sa (.one (iv .i64 (addK .i64 i (1))))))]) [(some (SO.own false MK.ext 0 3 (Ct.tab m [(Col.ints .u32 c0), (Col.ints .u16 c1), (Col.ints .u16 c2)]))), (some (SO.own false MK.ext 0 3 (Ct.tab n [(Col.ints .u32 d0), (Col.ints .u16 d1), (Col.ints .u16 d2)]))), (obj 4 1 [(bv false)]), (obj 24 1 [(SC.ref 4)]), (some (SO.abs true 0 D)), (obj 58 1 [(SC.ref 6)]), (some (SO.mv true [.u32, .u16, .u16] [(VE.mk [p0, f0, g0] (some (.one (iv .i64 (1)))) b0)] rs cl 0))] k) (k (Exit.exit 6) (frm 147 [(8, (.sa (.one (SC.ptr 2 0 0)))), (9, (.sa (.one (SC.ptr 3 0 0)))), (17, (.sa (.one (SC.ptr 5 0 0)))), (23, (.sa (.one (iv .i64 sm)))), (126, (.sa (.one (iv .i64 a)))), (127, (.sa (.one (iv .i64 i)))), (128, (.sa (.one (bv false))))]) [(some (SO.own false MK.ext 0 3 (Ct.tab m [(Col.ints .u32 c0), (Col.ints .u16 c1), (Col.ints .u16 c2)]))), (some (SO.own false MK.ext 0 3 (Ct.tab n [(Col.ints .u32 d0), (Col.ints .u16 d1), (Col.ints .u16 d2)]))), (obj 4 1 [(bv false)]), (obj 24 1 [(SC.ref 4)]), (some (SO.abs true 0 D)), (obj 58 1 [(SC.ref 6)]), (some (SO.mv true [.u32, .u16, .u16] [(VE.mk [p0, f0, g0] (some (.one (iv .i64 (1)))) b0)] rs cl 0))]))) := by kernel_rfl
end Go.Ev
end
section
namespace Go.Ev
open Go Go.Proofs Go.Spec
theorem t_shGA (a i sm : Int) (L m n : Nat) (D : TbD) (c0 c1 c2 d0 d1 d2 : List Int) (k : SV → St → Prop) : ev cxSh (L + 86) 2 4 (codeAt Try.prog 4 [1, 1, 1, 1, 1, 1, 1, 1, 1, 1, 1, 1, 1, 1]) (frm 147 [(8, (.sa (.one (.ptr 2 0 0)))), (9, (.sa (.one (.ptr 3 0 0)))), (17, (.sa (.one (.ptr 5 0 0)))), (23, .sa (kint sm)), (126, .sa (kint a)), (127, .sa (kint i)), (128, (.sa (.one (bv false))))]) [rowKs m c0 c1 c2, rowKs n d0 d1 d2, obj 4 1 [bv false], tbox 4, some (.abs true 0 D), obj 58 1 [.ref 6], some (.mp true [] 0)] (kRet (Cx.P cxSh) [(ResultVar.cell 8 4)] 2 k) =
    (need (decide (((Spec.nsh D) ≤ 64))) (branch (eqK (0) (Spec.lenT D)) (need (decide (((Spec.nsh D) ≤ 64))) (k (.sa (.one (bv (eqK sm (Spec.lenT D))))) [(some (SO.own false MK.ext 0 3 (Ct.tab m [(Col.ints .u32 c0), (Col.ints .u16 c1), (Col.ints .u16 c2)]))), (some (SO.own false MK.ext 0 3 (Ct.tab n [(Col.ints .u32 d0), (Col.ints .u16 d1), (Col.ints .u16 d2)])))])) (k (.sa (.one (bv false))) [(some (SO.own false MK.ext 0 3 (Ct.tab m [(Col.ints .u32 c0), (Col.ints .u16 c1), (Col.ints .u16 c2)]))), (some (SO.own false MK.ext 0 3 (Ct.tab n [(Col.ints .u32 d0), (Col.ints .u16 d1), (Col.ints .u16 d2)])))]))) := by kernel_rfl
theorem t_shGB (a i sm p0 f0 g0 : Int) (L m n b0 cl : Nat) (rs : List MapEntry) (D : TbD) (c0 c1 c2 d0 d1 d2 : List Int) (k : SV → St → Prop) : ev cxSh (L + 86) 2 4 (codeAt Try.prog 4 [1, 1, 1, 1, 1, 1, 1, 1, 1, 1, 1, 1, 1, 1]) (frm 147 [(8, (.sa (.one (.ptr 2 0 0)))), (9, (.sa (.one (.ptr 3 0 0)))), (17, (.sa (.one (.ptr 5 0 0)))), (23, .sa (kint sm)), (126, .sa (kint a)), (127, .sa (kint i)), (128, (.sa (.one (bv false))))]) [rowKs m c0 c1 c2, rowKs n d0 d1 d2, obj 4 1 [bv false], tbox 4, some (.abs true 0 D), obj 58 1 [.ref 6], some (.mv true [.u32, .u16, .u16] [⟨[p0, f0, g0], some (.one (iv .i64 1)), b0⟩] rs cl 0)] (kRet (Cx.P cxSh) [(ResultVar.cell 8 4)] 2 k) =
    (need (decide (((Spec.nsh D) ≤ 64))) (branch (eqK (((1 + (List.length rs)) : Nat) : Int) (Spec.lenT D)) (need (decide (((Spec.nsh D) ≤ 64))) (k (.sa (.one (bv (eqK sm (Spec.lenT D))))) [(some (SO.own false MK.ext 0 3 (Ct.tab m [(Col.ints .u32 c0), (Col.ints .u16 c1), (Col.ints .u16 c2)]))), (some (SO.own false MK.ext 0 3 (Ct.tab n [(Col.ints .u32 d0), (Col.ints .u16 d1), (Col.ints .u16 d2)])))])) (k (.sa (.one (bv false))) [(some (SO.own false MK.ext 0 3 (Ct.tab m [(Col.ints .u32 c0), (Col.ints .u16 c1), (Col.ints .u16 c2)]))), (some (SO.own false MK.ext 0 3 (Ct.tab n [(Col.ints .u32 d0), (Col.ints .u16 d1), (Col.ints .u16 d2)])))]))) := by kernel_rfl
end Go.Ev
end
section
namespace Go.Spec
open Go Go.Ev
def wfK (k : Kx) : Prop := (0 ≤ k.1 ∧ k.1 < 4294967296) ∧ (0 ≤ k.2.1 ∧ k.2.1 < 65536) ∧ (0 ≤ k.2.2 ∧ k.2.2 < 65536)
def shE (s : Int) (k : Kx) : Int := shR s k.1 k.2.1 k.2.2
structure RelT (s : Int) (D : TbD) (es : Es) : Prop where
  lo : 1 ≤ s
  hi : s ≤ 64
  len : D.sh.length = s.toNat
  sh : ∀ i, i < s.toNat → (D.sh.getD i []).Perm (es.filter fun e => decide (shE s e.1 = (i : Int)))
  nd : (es.map (·.1)).Nodup
  wf : ∀ e ∈ es, wfK e.1
theorem u32_wrap {x : Int} : IntKind.wrap .u32 x = x % 4294967296 := by rw [IntKind.wrap_u32]
theorem u64_wrap {x : Int} : IntKind.wrap .u64 x = x % 18446744073709551616 := by rw [IntKind.wrap_u64]
theorem shI_eq {s p f g : Int} (h : wfK (p, f, g)) (h1 : 1 ≤ s) (h2 : s ≤ 64) : shI s.toNat p f g = shR s p f g := by
  obtain ⟨⟨hp0, hp1⟩, ⟨hf0, hf1⟩, hg0, hg1⟩ := h
  simp only at hp0 hp1 hf0 hf1 hg0 hg1
  unfold shI shR
  simp only [remK_eq', shrK_eq, quoK_eq, addK_eq, mulK_eq, u32_wrap, u64_wrap]
  have e1 : min (16 : Int).toNat (IntKind.u32).bits = 16 := rfl
  rw [e1, Int.fdiv_eq_ediv_of_nonneg _ (by decide)]
  have e2 : ((2 : Int) ^ 16) = 65536 := rfl
  rw [e2]
  have e3 : ((s.toNat : Nat) : Int) = s := by omega
  rw [e3, Int.emod_eq_of_lt (a := s) (by omega) (by omega)]
  have hY0 : p * 2654435761 + f * 65599 + g * 31 < 18446744073709551616 := by omega
  generalize hX : ((p * 2654435761 % 4294967296 + f % 4294967296 * 65599 % 4294967296) % 4294967296 + g % 4294967296 * 31 % 4294967296) % 4294967296 = X
  have hY : ((p % 18446744073709551616 * 2654435761 % 18446744073709551616 + f % 18446744073709551616 * 65599 % 18446744073709551616) % 18446744073709551616 + g % 18446744073709551616 * 31 % 18446744073709551616) % 18446744073709551616 = p * 2654435761 + f * 65599 + g * 31 := by
    rw [Int.emod_eq_of_lt (a := p) (by omega) (by omega), Int.emod_eq_of_lt (a := f) (by omega) (by omega), Int.emod_eq_of_lt (a := g) (by omega) (by omega)]
    rw [Int.emod_eq_of_lt (a := p * 2654435761) (by omega) (by omega), Int.emod_eq_of_lt (a := f * 65599) (by omega) (by omega), Int.emod_eq_of_lt (a := g * 31) (by omega) (by omega)]
    rw [Int.emod_eq_of_lt (a := p * 2654435761 + f * 65599) (by omega) (by omega), Int.emod_eq_of_lt (by omega) hY0]
  rw [hY]
  have hXY : (p * 2654435761 + f * 65599 + g * 31) % 4294967296 = X := by
    rw [← hX, Int.emod_eq_of_lt (a := f) (by omega) (by omega), Int.emod_eq_of_lt (a := g) (by omega) (by omega)]
    generalize p * 2654435761 = P
    generalize f * 65599 = F
    generalize g * 31 = G
    omega
  have hS0 : 0 ≤ p * 2654435761 + f * 65599 + g * 31 := by omega
  have hX0 : 0 ≤ X ∧ X < 4294967296 := by rw [← hX]; omega
  clear hX hY hY0
  rw [Int.tmod_eq_emod_of_nonneg hS0, hXY, Int.tdiv_eq_ediv_of_nonneg (by omega)]
  have e4 : X / 65536 % 18446744073709551616 = X / 65536 := by omega
  rw [e4, Go.IntWalk.i64_in (X / 65536) (by omega), Int.tmod_eq_emod_of_nonneg (by omega)]
  have h3 := Int.emod_nonneg (X / 65536) (b := s) (by omega)
  have h4 := Int.emod_lt_of_pos (X / 65536) (b := s) (by omega)
  rw [Go.IntWalk.i64_in _ (by omega)]
theorem shE_in {s : Int} {k : Kx} (h : wfK k) (h1 : 1 ≤ s) (h2 : s ≤ 64) : 0 ≤ shE s k ∧ shE s k < s := by
  obtain ⟨p, f, g⟩ := k
  have := shI_in (n := s.toNat) (by omega) p f g
  rw [shI_eq h h1 h2] at this
  unfold shE
  simp only
  omega
theorem shN_eq {s : Int} {D : TbD} {es : Es} {k : Kx} (h : RelT s D es) (hk : wfK k) : ((shN D k : Nat) : Int) = shE s k ∧ shN D k < s.toNat := by
  obtain ⟨p, f, g⟩ := k
  have h1 := shE_in hk h.lo h.hi
  have h2 : shI D.sh.length p f g = shE s (p, f, g) := by rw [h.len]; exact shI_eq hk h.lo h.hi
  unfold shN
  simp only
  rw [h2]
  omega
theorem RelT.sub {s : Int} {D : TbD} {es : Es} (h : RelT s D es) {i : Nat} (hi : i < s.toNat) : ((D.sh.getD i []).map (·.1)).Nodup := by
  refine ((h.sh i hi).map (·.1)).nodup_iff.2 ?_
  exact h.nd.sublist (List.filter_sublist.map _)
theorem RelT.mem {s : Int} {D : TbD} {es : Es} (h : RelT s D es) {i : Nat} (hi : i < s.toNat) {e : Kx × Int} : e ∈ D.sh.getD i [] ↔ e ∈ es ∧ shE s e.1 = (i : Int) := by
  rw [(h.sh i hi).mem_iff, List.mem_filter]; simp
theorem key_one {es : Es} (h : (es.map (·.1)).Nodup) {a b : Kx × Int} (ha : a ∈ es) (hb : b ∈ es) (e : a.1 = b.1) : a = b := by
  induction es with
  | nil => simp at ha
  | cons x r ih =>
    simp only [List.map_cons, List.nodup_cons] at h
    rcases List.mem_cons.1 ha with ea | ha' <;> rcases List.mem_cons.1 hb with eb | hb'
    · rw [ea, eb]
    · exact absurd (List.mem_map.2 ⟨b, hb', by rw [← e, ea]⟩) h.1
    · exact absurd (List.mem_map.2 ⟨a, ha', by rw [e, eb]⟩) h.1
    · exact ih h.2 ha' hb'
theorem RelT.get {s : Int} {D : TbD} {es : Es} (h : RelT s D es) {k : Kx} (hk : wfK k) : (∀ v, (k, v) ∈ es → getT D k = some v) ∧ ((∀ e ∈ es, e.1 ≠ k) → getT D k = none) := by
  obtain ⟨h1, h2⟩ := shN_eq h hk
  constructor
  · intro v hv
    exact look_one (h.sub h2) ((h.mem h2).2 ⟨hv, h1.symm⟩)
  · intro hn
    exact look_none fun e he => hn e ((h.mem h2).1 he).1
theorem found_iff {es : Es} {p f g : Int} : foundE es p f g = true ↔ ∃ e ∈ es, e.1 = (p, f, g) := by
  unfold foundE; rw [List.any_eq_true]; simp
theorem RelT.getB {s : Int} {D : TbD} {es : Es} (h : RelT s D es) {p f g : Int} (hk : wfK (p, f, g)) : getB D p f g = foundE es p f g := by
  unfold Go.Spec.getB
  by_cases hf : ∃ e ∈ es, e.1 = (p, f, g)
  · rw [found_iff.2 hf]
    obtain ⟨e, he, e1⟩ := hf
    rw [(h.get hk).1 e.2 (by rw [← e1]; exact he)]; rfl
  · rw [(h.get hk).2 (fun e he e1 => hf ⟨e, he, e1⟩)]
    have : foundE es p f g = false := by
      cases hh : foundE es p f g
      · rfl
      · exact absurd (found_iff.1 hh) hf
    rw [this]; rfl
theorem RelT.getI {s : Int} {D : TbD} {es : Es} (h : RelT s D es) {p f g : Int} (hk : wfK (p, f, g)) : (foundE es p f g = false → getI D p f g = 0) ∧ (∀ i : Nat, (∃ e, es[i]? = some e ∧ e.1 = (p, f, g)) → getI D p f g = (eV es).getD i 0) := by
  unfold Go.Spec.getI
  constructor
  · intro hf
    rw [(h.get hk).2 (fun e he e1 => by have := found_iff.2 ⟨e, he, e1⟩; rw [hf] at this; cases this)]; rfl
  · rintro i ⟨e, he, e1⟩
    rw [(h.get hk).1 e.2 (by rw [← e1]; exact List.mem_of_getElem? he), (eP_getD he).2.2.2]; rfl
theorem erase_filter {k : Kx} : ∀ {es : Es}, (es.map (·.1)).Nodup → es.eraseP (fun e => decide (e.1 = k)) = es.filter fun e => !decide (e.1 = k)
  | [], _ => rfl
  | x :: r, h => by
    simp only [List.map_cons, List.nodup_cons] at h
    by_cases e : x.1 = k
    · rw [List.eraseP_cons, List.filter_cons]
      simp only [e, decide_true, if_true, Bool.not_true]
      refine (List.filter_eq_self.2 fun y hy => ?_).symm
      simp only [Bool.not_eq_true', decide_eq_false_iff_not]
      exact fun ey => h.1 (List.mem_map.2 ⟨y, hy, ey.trans e.symm⟩)
    · rw [List.eraseP_cons, List.filter_cons]
      simp only [e, decide_false, Bool.not_false, if_true]
      rw [erase_filter h.2]; rfl
theorem shE_told {s : Int} {k : Kx} {o : Option Int} {i : Int} : (told k o).filter (fun e => decide (shE s e.1 = i)) = if shE s k = i then told k o else [] := by
  cases o with
  | none => simp [told]
  | some v => by_cases h : shE s k = i <;> simp [told, h]
theorem RelT.set {s : Int} {D : TbD} {es : Es} (h : RelT s D es) {k : Kx} (hk : wfK k) (o : Option Int) : RelT s (setT D k o) ((es.filter fun e => !decide (e.1 = k)) ++ told k o) := by
  obtain ⟨h1, h2⟩ := shN_eq h hk
  refine ⟨h.lo, h.hi, by simp [setT, tbSet, h.len], fun i hi => ?_, ?_, fun e he => ?_⟩
  · rw [List.filter_append, shE_told]
    have hc : (es.filter fun e => !decide (e.1 = k)).filter (fun e => decide (shE s e.1 = (i : Int))) = (es.filter fun e => decide (shE s e.1 = (i : Int))).filter fun e => !decide (e.1 = k) := by
      rw [List.filter_filter, List.filter_filter]; congr 1; funext e; rw [Bool.and_comm]
    rw [hc]
    unfold setT tbSet
    by_cases hin : shN D k = i
    · subst hin
      rw [if_pos h1.symm]
      have : ((D.sh.set (shN D k) (setS (D.sh.getD (shN D k) []) k o)).getD (shN D k) []) = setS (D.sh.getD (shN D k) []) k o := by
        rw [List.getD_eq_getElem?_getD, List.getElem?_set_self (by rw [h.len]; exact h2)]; rfl
      simp only [this]
      exact ((h.sh _ h2).filter _).append (List.Perm.refl _)
    · rw [if_neg (fun e => hin (by omega)), List.append_nil]
      have : ((D.sh.set (shN D k) (setS (D.sh.getD (shN D k) []) k o)).getD i []) = D.sh.getD i [] := by
        rw [List.getD_eq_getElem?_getD, List.getElem?_set_ne hin, List.getD_eq_getElem?_getD]
      simp only [this]
      refine (h.sh i hi).trans (List.Perm.of_eq ?_)
      refine (List.filter_eq_self.2 fun e he => ?_).symm
      simp only [Bool.not_eq_true', decide_eq_false_iff_not]
      intro ek
      have := (List.mem_filter.1 he).2
      rw [ek] at this
      have := of_decide_eq_true this
      exact hin (by omega)
  · rw [List.map_append, List.nodup_append]
    refine ⟨h.nd.sublist (List.filter_sublist.map _), by cases o <;> simp [told], fun a ha b hb e => ?_⟩
    obtain ⟨x, hx, rfl⟩ := List.mem_map.1 ha
    have hx2 := (List.mem_filter.1 hx).2
    simp only [Bool.not_eq_true', decide_eq_false_iff_not] at hx2
    cases o with
    | none => simp [told] at hb
    | some v => simp [told] at hb; exact hx2 (e.trans hb)
  · rcases List.mem_append.1 he with he | he
    · exact h.wf e (List.mem_filter.1 he).1
    · cases o with
      | none => simp [told] at he
      | some v => simp [told] at he; rw [he]; exact hk
theorem RelT.drop {s : Int} {D : TbD} {es : Es} (h : RelT s D es) {p f g : Int} (hk : wfK (p, f, g)) : RelT s (setT D (p, f, g) none) (dropE es p f g) := by
  have := h.set hk none
  rw [← erase_filter h.nd] at this
  simpa [told, dropE] using this
theorem RelT.put {s : Int} {D : TbD} {es : Es} (h : RelT s D es) {p f g v : Int} (hk : wfK (p, f, g)) : RelT s (setT D (p, f, g) (some v)) (putE es p f g v) := by
  have := h.set hk (some v)
  rw [← erase_filter h.nd] at this
  simpa [told, putE, dropE] using this
theorem RelT.empty {s : Int} (h1 : 1 ≤ s) (h2 : s ≤ 64) : RelT s (emptyT s) [] :=
  ⟨h1, h2, by simp [emptyT], fun i hi => by
    have : (emptyT s).sh.getD i [] = [] := by
      unfold emptyT
      rw [List.getD_eq_getElem?_getD, List.getElem?_replicate]; split <;> rfl
    rw [this]; simp, by simp, fun e he => by simp at he⟩
theorem dropE_len {es : Es} {p f g : Int} : (dropE es p f g).length ≤ es.length := List.eraseP_sublist.length_le
theorem putE_len {es : Es} {p f g v : Int} : (putE es p f g v).length ≤ es.length + 1 := by
  have := dropE_len (es := es) (p := p) (f := f) (g := g)
  simp [putE]; exact this
theorem RelT.cnt {s : Int} {D : TbD} {es : Es} (h : RelT s D es) {i : Nat} (hi : i < s.toNat) : (D.sh.getD i []).length = (es.countP fun e => decide (shE s e.1 = (i : Int))) := by
  rw [(h.sh i hi).length_eq, List.countP_eq_length_filter]
theorem RelT.lenF {s : Int} {D : TbD} {es : Es} (h : RelT s D es) (hm : es.length ≤ 1000) : ∀ i : Nat, i ≤ s.toNat → lenF D i = ((es.countP fun e => decide (shE s e.1 < (i : Int)) : Nat) : Int)
  | 0, _ => by
    have : es.countP (fun e => decide (shE s e.1 < ((0 : Nat) : Int))) = 0 := by
      rw [List.countP_eq_zero]
      intro e he
      have := shE_in (h.wf e he) h.lo h.hi
      simp; omega
    rw [this]; rfl
  | i + 1, hi => by
    have ih := RelT.lenF h hm i (by omega)
    have hs : es.countP (fun e => decide (shE s e.1 < ((i + 1 : Nat) : Int))) = es.countP (fun e => decide (shE s e.1 < (i : Int))) + es.countP (fun e => decide (shE s e.1 = (i : Int))) := by
      clear ih h hm
      induction es with
      | nil => rfl
      | cons x r ih =>
        rw [List.countP_cons, List.countP_cons, List.countP_cons, ih]
        simp only [decide_eq_true_eq]
        repeat' split
        all_goals omega
    have hl : es.countP (fun e => decide (shE s e.1 < ((i + 1 : Nat) : Int))) ≤ es.length := List.countP_le_length
    unfold Go.Spec.lenF cntV
    rw [ih, Int.toNat_natCast, h.cnt (by omega), add64 (by omega), hs]
    omega
theorem RelT.lenT {s : Int} {D : TbD} {es : Es} (h : RelT s D es) (hm : es.length ≤ 1000) : lenT D = ((lenE es : Nat) : Int) := by
  unfold Go.Spec.lenT
  rw [h.len, h.lenF hm _ (Nat.le_refl _)]
  have : es.countP (fun e => decide (shE s e.1 < ((s.toNat : Nat) : Int))) = es.length := by
    rw [List.countP_eq_length]
    intro e he
    have := shE_in (h.wf e he) h.lo h.hi
    simp; omega
  rw [this]; rfl
theorem RelT.cntT {s : Int} {D : TbD} {es : Es} (h : RelT s D es) {x : Int} (h0 : 0 ≤ x) (h1 : x < s) : cntT D x = cntE es s x := by
  unfold Go.Spec.cntT cntE
  rw [if_pos ⟨h0, by rw [h.len]; omega⟩, h.cnt (by omega)]
  have : ((x.toNat : Nat) : Int) = x := by omega
  rw [this]; rfl
theorem RelT.cntN {s : Int} {D : TbD} {es : Es} (h : RelT s D es) : Go.Spec.cntT D s = 0 := by
  unfold Go.Spec.cntT
  have := h.lo
  rw [if_neg (by rw [h.len]; omega)]
end Go.Spec
end
section
namespace Go.Spec
open Go Go.Ev
def shardE (D : TbD) (q : Int) : Es := (keysT D q).map fun k => (k, valT D q k.1 k.2.1 k.2.2)
def uptoE (D : TbD) : Nat → Es
  | 0 => []
  | q + 1 => uptoE D q ++ shardE D (q : Int)
theorem ahead_iff {n : Int} {a b : Kx} : aheadE n a b = true ↔ shE n a < shE n b ∨ (shE n a = shE n b ∧ ltK a b = true) := by
  rw [ltK_iff]
  unfold aheadE shE
  generalize shR n a.1 a.2.1 a.2.2 = x
  generalize shR n b.1 b.2.1 b.2.2 = y
  repeat' split
  all_goals simp only [decide_eq_true_eq]
  all_goals omega
theorem ahead_irr {n : Int} {a : Kx} : aheadE n a a = false := by
  cases h : aheadE n a a
  · rfl
  · rw [ahead_iff, ltK_iff] at h; omega
theorem ahead_asym {n : Int} {a b : Kx} (h : aheadE n a b = true) : aheadE n b a = false := by
  cases h2 : aheadE n b a
  · rfl
  · rw [ahead_iff, ltK_iff] at h h2; omega
theorem ahead_trans {n : Int} {a b c : Kx} (h : aheadE n a b = true) (h2 : aheadE n b c = true) : aheadE n a c = true := by
  rw [ahead_iff, ltK_iff] at *; omega
theorem ahead_total {n : Int} {a b : Kx} (h : aheadE n a b = false) (hn : a ≠ b) : aheadE n b a = true := by
  have h1 : ¬ aheadE n a b = true := by rw [h]; decide
  rw [ahead_iff, ltK_iff] at h1
  rw [ahead_iff, ltK_iff]
  have : ¬ (a.1 = b.1 ∧ a.2.1 = b.2.1 ∧ a.2.2 = b.2.2) := fun ⟨e1, e2, e3⟩ => hn (by obtain ⟨a1, a2, a3⟩ := a; obtain ⟨b1, b2, b3⟩ := b; simp only at e1 e2 e3; rw [e1, e2, e3])
  by_cases hs : shE n a = shE n b
  · by_cases e1 : a.1 = b.1
    · by_cases e2 : a.2.1 = b.2.1 <;> omega
    · omega
  · omega
theorem sorted_one {R : Kx × Int → Kx × Int → Prop} (hi : ∀ a, ¬ R a a) (ha : ∀ a b, R a b → ¬ R b a) : ∀ {l1 l2 : Es}, l1.Pairwise R → l2.Pairwise R → (∀ x, x ∈ l1 ↔ x ∈ l2) → l1 = l2
  | [], [], _, _, _ => rfl
  | [], y :: r, _, _, h => by have := (h y).2 (List.mem_cons_self ..); simp at this
  | x :: r, [], _, _, h => by have := (h x).1 (List.mem_cons_self ..); simp at this
  | x :: r1, y :: r2, h1, h2, h => by
    obtain ⟨a1, b1⟩ := List.pairwise_cons.1 h1
    obtain ⟨a2, b2⟩ := List.pairwise_cons.1 h2
    have exy : x = y := by
      rcases List.mem_cons.1 ((h x).1 (List.mem_cons_self ..)) with e | e
      · exact e
      · rcases List.mem_cons.1 ((h y).2 (List.mem_cons_self ..)) with e' | e'
        · exact e'.symm
        · exact absurd (a1 y e') (ha _ _ (a2 x e))
    subst exy
    rw [sorted_one hi ha b1 b2 fun z => ?_]
    constructor
    · intro hz
      rcases List.mem_cons.1 ((h z).1 (List.mem_cons_of_mem _ hz)) with e | e
      · subst e; exact absurd (a1 z hz) (hi z)
      · exact e
    · intro hz
      rcases List.mem_cons.1 ((h z).2 (List.mem_cons_of_mem _ hz)) with e | e
      · subst e; exact absurd (a2 z hz) (hi z)
      · exact e
def aheadP (n : Int) (a b : Kx × Int) : Prop := aheadE n a.1 b.1 = true
theorem insBy_mem {lt : Kx → Bool} {x y : Kx × Int} : ∀ {l : Es}, y ∈ insBy lt x l ↔ y = x ∨ y ∈ l
  | [] => by simp [insBy]
  | z :: r => by
    unfold insBy
    split
    · rw [List.mem_cons, insBy_mem, List.mem_cons]
      constructor
      · rintro (h | h | h)
        · exact .inr (.inl h)
        · exact .inl h
        · exact .inr (.inr h)
      · rintro (h | h | h)
        · exact .inr (.inl h)
        · exact .inl h
        · exact .inr (.inr h)
    · simp
theorem insE_sorted {n : Int} {x : Kx × Int} : ∀ {l : Es}, l.Pairwise (aheadP n) → (∀ y ∈ l, y.1 ≠ x.1) → (insE n x l).Pairwise (aheadP n)
  | [], _, _ => by simp [insE, insBy]
  | y :: r, h, hn => by
    obtain ⟨h1, h2⟩ := List.pairwise_cons.1 h
    have ih := insE_sorted (n := n) (x := x) h2 fun z hz => hn z (List.mem_cons_of_mem _ hz)
    unfold insE at ih ⊢
    unfold insBy
    split
    · rename_i e
      refine List.pairwise_cons.2 ⟨fun z hz => ?_, ih⟩
      rcases insBy_mem.1 hz with rfl | hz
      · exact e
      · exact h1 z hz
    · rename_i e
      have hxy : aheadP n x y := ahead_total e (hn y (List.mem_cons_self ..))
      refine List.pairwise_cons.2 ⟨fun z hz => ?_, h⟩
      rcases List.mem_cons.1 hz with rfl | hz
      · exact hxy
      · exact ahead_trans hxy (h1 z hz)
theorem eachE_facts {n : Int} {es : Es} (hn : (es.map (·.1)).Nodup) : (∀ x, x ∈ eachE n es ↔ x ∈ es) ∧ (eachE n es).Pairwise (aheadP n) := by
  have key : ∀ (l out : Es), ((out ++ l).map (·.1)).Nodup → out.Pairwise (aheadP n) → (∀ x, x ∈ l.foldl (fun out x => insE n x out) out ↔ x ∈ out ∨ x ∈ l) ∧ (l.foldl (fun out x => insE n x out) out).Pairwise (aheadP n) := by
    intro l
    induction l with
    | nil => intro out _ hs; exact ⟨fun x => by simp, hs⟩
    | cons y r ih =>
      intro out hnd hs
      rw [List.foldl_cons]
      have hnd' : ((insE n y out ++ r).map (·.1)).Nodup := by
        have hp : (insE n y out).Perm (y :: out) := by
          unfold insE
          generalize (fun k => aheadE n k y.1) = lt
          clear hnd hs ih
          induction out with
          | nil => exact List.Perm.refl _
          | cons z r ih =>
            unfold insBy
            split
            · exact (List.Perm.cons z ih).trans (List.Perm.swap _ _ _)
            · exact List.Perm.refl _
        have hp2 : (insE n y out ++ r).Perm (out ++ y :: r) := ((hp.append_right r).trans (by simpa using (List.perm_middle (l₁ := out) (a := y) (l₂ := r)).symm))
        exact (hp2.map _).nodup_iff.2 hnd
      have hy : ∀ z ∈ out, z.1 ≠ y.1 := by
        rw [List.map_append, List.nodup_append] at hnd
        exact fun z hz => hnd.2.2 z.1 (List.mem_map.2 ⟨z, hz, rfl⟩) y.1 (by simp)
      obtain ⟨i1, i2⟩ := ih (insE n y out) hnd' (insE_sorted hs hy)
      refine ⟨fun x => ?_, i2⟩
      rw [i1 x]
      unfold insE
      rw [insBy_mem, List.mem_cons]
      constructor
      · rintro ((h | h) | h)
        · exact .inr (.inl h)
        · exact .inl h
        · exact .inr (.inr h)
      · rintro (h | h | h)
        · exact .inl (.inr h)
        · exact .inl (.inl h)
        · exact .inr h
  obtain ⟨k1, k2⟩ := key es [] (by simpa using hn) List.Pairwise.nil
  exact ⟨fun x => by have := k1 x; simpa [eachE] using this, k2⟩
section
variable {s : Int} {D : TbD} {es : Es}
theorem keysT_mem {q : Int} {k : Kx} : k ∈ keysT D q ↔ ∃ v, (k, v) ∈ D.sh.getD q.toNat [] := by
  unfold keysT
  rw [sortK_perm.mem_iff, List.mem_map]
  constructor
  · rintro ⟨e, he, rfl⟩; exact ⟨e.2, he⟩
  · rintro ⟨v, hv⟩; exact ⟨_, hv, rfl⟩
theorem valT_of (h : RelT s D es) {q : Nat} (hq : q < s.toNat) {k : Kx} {v : Int} (hv : (k, v) ∈ D.sh.getD q []) : valT D (q : Int) k.1 k.2.1 k.2.2 = v := by
  have := look_one (h.sub hq) hv
  unfold valT
  rw [Int.toNat_natCast]
  unfold lookS at this
  rw [show ((k.1, k.2.1, k.2.2) : Kx) = k from rfl, this]; rfl
theorem shardE_mem (h : RelT s D es) {q : Nat} (hq : q < s.toNat) {e : Kx × Int} : e ∈ shardE D (q : Int) ↔ e ∈ es ∧ shE s e.1 = (q : Int) := by
  unfold shardE
  rw [List.mem_map, ← h.mem hq]
  constructor
  · rintro ⟨k, hk, rfl⟩
    obtain ⟨v, hv⟩ := keysT_mem.1 hk
    rw [Int.toNat_natCast] at hv
    rw [valT_of h hq hv]; exact hv
  · intro he
    refine ⟨e.1, keysT_mem.2 ⟨e.2, by rw [Int.toNat_natCast]; exact he⟩, ?_⟩
    rw [valT_of h hq (k := e.1) (v := e.2) he]
theorem keysT_lt (h : RelT s D es) {q : Nat} (hq : q < s.toNat) : (keysT D (q : Int)).Pairwise fun a b => ltK a b = true := by
  have h1 := sortK_sorted (l := (D.sh.getD (q : Int).toNat []).map (·.1))
  have h2 : (keysT D (q : Int)).Nodup := sortK_perm.nodup_iff.2 (by rw [Int.toNat_natCast]; exact h.sub hq)
  refine List.Pairwise.imp₂ (fun {a b} h1 h2 => ?_) h1 h2
  cases hl : ltK a b
  · exact absurd (oneK a b hl h1) h2
  · rfl
theorem uptoE_facts (h : RelT s D es) : ∀ q : Nat, q ≤ s.toNat → (∀ e, e ∈ uptoE D q ↔ e ∈ es ∧ shE s e.1 < (q : Int)) ∧ (uptoE D q).Pairwise (aheadP s)
  | 0, _ => ⟨fun e => by
      simp only [uptoE, List.not_mem_nil, false_iff]
      rintro ⟨he, hl⟩
      have := shE_in (h.wf e he) h.lo h.hi
      omega, List.Pairwise.nil⟩
  | q + 1, hq => by
    obtain ⟨i1, i2⟩ := uptoE_facts h q (by omega)
    have hm := fun e => shardE_mem (e := e) h (q := q) (by omega)
    constructor
    · intro e
      unfold uptoE
      rw [List.mem_append, i1, hm]
      constructor
      · rintro (⟨a, b⟩ | ⟨a, b⟩) <;> exact ⟨a, by omega⟩
      · rintro ⟨a, b⟩
        by_cases hb : shE s e.1 = (q : Int)
        · exact .inr ⟨a, hb⟩
        · exact .inl ⟨a, by omega⟩
    · unfold uptoE
      rw [List.pairwise_append]
      refine ⟨i2, ?_, fun a ha b hb => ?_⟩
      · have hx : ∀ e ∈ shardE D (q : Int), shE s e.1 = (q : Int) := fun e he => ((hm e).1 he).2
        have hp : (shardE D (q : Int)).Pairwise fun a b => ltK a.1 b.1 = true := by
          unfold shardE
          rw [List.pairwise_map]
          exact keysT_lt h (by omega)
        refine List.Pairwise.imp_of_mem (fun {a b} ha hb hl => ?_) hp
        unfold aheadP
        rw [ahead_iff, hx a ha, hx b hb]
        exact .inr ⟨rfl, hl⟩
      · have h1 := (i1 a).1 ha
        have h2 := (hm b).1 hb
        unfold aheadP
        rw [ahead_iff]
        exact .inl (by omega)
theorem upto_each (h : RelT s D es) : uptoE D s.toNat = eachE s es := by
  obtain ⟨u1, u2⟩ := uptoE_facts h s.toNat (Nat.le_refl _)
  obtain ⟨e1, e2⟩ := eachE_facts (n := s) h.nd
  refine sorted_one (R := aheadP s) (fun a ha => ?_) (fun a b hab hba => ?_) u2 e2 fun x => ?_
  · unfold aheadP at ha; rw [ahead_irr] at ha; cases ha
  · unfold aheadP at hab hba; rw [ahead_asym hab] at hba; cases hba
  · rw [u1, e1]
    exact ⟨fun a => a.1, fun a => ⟨a, by have := shE_in (h.wf x a) h.lo h.hi; omega⟩⟩
theorem eachE_nd (h : RelT s D es) : ((eachE s es).map (·.1)).Nodup := by
  have := (eachE_facts (n := s) h.nd).2
  refine List.pairwise_map.2 (this.imp fun {a b} hab e => ?_)
  unfold aheadP at hab
  rw [e, ahead_irr] at hab; cases hab
theorem uptoE_len (h : RelT s D es) : ∀ q : Nat, q ≤ s.toNat → (uptoE D q).length ≤ es.length := by
  have hall : (uptoE D s.toNat).length = es.length := by rw [upto_each h]; exact eachE_len
  have mono : ∀ (d q : Nat), q + d ≤ s.toNat → (uptoE D q).length ≤ (uptoE D (q + d)).length := by
    intro d
    induction d with
    | zero => intro q _; exact Nat.le_refl _
    | succ d ih =>
      intro q hq
      refine Nat.le_trans (ih q (by omega)) ?_
      rw [show q + (d + 1) = (q + d) + 1 from by omega]
      show _ ≤ (uptoE D (q + d) ++ shardE D _).length
      rw [List.length_append]; omega
  intro q hq
  have := mono (s.toNat - q) q (by omega)
  rw [show q + (s.toNat - q) = s.toNat from by omega, hall] at this
  exact this
end
end Go.Spec
end
section
namespace Go.Ev
open Go Go.Proofs Go.Spec
theorem region_inv {P : Program} (hm : P.follows .mixedOrders = true) {ops : Array Oper} {id : Nat} {r : Option Nat} {Q : Exit → Act → World → Prop} (hb : edgesBack ops.toList 0 = true) {I : (Nat → Bool) → Act → World → Prop}
    (hstep : ∀ D i a w, Next ops D i → I D a w → ∀ K : Act → World → Prop, (∀ a' w', I (setD D i) a' w' → K a' w') → wpOpIn (Wide r) 0 P ops Q i K a w)
    (hQ : ∀ D a w, (∀ i, i < ops.size → D i = true) → I D a w → Q .normal a w) {a : Act} {w : World} (h0 : I (fun _ => false) a { w with drawn := w.drawn + 1 }) : (Code.region id ops true).wpIn (Wide r) 0 P Q a w := by
  have back : ∀ {i : Nat} {o : Oper}, ops[i]? = some o → ∀ e ∈ o.after.toList, Region.binds .any e = true → e.on < i := fun {i o} ho e he hbb => by
    have := edgesBack_spec hb (a := i) (by simpa using ho) e he hbb
    omega
  have done : ∀ {listed : Array Bool}, listed.size = ops.size → Region.ready .any ops listed = [] → ∀ i, i < ops.size → listed.getD i false = true := by
    intro listed hl h i
    induction i using Nat.strongRecOn with
    | _ i ih =>
      intro hi
      cases hd : listed.getD i false with
      | true => rfl
      | false =>
        have : i ∈ Region.ready .any ops listed := (ready_iff hl).2 ⟨hi, hd, fun o ho e he hbb => by
          have := back ho e he hbb
          exact ih e.on this (by omega)⟩
        rw [h] at this; simp at this
  have key : ∀ (fuel : Nat) (listed : Array Bool) (a : Act) (w : World), listed.size = ops.size → left (fun j => listed.getD j false) ops.size ≤ fuel → Closed ops.toList (fun j => listed.getD j false) →
      I (fun j => listed.getD j false) a w → wpAnyIn (Wide r) 0 P .any ops Q fuel listed a w := by
    intro fuel
    induction fuel with
    | zero =>
      intro listed a w hl hf hc hI
      have hall := left_zero (D := fun j => listed.getD j false) (n := ops.size) (by omega)
      refine ⟨?_, hQ _ a w hall hI⟩
      cases hr : Region.ready .any ops listed with
      | nil => rfl
      | cons x xs =>
        have := (ready_iff hl (i := x)).1 (by rw [hr]; simp)
        have h2 := hall x this.1
        simp only [this.2.1] at h2
        cases h2
    | succ fuel ih =>
      intro listed a w hl hf hc hI
      refine ⟨fun h => hQ _ a w (done hl h) hI, fun i hi => ?_⟩
      obtain ⟨h1, h2, h3⟩ := (ready_iff hl).1 hi
      have hn : Next ops (fun j => listed.getD j false) i := ⟨h1, h2, h3, hc⟩
      have hset : (fun j => (listed.setIfInBounds i true).getD j false) = setD (fun j => listed.getD j false) i := by
        funext j
        simp only [setD, Array.getD_eq_getD_getElem?, Array.getElem?_setIfInBounds]
        by_cases e : i = j
        · subst e; simp [hl, h1]
        · rw [if_neg e, if_neg (fun h => e h.symm)]
      refine hstep _ i a w hn hI _ fun a' w' hI' => ih _ a' w' (by simpa using hl) ?_ (by rw [hset]; exact hn.closed') (by rw [hset]; exact hI')
      rw [hset]
      have := (left_set (D := fun j => listed.getD j false) (i := i) h2 (n := ops.size)).2 h1
      omega
  refine wpIn_region_any hm ?_
  have hD : (fun j => (Array.replicate ops.size false).getD j false) = fun _ => false := by
    funext j
    simp only [Array.getD_eq_getD_getElem?, Array.getElem?_replicate]
    split <;> rfl
  refine key ops.size _ a _ (by simp) ?_ (by rw [hD]; intro j o _ h; cases h) (by rw [hD]; exact h0)
  have : ∀ (D : Nat → Bool) n, left D n ≤ n := by
    intro D n
    induction n with
    | zero => exact Nat.le_refl _
    | succ n ih => simp only [left]; split <;> omega
  exact this _ _
theorem wpOp_i {F : Fence} {n : Nat} {P : Program} {ops : Array Oper} {Q : Exit → Act → World → Prop} {i : Nat} {K : Act → World → Prop} {a : Act} {w : World} {o : Oper} (ho : ops[i]? = some o) (hg : o.guard = none) (h : o.wpIn F n P a w K Q) : wpOpIn F n P ops Q i K a w := by
  unfold wpOpIn
  rw [ho]
  simp only [Region.wanted, hg, if_true]
  exact h
noncomputable def oSl : List Oper := opsAt Try.prog 4 hS.way
noncomputable def oS (i : Nat) : Oper := (oSl[i]?).getD ⟨none, .move (.const undef), 0, "", #[], none⟩
theorem regSC : codeAt Try.prog 4 hS.way = .region 29 oSl.toArray true := by kernel_rfl
theorem oS_at : oSl[0]? = some (oS 0) ∧ oSl[1]? = some (oS 1) ∧ oSl[2]? = some (oS 2) ∧ oSl[3]? = some (oS 3) ∧ oSl[4]? = some (oS 4) ∧ oSl[5]? = some (oS 5) ∧ oSl[6]? = some (oS 6) := ⟨rfl, rfl, rfl, rfl, rfl, rfl, rfl⟩
theorem oS_g : (oS 0).guard = none ∧ (oS 1).guard = none ∧ (oS 2).guard = none ∧ (oS 3).guard = none ∧ (oS 4).guard = none ∧ (oS 5).guard = none ∧ (oS 6).guard = none := ⟨rfl, rfl, rfl, rfl, rfl, rfl, rfl⟩
theorem oS_d : (oS 0).dst = some 97 ∧ (oS 1).dst = some 98 ∧ (oS 2).dst = some 99 ∧ (oS 3).dst = some 100 ∧ (oS 4).dst = some 101 ∧ (oS 5).dst = some 102 ∧ (oS 6).dst = none := ⟨rfl, rfl, rfl, rfl, rfl, rfl, rfl⟩
theorem oS_back : edgesBack oSl.toArray.toList 0 = true := by kernel_rfl
theorem oS_size : oSl.toArray.size = 7 := by kernel_rfl
def onB (o : Oper) (j : Nat) : Bool := o.after.toList.any fun e => Region.binds .any e && decide (e.on = j)
theorem oS_on : onB (oS 2) 0 = true ∧ onB (oS 2) 1 = true ∧ onB (oS 3) 2 = true ∧ onB (oS 4) 0 = true ∧ onB (oS 4) 1 = true ∧ onB (oS 5) 4 = true ∧ onB (oS 6) 0 = true ∧ onB (oS 6) 3 = true ∧ onB (oS 6) 5 = true := by
  refine ⟨?_, ?_, ?_, ?_, ?_, ?_, ?_, ?_, ?_⟩ <;> kernel_rfl
theorem onB_next {ops : Array Oper} {D : Nat → Bool} {i j : Nat} {o : Oper} (h : Next ops D i) (ho : ops[i]? = some o) (hb : onB o j = true) : D j = true := by
  unfold onB at hb
  rw [List.any_eq_true] at hb
  obtain ⟨e, he, h2⟩ := hb
  simp only [Bool.and_eq_true, decide_eq_true_eq] at h2
  rw [← h2.2]
  exact h.edges o ho e he h2.1
theorem onB_closed {ops : Array Oper} {D : Nat → Bool} {i j : Nat} {o : Oper} (h : Closed ops.toList D) (ho : ops[i]? = some o) (hd : D i = true) (hb : onB o j = true) : D j = true := by
  unfold onB at hb
  rw [List.any_eq_true] at hb
  obtain ⟨e, he, h2⟩ := hb
  simp only [Bool.and_eq_true, decide_eq_true_eq] at h2
  rw [← h2.2]
  exact h i o (by simpa using ho) hd e he h2.1
def keyB (p f g : Int) : Option SO := some (.mem true .whole 36 3 (.lst [[iv .u32 p, iv .u16 f, iv .u16 g]]))
def mvA (p f g : Int) (rs : List MapEntry) (cl h : Nat) : Option SO := some (.mv true [.u32, .u16, .u16] [⟨[p, f, g], none, 0⟩] rs cl h)
def mvX (p f g v : Int) (rs : List MapEntry) (cl : Nat) : Option SO := some (.mv true [.u32, .u16, .u16] [⟨[p, f, g], some (.one (iv .i64 v)), cl⟩] rs (cl + 1) 0)
def kSA (p f g : Int) : SA := .agg [iv .u32 p, iv .u16 f, iv .u16 g]
section
variable (p f g : Int) (rs : List MapEntry) (cl h : Nat) (x : Option SO) (K : SV → St → Prop)
theorem t_o0 : evOp cxT0 (evCall cxT0 (ev cxT0 0)) (evOperand (frm 147 [(17, .sa (.one (.ptr 0 0 0)))])) [boxM 1, x, keyB p f g] (oS 0) K = K (.sa (.one (.ref 1))) [boxM 1, x, keyB p f g] := by kernel_rfl
theorem t_o1 : evOp cxT0 (evCall cxT0 (ev cxT0 0)) (evOperand (frm 147 [(19, .sa (.one (.ptr 2 0 0)))])) [boxM 1, x, keyB p f g] (oS 1) K = K (.sa (kSA p f g)) [boxM 1, x, keyB p f g] := by kernel_rfl
theorem t_o2A : evOp cxT0 (evCall cxT0 (ev cxT0 0)) (evOperand (frm 147 [(97, .sa (.one (.ref 1))), (98, .sa (kSA p f g))])) [boxM 1, mvA p f g rs cl h, keyB p f g] (oS 2) K = need ((eqK p p) && ((eqK f f) && (eqK g g))) (K (.sa (.one (iv .i64 0))) [boxM 1, mvA p f g rs cl h, keyB p f g]) := by kernel_rfl
theorem t_o2B : evOp cxT0 (evCall cxT0 (ev cxT0 0)) (evOperand (frm 147 [(97, .sa (.one (.ref 1))), (98, .sa (kSA p f g))])) [boxM 1, mvX p f g 0 rs cl, keyB p f g] (oS 2) K = need ((eqK p p) && ((eqK f f) && (eqK g g))) (K (.sa (.one (iv .i64 0))) [boxM 1, mvX p f g 0 rs cl, keyB p f g]) := by kernel_rfl
theorem t_o3 : evOp cxT0 (evCall cxT0 (ev cxT0 0)) (evOperand (frm 147 [(99, .sa (.one (iv .i64 0)))])) [boxM 1, x, keyB p f g] (oS 3) K = K (.sa (.one (iv .i64 1))) [boxM 1, x, keyB p f g] := by kernel_rfl
theorem t_o4 : evOp cxT0 (evCall cxT0 (ev cxT0 0)) (evOperand (frm 147 [(97, .sa (.one (.ref 1))), (98, .sa (kSA p f g))])) [boxM 1, mvA p f g rs cl h, keyB p f g] (oS 4) K = need ((eqK p p) && ((eqK f f) && (eqK g g))) (K (.tup [.one (iv .i64 0), .one (iv .i64 cl)]) [boxM 1, mvX p f g 0 rs cl, keyB p f g]) := by kernel_rfl
theorem t_o5 : evOp cxT0 (evCall cxT0 (ev cxT0 0)) (evOperand (frm 147 [(101, .tup [.one (iv .i64 0), .one (iv .i64 cl)])])) [boxM 1, x, keyB p f g] (oS 5) K = K (.sa (.one (iv .i64 cl))) [boxM 1, x, keyB p f g] := by kernel_rfl
theorem t_o6 : evOp cxT0 (evCall cxT0 (ev cxT0 0)) (evOperand (frm 147 [(97, .sa (.one (.ref 1))), (102, .sa (.one (iv .i64 cl))), (100, .sa (.one (iv .i64 1)))])) [boxM 1, mvX p f g 0 rs cl, keyB p f g] (oS 6) K = need (eqK ((cl : Nat) : Int) ((cl : Nat) : Int)) (K undefV [boxM 1, mvX p f g 1 rs cl, keyB p f g]) := by kernel_rfl
end
def stS (p f g : Int) (rs : List MapEntry) (cl h : Nat) (d4 d6 : Bool) : St := match d6, d4 with
  | true, _ => [boxM 1, mvX p f g 1 rs cl, keyB p f g]
  | false, true => [boxM 1, mvX p f g 0 rs cl, keyB p f g]
  | false, false => [boxM 1, mvA p f g rs cl h, keyB p f g]
def svS (p f g : Int) (cl : Nat) : Nat → SV
  | 0 => .sa (.one (.ref 1))
  | 1 => .sa (kSA p f g)
  | 2 => .sa (.one (iv .i64 0))
  | 3 => .sa (.one (iv .i64 1))
  | 4 => .tup [.one (iv .i64 0), .one (iv .i64 cl)]
  | _ => .sa (.one (iv .i64 cl))
def TmS (α : Al) (a : Act) (t : Nat) (sv : SV) : Prop := ∃ v, a.tmps[t]? = some v ∧ SV.rep α sv v
section
variable {p f g : Int} {rs : List MapEntry} {cl h : Nat} {α : Al} {w0 : World} {act : Act}
def IS (p f g : Int) (rs : List MapEntry) (cl h : Nat) (α : Al) (w0 : World) (act : Act) (D : Nat → Bool) (a : Act) (w : World) : Prop :=
  ∃ α', To α (stS p f g rs cl h false false) w0 α' (stS p f g rs cl h (D 4) (D 6)) w ∧ a.defers = act.defers ∧ a.tmps.size = 147 ∧ (∀ t, t < 97 → a.tmps[t]? = act.tmps[t]?) ∧ ∀ i, i < 6 → D i = true → TmS α' a (97 + i) (svS p f g cl i)
theorem stepS {D : Nat → Bool} {i : Nat} {a : Act} {w : World} {r : Option Nat} {Q : Exit → Act → World → Prop} {K : Act → World → Prop} (hi : i < 7) {o : Oper} (hoi : oSl.toArray[i]? = some o) (hg : o.guard = none) (hd : o.dst = if i < 6 then some (97 + i) else none)
    {α' : Al} (hto : To α (stS p f g rs cl h false false) w0 α' (stS p f g rs cl h (D 4) (D 6)) w) (hde : a.defers = act.defers) (hsz : a.tmps.size = 147) (hold : ∀ t, t < 97 → a.tmps[t]? = act.tmps[t]?) (htm : ∀ i, i < 6 → D i = true → TmS α' a (97 + i) (svS p f g cl i))
    {l : List (Nat × SV)} (hf : ∀ x ∈ l, x.1 < 147 ∧ TmS α' a x.1 x.2)
    {sv : SV} (hev : evOp cxT0 (evCall cxT0 (ev cxT0 0)) (evOperand (frm 147 l)) (stS p f g rs cl h (D 4) (D 6)) o (fun v s => v = sv ∧ s = stS p f g rs cl h (setD D i 4) (setD D i 6)))
    (hsv : i < 6 → sv = svS p f g cl i) (hK : ∀ a' w', IS p f g rs cl h α w0 act (setD D i) a' w' → K a' w') : wpOpIn (Wide r) 0 Try.prog oSl.toArray Q i K a w := by
  have hfr : FrOk α' (frm 147 l) a.tmps := FrOk.ofL hsz fun x hx => (hf x hx).2
  refine wpOp_i hoi hg (evOp_sound rfl cxT0_ok.ops (evCall_ok (run := ev cxT0 0) cxT0_ok (ev_sound cxT0_ok 0).1) hto.rep (evOperand_rep hfr) hev fun sv' st' α'' w' v hk hv hto' => ?_)
  obtain ⟨rfl, rfl⟩ := hk
  refine hK _ _ ⟨α'', hto.trans hto', ?_, ?_, fun t ht => ?_, fun j hj hD => ?_⟩
  · rw [hd]; split <;> exact hde
  · rw [hd]; split
    · simp [Act.put, hsz]
    · exact hsz
  · rw [hd]; split
    · rw [put_other (by omega)]; exact hold t ht
    · exact hold t ht
  · by_cases hji : j = i
    · subst hji
      rw [hd, if_pos hj]
      refine ⟨v, ?_, by rw [← hsv hj]; exact hv⟩
      simp only [Act.put]
      rw [Array.getElem?_setIfInBounds_self_of_lt (by omega)]
    · have hDj : D j = true := by simpa [setD, hji] using hD
      obtain ⟨u, u1, u2⟩ := htm j hj hDj
      refine ⟨u, ?_, SV.rep_mono (hto'.le hto.rep) u2⟩
      rw [hd]; split
      · rw [put_other (by omega)]; exact u1
      · exact u1
theorem hS_core {r : Option Nat} (hsz : act.tmps.size = 147) (hR : R α (stS p f g rs cl h false false) w0) {v0 v1 : Value} (h17 : act.tmps[17]? = some v0) (h19 : act.tmps[19]? = some v1) (r17 : SC.val? α (.ptr 0 0 0) = some v0) (r19 : SC.val? α (.ptr 2 0 0) = some v1)
    : (codeAt Try.prog 4 hS.way).wpIn (Wide r) 0 Try.prog (fun ex a' w' => ex = .normal ∧ a'.defers = act.defers ∧ a'.tmps.size = 147 ∧ (∀ t, t < 97 → a'.tmps[t]? = act.tmps[t]?) ∧ ∃ α', To α (stS p f g rs cl h false false) w0 α' [boxM 1, mvX p f g 1 rs cl, keyB p f g] w') act w0 := by
  rw [regSC]
  obtain ⟨a0, a1, a2, a3, a4, a5, a6⟩ := oS_at
  obtain ⟨g0, g1, g2, g3, g4, g5, g6⟩ := oS_g
  obtain ⟨d0, d1, d2, d3, d4, d5, d6⟩ := oS_d
  obtain ⟨n20, n21, n32, n40, n41, n54, n60, n63, n65⟩ := oS_on
  have at_ : ∀ {i : Nat} {o : Oper}, oSl[i]? = some o → oSl.toArray[i]? = some o := fun h => by simpa using h
  have hpp : ∀ {q : Prop}, q → need ((eqK p p) && ((eqK f f) && (eqK g g))) q := fun hq => by rw [eqK_t.2 rfl, eqK_t.2 rfl, eqK_t.2 rfl]; exact need_iff.2 ⟨rfl, hq⟩
  refine region_inv mixedT oS_back (I := IS p f g rs cl h α w0 act) (fun D i a w hn hI K hK => ?_) (fun D a w hall hI => ?_) ?_
  · obtain ⟨α', hto, hde, hsz', hold, htm⟩ := hI
    have hlt := hn.lt
    rw [oS_size] at hlt
    have base : ∀ {t : Nat} {x : SC} {v : Value}, t < 97 → act.tmps[t]? = some v → x.val? α = some v → x.refs.all (fun q => decide (q < 3)) = true → TmS α' a t (.sa (.one x)) := fun ht hv hx _ =>
      ⟨_, by rw [hold _ ht]; exact hv, SV.rep_mono (hto.le hR) (by simp only [SV.rep, SA.rep]; exact hx)⟩
    have b17 := base (t := 17) (by omega) h17 r17 rfl
    have b19 := base (t := 19) (by omega) h19 r19 rfl
    have no6 : i ≠ 6 → i = 3 ∨ i = 5 ∨ i = 2 ∨ i = 4 ∨ i = 0 → D 6 = false := fun _ hi => by
      cases h6 : D 6 with
      | false => rfl
      | true =>
        have c3 := onB_closed hn.closed (at_ a6) h6 n63
        have c5 := onB_closed hn.closed (at_ a6) h6 n65
        have c0 := onB_closed hn.closed (at_ a6) h6 n60
        have c2 := onB_closed hn.closed (at_ a3) c3 n32
        have c4 := onB_closed hn.closed (at_ a5) c5 n54
        have := hn.no
        rcases hi with rfl | rfl | rfl | rfl | rfl
        · rw [c3] at this; cases this
        · rw [c5] at this; cases this
        · rw [c2] at this; cases this
        · rw [c4] at this; cases this
        · rw [c0] at this; cases this
    match i, hlt, hn with
    | 0, _, hn =>
      refine stepS (i := 0) (by omega) (at_ a0) g0 (by rw [d0]; rfl) hto hde hsz' hold htm (l := [(17, .sa (.one (.ptr 0 0 0)))]) (fun x hx => ?_) (sv := svS p f g cl 0) ?_ (fun _ => rfl) hK
      · simp only [List.mem_singleton] at hx; subst hx; exact ⟨by omega, b17⟩
      · have e4 : setD D 0 4 = D 4 := rfl
        have e6 : setD D 0 6 = D 6 := rfl
        rw [e4, e6]
        cases D 4 <;> cases D 6 <;> (simp only [stS]; rw [t_o0]; exact ⟨rfl, rfl⟩)
    | 1, _, hn =>
      refine stepS (i := 1) (by omega) (at_ a1) g1 (by rw [d1]; rfl) hto hde hsz' hold htm (l := [(19, .sa (.one (.ptr 2 0 0)))]) (fun x hx => ?_) (sv := svS p f g cl 1) ?_ (fun _ => rfl) hK
      · simp only [List.mem_singleton] at hx; subst hx; exact ⟨by omega, b19⟩
      · have e4 : setD D 1 4 = D 4 := rfl
        have e6 : setD D 1 6 = D 6 := rfl
        rw [e4, e6]
        cases D 4 <;> cases D 6 <;> (simp only [stS]; rw [t_o1]; exact ⟨rfl, rfl⟩)
    | 2, _, hn =>
      have c0 := onB_next hn (at_ a2) n20
      have c1 := onB_next hn (at_ a2) n21
      refine stepS (i := 2) (by omega) (at_ a2) g2 (by rw [d2]; rfl) hto hde hsz' hold htm (l := [(97, .sa (.one (.ref 1))), (98, .sa (kSA p f g))]) (fun x hx => ?_) (sv := svS p f g cl 2) ?_ (fun _ => rfl) hK
      · simp only [List.mem_cons, List.not_mem_nil, or_false] at hx
        rcases hx with rfl | rfl
        · exact ⟨by omega, htm 0 (by omega) c0⟩
        · exact ⟨by omega, htm 1 (by omega) c1⟩
      · have e4 : setD D 2 4 = D 4 := rfl
        have e6 : setD D 2 6 = D 6 := rfl
        rw [e4, e6, no6 (by omega) (by omega)]
        cases D 4
        · simp only [stS]; rw [t_o2A]; exact hpp ⟨rfl, rfl⟩
        · simp only [stS]; rw [t_o2B]; exact hpp ⟨rfl, rfl⟩
    | 3, _, hn =>
      have c2 := onB_next hn (at_ a3) n32
      refine stepS (i := 3) (by omega) (at_ a3) g3 (by rw [d3]; rfl) hto hde hsz' hold htm (l := [(99, .sa (.one (iv .i64 0)))]) (fun x hx => ?_) (sv := svS p f g cl 3) ?_ (fun _ => rfl) hK
      · simp only [List.mem_singleton] at hx; subst hx; exact ⟨by omega, htm 2 (by omega) c2⟩
      · have e4 : setD D 3 4 = D 4 := rfl
        have e6 : setD D 3 6 = D 6 := rfl
        rw [e4, e6]
        cases D 4 <;> cases D 6 <;> (simp only [stS]; rw [t_o3]; exact ⟨rfl, rfl⟩)
    | 4, _, hn =>
      have c0 := onB_next hn (at_ a4) n40
      have c1 := onB_next hn (at_ a4) n41
      refine stepS (i := 4) (by omega) (at_ a4) g4 (by rw [d4]; rfl) hto hde hsz' hold htm (l := [(97, .sa (.one (.ref 1))), (98, .sa (kSA p f g))]) (fun x hx => ?_) (sv := svS p f g cl 4) ?_ (fun _ => rfl) hK
      · simp only [List.mem_cons, List.not_mem_nil, or_false] at hx
        rcases hx with rfl | rfl
        · exact ⟨by omega, htm 0 (by omega) c0⟩
        · exact ⟨by omega, htm 1 (by omega) c1⟩
      · have e4 : setD D 4 4 = true := rfl
        have e6 : setD D 4 6 = D 6 := rfl
        rw [e4, e6, no6 (by omega) (by omega), hn.no]
        simp only [stS]; rw [t_o4]; exact hpp ⟨rfl, rfl⟩
    | 5, _, hn =>
      have c4 := onB_next hn (at_ a5) n54
      refine stepS (i := 5) (by omega) (at_ a5) g5 (by rw [d5]; rfl) hto hde hsz' hold htm (l := [(101, .tup [.one (iv .i64 0), .one (iv .i64 cl)])]) (fun x hx => ?_) (sv := svS p f g cl 5) ?_ (fun _ => rfl) hK
      · simp only [List.mem_singleton] at hx; subst hx; exact ⟨by omega, htm 4 (by omega) c4⟩
      · have e4 : setD D 5 4 = D 4 := rfl
        have e6 : setD D 5 6 = D 6 := rfl
        rw [e4, e6]
        cases D 4 <;> cases D 6 <;> (simp only [stS]; rw [t_o5]; exact ⟨rfl, rfl⟩)
    | 6, _, hn =>
      have c0 := onB_next hn (at_ a6) n60
      have c3 := onB_next hn (at_ a6) n63
      have c5 := onB_next hn (at_ a6) n65
      have c4 := onB_closed hn.closed (at_ a5) c5 n54
      refine stepS (i := 6) (by omega) (at_ a6) g6 (by rw [d6]; rfl) hto hde hsz' hold htm (l := [(97, .sa (.one (.ref 1))), (102, .sa (.one (iv .i64 cl))), (100, .sa (.one (iv .i64 1)))]) (fun x hx => ?_) (sv := undefV) ?_ (fun h => by omega) hK
      · simp only [List.mem_cons, List.not_mem_nil, or_false] at hx
        rcases hx with rfl | rfl | rfl
        · exact ⟨by omega, htm 0 (by omega) c0⟩
        · exact ⟨by omega, htm 5 (by omega) c5⟩
        · exact ⟨by omega, htm 3 (by omega) c3⟩
      · have e4 : setD D 6 4 = D 4 := rfl
        have e6 : setD D 6 6 = true := rfl
        rw [e4, e6, c4, hn.no]
        simp only [stS]; rw [t_o6, eqK_t.2 rfl]; exact need_iff.2 ⟨rfl, rfl, rfl⟩
  · obtain ⟨α', hto, hde, hsz', hold, htm⟩ := hI
    have h6 := hall 6 (by rw [oS_size]; omega)
    rw [h6] at hto
    exact ⟨rfl, hde, hsz', hold, α', hto⟩
  · exact ⟨α, To.grown hR (fun _ _ => rfl) (Nat.le_refl _) ⟨rfl, by simp⟩ rfl rfl, rfl, hsz, fun _ _ => rfl, fun i _ h => by cases h⟩
end
end Go.Ev
end
section
namespace Go.Ev
open Go Go.Proofs Go.Spec
theorem mv_fresh {α : Al} {p f g p0 f0 g0 v0 : Int} {b0 cl : Nat} {rs xs ps : List MapEntry} (m : MvOk α kK [⟨[p0, f0, g0], some (.one (iv .i64 v0)), b0⟩] rs xs ps cl) (hf : freshM p f g (addM rs p0 f0 g0 v0 b0) = true) :
    ∃ ps', MvOk α kK [⟨[p, f, g], none, 0⟩] (addM rs p0 f0 g0 v0 b0) xs ps' cl := by
  obtain ⟨q, r, hps, hq1, hq2, hq3, hr⟩ := m.rep
  have hr : r = [] := hr
  subst hr; subst hps
  have hqv : q.val = .int .i64 v0 := by
    simp only [iv, SA.rep, SC.val?, Option.some.injEq] at hq3
    exact hq3.symm
  have hadd : q :: rs = addM rs p0 f0 g0 v0 b0 := by
    obtain ⟨qk, qv, qb⟩ := q
    simp only at hq1 hq2 hqv
    subst hq1; subst hq2; subst hqv
    rfl
  have hperm : xs.Perm (addM rs p0 f0 g0 v0 b0) := by rw [← hadd]; exact m.perm
  have hmok := m.mok
  have m0 : MvOk α kK [] (addM rs p0 f0 g0 v0 b0) xs [] cl := ⟨by simpa using hperm, rfl, List.Pairwise.nil, by simp, fun x hx => hmok.ints x (hperm.mem_iff.2 hx), (hperm.pairwise_iff (fun h => Ne.symm h)).1 hmok.apart, by simp, m.born, m.young⟩
  rcases m0.tell (k := [p, f, g]) rfl (by simp) with ⟨_, m2⟩ | ⟨x, rs', hx, hxk, _⟩
  · exact ⟨_, m2⟩
  · exfalso
    unfold freshM keysR at hf
    rw [List.all_eq_true] at hf
    have := hf (kxOf x.key) (List.mem_map.2 ⟨x, hperm.mem_iff.1 hx, rfl⟩)
    rw [hxk, show kxOf (keyV kK [p, f, g]) = (p, f, g) from rfl] at this
    simp at this
theorem mv_first {α : Al} {p f g : Int} : ∃ ps', MvOk α kK [⟨[p, f, g], none, 0⟩] [] [] ps' 0 := by
  have m0 : MvOk α kK [] [] [] [] 0 := ⟨by simp, rfl, List.Pairwise.nil, by simp, by simp, List.Pairwise.nil, by simp, by simp, by simp⟩
  rcases m0.tell (k := [p, f, g]) rfl (by simp) with ⟨_, m2⟩ | ⟨x, rs', hx, _⟩
  · exact ⟨_, m2⟩
  · simp at hx
theorem hS_post {α : Al} {st : St} {w : World} {act : Act} {r : Option Nat} {vals : List Value} {p f g : Int} {rs : List MapEntry} {cl h : Nat} {k : SV → St → Prop} (hsz : act.tmps.size = hS.n) (hv : RepsA α [.one (.ptr 0 0 0), .one (.ptr 2 0 0)] vals)
    (hs : hS.ins.map (fun t => act.tmps[t]?) = vals.map some) (hto : To α st w α [boxM 1, mvA p f g rs cl h, keyB p f g] w) (hk : k (.tup []) [boxM 1, mvX p f g 1 rs cl, keyB p f g]) :
    (codeAt Try.prog 4 hS.way).wpIn (Wide r) 0 Try.prog (HandPost α st w hS act k) act w := by
  match vals, hv with
  | [v0, v1], ⟨e0, e1, _⟩ =>
  simp only [hS, List.map_cons, List.map_nil, List.cons.injEq, and_true] at hs hsz
  obtain ⟨s0, s1⟩ := hs
  refine wpIn_mono (hS_core (p := p) (f := f) (g := g) (rs := rs) (cl := cl) (h := h) (α := α) (w0 := w) hsz hto.rep s0 s1 e0 e1) fun ex a' w' ⟨he, hde, hsz', hold, α', hto'⟩ => ?_
  refine ⟨he, hde, by rw [hsz']; exact hsz.symm, fun t ht => hold t ?_, [], _, α', [], rfl, trivial, hk, hto.trans hto'⟩
  simp only [hS, List.mem_cons, List.not_mem_nil, or_false] at ht
  omega
theorem hS_ok : HandOk Try.prog (1000000 + 4) hS := by
  refine fun args st => ⟨?_, fun k h α w vals act r hr hsz hR hv hs => ?_⟩
  · show Lin (sS args st)
    unfold sS
    split
    · split
      · exact linNeed linRet
      · exact linNeed (linNeed linRet)
      · exact fun _ h => h.elim
    · exact fun _ h => h.elim
  · replace h : sS args st k := h
    unfold sS at h
    split at h
    · split at h
      · rename_i T1 T2 p f g
        have h1 := of_decide_eq_true (need_iff.1 h).1
        have hk := (need_iff.1 h).2
        obtain ⟨e1, e2⟩ := h1
        subst e1; subst e2
        refine hS_post (p := p) (f := f) (g := g) (rs := []) (cl := 0) (h := 0) hsz hv hs ?_ hk
        refine To.retell (To.refl hR) (o := 1) (so := .mp true [] 0) (so' := .mv true [.u32, .u16, .u16] [⟨[p, f, g], none, 0⟩] [] 0 0) rfl (fun _ _ _ h => h) (fun h => h) (fun _ _ h => h) (fun d hd hg => ?_)
        obtain ⟨hv, xs, hx, he⟩ := hg
        have hxs : xs = [] := by cases xs with
          | nil => rfl
          | cons x r => exact he.elim
        subst hxs
        obtain ⟨ps', m⟩ := mv_first (α := α) (p := p) (f := f) (g := g)
        exact ⟨hv, [], ps', hx, m⟩
      · rename_i T1 p0 f0 g0 v0 b0 rs cl hh T2 p f g
        have h1 := of_decide_eq_true (need_iff.1 h).1
        have h2 := need_iff.1 (need_iff.1 h).2
        obtain ⟨e1, e2⟩ := h1
        subst e1; subst e2
        refine hS_post (p := p) (f := f) (g := g) (rs := addM rs p0 f0 g0 v0 b0) (cl := cl) (h := hh) hsz hv hs ?_ h2.2
        refine To.retell (To.refl hR) (o := 1) (so := .mv true [.u32, .u16, .u16] [⟨[p0, f0, g0], some (.one (.raw (.int .i64 v0))), b0⟩] rs cl hh) (so' := .mv true [.u32, .u16, .u16] [⟨[p, f, g], none, 0⟩] (addM rs p0 f0 g0 v0 b0) cl hh) rfl (fun _ _ _ h => h) (fun h => h) (fun _ _ h => h) (fun d hd hg => ?_)
        obtain ⟨hv, xs, ps, hx, m⟩ := hg
        obtain ⟨ps', m'⟩ := mv_fresh (p := p) (f := f) (g := g) m h2.1
        exact ⟨hv, xs, ps', hx, m'⟩
      · exact h.elim
    · exact h.elim
end Go.Ev
end
