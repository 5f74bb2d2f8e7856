/- Table: texts PlE4, PlE5, PlE6, TlP, TlQ, one behind the other. No conditions. -/
import Derived.Test.YtnfajlpjpalhcaaTmD
import Derived.Test.YtnfajlpjpalhcaaEvD
set_option linter.unusedVariables false
set_option linter.unusedSimpArgs false
section
namespace Go.Ev
open Go Go.Proofs Go.Spec
theorem t_plE4 (s i p f g v nb j : Int) (L M m : Nat) (D : TbD) (es ws : List (Kx × Int)) (ks : List Kx) (us kds c0 c1 c2 vs : List Int) (k : Exit → Fr → St → Prop) : ev cxPl (L + 58) 21 34 (codeAt Try.prog 34 [1, 0]) (frm 18 [(0, (.sa (.one (SC.ref 20)))), (5, (.sa (.one (SC.ref 15)))), (6, .sa (kint ((lenK ks : Nat) : Int))), (7, .sa (kint j))]) [rowD m kds c0 c1 c2 vs, obj 4 1 [bv false], tbox 3, some (.abs true 0 D), obj 28 1 [.ptr 5 0 0], rT s 6, rowE es, obj 38 5 [iv .i64 3, iv .u32 p, iv .u16 f, iv .u16 g, iv .i64 v], obj 29 1 [.ref 9], rowE ws, obj 3 1 [iv .i64 nb], some (.clo (.func 23) [] [.one (.ptr 12 0 0)]), tbox 3, some (.lp true 3 (frm 221 [(0, .sa (kint s)), (4, (.sa (.one (SC.ptr 1 0 0)))), (5, (.sa (.one (SC.ptr 2 0 0)))), (7, (.sa (.one (SC.ptr 4 0 0)))), (9, (.sa (.one (SC.ptr 7 0 0)))), (13, (.sa (.one (SC.ptr 8 0 0)))), (14, (.sa (.one (SC.ptr 10 0 0)))), (51, (.sa (.one (SC.ref 0)))), (52, .sa (kint (m : Int))), (53, .sa (kint i)), (131, (.sa (.one (SC.ref 3)))), (132, (.sa (.one (SC.ref 11))))]) [133, 134] plA plB 0 none), obj 64 1 [.ref 13], rowX ks, obj 65 1 [.ref 17], some (.own true .row 3 1 (.ints .i64 us)), some (.clo (.func 34) [] [.one (.ptr 19 0 0)]), obj 57 1 [.ref 15], some (.lp true 23 (frm 59 [(2, (.sa (.one (SC.ptr 14 0 0)))), (3, (.sa (.one (SC.ref 15)))), (4, (.sa (.one (SC.ptr 16 0 0)))), (47, (.sa (.one (SC.ref 15)))), (48, (.sa (.one (SC.ref 18))))]) [49, 50] (codeAt Try.prog 23 [1, 1, 1, 1, 1, 0, 0]) (codeAt Try.prog 23 [1, 1, 1, 1, 1, 0, 1]) 0 none)] (kBlock 0 (kRet (Cx.P cxPl) [] 21 (kRange (ev cxPl (M + 60)) 14 23 20 (frm 59 [(2, (.sa (.one (SC.ptr 14 0 0)))), (3, (.sa (.one (SC.ref 15)))), (4, (.sa (.one (SC.ptr 16 0 0)))), (47, (.sa (.one (SC.ref 15)))), (48, (.sa (.one (SC.ref 18))))]) (kBlock 4 k)))) =
    (Again (branch (decide ((j < (((Spec.lenK ks) : Nat) : Int)))) (need (decide (((0) ≤ j))) (need (decide ((j < (((Spec.lenK ks) : Nat) : Int)))) (need (decide (((0 + (Int.toNat j)) < (Spec.lenK ks)))) (need (decide (((0) ≤ j))) (need (decide ((j < (((List.length us) : Nat) : Int)))) (need (decide (((0 + (Int.toNat j)) < (List.length us)))) (branch (decide ((nb ≥ (((Spec.lenE ws) : Nat) : Int)))) (k Exit.ret (frm 59 [(2, (.sa (.one (SC.ptr 14 0 0)))), (3, (.sa (.one (SC.ref 15)))), (4, (.sa (.one (SC.ptr 16 0 0)))), (47, (.sa (.one (SC.ref 15)))), (48, (.sa (.one (SC.ref 18))))]) [(some (SO.own false MK.ext 0 5 (Ct.tab m [(Col.ints .i64 kds), (Col.ints .u32 c0), (Col.ints .u16 c1), (Col.ints .u16 c2), (Col.ints .i64 vs)]))), (obj 4 1 [(bv false)]), (obj 24 1 [(SC.ref 3)]), (some (SO.abs true 0 D)), (obj 28 1 [(SC.ptr 5 0 0)]), (obj 31 2 [(iv .i64 s), (SC.ref 6)]), (some (SO.own true MK.row 47 4 (Ct.tab (Spec.lenE es) [(Col.ints .u32 (Spec.eP es)), (Col.ints .u16 (Spec.eF es)), (Col.ints .u16 (Spec.eG es)), (Col.ints .i64 (Spec.eV es))]))), (obj 38 5 [(iv .i64 (3)), (iv .u32 p), (iv .u16 f), (iv .u16 g), (iv .i64 v)]), (obj 29 1 [(SC.ref 9)]), (some (SO.own true MK.row 47 4 (Ct.tab (Spec.lenE ws) [(Col.ints .u32 (Spec.eP ws)), (Col.ints .u16 (Spec.eF ws)), (Col.ints .u16 (Spec.eG ws)), (Col.ints .i64 (Spec.eV ws))]))), (obj 3 1 [(iv .i64 nb)]), (some (SO.clo (Fn.func 23) [] [(.one (SC.ptr 12 0 0))])), (obj 24 1 [(SC.ref 3)]), (some (SO.lp true 3 (frm 221 [(0, (.sa (.one (iv .i64 s)))), (4, (.sa (.one (SC.ptr 1 0 0)))), (5, (.sa (.one (SC.ptr 2 0 0)))), (7, (.sa (.one (SC.ptr 4 0 0)))), (9, (.sa (.one (SC.ptr 7 0 0)))), (13, (.sa (.one (SC.ptr 8 0 0)))), (14, (.sa (.one (SC.ptr 10 0 0)))), (51, (.sa (.one (SC.ref 0)))), (52, (.sa (.one (iv .i64 ((m : Nat) : Int))))), (53, (.sa (.one (iv .i64 i)))), (131, (.sa (.one (SC.ref 3)))), (132, (.sa (.one (SC.ref 11))))]) [133, 134] plA plB 2 (some (codeAt Try.prog 3 [1, 0, 1, 0, 1])))), (obj 64 1 [(SC.ref 13)]), (some (SO.own true MK.row 36 3 (Ct.tab (Spec.lenK ks) [(Col.ints .u32 (Spec.colP ks)), (Col.ints .u16 (Spec.colF ks)), (Col.ints .u16 (Spec.colG ks))]))), (obj 65 1 [(SC.ref 17)]), (some (SO.own true MK.row 3 1 (Ct.ints .i64 us))), (some (SO.clo (Fn.func 34) [] [(.one (SC.ptr 19 0 0))])), (obj 57 1 [(SC.ref 15)]), (some (SO.lp true 23 (frm 59 [(2, (.sa (.one (SC.ptr 14 0 0)))), (3, (.sa (.one (SC.ref 15)))), (4, (.sa (.one (SC.ptr 16 0 0)))), (47, (.sa (.one (SC.ref 15)))), (48, (.sa (.one (SC.ref 18))))]) [49, 50] (codeAt Proofs.Try.prog 23 [1, 1, 1, 1, 1, 0, 0]) (codeAt Proofs.Try.prog 23 [1, 1, 1, 1, 1, 0, 1]) 3 (some (codeAt Try.prog 3 [1, 0, 1, 0, 1]))))]) (need (decide (((0) ≤ nb))) (need (decide ((nb < (((Spec.lenE ws) : Nat) : Int)))) (need (decide (((0 + (Int.toNat nb)) < (Spec.lenE ws)))) (branch (Bool.not ((eqK (List.getD (Spec.colP ks) (0 + (Int.toNat j)) (0)) (List.getD (Spec.eP ws) (0 + (Int.toNat nb)) (0))) && ((eqK (List.getD (Spec.colF ks) (0 + (Int.toNat j)) (0)) (List.getD (Spec.eF ws) (0 + (Int.toNat nb)) (0))) && ((eqK (List.getD (Spec.colG ks) (0 + (Int.toNat j)) (0)) (List.getD (Spec.eG ws) (0 + (Int.toNat nb)) (0))) && true)))) (k Exit.ret (frm 59 [(2, (.sa (.one (SC.ptr 14 0 0)))), (3, (.sa (.one (SC.ref 15)))), (4, (.sa (.one (SC.ptr 16 0 0)))), (47, (.sa (.one (SC.ref 15)))), (48, (.sa (.one (SC.ref 18))))]) [(some (SO.own false MK.ext 0 5 (Ct.tab m [(Col.ints .i64 kds), (Col.ints .u32 c0), (Col.ints .u16 c1), (Col.ints .u16 c2), (Col.ints .i64 vs)]))), (obj 4 1 [(bv false)]), (obj 24 1 [(SC.ref 3)]), (some (SO.abs true 0 D)), (obj 28 1 [(SC.ptr 5 0 0)]), (obj 31 2 [(iv .i64 s), (SC.ref 6)]), (some (SO.own true MK.row 47 4 (Ct.tab (Spec.lenE es) [(Col.ints .u32 (Spec.eP es)), (Col.ints .u16 (Spec.eF es)), (Col.ints .u16 (Spec.eG es)), (Col.ints .i64 (Spec.eV es))]))), (obj 38 5 [(iv .i64 (3)), (iv .u32 p), (iv .u16 f), (iv .u16 g), (iv .i64 v)]), (obj 29 1 [(SC.ref 9)]), (some (SO.own true MK.row 47 4 (Ct.tab (Spec.lenE ws) [(Col.ints .u32 (Spec.eP ws)), (Col.ints .u16 (Spec.eF ws)), (Col.ints .u16 (Spec.eG ws)), (Col.ints .i64 (Spec.eV ws))]))), (obj 3 1 [(iv .i64 nb)]), (some (SO.clo (Fn.func 23) [] [(.one (SC.ptr 12 0 0))])), (obj 24 1 [(SC.ref 3)]), (some (SO.lp true 3 (frm 221 [(0, (.sa (.one (iv .i64 s)))), (4, (.sa (.one (SC.ptr 1 0 0)))), (5, (.sa (.one (SC.ptr 2 0 0)))), (7, (.sa (.one (SC.ptr 4 0 0)))), (9, (.sa (.one (SC.ptr 7 0 0)))), (13, (.sa (.one (SC.ptr 8 0 0)))), (14, (.sa (.one (SC.ptr 10 0 0)))), (51, (.sa (.one (SC.ref 0)))), (52, (.sa (.one (iv .i64 ((m : Nat) : Int))))), (53, (.sa (.one (iv .i64 i)))), (131, (.sa (.one (SC.ref 3)))), (132, (.sa (.one (SC.ref 11))))]) [133, 134] plA plB 2 (some (codeAt Try.prog 3 [1, 0, 1, 0, 1])))), (obj 64 1 [(SC.ref 13)]), (some (SO.own true MK.row 36 3 (Ct.tab (Spec.lenK ks) [(Col.ints .u32 (Spec.colP ks)), (Col.ints .u16 (Spec.colF ks)), (Col.ints .u16 (Spec.colG ks))]))), (obj 65 1 [(SC.ref 17)]), (some (SO.own true MK.row 3 1 (Ct.ints .i64 us))), (some (SO.clo (Fn.func 34) [] [(.one (SC.ptr 19 0 0))])), (obj 57 1 [(SC.ref 15)]), (some (SO.lp true 23 (frm 59 [(2, (.sa (.one (SC.ptr 14 0 0)))), (3, (.sa (.one (SC.ref 15)))), (4, (.sa (.one (SC.ptr 16 0 0)))), (47, (.sa (.one (SC.ref 15)))), (48, (.sa (.one (SC.ref 18))))]) [49, 50] (codeAt Proofs.Try.prog 23 [1, 1, 1, 1, 1, 0, 0]) (codeAt Proofs.Try.prog 23 [1, 1, 1, 1, 1, 0, 1]) 3 (some (codeAt Try.prog 3 [1, 0, 1, 0, 1]))))]) (need (decide (((0) ≤ nb))) (need (decide ((nb < (((Spec.lenE ws) : Nat) : Int)))) (need (decide (((0 + (Int.toNat nb)) < (Spec.lenE ws)))) (branch (Bool.not (eqK (List.getD us (0 + (Int.toNat j)) (0)) (List.getD (Spec.eV ws) (0 + (Int.toNat nb)) (0)))) (k Exit.ret (frm 59 [(2, (.sa (.one (SC.ptr 14 0 0)))), (3, (.sa (.one (SC.ref 15)))), (4, (.sa (.one (SC.ptr 16 0 0)))), (47, (.sa (.one (SC.ref 15)))), (48, (.sa (.one (SC.ref 18))))]) [(some (SO.own false MK.ext 0 5 (Ct.tab m [(Col.ints .i64 kds), (Col.ints .u32 c0), (Col.ints .u16 c1), (Col.ints .u16 c2), (Col.ints .i64 vs)]))), (obj 4 1 [(bv false)]), (obj 24 1 [(SC.ref 3)]), (some (SO.abs true 0 D)), (obj 28 1 [(SC.ptr 5 0 0)]), (obj 31 2 [(iv .i64 s), (SC.ref 6)]), (some (SO.own true MK.row 47 4 (Ct.tab (Spec.lenE es) [(Col.ints .u32 (Spec.eP es)), (Col.ints .u16 (Spec.eF es)), (Col.ints .u16 (Spec.eG es)), (Col.ints .i64 (Spec.eV es))]))), (obj 38 5 [(iv .i64 (3)), (iv .u32 p), (iv .u16 f), (iv .u16 g), (iv .i64 v)]), (obj 29 1 [(SC.ref 9)]), (some (SO.own true MK.row 47 4 (Ct.tab (Spec.lenE ws) [(Col.ints .u32 (Spec.eP ws)), (Col.ints .u16 (Spec.eF ws)), (Col.ints .u16 (Spec.eG ws)), (Col.ints .i64 (Spec.eV ws))]))), (obj 3 1 [(iv .i64 nb)]), (some (SO.clo (Fn.func 23) [] [(.one (SC.ptr 12 0 0))])), (obj 24 1 [(SC.ref 3)]), (some (SO.lp true 3 (frm 221 [(0, (.sa (.one (iv .i64 s)))), (4, (.sa (.one (SC.ptr 1 0 0)))), (5, (.sa (.one (SC.ptr 2 0 0)))), (7, (.sa (.one (SC.ptr 4 0 0)))), (9, (.sa (.one (SC.ptr 7 0 0)))), (13, (.sa (.one (SC.ptr 8 0 0)))), (14, (.sa (.one (SC.ptr 10 0 0)))), (51, (.sa (.one (SC.ref 0)))), (52, (.sa (.one (iv .i64 ((m : Nat) : Int))))), (53, (.sa (.one (iv .i64 i)))), (131, (.sa (.one (SC.ref 3)))), (132, (.sa (.one (SC.ref 11))))]) [133, 134] plA plB 2 (some (codeAt Try.prog 3 [1, 0, 1, 0, 1])))), (obj 64 1 [(SC.ref 13)]), (some (SO.own true MK.row 36 3 (Ct.tab (Spec.lenK ks) [(Col.ints .u32 (Spec.colP ks)), (Col.ints .u16 (Spec.colF ks)), (Col.ints .u16 (Spec.colG ks))]))), (obj 65 1 [(SC.ref 17)]), (some (SO.own true MK.row 3 1 (Ct.ints .i64 us))), (some (SO.clo (Fn.func 34) [] [(.one (SC.ptr 19 0 0))])), (obj 57 1 [(SC.ref 15)]), (some (SO.lp true 23 (frm 59 [(2, (.sa (.one (SC.ptr 14 0 0)))), (3, (.sa (.one (SC.ref 15)))), (4, (.sa (.one (SC.ptr 16 0 0)))), (47, (.sa (.one (SC.ref 15)))), (48, (.sa (.one (SC.ref 18))))]) [49, 50] (codeAt Proofs.Try.prog 23 [1, 1, 1, 1, 1, 0, 0]) (codeAt Proofs.Try.prog 23 [1, 1, 1, 1, 1, 0, 1]) 3 (some (codeAt Try.prog 3 [1, 0, 1, 0, 1]))))]) (need (Spec.colsOk (Spec.lenE es) (Spec.eP es) (Spec.eF es) (Spec.eG es) (Spec.eV es)) (need (decide (((Spec.lenE es) ≤ 1000))) (branch (Spec.foundE (Spec.toE (Spec.lenE es) (Spec.eP es) (Spec.eF es) (Spec.eG es) (Spec.eV es)) (List.getD (Spec.colP ks) (0 + (Int.toNat j)) (0)) (List.getD (Spec.colF ks) (0 + (Int.toNat j)) (0)) (List.getD (Spec.colG ks) (0 + (Int.toNat j)) (0))) (branch (decide (((addK .i64 nb (1)) ≥ v))) (k Exit.ret (frm 59 [(2, (.sa (.one (SC.ptr 14 0 0)))), (3, (.sa (.one (SC.ref 15)))), (4, (.sa (.one (SC.ptr 16 0 0)))), (47, (.sa (.one (SC.ref 15)))), (48, (.sa (.one (SC.ref 18))))]) [(some (SO.own false MK.ext 0 5 (Ct.tab m [(Col.ints .i64 kds), (Col.ints .u32 c0), (Col.ints .u16 c1), (Col.ints .u16 c2), (Col.ints .i64 vs)]))), (obj 4 1 [(bv false)]), (obj 24 1 [(SC.ref 3)]), (some (SO.abs true 0 (Spec.setT D ((List.getD (Spec.colP ks) (0 + (Int.toNat j)) (0)), ((List.getD (Spec.colF ks) (0 + (Int.toNat j)) (0)), (List.getD (Spec.colG ks) (0 + (Int.toNat j)) (0)))) Option.none))), (obj 28 1 [(SC.ptr 5 0 0)]), (obj 31 2 [(iv .i64 s), (SC.ref 21)]), (some (SO.own true MK.row 47 4 (Ct.tab (Spec.lenE es) [(Col.ints .u32 (Spec.eP es)), (Col.ints .u16 (Spec.eF es)), (Col.ints .u16 (Spec.eG es)), (Col.ints .i64 (Spec.eV es))]))), (obj 38 5 [(iv .i64 (3)), (iv .u32 p), (iv .u16 f), (iv .u16 g), (iv .i64 v)]), (obj 29 1 [(SC.ref 9)]), (some (SO.own true MK.row 47 4 (Ct.tab (Spec.lenE ws) [(Col.ints .u32 (Spec.eP ws)), (Col.ints .u16 (Spec.eF ws)), (Col.ints .u16 (Spec.eG ws)), (Col.ints .i64 (Spec.eV ws))]))), (obj 3 1 [(iv .i64 (addK .i64 nb (1)))]), (some (SO.clo (Fn.func 23) [] [(.one (SC.ptr 12 0 0))])), (obj 24 1 [(SC.ref 3)]), (some (SO.lp true 3 (frm 221 [(0, (.sa (.one (iv .i64 s)))), (4, (.sa (.one (SC.ptr 1 0 0)))), (5, (.sa (.one (SC.ptr 2 0 0)))), (7, (.sa (.one (SC.ptr 4 0 0)))), (9, (.sa (.one (SC.ptr 7 0 0)))), (13, (.sa (.one (SC.ptr 8 0 0)))), (14, (.sa (.one (SC.ptr 10 0 0)))), (51, (.sa (.one (SC.ref 0)))), (52, (.sa (.one (iv .i64 ((m : Nat) : Int))))), (53, (.sa (.one (iv .i64 i)))), (131, (.sa (.one (SC.ref 3)))), (132, (.sa (.one (SC.ref 11))))]) [133, 134] plA plB 2 (some (codeAt Try.prog 3 [1, 1, 1, 1, 1, 1, 1, 0, 1, 0, 0, 1, 1, 0, 0, 1, 0, 1, 0, 1, 1, 1, 1, 1, 1, 1, 0, 1, 1, 0, 1, 0, 1, 0, 1, 1, 1, 1, 1, 0])))), (obj 64 1 [(SC.ref 13)]), (some (SO.own true MK.row 36 3 (Ct.tab (Spec.lenK ks) [(Col.ints .u32 (Spec.colP ks)), (Col.ints .u16 (Spec.colF ks)), (Col.ints .u16 (Spec.colG ks))]))), (obj 65 1 [(SC.ref 17)]), (some (SO.own true MK.row 3 1 (Ct.ints .i64 us))), (some (SO.clo (Fn.func 34) [] [(.one (SC.ptr 19 0 0))])), (obj 57 1 [(SC.ref 15)]), (some (SO.lp true 23 (frm 59 [(2, (.sa (.one (SC.ptr 14 0 0)))), (3, (.sa (.one (SC.ref 15)))), (4, (.sa (.one (SC.ptr 16 0 0)))), (47, (.sa (.one (SC.ref 15)))), (48, (.sa (.one (SC.ref 18))))]) [49, 50] (codeAt Proofs.Try.prog 23 [1, 1, 1, 1, 1, 0, 0]) (codeAt Proofs.Try.prog 23 [1, 1, 1, 1, 1, 0, 1]) 3 (some (codeAt Try.prog 3 [1, 0, 1, 0, 1])))), (some (SO.own true MK.row 47 4 (Ct.tab (Spec.lenE (Spec.dropE (Spec.toE (Spec.lenE es) (Spec.eP es) (Spec.eF es) (Spec.eG es) (Spec.eV es)) (List.getD (Spec.colP ks) (0 + (Int.toNat j)) (0)) (List.getD (Spec.colF ks) (0 + (Int.toNat j)) (0)) (List.getD (Spec.colG ks) (0 + (Int.toNat j)) (0)))) [(Col.ints .u32 (Spec.eP (Spec.dropE (Spec.toE (Spec.lenE es) (Spec.eP es) (Spec.eF es) (Spec.eG es) (Spec.eV es)) (List.getD (Spec.colP ks) (0 + (Int.toNat j)) (0)) (List.getD (Spec.colF ks) (0 + (Int.toNat j)) (0)) (List.getD (Spec.colG ks) (0 + (Int.toNat j)) (0))))), (Col.ints .u16 (Spec.eF (Spec.dropE (Spec.toE (Spec.lenE es) (Spec.eP es) (Spec.eF es) (Spec.eG es) (Spec.eV es)) (List.getD (Spec.colP ks) (0 + (Int.toNat j)) (0)) (List.getD (Spec.colF ks) (0 + (Int.toNat j)) (0)) (List.getD (Spec.colG ks) (0 + (Int.toNat j)) (0))))), (Col.ints .u16 (Spec.eG (Spec.dropE (Spec.toE (Spec.lenE es) (Spec.eP es) (Spec.eF es) (Spec.eG es) (Spec.eV es)) (List.getD (Spec.colP ks) (0 + (Int.toNat j)) (0)) (List.getD (Spec.colF ks) (0 + (Int.toNat j)) (0)) (List.getD (Spec.colG ks) (0 + (Int.toNat j)) (0))))), (Col.ints .i64 (Spec.eV (Spec.dropE (Spec.toE (Spec.lenE es) (Spec.eP es) (Spec.eF es) (Spec.eG es) (Spec.eV es)) (List.getD (Spec.colP ks) (0 + (Int.toNat j)) (0)) (List.getD (Spec.colF ks) (0 + (Int.toNat j)) (0)) (List.getD (Spec.colG ks) (0 + (Int.toNat j)) (0)))))])))]) (ev cxPl (L + 57) 21 34 (codeAt Try.prog 34 [1, 0]) (frm 18 [(0, (.sa (.one (SC.ref 20)))), (5, (.sa (.one (SC.ref 15)))), (6, (.sa (.one (iv .i64 (((Spec.lenK ks) : Nat) : Int))))), (7, (.sa (.one (iv .i64 (addK .i64 j (1))))))]) [(some (SO.own false MK.ext 0 5 (Ct.tab m [(Col.ints .i64 kds), (Col.ints .u32 c0), (Col.ints .u16 c1), (Col.ints .u16 c2), (Col.ints .i64 vs)]))), (obj 4 1 [(bv false)]), (obj 24 1 [(SC.ref 3)]), (some (SO.abs true 0 (Spec.setT D ((List.getD (Spec.colP ks) (0 + (Int.toNat j)) (0)), ((List.getD (Spec.colF ks) (0 + (Int.toNat j)) (0)), (List.getD (Spec.colG ks) (0 + (Int.toNat j)) (0)))) Option.none))), (obj 28 1 [(SC.ptr 5 0 0)]), (obj 31 2 [(iv .i64 s), (SC.ref 21)]), (some (SO.own true MK.row 47 4 (Ct.tab (Spec.lenE es) [(Col.ints .u32 (Spec.eP es)), (Col.ints .u16 (Spec.eF es)), (Col.ints .u16 (Spec.eG es)), (Col.ints .i64 (Spec.eV es))]))), (obj 38 5 [(iv .i64 (3)), (iv .u32 p), (iv .u16 f), (iv .u16 g), (iv .i64 v)]), (obj 29 1 [(SC.ref 9)]), (some (SO.own true MK.row 47 4 (Ct.tab (Spec.lenE ws) [(Col.ints .u32 (Spec.eP ws)), (Col.ints .u16 (Spec.eF ws)), (Col.ints .u16 (Spec.eG ws)), (Col.ints .i64 (Spec.eV ws))]))), (obj 3 1 [(iv .i64 (addK .i64 nb (1)))]), (some (SO.clo (Fn.func 23) [] [(.one (SC.ptr 12 0 0))])), (obj 24 1 [(SC.ref 3)]), (some (SO.lp true 3 (frm 221 [(0, (.sa (.one (iv .i64 s)))), (4, (.sa (.one (SC.ptr 1 0 0)))), (5, (.sa (.one (SC.ptr 2 0 0)))), (7, (.sa (.one (SC.ptr 4 0 0)))), (9, (.sa (.one (SC.ptr 7 0 0)))), (13, (.sa (.one (SC.ptr 8 0 0)))), (14, (.sa (.one (SC.ptr 10 0 0)))), (51, (.sa (.one (SC.ref 0)))), (52, (.sa (.one (iv .i64 ((m : Nat) : Int))))), (53, (.sa (.one (iv .i64 i)))), (131, (.sa (.one (SC.ref 3)))), (132, (.sa (.one (SC.ref 11))))]) [133, 134] plA plB 0 Option.none)), (obj 64 1 [(SC.ref 13)]), (some (SO.own true MK.row 36 3 (Ct.tab (Spec.lenK ks) [(Col.ints .u32 (Spec.colP ks)), (Col.ints .u16 (Spec.colF ks)), (Col.ints .u16 (Spec.colG ks))]))), (obj 65 1 [(SC.ref 17)]), (some (SO.own true MK.row 3 1 (Ct.ints .i64 us))), (some (SO.clo (Fn.func 34) [] [(.one (SC.ptr 19 0 0))])), (obj 57 1 [(SC.ref 15)]), (some (SO.lp true 23 (frm 59 [(2, (.sa (.one (SC.ptr 14 0 0)))), (3, (.sa (.one (SC.ref 15)))), (4, (.sa (.one (SC.ptr 16 0 0)))), (47, (.sa (.one (SC.ref 15)))), (48, (.sa (.one (SC.ref 18))))]) [49, 50] (codeAt Proofs.Try.prog 23 [1, 1, 1, 1, 1, 0, 0]) (codeAt Proofs.Try.prog 23 [1, 1, 1, 1, 1, 0, 1]) 0 Option.none)), (some (SO.own true MK.row 47 4 (Ct.tab (Spec.lenE (Spec.dropE (Spec.toE (Spec.lenE es) (Spec.eP es) (Spec.eF es) (Spec.eG es) (Spec.eV es)) (List.getD (Spec.colP ks) (0 + (Int.toNat j)) (0)) (List.getD (Spec.colF ks) (0 + (Int.toNat j)) (0)) (List.getD (Spec.colG ks) (0 + (Int.toNat j)) (0)))) [(Col.ints .u32 (Spec.eP (Spec.dropE (Spec.toE (Spec.lenE es) (Spec.eP es) (Spec.eF es) (Spec.eG es) (Spec.eV es)) (List.getD (Spec.colP ks) (0 + (Int.toNat j)) (0)) (List.getD (Spec.colF ks) (0 + (Int.toNat j)) (0)) (List.getD (Spec.colG ks) (0 + (Int.toNat j)) (0))))), (Col.ints .u16 (Spec.eF (Spec.dropE (Spec.toE (Spec.lenE es) (Spec.eP es) (Spec.eF es) (Spec.eG es) (Spec.eV es)) (List.getD (Spec.colP ks) (0 + (Int.toNat j)) (0)) (List.getD (Spec.colF ks) (0 + (Int.toNat j)) (0)) (List.getD (Spec.colG ks) (0 + (Int.toNat j)) (0))))), (Col.ints .u16 (Spec.eG (Spec.dropE (Spec.toE (Spec.lenE es) (Spec.eP es) (Spec.eF es) (Spec.eG es) (Spec.eV es)) (List.getD (Spec.colP ks) (0 + (Int.toNat j)) (0)) (List.getD (Spec.colF ks) (0 + (Int.toNat j)) (0)) (List.getD (Spec.colG ks) (0 + (Int.toNat j)) (0))))), (Col.ints .i64 (Spec.eV (Spec.dropE (Spec.toE (Spec.lenE es) (Spec.eP es) (Spec.eF es) (Spec.eG es) (Spec.eV es)) (List.getD (Spec.colP ks) (0 + (Int.toNat j)) (0)) (List.getD (Spec.colF ks) (0 + (Int.toNat j)) (0)) (List.getD (Spec.colG ks) (0 + (Int.toNat j)) (0)))))])))] (kBlock 0 (kRet (Cx.P cxPl) [] 21 (kRange (ev cxPl (M + 60)) 14 23 20 (frm 59 [(2, (.sa (.one (SC.ptr 14 0 0)))), (3, (.sa (.one (SC.ref 15)))), (4, (.sa (.one (SC.ptr 16 0 0)))), (47, (.sa (.one (SC.ref 15)))), (48, (.sa (.one (SC.ref 18))))]) (kBlock 4 k)))))) (branch (decide (((addK .i64 nb (1)) ≥ v))) (k Exit.ret (frm 59 [(2, (.sa (.one (SC.ptr 14 0 0)))), (3, (.sa (.one (SC.ref 15)))), (4, (.sa (.one (SC.ptr 16 0 0)))), (47, (.sa (.one (SC.ref 15)))), (48, (.sa (.one (SC.ref 18))))]) [(some (SO.own false MK.ext 0 5 (Ct.tab m [(Col.ints .i64 kds), (Col.ints .u32 c0), (Col.ints .u16 c1), (Col.ints .u16 c2), (Col.ints .i64 vs)]))), (obj 4 1 [(bv false)]), (obj 24 1 [(SC.ref 3)]), (some (SO.abs true 0 (Spec.setT D ((List.getD (Spec.colP ks) (0 + (Int.toNat j)) (0)), ((List.getD (Spec.colF ks) (0 + (Int.toNat j)) (0)), (List.getD (Spec.colG ks) (0 + (Int.toNat j)) (0)))) Option.none))), (obj 28 1 [(SC.ptr 5 0 0)]), (obj 31 2 [(iv .i64 s), (SC.ref 6)]), (some (SO.own true MK.row 47 4 (Ct.tab (Spec.lenE es) [(Col.ints .u32 (Spec.eP es)), (Col.ints .u16 (Spec.eF es)), (Col.ints .u16 (Spec.eG es)), (Col.ints .i64 (Spec.eV es))]))), (obj 38 5 [(iv .i64 (3)), (iv .u32 p), (iv .u16 f), (iv .u16 g), (iv .i64 v)]), (obj 29 1 [(SC.ref 9)]), (some (SO.own true MK.row 47 4 (Ct.tab (Spec.lenE ws) [(Col.ints .u32 (Spec.eP ws)), (Col.ints .u16 (Spec.eF ws)), (Col.ints .u16 (Spec.eG ws)), (Col.ints .i64 (Spec.eV ws))]))), (obj 3 1 [(iv .i64 (addK .i64 nb (1)))]), (some (SO.clo (Fn.func 23) [] [(.one (SC.ptr 12 0 0))])), (obj 24 1 [(SC.ref 3)]), (some (SO.lp true 3 (frm 221 [(0, (.sa (.one (iv .i64 s)))), (4, (.sa (.one (SC.ptr 1 0 0)))), (5, (.sa (.one (SC.ptr 2 0 0)))), (7, (.sa (.one (SC.ptr 4 0 0)))), (9, (.sa (.one (SC.ptr 7 0 0)))), (13, (.sa (.one (SC.ptr 8 0 0)))), (14, (.sa (.one (SC.ptr 10 0 0)))), (51, (.sa (.one (SC.ref 0)))), (52, (.sa (.one (iv .i64 ((m : Nat) : Int))))), (53, (.sa (.one (iv .i64 i)))), (131, (.sa (.one (SC.ref 3)))), (132, (.sa (.one (SC.ref 11))))]) [133, 134] plA plB 2 (some (codeAt Try.prog 3 [1, 1, 1, 1, 1, 1, 1, 0, 1, 0, 0, 1, 1, 0, 0, 1, 0, 1, 0, 1, 1, 1, 1, 1, 1, 1, 0, 1, 1, 0, 1, 0, 1, 0, 1, 1, 1, 1, 1, 0])))), (obj 64 1 [(SC.ref 13)]), (some (SO.own true MK.row 36 3 (Ct.tab (Spec.lenK ks) [(Col.ints .u32 (Spec.colP ks)), (Col.ints .u16 (Spec.colF ks)), (Col.ints .u16 (Spec.colG ks))]))), (obj 65 1 [(SC.ref 17)]), (some (SO.own true MK.row 3 1 (Ct.ints .i64 us))), (some (SO.clo (Fn.func 34) [] [(.one (SC.ptr 19 0 0))])), (obj 57 1 [(SC.ref 15)]), (some (SO.lp true 23 (frm 59 [(2, (.sa (.one (SC.ptr 14 0 0)))), (3, (.sa (.one (SC.ref 15)))), (4, (.sa (.one (SC.ptr 16 0 0)))), (47, (.sa (.one (SC.ref 15)))), (48, (.sa (.one (SC.ref 18))))]) [49, 50] (codeAt Proofs.Try.prog 23 [1, 1, 1, 1, 1, 0, 0]) (codeAt Proofs.Try.prog 23 [1, 1, 1, 1, 1, 0, 1]) 3 (some (codeAt Try.prog 3 [1, 0, 1, 0, 1]))))]) (ev cxPl (L + 57) 21 34 (codeAt Try.prog 34 [1, 0]) (frm 18 [(0, (.sa (.one (SC.ref 20)))), (5, (.sa (.one (SC.ref 15)))), (6, (.sa (.one (iv .i64 (((Spec.lenK ks) : Nat) : Int))))), (7, (.sa (.one (iv .i64 (addK .i64 j (1))))))]) [(some (SO.own false MK.ext 0 5 (Ct.tab m [(Col.ints .i64 kds), (Col.ints .u32 c0), (Col.ints .u16 c1), (Col.ints .u16 c2), (Col.ints .i64 vs)]))), (obj 4 1 [(bv false)]), (obj 24 1 [(SC.ref 3)]), (some (SO.abs true 0 (Spec.setT D ((List.getD (Spec.colP ks) (0 + (Int.toNat j)) (0)), ((List.getD (Spec.colF ks) (0 + (Int.toNat j)) (0)), (List.getD (Spec.colG ks) (0 + (Int.toNat j)) (0)))) Option.none))), (obj 28 1 [(SC.ptr 5 0 0)]), (obj 31 2 [(iv .i64 s), (SC.ref 6)]), (some (SO.own true MK.row 47 4 (Ct.tab (Spec.lenE es) [(Col.ints .u32 (Spec.eP es)), (Col.ints .u16 (Spec.eF es)), (Col.ints .u16 (Spec.eG es)), (Col.ints .i64 (Spec.eV es))]))), (obj 38 5 [(iv .i64 (3)), (iv .u32 p), (iv .u16 f), (iv .u16 g), (iv .i64 v)]), (obj 29 1 [(SC.ref 9)]), (some (SO.own true MK.row 47 4 (Ct.tab (Spec.lenE ws) [(Col.ints .u32 (Spec.eP ws)), (Col.ints .u16 (Spec.eF ws)), (Col.ints .u16 (Spec.eG ws)), (Col.ints .i64 (Spec.eV ws))]))), (obj 3 1 [(iv .i64 (addK .i64 nb (1)))]), (some (SO.clo (Fn.func 23) [] [(.one (SC.ptr 12 0 0))])), (obj 24 1 [(SC.ref 3)]), (some (SO.lp true 3 (frm 221 [(0, (.sa (.one (iv .i64 s)))), (4, (.sa (.one (SC.ptr 1 0 0)))), (5, (.sa (.one (SC.ptr 2 0 0)))), (7, (.sa (.one (SC.ptr 4 0 0)))), (9, (.sa (.one (SC.ptr 7 0 0)))), (13, (.sa (.one (SC.ptr 8 0 0)))), (14, (.sa (.one (SC.ptr 10 0 0)))), (51, (.sa (.one (SC.ref 0)))), (52, (.sa (.one (iv .i64 ((m : Nat) : Int))))), (53, (.sa (.one (iv .i64 i)))), (131, (.sa (.one (SC.ref 3)))), (132, (.sa (.one (SC.ref 11))))]) [133, 134] plA plB 0 Option.none)), (obj 64 1 [(SC.ref 13)]), (some (SO.own true MK.row 36 3 (Ct.tab (Spec.lenK ks) [(Col.ints .u32 (Spec.colP ks)), (Col.ints .u16 (Spec.colF ks)), (Col.ints .u16 (Spec.colG ks))]))), (obj 65 1 [(SC.ref 17)]), (some (SO.own true MK.row 3 1 (Ct.ints .i64 us))), (some (SO.clo (Fn.func 34) [] [(.one (SC.ptr 19 0 0))])), (obj 57 1 [(SC.ref 15)]), (some (SO.lp true 23 (frm 59 [(2, (.sa (.one (SC.ptr 14 0 0)))), (3, (.sa (.one (SC.ref 15)))), (4, (.sa (.one (SC.ptr 16 0 0)))), (47, (.sa (.one (SC.ref 15)))), (48, (.sa (.one (SC.ref 18))))]) [49, 50] (codeAt Proofs.Try.prog 23 [1, 1, 1, 1, 1, 0, 0]) (codeAt Proofs.Try.prog 23 [1, 1, 1, 1, 1, 0, 1]) 0 Option.none))] (kBlock 0 (kRet (Cx.P cxPl) [] 21 (kRange (ev cxPl (M + 60)) 14 23 20 (frm 59 [(2, (.sa (.one (SC.ptr 14 0 0)))), (3, (.sa (.one (SC.ref 15)))), (4, (.sa (.one (SC.ptr 16 0 0)))), (47, (.sa (.one (SC.ref 15)))), (48, (.sa (.one (SC.ref 18))))]) (kBlock 4 k)))))))))))))))))))))))) (k Exit.normal (frm 59 [(2, (.sa (.one (SC.ptr 14 0 0)))), (3, (.sa (.one (SC.ref 15)))), (4, (.sa (.one (SC.ptr 16 0 0)))), (47, (.sa (.one (SC.ref 15)))), (48, (.sa (.one (SC.ref 18))))]) [(some (SO.own false MK.ext 0 5 (Ct.tab m [(Col.ints .i64 kds), (Col.ints .u32 c0), (Col.ints .u16 c1), (Col.ints .u16 c2), (Col.ints .i64 vs)]))), (obj 4 1 [(bv false)]), (obj 24 1 [(SC.ref 3)]), (some (SO.abs true 0 D)), (obj 28 1 [(SC.ptr 5 0 0)]), (obj 31 2 [(iv .i64 s), (SC.ref 6)]), (some (SO.own true MK.row 47 4 (Ct.tab (Spec.lenE es) [(Col.ints .u32 (Spec.eP es)), (Col.ints .u16 (Spec.eF es)), (Col.ints .u16 (Spec.eG es)), (Col.ints .i64 (Spec.eV es))]))), (obj 38 5 [(iv .i64 (3)), (iv .u32 p), (iv .u16 f), (iv .u16 g), (iv .i64 v)]), (obj 29 1 [(SC.ref 9)]), (some (SO.own true MK.row 47 4 (Ct.tab (Spec.lenE ws) [(Col.ints .u32 (Spec.eP ws)), (Col.ints .u16 (Spec.eF ws)), (Col.ints .u16 (Spec.eG ws)), (Col.ints .i64 (Spec.eV ws))]))), (obj 3 1 [(iv .i64 nb)]), (some (SO.clo (Fn.func 23) [] [(.one (SC.ptr 12 0 0))])), (obj 24 1 [(SC.ref 3)]), (some (SO.lp true 3 (frm 221 [(0, (.sa (.one (iv .i64 s)))), (4, (.sa (.one (SC.ptr 1 0 0)))), (5, (.sa (.one (SC.ptr 2 0 0)))), (7, (.sa (.one (SC.ptr 4 0 0)))), (9, (.sa (.one (SC.ptr 7 0 0)))), (13, (.sa (.one (SC.ptr 8 0 0)))), (14, (.sa (.one (SC.ptr 10 0 0)))), (51, (.sa (.one (SC.ref 0)))), (52, (.sa (.one (iv .i64 ((m : Nat) : Int))))), (53, (.sa (.one (iv .i64 i)))), (131, (.sa (.one (SC.ref 3)))), (132, (.sa (.one (SC.ref 11))))]) [133, 134] plA plB 0 Option.none)), (obj 64 1 [(SC.ref 13)]), (some (SO.own true MK.row 36 3 (Ct.tab (Spec.lenK ks) [(Col.ints .u32 (Spec.colP ks)), (Col.ints .u16 (Spec.colF ks)), (Col.ints .u16 (Spec.colG ks))]))), (obj 65 1 [(SC.ref 17)]), (some (SO.own true MK.row 3 1 (Ct.ints .i64 us))), (some (SO.clo (Fn.func 34) [] [(.one (SC.ptr 19 0 0))])), (obj 57 1 [(SC.ref 15)]), (some (SO.lp true 23 (frm 59 [(2, (.sa (.one (SC.ptr 14 0 0)))), (3, (.sa (.one (SC.ref 15)))), (4, (.sa (.one (SC.ptr 16 0 0)))), (47, (.sa (.one (SC.ref 15)))), (48, (.sa (.one (SC.ref 18))))]) [49, 50] (codeAt Proofs.Try.prog 23 [1, 1, 1, 1, 1, 0, 0]) (codeAt Proofs.Try.prog 23 [1, 1, 1, 1, 1, 0, 1]) 3 Option.none))]))) := by kernel_rfl
end Go.Ev
end
section
namespace Go.Ev
open Go Go.Proofs Go.Spec
theorem t_plE4B (s i p f g v nb j : Int) (L M m : Nat) (D : TbD) (es gs ws : List (Kx × Int)) (ks : List Kx) (us kds c0 c1 c2 vs : List Int) (k : Exit → Fr → St → Prop) : ev cxPl (L + 58) 21 34 (codeAt Try.prog 34 [1, 0]) (frm 18 [(0, (.sa (.one (SC.ref 20)))), (5, (.sa (.one (SC.ref 15)))), (6, .sa (kint ((lenK ks : Nat) : Int))), (7, .sa (kint j))]) [rowD m kds c0 c1 c2 vs, obj 4 1 [bv false], tbox 3, some (.abs true 0 D), obj 28 1 [.ptr 5 0 0], rT s 21, rowE gs, obj 38 5 [iv .i64 3, iv .u32 p, iv .u16 f, iv .u16 g, iv .i64 v], obj 29 1 [.ref 9], rowE ws, obj 3 1 [iv .i64 nb], some (.clo (.func 23) [] [.one (.ptr 12 0 0)]), tbox 3, some (.lp true 3 (frm 221 [(0, .sa (kint s)), (4, (.sa (.one (SC.ptr 1 0 0)))), (5, (.sa (.one (SC.ptr 2 0 0)))), (7, (.sa (.one (SC.ptr 4 0 0)))), (9, (.sa (.one (SC.ptr 7 0 0)))), (13, (.sa (.one (SC.ptr 8 0 0)))), (14, (.sa (.one (SC.ptr 10 0 0)))), (51, (.sa (.one (SC.ref 0)))), (52, .sa (kint (m : Int))), (53, .sa (kint i)), (131, (.sa (.one (SC.ref 3)))), (132, (.sa (.one (SC.ref 11))))]) [133, 134] plA plB 0 none), obj 64 1 [.ref 13], rowX ks, obj 65 1 [.ref 17], some (.own true .row 3 1 (.ints .i64 us)), some (.clo (.func 34) [] [.one (.ptr 19 0 0)]), obj 57 1 [.ref 15], some (.lp true 23 (frm 59 [(2, (.sa (.one (SC.ptr 14 0 0)))), (3, (.sa (.one (SC.ref 15)))), (4, (.sa (.one (SC.ptr 16 0 0)))), (47, (.sa (.one (SC.ref 15)))), (48, (.sa (.one (SC.ref 18))))]) [49, 50] (codeAt Try.prog 23 [1, 1, 1, 1, 1, 0, 0]) (codeAt Try.prog 23 [1, 1, 1, 1, 1, 0, 1]) 0 none), rowE es] (kBlock 0 (kRet (Cx.P cxPl) [] 21 (kRange (ev cxPl (M + 60)) 14 23 20 (frm 59 [(2, (.sa (.one (SC.ptr 14 0 0)))), (3, (.sa (.one (SC.ref 15)))), (4, (.sa (.one (SC.ptr 16 0 0)))), (47, (.sa (.one (SC.ref 15)))), (48, (.sa (.one (SC.ref 18))))]) (kBlock 4 k)))) =
    (Again (branch (decide ((j < (((Spec.lenK ks) : Nat) : Int)))) (need (decide (((0) ≤ j))) (need (decide ((j < (((Spec.lenK ks) : Nat) : Int)))) (need (decide (((0 + (Int.toNat j)) < (Spec.lenK ks)))) (need (decide (((0) ≤ j))) (need (decide ((j < (((List.length us) : Nat) : Int)))) (need (decide (((0 + (Int.toNat j)) < (List.length us)))) (branch (decide ((nb ≥ (((Spec.lenE ws) : Nat) : Int)))) (k Exit.ret (frm 59 [(2, (.sa (.one (SC.ptr 14 0 0)))), (3, (.sa (.one (SC.ref 15)))), (4, (.sa (.one (SC.ptr 16 0 0)))), (47, (.sa (.one (SC.ref 15)))), (48, (.sa (.one (SC.ref 18))))]) [(some (SO.own false MK.ext 0 5 (Ct.tab m [(Col.ints .i64 kds), (Col.ints .u32 c0), (Col.ints .u16 c1), (Col.ints .u16 c2), (Col.ints .i64 vs)]))), (obj 4 1 [(bv false)]), (obj 24 1 [(SC.ref 3)]), (some (SO.abs true 0 D)), (obj 28 1 [(SC.ptr 5 0 0)]), (obj 31 2 [(iv .i64 s), (SC.ref 21)]), (some (SO.own true MK.row 47 4 (Ct.tab (Spec.lenE gs) [(Col.ints .u32 (Spec.eP gs)), (Col.ints .u16 (Spec.eF gs)), (Col.ints .u16 (Spec.eG gs)), (Col.ints .i64 (Spec.eV gs))]))), (obj 38 5 [(iv .i64 (3)), (iv .u32 p), (iv .u16 f), (iv .u16 g), (iv .i64 v)]), (obj 29 1 [(SC.ref 9)]), (some (SO.own true MK.row 47 4 (Ct.tab (Spec.lenE ws) [(Col.ints .u32 (Spec.eP ws)), (Col.ints .u16 (Spec.eF ws)), (Col.ints .u16 (Spec.eG ws)), (Col.ints .i64 (Spec.eV ws))]))), (obj 3 1 [(iv .i64 nb)]), (some (SO.clo (Fn.func 23) [] [(.one (SC.ptr 12 0 0))])), (obj 24 1 [(SC.ref 3)]), (some (SO.lp true 3 (frm 221 [(0, (.sa (.one (iv .i64 s)))), (4, (.sa (.one (SC.ptr 1 0 0)))), (5, (.sa (.one (SC.ptr 2 0 0)))), (7, (.sa (.one (SC.ptr 4 0 0)))), (9, (.sa (.one (SC.ptr 7 0 0)))), (13, (.sa (.one (SC.ptr 8 0 0)))), (14, (.sa (.one (SC.ptr 10 0 0)))), (51, (.sa (.one (SC.ref 0)))), (52, (.sa (.one (iv .i64 ((m : Nat) : Int))))), (53, (.sa (.one (iv .i64 i)))), (131, (.sa (.one (SC.ref 3)))), (132, (.sa (.one (SC.ref 11))))]) [133, 134] plA plB 2 (some (codeAt Try.prog 3 [1, 0, 1, 0, 1])))), (obj 64 1 [(SC.ref 13)]), (some (SO.own true MK.row 36 3 (Ct.tab (Spec.lenK ks) [(Col.ints .u32 (Spec.colP ks)), (Col.ints .u16 (Spec.colF ks)), (Col.ints .u16 (Spec.colG ks))]))), (obj 65 1 [(SC.ref 17)]), (some (SO.own true MK.row 3 1 (Ct.ints .i64 us))), (some (SO.clo (Fn.func 34) [] [(.one (SC.ptr 19 0 0))])), (obj 57 1 [(SC.ref 15)]), (some (SO.lp true 23 (frm 59 [(2, (.sa (.one (SC.ptr 14 0 0)))), (3, (.sa (.one (SC.ref 15)))), (4, (.sa (.one (SC.ptr 16 0 0)))), (47, (.sa (.one (SC.ref 15)))), (48, (.sa (.one (SC.ref 18))))]) [49, 50] (codeAt Proofs.Try.prog 23 [1, 1, 1, 1, 1, 0, 0]) (codeAt Proofs.Try.prog 23 [1, 1, 1, 1, 1, 0, 1]) 3 (some (codeAt Try.prog 3 [1, 0, 1, 0, 1])))), (some (SO.own true MK.row 47 4 (Ct.tab (Spec.lenE es) [(Col.ints .u32 (Spec.eP es)), (Col.ints .u16 (Spec.eF es)), (Col.ints .u16 (Spec.eG es)), (Col.ints .i64 (Spec.eV es))])))]) (need (decide (((0) ≤ nb))) (need (decide ((nb < (((Spec.lenE ws) : Nat) : Int)))) (need (decide (((0 + (Int.toNat nb)) < (Spec.lenE ws)))) (branch (Bool.not ((eqK (List.getD (Spec.colP ks) (0 + (Int.toNat j)) (0)) (List.getD (Spec.eP ws) (0 + (Int.toNat nb)) (0))) && ((eqK (List.getD (Spec.colF ks) (0 + (Int.toNat j)) (0)) (List.getD (Spec.eF ws) (0 + (Int.toNat nb)) (0))) && ((eqK (List.getD (Spec.colG ks) (0 + (Int.toNat j)) (0)) (List.getD (Spec.eG ws) (0 + (Int.toNat nb)) (0))) && true)))) (k Exit.ret (frm 59 [(2, (.sa (.one (SC.ptr 14 0 0)))), (3, (.sa (.one (SC.ref 15)))), (4, (.sa (.one (SC.ptr 16 0 0)))), (47, (.sa (.one (SC.ref 15)))), (48, (.sa (.one (SC.ref 18))))]) [(some (SO.own false MK.ext 0 5 (Ct.tab m [(Col.ints .i64 kds), (Col.ints .u32 c0), (Col.ints .u16 c1), (Col.ints .u16 c2), (Col.ints .i64 vs)]))), (obj 4 1 [(bv false)]), (obj 24 1 [(SC.ref 3)]), (some (SO.abs true 0 D)), (obj 28 1 [(SC.ptr 5 0 0)]), (obj 31 2 [(iv .i64 s), (SC.ref 21)]), (some (SO.own true MK.row 47 4 (Ct.tab (Spec.lenE gs) [(Col.ints .u32 (Spec.eP gs)), (Col.ints .u16 (Spec.eF gs)), (Col.ints .u16 (Spec.eG gs)), (Col.ints .i64 (Spec.eV gs))]))), (obj 38 5 [(iv .i64 (3)), (iv .u32 p), (iv .u16 f), (iv .u16 g), (iv .i64 v)]), (obj 29 1 [(SC.ref 9)]), (some (SO.own true MK.row 47 4 (Ct.tab (Spec.lenE ws) [(Col.ints .u32 (Spec.eP ws)), (Col.ints .u16 (Spec.eF ws)), (Col.ints .u16 (Spec.eG ws)), (Col.ints .i64 (Spec.eV ws))]))), (obj 3 1 [(iv .i64 nb)]), (some (SO.clo (Fn.func 23) [] [(.one (SC.ptr 12 0 0))])), (obj 24 1 [(SC.ref 3)]), (some (SO.lp true 3 (frm 221 [(0, (.sa (.one (iv .i64 s)))), (4, (.sa (.one (SC.ptr 1 0 0)))), (5, (.sa (.one (SC.ptr 2 0 0)))), (7, (.sa (.one (SC.ptr 4 0 0)))), (9, (.sa (.one (SC.ptr 7 0 0)))), (13, (.sa (.one (SC.ptr 8 0 0)))), (14, (.sa (.one (SC.ptr 10 0 0)))), (51, (.sa (.one (SC.ref 0)))), (52, (.sa (.one (iv .i64 ((m : Nat) : Int))))), (53, (.sa (.one (iv .i64 i)))), (131, (.sa (.one (SC.ref 3)))), (132, (.sa (.one (SC.ref 11))))]) [133, 134] plA plB 2 (some (codeAt Try.prog 3 [1, 0, 1, 0, 1])))), (obj 64 1 [(SC.ref 13)]), (some (SO.own true MK.row 36 3 (Ct.tab (Spec.lenK ks) [(Col.ints .u32 (Spec.colP ks)), (Col.ints .u16 (Spec.colF ks)), (Col.ints .u16 (Spec.colG ks))]))), (obj 65 1 [(SC.ref 17)]), (some (SO.own true MK.row 3 1 (Ct.ints .i64 us))), (some (SO.clo (Fn.func 34) [] [(.one (SC.ptr 19 0 0))])), (obj 57 1 [(SC.ref 15)]), (some (SO.lp true 23 (frm 59 [(2, (.sa (.one (SC.ptr 14 0 0)))), (3, (.sa (.one (SC.ref 15)))), (4, (.sa (.one (SC.ptr 16 0 0)))), (47, (.sa (.one (SC.ref 15)))), (48, (.sa (.one (SC.ref 18))))]) [49, 50] (codeAt Proofs.Try.prog 23 [1, 1, 1, 1, 1, 0, 0]) (codeAt Proofs.Try.prog 23 [1, 1, 1, 1, 1, 0, 1]) 3 (some (codeAt Try.prog 3 [1, 0, 1, 0, 1])))), (some (SO.own true MK.row 47 4 (Ct.tab (Spec.lenE es) [(Col.ints .u32 (Spec.eP es)), (Col.ints .u16 (Spec.eF es)), (Col.ints .u16 (Spec.eG es)), (Col.ints .i64 (Spec.eV es))])))]) (need (decide (((0) ≤ nb))) (need (decide ((nb < (((Spec.lenE ws) : Nat) : Int)))) (need (decide (((0 + (Int.toNat nb)) < (Spec.lenE ws)))) (branch (Bool.not (eqK (List.getD us (0 + (Int.toNat j)) (0)) (List.getD (Spec.eV ws) (0 + (Int.toNat nb)) (0)))) (k Exit.ret (frm 59 [(2, (.sa (.one (SC.ptr 14 0 0)))), (3, (.sa (.one (SC.ref 15)))), (4, (.sa (.one (SC.ptr 16 0 0)))), (47, (.sa (.one (SC.ref 15)))), (48, (.sa (.one (SC.ref 18))))]) [(some (SO.own false MK.ext 0 5 (Ct.tab m [(Col.ints .i64 kds), (Col.ints .u32 c0), (Col.ints .u16 c1), (Col.ints .u16 c2), (Col.ints .i64 vs)]))), (obj 4 1 [(bv false)]), (obj 24 1 [(SC.ref 3)]), (some (SO.abs true 0 D)), (obj 28 1 [(SC.ptr 5 0 0)]), (obj 31 2 [(iv .i64 s), (SC.ref 21)]), (some (SO.own true MK.row 47 4 (Ct.tab (Spec.lenE gs) [(Col.ints .u32 (Spec.eP gs)), (Col.ints .u16 (Spec.eF gs)), (Col.ints .u16 (Spec.eG gs)), (Col.ints .i64 (Spec.eV gs))]))), (obj 38 5 [(iv .i64 (3)), (iv .u32 p), (iv .u16 f), (iv .u16 g), (iv .i64 v)]), (obj 29 1 [(SC.ref 9)]), (some (SO.own true MK.row 47 4 (Ct.tab (Spec.lenE ws) [(Col.ints .u32 (Spec.eP ws)), (Col.ints .u16 (Spec.eF ws)), (Col.ints .u16 (Spec.eG ws)), (Col.ints .i64 (Spec.eV ws))]))), (obj 3 1 [(iv .i64 nb)]), (some (SO.clo (Fn.func 23) [] [(.one (SC.ptr 12 0 0))])), (obj 24 1 [(SC.ref 3)]), (some (SO.lp true 3 (frm 221 [(0, (.sa (.one (iv .i64 s)))), (4, (.sa (.one (SC.ptr 1 0 0)))), (5, (.sa (.one (SC.ptr 2 0 0)))), (7, (.sa (.one (SC.ptr 4 0 0)))), (9, (.sa (.one (SC.ptr 7 0 0)))), (13, (.sa (.one (SC.ptr 8 0 0)))), (14, (.sa (.one (SC.ptr 10 0 0)))), (51, (.sa (.one (SC.ref 0)))), (52, (.sa (.one (iv .i64 ((m : Nat) : Int))))), (53, (.sa (.one (iv .i64 i)))), (131, (.sa (.one (SC.ref 3)))), (132, (.sa (.one (SC.ref 11))))]) [133, 134] plA plB 2 (some (codeAt Try.prog 3 [1, 0, 1, 0, 1])))), (obj 64 1 [(SC.ref 13)]), (some (SO.own true MK.row 36 3 (Ct.tab (Spec.lenK ks) [(Col.ints .u32 (Spec.colP ks)), (Col.ints .u16 (Spec.colF ks)), (Col.ints .u16 (Spec.colG ks))]))), (obj 65 1 [(SC.ref 17)]), (some (SO.own true MK.row 3 1 (Ct.ints .i64 us))), (some (SO.clo (Fn.func 34) [] [(.one (SC.ptr 19 0 0))])), (obj 57 1 [(SC.ref 15)]), (some (SO.lp true 23 (frm 59 [(2, (.sa (.one (SC.ptr 14 0 0)))), (3, (.sa (.one (SC.ref 15)))), (4, (.sa (.one (SC.ptr 16 0 0)))), (47, (.sa (.one (SC.ref 15)))), (48, (.sa (.one (SC.ref 18))))]) [49, 50] (codeAt Proofs.Try.prog 23 [1, 1, 1, 1, 1, 0, 0]) (codeAt Proofs.Try.prog 23 [1, 1, 1, 1, 1, 0, 1]) 3 (some (codeAt Try.prog 3 [1, 0, 1, 0, 1])))), (some (SO.own true MK.row 47 4 (Ct.tab (Spec.lenE es) [(Col.ints .u32 (Spec.eP es)), (Col.ints .u16 (Spec.eF es)), (Col.ints .u16 (Spec.eG es)), (Col.ints .i64 (Spec.eV es))])))]) (need (Spec.colsOk (Spec.lenE es) (Spec.eP es) (Spec.eF es) (Spec.eG es) (Spec.eV es)) (need (decide (((Spec.lenE es) ≤ 1000))) (branch (Spec.foundE (Spec.toE (Spec.lenE es) (Spec.eP es) (Spec.eF es) (Spec.eG es) (Spec.eV es)) (List.getD (Spec.colP ks) (0 + (Int.toNat j)) (0)) (List.getD (Spec.colF ks) (0 + (Int.toNat j)) (0)) (List.getD (Spec.colG ks) (0 + (Int.toNat j)) (0))) (branch (decide (((addK .i64 nb (1)) ≥ v))) (k Exit.ret (frm 59 [(2, (.sa (.one (SC.ptr 14 0 0)))), (3, (.sa (.one (SC.ref 15)))), (4, (.sa (.one (SC.ptr 16 0 0)))), (47, (.sa (.one (SC.ref 15)))), (48, (.sa (.one (SC.ref 18))))]) [(some (SO.own false MK.ext 0 5 (Ct.tab m [(Col.ints .i64 kds), (Col.ints .u32 c0), (Col.ints .u16 c1), (Col.ints .u16 c2), (Col.ints .i64 vs)]))), (obj 4 1 [(bv false)]), (obj 24 1 [(SC.ref 3)]), (some (SO.abs true 0 (Spec.setT D ((List.getD (Spec.colP ks) (0 + (Int.toNat j)) (0)), ((List.getD (Spec.colF ks) (0 + (Int.toNat j)) (0)), (List.getD (Spec.colG ks) (0 + (Int.toNat j)) (0)))) Option.none))), (obj 28 1 [(SC.ptr 5 0 0)]), (obj 31 2 [(iv .i64 s), (SC.ref 21)]), (some (SO.own true MK.row 47 4 (Ct.tab (Spec.lenE gs) [(Col.ints .u32 (Spec.eP gs)), (Col.ints .u16 (Spec.eF gs)), (Col.ints .u16 (Spec.eG gs)), (Col.ints .i64 (Spec.eV gs))]))), (obj 38 5 [(iv .i64 (3)), (iv .u32 p), (iv .u16 f), (iv .u16 g), (iv .i64 v)]), (obj 29 1 [(SC.ref 9)]), (some (SO.own true MK.row 47 4 (Ct.tab (Spec.lenE ws) [(Col.ints .u32 (Spec.eP ws)), (Col.ints .u16 (Spec.eF ws)), (Col.ints .u16 (Spec.eG ws)), (Col.ints .i64 (Spec.eV ws))]))), (obj 3 1 [(iv .i64 (addK .i64 nb (1)))]), (some (SO.clo (Fn.func 23) [] [(.one (SC.ptr 12 0 0))])), (obj 24 1 [(SC.ref 3)]), (some (SO.lp true 3 (frm 221 [(0, (.sa (.one (iv .i64 s)))), (4, (.sa (.one (SC.ptr 1 0 0)))), (5, (.sa (.one (SC.ptr 2 0 0)))), (7, (.sa (.one (SC.ptr 4 0 0)))), (9, (.sa (.one (SC.ptr 7 0 0)))), (13, (.sa (.one (SC.ptr 8 0 0)))), (14, (.sa (.one (SC.ptr 10 0 0)))), (51, (.sa (.one (SC.ref 0)))), (52, (.sa (.one (iv .i64 ((m : Nat) : Int))))), (53, (.sa (.one (iv .i64 i)))), (131, (.sa (.one (SC.ref 3)))), (132, (.sa (.one (SC.ref 11))))]) [133, 134] plA plB 2 (some (codeAt Try.prog 3 [1, 1, 1, 1, 1, 1, 1, 0, 1, 0, 0, 1, 1, 0, 0, 1, 0, 1, 0, 1, 1, 1, 1, 1, 1, 1, 0, 1, 1, 0, 1, 0, 1, 0, 1, 1, 1, 1, 1, 0])))), (obj 64 1 [(SC.ref 13)]), (some (SO.own true MK.row 36 3 (Ct.tab (Spec.lenK ks) [(Col.ints .u32 (Spec.colP ks)), (Col.ints .u16 (Spec.colF ks)), (Col.ints .u16 (Spec.colG ks))]))), (obj 65 1 [(SC.ref 17)]), (some (SO.own true MK.row 3 1 (Ct.ints .i64 us))), (some (SO.clo (Fn.func 34) [] [(.one (SC.ptr 19 0 0))])), (obj 57 1 [(SC.ref 15)]), (some (SO.lp true 23 (frm 59 [(2, (.sa (.one (SC.ptr 14 0 0)))), (3, (.sa (.one (SC.ref 15)))), (4, (.sa (.one (SC.ptr 16 0 0)))), (47, (.sa (.one (SC.ref 15)))), (48, (.sa (.one (SC.ref 18))))]) [49, 50] (codeAt Proofs.Try.prog 23 [1, 1, 1, 1, 1, 0, 0]) (codeAt Proofs.Try.prog 23 [1, 1, 1, 1, 1, 0, 1]) 3 (some (codeAt Try.prog 3 [1, 0, 1, 0, 1])))), (some (SO.own true MK.row 47 4 (Ct.tab (Spec.lenE (Spec.dropE (Spec.toE (Spec.lenE es) (Spec.eP es) (Spec.eF es) (Spec.eG es) (Spec.eV es)) (List.getD (Spec.colP ks) (0 + (Int.toNat j)) (0)) (List.getD (Spec.colF ks) (0 + (Int.toNat j)) (0)) (List.getD (Spec.colG ks) (0 + (Int.toNat j)) (0)))) [(Col.ints .u32 (Spec.eP (Spec.dropE (Spec.toE (Spec.lenE es) (Spec.eP es) (Spec.eF es) (Spec.eG es) (Spec.eV es)) (List.getD (Spec.colP ks) (0 + (Int.toNat j)) (0)) (List.getD (Spec.colF ks) (0 + (Int.toNat j)) (0)) (List.getD (Spec.colG ks) (0 + (Int.toNat j)) (0))))), (Col.ints .u16 (Spec.eF (Spec.dropE (Spec.toE (Spec.lenE es) (Spec.eP es) (Spec.eF es) (Spec.eG es) (Spec.eV es)) (List.getD (Spec.colP ks) (0 + (Int.toNat j)) (0)) (List.getD (Spec.colF ks) (0 + (Int.toNat j)) (0)) (List.getD (Spec.colG ks) (0 + (Int.toNat j)) (0))))), (Col.ints .u16 (Spec.eG (Spec.dropE (Spec.toE (Spec.lenE es) (Spec.eP es) (Spec.eF es) (Spec.eG es) (Spec.eV es)) (List.getD (Spec.colP ks) (0 + (Int.toNat j)) (0)) (List.getD (Spec.colF ks) (0 + (Int.toNat j)) (0)) (List.getD (Spec.colG ks) (0 + (Int.toNat j)) (0))))), (Col.ints .i64 (Spec.eV (Spec.dropE (Spec.toE (Spec.lenE es) (Spec.eP es) (Spec.eF es) (Spec.eG es) (Spec.eV es)) (List.getD (Spec.colP ks) (0 + (Int.toNat j)) (0)) (List.getD (Spec.colF ks) (0 + (Int.toNat j)) (0)) (List.getD (Spec.colG ks) (0 + (Int.toNat j)) (0)))))])))]) (ev cxPl (L + 57) 21 34 (codeAt Try.prog 34 [1, 0]) (frm 18 [(0, (.sa (.one (SC.ref 20)))), (5, (.sa (.one (SC.ref 15)))), (6, (.sa (.one (iv .i64 (((Spec.lenK ks) : Nat) : Int))))), (7, (.sa (.one (iv .i64 (addK .i64 j (1))))))]) [(some (SO.own false MK.ext 0 5 (Ct.tab m [(Col.ints .i64 kds), (Col.ints .u32 c0), (Col.ints .u16 c1), (Col.ints .u16 c2), (Col.ints .i64 vs)]))), (obj 4 1 [(bv false)]), (obj 24 1 [(SC.ref 3)]), (some (SO.abs true 0 (Spec.setT D ((List.getD (Spec.colP ks) (0 + (Int.toNat j)) (0)), ((List.getD (Spec.colF ks) (0 + (Int.toNat j)) (0)), (List.getD (Spec.colG ks) (0 + (Int.toNat j)) (0)))) Option.none))), (obj 28 1 [(SC.ptr 5 0 0)]), (obj 31 2 [(iv .i64 s), (SC.ref 21)]), (some (SO.own true MK.row 47 4 (Ct.tab (Spec.lenE gs) [(Col.ints .u32 (Spec.eP gs)), (Col.ints .u16 (Spec.eF gs)), (Col.ints .u16 (Spec.eG gs)), (Col.ints .i64 (Spec.eV gs))]))), (obj 38 5 [(iv .i64 (3)), (iv .u32 p), (iv .u16 f), (iv .u16 g), (iv .i64 v)]), (obj 29 1 [(SC.ref 9)]), (some (SO.own true MK.row 47 4 (Ct.tab (Spec.lenE ws) [(Col.ints .u32 (Spec.eP ws)), (Col.ints .u16 (Spec.eF ws)), (Col.ints .u16 (Spec.eG ws)), (Col.ints .i64 (Spec.eV ws))]))), (obj 3 1 [(iv .i64 (addK .i64 nb (1)))]), (some (SO.clo (Fn.func 23) [] [(.one (SC.ptr 12 0 0))])), (obj 24 1 [(SC.ref 3)]), (some (SO.lp true 3 (frm 221 [(0, (.sa (.one (iv .i64 s)))), (4, (.sa (.one (SC.ptr 1 0 0)))), (5, (.sa (.one (SC.ptr 2 0 0)))), (7, (.sa (.one (SC.ptr 4 0 0)))), (9, (.sa (.one (SC.ptr 7 0 0)))), (13, (.sa (.one (SC.ptr 8 0 0)))), (14, (.sa (.one (SC.ptr 10 0 0)))), (51, (.sa (.one (SC.ref 0)))), (52, (.sa (.one (iv .i64 ((m : Nat) : Int))))), (53, (.sa (.one (iv .i64 i)))), (131, (.sa (.one (SC.ref 3)))), (132, (.sa (.one (SC.ref 11))))]) [133, 134] plA plB 0 Option.none)), (obj 64 1 [(SC.ref 13)]), (some (SO.own true MK.row 36 3 (Ct.tab (Spec.lenK ks) [(Col.ints .u32 (Spec.colP ks)), (Col.ints .u16 (Spec.colF ks)), (Col.ints .u16 (Spec.colG ks))]))), (obj 65 1 [(SC.ref 17)]), (some (SO.own true MK.row 3 1 (Ct.ints .i64 us))), (some (SO.clo (Fn.func 34) [] [(.one (SC.ptr 19 0 0))])), (obj 57 1 [(SC.ref 15)]), (some (SO.lp true 23 (frm 59 [(2, (.sa (.one (SC.ptr 14 0 0)))), (3, (.sa (.one (SC.ref 15)))), (4, (.sa (.one (SC.ptr 16 0 0)))), (47, (.sa (.one (SC.ref 15)))), (48, (.sa (.one (SC.ref 18))))]) [49, 50] (codeAt Proofs.Try.prog 23 [1, 1, 1, 1, 1, 0, 0]) (codeAt Proofs.Try.prog 23 [1, 1, 1, 1, 1, 0, 1]) 0 Option.none)), (some (SO.own true MK.row 47 4 (Ct.tab (Spec.lenE (Spec.dropE (Spec.toE (Spec.lenE es) (Spec.eP es) (Spec.eF es) (Spec.eG es) (Spec.eV es)) (List.getD (Spec.colP ks) (0 + (Int.toNat j)) (0)) (List.getD (Spec.colF ks) (0 + (Int.toNat j)) (0)) (List.getD (Spec.colG ks) (0 + (Int.toNat j)) (0)))) [(Col.ints .u32 (Spec.eP (Spec.dropE (Spec.toE (Spec.lenE es) (Spec.eP es) (Spec.eF es) (Spec.eG es) (Spec.eV es)) (List.getD (Spec.colP ks) (0 + (Int.toNat j)) (0)) (List.getD (Spec.colF ks) (0 + (Int.toNat j)) (0)) (List.getD (Spec.colG ks) (0 + (Int.toNat j)) (0))))), (Col.ints .u16 (Spec.eF (Spec.dropE (Spec.toE (Spec.lenE es) (Spec.eP es) (Spec.eF es) (Spec.eG es) (Spec.eV es)) (List.getD (Spec.colP ks) (0 + (Int.toNat j)) (0)) (List.getD (Spec.colF ks) (0 + (Int.toNat j)) (0)) (List.getD (Spec.colG ks) (0 + (Int.toNat j)) (0))))), (Col.ints .u16 (Spec.eG (Spec.dropE (Spec.toE (Spec.lenE es) (Spec.eP es) (Spec.eF es) (Spec.eG es) (Spec.eV es)) (List.getD (Spec.colP ks) (0 + (Int.toNat j)) (0)) (List.getD (Spec.colF ks) (0 + (Int.toNat j)) (0)) (List.getD (Spec.colG ks) (0 + (Int.toNat j)) (0))))), (Col.ints .i64 (Spec.eV (Spec.dropE (Spec.toE (Spec.lenE es) (Spec.eP es) (Spec.eF es) (Spec.eG es) (Spec.eV es)) (List.getD (Spec.colP ks) (0 + (Int.toNat j)) (0)) (List.getD (Spec.colF ks) (0 + (Int.toNat j)) (0)) (List.getD (Spec.colG ks) (0 + (Int.toNat j)) (0)))))])))] (kBlock 0 (kRet (Cx.P cxPl) [] 21 (kRange (ev cxPl (M + 60)) 14 23 20 (frm 59 [(2, (.sa (.one (SC.ptr 14 0 0)))), (3, (.sa (.one (SC.ref 15)))), (4, (.sa (.one (SC.ptr 16 0 0)))), (47, (.sa (.one (SC.ref 15)))), (48, (.sa (.one (SC.ref 18))))]) (kBlock 4 k)))))) (branch (decide (((addK .i64 nb (1)) ≥ v))) (k Exit.ret (frm 59 [(2, (.sa (.one (SC.ptr 14 0 0)))), (3, (.sa (.one (SC.ref 15)))), (4, (.sa (.one (SC.ptr 16 0 0)))), (47, (.sa (.one (SC.ref 15)))), (48, (.sa (.one (SC.ref 18))))]) [(some (SO.own false MK.ext 0 5 (Ct.tab m [(Col.ints .i64 kds), (Col.ints .u32 c0), (Col.ints .u16 c1), (Col.ints .u16 c2), (Col.ints .i64 vs)]))), (obj 4 1 [(bv false)]), (obj 24 1 [(SC.ref 3)]), (some (SO.abs true 0 (Spec.setT D ((List.getD (Spec.colP ks) (0 + (Int.toNat j)) (0)), ((List.getD (Spec.colF ks) (0 + (Int.toNat j)) (0)), (List.getD (Spec.colG ks) (0 + (Int.toNat j)) (0)))) Option.none))), (obj 28 1 [(SC.ptr 5 0 0)]), (obj 31 2 [(iv .i64 s), (SC.ref 21)]), (some (SO.own true MK.row 47 4 (Ct.tab (Spec.lenE gs) [(Col.ints .u32 (Spec.eP gs)), (Col.ints .u16 (Spec.eF gs)), (Col.ints .u16 (Spec.eG gs)), (Col.ints .i64 (Spec.eV gs))]))), (obj 38 5 [(iv .i64 (3)), (iv .u32 p), (iv .u16 f), (iv .u16 g), (iv .i64 v)]), (obj 29 1 [(SC.ref 9)]), (some (SO.own true MK.row 47 4 (Ct.tab (Spec.lenE ws) [(Col.ints .u32 (Spec.eP ws)), (Col.ints .u16 (Spec.eF ws)), (Col.ints .u16 (Spec.eG ws)), (Col.ints .i64 (Spec.eV ws))]))), (obj 3 1 [(iv .i64 (addK .i64 nb (1)))]), (some (SO.clo (Fn.func 23) [] [(.one (SC.ptr 12 0 0))])), (obj 24 1 [(SC.ref 3)]), (some (SO.lp true 3 (frm 221 [(0, (.sa (.one (iv .i64 s)))), (4, (.sa (.one (SC.ptr 1 0 0)))), (5, (.sa (.one (SC.ptr 2 0 0)))), (7, (.sa (.one (SC.ptr 4 0 0)))), (9, (.sa (.one (SC.ptr 7 0 0)))), (13, (.sa (.one (SC.ptr 8 0 0)))), (14, (.sa (.one (SC.ptr 10 0 0)))), (51, (.sa (.one (SC.ref 0)))), (52, (.sa (.one (iv .i64 ((m : Nat) : Int))))), (53, (.sa (.one (iv .i64 i)))), (131, (.sa (.one (SC.ref 3)))), (132, (.sa (.one (SC.ref 11))))]) [133, 134] plA plB 2 (some (codeAt Try.prog 3 [1, 1, 1, 1, 1, 1, 1, 0, 1, 0, 0, 1, 1, 0, 0, 1, 0, 1, 0, 1, 1, 1, 1, 1, 1, 1, 0, 1, 1, 0, 1, 0, 1, 0, 1, 1, 1, 1, 1, 0])))), (obj 64 1 [(SC.ref 13)]), (some (SO.own true MK.row 36 3 (Ct.tab (Spec.lenK ks) [(Col.ints .u32 (Spec.colP ks)), (Col.ints .u16 (Spec.colF ks)), (Col.ints .u16 (Spec.colG ks))]))), (obj 65 1 [(SC.ref 17)]), (some (SO.own true MK.row 3 1 (Ct.ints .i64 us))), (some (SO.clo (Fn.func 34) [] [(.one (SC.ptr 19 0 0))])), (obj 57 1 [(SC.ref 15)]), (some (SO.lp true 23 (frm 59 [(2, (.sa (.one (SC.ptr 14 0 0)))), (3, (.sa (.one (SC.ref 15)))), (4, (.sa (.one (SC.ptr 16 0 0)))), (47, (.sa (.one (SC.ref 15)))), (48, (.sa (.one (SC.ref 18))))]) [49, 50] (codeAt Proofs.Try.prog 23 [1, 1, 1, 1, 1, 0, 0]) (codeAt Proofs.Try.prog 23 [1, 1, 1, 1, 1, 0, 1]) 3 (some (codeAt Try.prog 3 [1, 0, 1, 0, 1])))), (some (SO.own true MK.row 47 4 (Ct.tab (Spec.lenE es) [(Col.ints .u32 (Spec.eP es)), (Col.ints .u16 (Spec.eF es)), (Col.ints .u16 (Spec.eG es)), (Col.ints .i64 (Spec.eV es))])))]) (ev cxPl (L + 57) 21 34 (codeAt Try.prog 34 [1, 0]) (frm 18 [(0, (.sa (.one (SC.ref 20)))), (5, (.sa (.one (SC.ref 15)))), (6, (.sa (.one (iv .i64 (((Spec.lenK ks) : Nat) : Int))))), (7, (.sa (.one (iv .i64 (addK .i64 j (1))))))]) [(some (SO.own false MK.ext 0 5 (Ct.tab m [(Col.ints .i64 kds), (Col.ints .u32 c0), (Col.ints .u16 c1), (Col.ints .u16 c2), (Col.ints .i64 vs)]))), (obj 4 1 [(bv false)]), (obj 24 1 [(SC.ref 3)]), (some (SO.abs true 0 (Spec.setT D ((List.getD (Spec.colP ks) (0 + (Int.toNat j)) (0)), ((List.getD (Spec.colF ks) (0 + (Int.toNat j)) (0)), (List.getD (Spec.colG ks) (0 + (Int.toNat j)) (0)))) Option.none))), (obj 28 1 [(SC.ptr 5 0 0)]), (obj 31 2 [(iv .i64 s), (SC.ref 21)]), (some (SO.own true MK.row 47 4 (Ct.tab (Spec.lenE gs) [(Col.ints .u32 (Spec.eP gs)), (Col.ints .u16 (Spec.eF gs)), (Col.ints .u16 (Spec.eG gs)), (Col.ints .i64 (Spec.eV gs))]))), (obj 38 5 [(iv .i64 (3)), (iv .u32 p), (iv .u16 f), (iv .u16 g), (iv .i64 v)]), (obj 29 1 [(SC.ref 9)]), (some (SO.own true MK.row 47 4 (Ct.tab (Spec.lenE ws) [(Col.ints .u32 (Spec.eP ws)), (Col.ints .u16 (Spec.eF ws)), (Col.ints .u16 (Spec.eG ws)), (Col.ints .i64 (Spec.eV ws))]))), (obj 3 1 [(iv .i64 (addK .i64 nb (1)))]), (some (SO.clo (Fn.func 23) [] [(.one (SC.ptr 12 0 0))])), (obj 24 1 [(SC.ref 3)]), (some (SO.lp true 3 (frm 221 [(0, (.sa (.one (iv .i64 s)))), (4, (.sa (.one (SC.ptr 1 0 0)))), (5, (.sa (.one (SC.ptr 2 0 0)))), (7, (.sa (.one (SC.ptr 4 0 0)))), (9, (.sa (.one (SC.ptr 7 0 0)))), (13, (.sa (.one (SC.ptr 8 0 0)))), (14, (.sa (.one (SC.ptr 10 0 0)))), (51, (.sa (.one (SC.ref 0)))), (52, (.sa (.one (iv .i64 ((m : Nat) : Int))))), (53, (.sa (.one (iv .i64 i)))), (131, (.sa (.one (SC.ref 3)))), (132, (.sa (.one (SC.ref 11))))]) [133, 134] plA plB 0 Option.none)), (obj 64 1 [(SC.ref 13)]), (some (SO.own true MK.row 36 3 (Ct.tab (Spec.lenK ks) [(Col.ints .u32 (Spec.colP ks)), (Col.ints .u16 (Spec.colF ks)), (Col.ints .u16 (Spec.colG ks))]))), (obj 65 1 [(SC.ref 17)]), (some (SO.own true MK.row 3 1 (Ct.ints .i64 us))), (some (SO.clo (Fn.func 34) [] [(.one (SC.ptr 19 0 0))])), (obj 57 1 [(SC.ref 15)]), (some (SO.lp true 23 (frm 59 [(2, (.sa (.one (SC.ptr 14 0 0)))), (3, (.sa (.one (SC.ref 15)))), (4, (.sa (.one (SC.ptr 16 0 0)))), (47, (.sa (.one (SC.ref 15)))), (48, (.sa (.one (SC.ref 18))))]) [49, 50] (codeAt Proofs.Try.prog 23 [1, 1, 1, 1, 1, 0, 0]) (codeAt Proofs.Try.prog 23 [1, 1, 1, 1, 1, 0, 1]) 0 Option.none)), (some (SO.own true MK.row 47 4 (Ct.tab (Spec.lenE es) [(Col.ints .u32 (Spec.eP es)), (Col.ints .u16 (Spec.eF es)), (Col.ints .u16 (Spec.eG es)), (Col.ints .i64 (Spec.eV es))])))] (kBlock 0 (kRet (Cx.P cxPl) [] 21 (kRange (ev cxPl (M + 60)) 14 23 20 (frm 59 [(2, (.sa (.one (SC.ptr 14 0 0)))), (3, (.sa (.one (SC.ref 15)))), (4, (.sa (.one (SC.ptr 16 0 0)))), (47, (.sa (.one (SC.ref 15)))), (48, (.sa (.one (SC.ref 18))))]) (kBlock 4 k)))))))))))))))))))))))) (k Exit.normal (frm 59 [(2, (.sa (.one (SC.ptr 14 0 0)))), (3, (.sa (.one (SC.ref 15)))), (4, (.sa (.one (SC.ptr 16 0 0)))), (47, (.sa (.one (SC.ref 15)))), (48, (.sa (.one (SC.ref 18))))]) [(some (SO.own false MK.ext 0 5 (Ct.tab m [(Col.ints .i64 kds), (Col.ints .u32 c0), (Col.ints .u16 c1), (Col.ints .u16 c2), (Col.ints .i64 vs)]))), (obj 4 1 [(bv false)]), (obj 24 1 [(SC.ref 3)]), (some (SO.abs true 0 D)), (obj 28 1 [(SC.ptr 5 0 0)]), (obj 31 2 [(iv .i64 s), (SC.ref 21)]), (some (SO.own true MK.row 47 4 (Ct.tab (Spec.lenE gs) [(Col.ints .u32 (Spec.eP gs)), (Col.ints .u16 (Spec.eF gs)), (Col.ints .u16 (Spec.eG gs)), (Col.ints .i64 (Spec.eV gs))]))), (obj 38 5 [(iv .i64 (3)), (iv .u32 p), (iv .u16 f), (iv .u16 g), (iv .i64 v)]), (obj 29 1 [(SC.ref 9)]), (some (SO.own true MK.row 47 4 (Ct.tab (Spec.lenE ws) [(Col.ints .u32 (Spec.eP ws)), (Col.ints .u16 (Spec.eF ws)), (Col.ints .u16 (Spec.eG ws)), (Col.ints .i64 (Spec.eV ws))]))), (obj 3 1 [(iv .i64 nb)]), (some (SO.clo (Fn.func 23) [] [(.one (SC.ptr 12 0 0))])), (obj 24 1 [(SC.ref 3)]), (some (SO.lp true 3 (frm 221 [(0, (.sa (.one (iv .i64 s)))), (4, (.sa (.one (SC.ptr 1 0 0)))), (5, (.sa (.one (SC.ptr 2 0 0)))), (7, (.sa (.one (SC.ptr 4 0 0)))), (9, (.sa (.one (SC.ptr 7 0 0)))), (13, (.sa (.one (SC.ptr 8 0 0)))), (14, (.sa (.one (SC.ptr 10 0 0)))), (51, (.sa (.one (SC.ref 0)))), (52, (.sa (.one (iv .i64 ((m : Nat) : Int))))), (53, (.sa (.one (iv .i64 i)))), (131, (.sa (.one (SC.ref 3)))), (132, (.sa (.one (SC.ref 11))))]) [133, 134] plA plB 0 Option.none)), (obj 64 1 [(SC.ref 13)]), (some (SO.own true MK.row 36 3 (Ct.tab (Spec.lenK ks) [(Col.ints .u32 (Spec.colP ks)), (Col.ints .u16 (Spec.colF ks)), (Col.ints .u16 (Spec.colG ks))]))), (obj 65 1 [(SC.ref 17)]), (some (SO.own true MK.row 3 1 (Ct.ints .i64 us))), (some (SO.clo (Fn.func 34) [] [(.one (SC.ptr 19 0 0))])), (obj 57 1 [(SC.ref 15)]), (some (SO.lp true 23 (frm 59 [(2, (.sa (.one (SC.ptr 14 0 0)))), (3, (.sa (.one (SC.ref 15)))), (4, (.sa (.one (SC.ptr 16 0 0)))), (47, (.sa (.one (SC.ref 15)))), (48, (.sa (.one (SC.ref 18))))]) [49, 50] (codeAt Proofs.Try.prog 23 [1, 1, 1, 1, 1, 0, 0]) (codeAt Proofs.Try.prog 23 [1, 1, 1, 1, 1, 0, 1]) 3 Option.none)), (some (SO.own true MK.row 47 4 (Ct.tab (Spec.lenE es) [(Col.ints .u32 (Spec.eP es)), (Col.ints .u16 (Spec.eF es)), (Col.ints .u16 (Spec.eG es)), (Col.ints .i64 (Spec.eV es))])))]))) := by kernel_rfl
end Go.Ev
end
section
namespace Go.Ev
open Go Go.Proofs Go.Spec
theorem t_plE6A (s i p f g v nb j : Int) (L m : Nat) (D : TbD) (es gs ws : List (Kx × Int)) (ks : List Kx) (us kds c0 c1 c2 vs : List Int) (k : Exit → Fr → St → Prop) : (kRet (Cx.P cxPl) [] 14 (kRange (ev cxPl (L + 67)) 1 3 13 (frm 221 [(0, .sa (kint s)), (4, (.sa (.one (SC.ptr 1 0 0)))), (5, (.sa (.one (SC.ptr 2 0 0)))), (7, (.sa (.one (SC.ptr 4 0 0)))), (9, (.sa (.one (SC.ptr 7 0 0)))), (13, (.sa (.one (SC.ptr 8 0 0)))), (14, (.sa (.one (SC.ptr 10 0 0)))), (51, (.sa (.one (SC.ref 0)))), (52, .sa (kint (m : Int))), (53, .sa (kint i)), (131, (.sa (.one (SC.ref 3)))), (132, (.sa (.one (SC.ref 11))))]) (kBlock 3 (kSeq (ev cxPl (L + 70) 1 3 (codeAt Try.prog 3 [1, 1, 1, 1, 1, 1, 1, 0, 1, 0, 0, 1, 1, 0, 0, 1, 0, 1, 0, 1, 1, 1, 1, 1, 1, 1, 0, 1, 1, 1])) (kBlock 2 (kSeq (ev cxPl (L + 83) 1 3 (codeAt Try.prog 3 [1, 1, 1, 1, 1, 1, 1, 0, 1, 0, 0, 1, 1, 0, 0, 1, 1])) k)))))) Exit.normal (frm 59 [(2, (.sa (.one (SC.ptr 14 0 0)))), (3, (.sa (.one (SC.ref 15)))), (4, (.sa (.one (SC.ptr 16 0 0)))), (47, (.sa (.one (SC.ref 15)))), (48, (.sa (.one (SC.ref 18))))]) [rowD m kds c0 c1 c2 vs, obj 4 1 [bv false], tbox 3, some (.abs true 0 D), obj 28 1 [.ptr 5 0 0], rT s 6, rowE es, obj 38 5 [iv .i64 3, iv .u32 p, iv .u16 f, iv .u16 g, iv .i64 v], obj 29 1 [.ref 9], rowE ws, obj 3 1 [iv .i64 nb], some (.clo (.func 23) [] [.one (.ptr 12 0 0)]), tbox 3, some (.lp true 3 (frm 221 [(0, .sa (kint s)), (4, (.sa (.one (SC.ptr 1 0 0)))), (5, (.sa (.one (SC.ptr 2 0 0)))), (7, (.sa (.one (SC.ptr 4 0 0)))), (9, (.sa (.one (SC.ptr 7 0 0)))), (13, (.sa (.one (SC.ptr 8 0 0)))), (14, (.sa (.one (SC.ptr 10 0 0)))), (51, (.sa (.one (SC.ref 0)))), (52, .sa (kint (m : Int))), (53, .sa (kint i)), (131, (.sa (.one (SC.ref 3)))), (132, (.sa (.one (SC.ref 11))))]) [133, 134] plA plB 0 none), obj 64 1 [.ref 13], rowX ks, obj 65 1 [.ref 17], some (.own true .row 3 1 (.ints .i64 us)), some (.clo (.func 34) [] [.one (.ptr 19 0 0)]), obj 57 1 [.ref 15], some (.lp true 23 (frm 59 [(2, (.sa (.one (SC.ptr 14 0 0)))), (3, (.sa (.one (SC.ref 15)))), (4, (.sa (.one (SC.ptr 16 0 0)))), (47, (.sa (.one (SC.ref 15)))), (48, (.sa (.one (SC.ref 18))))]) [49, 50] (codeAt Try.prog 23 [1, 1, 1, 1, 1, 0, 0]) (codeAt Try.prog 23 [1, 1, 1, 1, 1, 0, 1]) 3 none)] =
    (branch (Bool.not (eqK nb (if ((if ((1) > v) then (1) else v) < (((Spec.lenE ws) : Nat) : Int)) then (if ((1) > v) then (1) else v) else (((Spec.lenE ws) : Nat) : Int)))) (ev cxPl (L + 67) 1 3 (codeAt Try.prog 3 [1, 1, 1, 1, 1, 1, 1, 0, 1, 0, 0, 1, 1, 0, 0, 1, 0, 1, 0, 1, 1, 1, 1, 1, 1, 1, 0, 1, 1, 1, 1, 0, 0]) (frm 221 [(4, (.sa (.one (SC.ptr 1 0 0))))]) [(some (SO.own false MK.ext 0 5 (Ct.tab m [(Col.ints .i64 kds), (Col.ints .u32 c0), (Col.ints .u16 c1), (Col.ints .u16 c2), (Col.ints .i64 vs)]))), (obj 4 1 [(bv false)])] (kSeq (ev cxPl (L + 67) 1 3 (codeAt Try.prog 3 [1, 0, 1, 0, 1])) (kBlock 2 (kSeq (ev cxPl (L + 83) 1 3 (codeAt Try.prog 3 [1, 1, 1, 1, 1, 1, 1, 0, 1, 0, 0, 1, 1, 0, 0, 1, 1])) k)))) (ev cxPl (L + 82) 1 3 (codeAt Try.prog 3 [1, 1, 1, 1, 1, 1, 1, 0, 1, 0, 0, 1, 1, 0, 0, 1, 1, 0]) (frm 221 [(0, (.sa (.one (iv .i64 s)))), (4, (.sa (.one (SC.ptr 1 0 0)))), (5, (.sa (.one (SC.ptr 2 0 0)))), (7, (.sa (.one (SC.ptr 4 0 0)))), (9, (.sa (.one (SC.ptr 7 0 0)))), (51, (.sa (.one (SC.ref 0)))), (52, (.sa (.one (iv .i64 ((m : Nat) : Int))))), (53, (.sa (.one (iv .i64 i))))]) [(some (SO.own false MK.ext 0 5 (Ct.tab m [(Col.ints .i64 kds), (Col.ints .u32 c0), (Col.ints .u16 c1), (Col.ints .u16 c2), (Col.ints .i64 vs)]))), (obj 4 1 [(bv false)]), (obj 24 1 [(SC.ref 3)]), (some (SO.abs true 0 D)), (obj 28 1 [(SC.ptr 5 0 0)]), (obj 31 2 [(iv .i64 s), (SC.ref 6)]), (some (SO.own true MK.row 47 4 (Ct.tab (Spec.lenE es) [(Col.ints .u32 (Spec.eP es)), (Col.ints .u16 (Spec.eF es)), (Col.ints .u16 (Spec.eG es)), (Col.ints .i64 (Spec.eV es))]))), (obj 38 5 [(iv .i64 (3)), (iv .u32 p), (iv .u16 f), (iv .u16 g), (iv .i64 v)])] (kSeq (ev cxPl (L + 82) 1 3 (codeAt Try.prog 3 [1, 1, 1, 1, 1, 1, 1, 0, 1, 0, 0, 1, 1, 0, 0, 1, 1, 1])) k))) := by kernel_rfl
theorem t_plE6B (s i p f g v nb j : Int) (L m : Nat) (D : TbD) (es gs ws : List (Kx × Int)) (ks : List Kx) (us kds c0 c1 c2 vs : List Int) (k : Exit → Fr → St → Prop) : (kRet (Cx.P cxPl) [] 14 (kRange (ev cxPl (L + 67)) 1 3 13 (frm 221 [(0, .sa (kint s)), (4, (.sa (.one (SC.ptr 1 0 0)))), (5, (.sa (.one (SC.ptr 2 0 0)))), (7, (.sa (.one (SC.ptr 4 0 0)))), (9, (.sa (.one (SC.ptr 7 0 0)))), (13, (.sa (.one (SC.ptr 8 0 0)))), (14, (.sa (.one (SC.ptr 10 0 0)))), (51, (.sa (.one (SC.ref 0)))), (52, .sa (kint (m : Int))), (53, .sa (kint i)), (131, (.sa (.one (SC.ref 3)))), (132, (.sa (.one (SC.ref 11))))]) (kBlock 3 (kSeq (ev cxPl (L + 70) 1 3 (codeAt Try.prog 3 [1, 1, 1, 1, 1, 1, 1, 0, 1, 0, 0, 1, 1, 0, 0, 1, 0, 1, 0, 1, 1, 1, 1, 1, 1, 1, 0, 1, 1, 1])) (kBlock 2 (kSeq (ev cxPl (L + 83) 1 3 (codeAt Try.prog 3 [1, 1, 1, 1, 1, 1, 1, 0, 1, 0, 0, 1, 1, 0, 0, 1, 1])) k)))))) Exit.normal (frm 59 [(2, (.sa (.one (SC.ptr 14 0 0)))), (3, (.sa (.one (SC.ref 15)))), (4, (.sa (.one (SC.ptr 16 0 0)))), (47, (.sa (.one (SC.ref 15)))), (48, (.sa (.one (SC.ref 18))))]) [rowD m kds c0 c1 c2 vs, obj 4 1 [bv false], tbox 3, some (.abs true 0 D), obj 28 1 [.ptr 5 0 0], rT s 21, rowE gs, obj 38 5 [iv .i64 3, iv .u32 p, iv .u16 f, iv .u16 g, iv .i64 v], obj 29 1 [.ref 9], rowE ws, obj 3 1 [iv .i64 nb], some (.clo (.func 23) [] [.one (.ptr 12 0 0)]), tbox 3, some (.lp true 3 (frm 221 [(0, .sa (kint s)), (4, (.sa (.one (SC.ptr 1 0 0)))), (5, (.sa (.one (SC.ptr 2 0 0)))), (7, (.sa (.one (SC.ptr 4 0 0)))), (9, (.sa (.one (SC.ptr 7 0 0)))), (13, (.sa (.one (SC.ptr 8 0 0)))), (14, (.sa (.one (SC.ptr 10 0 0)))), (51, (.sa (.one (SC.ref 0)))), (52, .sa (kint (m : Int))), (53, .sa (kint i)), (131, (.sa (.one (SC.ref 3)))), (132, (.sa (.one (SC.ref 11))))]) [133, 134] plA plB 0 none), obj 64 1 [.ref 13], rowX ks, obj 65 1 [.ref 17], some (.own true .row 3 1 (.ints .i64 us)), some (.clo (.func 34) [] [.one (.ptr 19 0 0)]), obj 57 1 [.ref 15], some (.lp true 23 (frm 59 [(2, (.sa (.one (SC.ptr 14 0 0)))), (3, (.sa (.one (SC.ref 15)))), (4, (.sa (.one (SC.ptr 16 0 0)))), (47, (.sa (.one (SC.ref 15)))), (48, (.sa (.one (SC.ref 18))))]) [49, 50] (codeAt Try.prog 23 [1, 1, 1, 1, 1, 0, 0]) (codeAt Try.prog 23 [1, 1, 1, 1, 1, 0, 1]) 3 none), rowE es] =
    (branch (Bool.not (eqK nb (if ((if ((1) > v) then (1) else v) < (((Spec.lenE ws) : Nat) : Int)) then (if ((1) > v) then (1) else v) else (((Spec.lenE ws) : Nat) : Int)))) (ev cxPl (L + 67) 1 3 (codeAt Try.prog 3 [1, 1, 1, 1, 1, 1, 1, 0, 1, 0, 0, 1, 1, 0, 0, 1, 0, 1, 0, 1, 1, 1, 1, 1, 1, 1, 0, 1, 1, 1, 1, 0, 0]) (frm 221 [(4, (.sa (.one (SC.ptr 1 0 0))))]) [(some (SO.own false MK.ext 0 5 (Ct.tab m [(Col.ints .i64 kds), (Col.ints .u32 c0), (Col.ints .u16 c1), (Col.ints .u16 c2), (Col.ints .i64 vs)]))), (obj 4 1 [(bv false)])] (kSeq (ev cxPl (L + 67) 1 3 (codeAt Try.prog 3 [1, 0, 1, 0, 1])) (kBlock 2 (kSeq (ev cxPl (L + 83) 1 3 (codeAt Try.prog 3 [1, 1, 1, 1, 1, 1, 1, 0, 1, 0, 0, 1, 1, 0, 0, 1, 1])) k)))) (ev cxPl (L + 82) 1 3 (codeAt Try.prog 3 [1, 1, 1, 1, 1, 1, 1, 0, 1, 0, 0, 1, 1, 0, 0, 1, 1, 0]) (frm 221 [(0, (.sa (.one (iv .i64 s)))), (4, (.sa (.one (SC.ptr 1 0 0)))), (5, (.sa (.one (SC.ptr 2 0 0)))), (7, (.sa (.one (SC.ptr 4 0 0)))), (9, (.sa (.one (SC.ptr 7 0 0)))), (51, (.sa (.one (SC.ref 0)))), (52, (.sa (.one (iv .i64 ((m : Nat) : Int))))), (53, (.sa (.one (iv .i64 i))))]) [(some (SO.own false MK.ext 0 5 (Ct.tab m [(Col.ints .i64 kds), (Col.ints .u32 c0), (Col.ints .u16 c1), (Col.ints .u16 c2), (Col.ints .i64 vs)]))), (obj 4 1 [(bv false)]), (obj 24 1 [(SC.ref 3)]), (some (SO.abs true 0 D)), (obj 28 1 [(SC.ptr 5 0 0)]), (obj 31 2 [(iv .i64 s), (SC.ref 6)]), (some (SO.own true MK.row 47 4 (Ct.tab (Spec.lenE es) [(Col.ints .u32 (Spec.eP es)), (Col.ints .u16 (Spec.eF es)), (Col.ints .u16 (Spec.eG es)), (Col.ints .i64 (Spec.eV es))]))), (obj 38 5 [(iv .i64 (3)), (iv .u32 p), (iv .u16 f), (iv .u16 g), (iv .i64 v)])] (kSeq (ev cxPl (L + 82) 1 3 (codeAt Try.prog 3 [1, 1, 1, 1, 1, 1, 1, 0, 1, 0, 0, 1, 1, 0, 0, 1, 1, 1])) k))) := by kernel_rfl
theorem t_plE6C (s i p f g v nb j : Int) (L m : Nat) (D : TbD) (es gs ws : List (Kx × Int)) (ks : List Kx) (us kds c0 c1 c2 vs : List Int) (k : Exit → Fr → St → Prop) : (kRet (Cx.P cxPl) [] 14 (kRange (ev cxPl (L + 67)) 1 3 13 (frm 221 [(0, .sa (kint s)), (4, (.sa (.one (SC.ptr 1 0 0)))), (5, (.sa (.one (SC.ptr 2 0 0)))), (7, (.sa (.one (SC.ptr 4 0 0)))), (9, (.sa (.one (SC.ptr 7 0 0)))), (13, (.sa (.one (SC.ptr 8 0 0)))), (14, (.sa (.one (SC.ptr 10 0 0)))), (51, (.sa (.one (SC.ref 0)))), (52, .sa (kint (m : Int))), (53, .sa (kint i)), (131, (.sa (.one (SC.ref 3)))), (132, (.sa (.one (SC.ref 11))))]) (kBlock 3 (kSeq (ev cxPl (L + 70) 1 3 (codeAt Try.prog 3 [1, 1, 1, 1, 1, 1, 1, 0, 1, 0, 0, 1, 1, 0, 0, 1, 0, 1, 0, 1, 1, 1, 1, 1, 1, 1, 0, 1, 1, 1])) (kBlock 2 (kSeq (ev cxPl (L + 83) 1 3 (codeAt Try.prog 3 [1, 1, 1, 1, 1, 1, 1, 0, 1, 0, 0, 1, 1, 0, 0, 1, 1])) k)))))) Exit.ret (frm 59 [(2, (.sa (.one (SC.ptr 14 0 0)))), (3, (.sa (.one (SC.ref 15)))), (4, (.sa (.one (SC.ptr 16 0 0)))), (47, (.sa (.one (SC.ref 15)))), (48, (.sa (.one (SC.ref 18))))]) [rowD m kds c0 c1 c2 vs, obj 4 1 [bv false], tbox 3, some (.abs true 0 D), obj 28 1 [.ptr 5 0 0], rT s 21, rowE gs, obj 38 5 [iv .i64 3, iv .u32 p, iv .u16 f, iv .u16 g, iv .i64 v], obj 29 1 [.ref 9], rowE ws, obj 3 1 [iv .i64 nb], some (.clo (.func 23) [] [.one (.ptr 12 0 0)]), tbox 3, some (.lp true 3 (frm 221 [(0, .sa (kint s)), (4, (.sa (.one (SC.ptr 1 0 0)))), (5, (.sa (.one (SC.ptr 2 0 0)))), (7, (.sa (.one (SC.ptr 4 0 0)))), (9, (.sa (.one (SC.ptr 7 0 0)))), (13, (.sa (.one (SC.ptr 8 0 0)))), (14, (.sa (.one (SC.ptr 10 0 0)))), (51, (.sa (.one (SC.ref 0)))), (52, .sa (kint (m : Int))), (53, .sa (kint i)), (131, (.sa (.one (SC.ref 3)))), (132, (.sa (.one (SC.ref 11))))]) [133, 134] plA plB 2 (some plC)), obj 64 1 [.ref 13], rowX ks, obj 65 1 [.ref 17], some (.own true .row 3 1 (.ints .i64 us)), some (.clo (.func 34) [] [.one (.ptr 19 0 0)]), obj 57 1 [.ref 15], some (.lp true 23 (frm 59 [(2, (.sa (.one (SC.ptr 14 0 0)))), (3, (.sa (.one (SC.ref 15)))), (4, (.sa (.one (SC.ptr 16 0 0)))), (47, (.sa (.one (SC.ref 15)))), (48, (.sa (.one (SC.ref 18))))]) [49, 50] (codeAt Try.prog 23 [1, 1, 1, 1, 1, 0, 0]) (codeAt Try.prog 23 [1, 1, 1, 1, 1, 0, 1]) 3 (some (codeAt Try.prog 3 [1, 0, 1, 0, 1]))), rowE es] =
    (branch (Bool.not (eqK nb (if ((if ((1) > v) then (1) else v) < (((Spec.lenE ws) : Nat) : Int)) then (if ((1) > v) then (1) else v) else (((Spec.lenE ws) : Nat) : Int)))) (ev cxPl (L + 67) 1 3 (codeAt Try.prog 3 [1, 1, 1, 1, 1, 1, 1, 0, 1, 0, 0, 1, 1, 0, 0, 1, 0, 1, 0, 1, 1, 1, 1, 1, 1, 1, 0, 1, 1, 1, 1, 0, 0]) (frm 221 [(4, (.sa (.one (SC.ptr 1 0 0))))]) [(some (SO.own false MK.ext 0 5 (Ct.tab m [(Col.ints .i64 kds), (Col.ints .u32 c0), (Col.ints .u16 c1), (Col.ints .u16 c2), (Col.ints .i64 vs)]))), (obj 4 1 [(bv false)])] (kSeq (ev cxPl (L + 67) 1 3 (codeAt Try.prog 3 [1, 0, 1, 0, 1])) (kBlock 2 (kSeq (ev cxPl (L + 83) 1 3 (codeAt Try.prog 3 [1, 1, 1, 1, 1, 1, 1, 0, 1, 0, 0, 1, 1, 0, 0, 1, 1])) k)))) (ev cxPl (L + 82) 1 3 (codeAt Try.prog 3 [1, 1, 1, 1, 1, 1, 1, 0, 1, 0, 0, 1, 1, 0, 0, 1, 1, 0]) (frm 221 [(0, (.sa (.one (iv .i64 s)))), (4, (.sa (.one (SC.ptr 1 0 0)))), (5, (.sa (.one (SC.ptr 2 0 0)))), (7, (.sa (.one (SC.ptr 4 0 0)))), (9, (.sa (.one (SC.ptr 7 0 0)))), (51, (.sa (.one (SC.ref 0)))), (52, (.sa (.one (iv .i64 ((m : Nat) : Int))))), (53, (.sa (.one (iv .i64 i))))]) [(some (SO.own false MK.ext 0 5 (Ct.tab m [(Col.ints .i64 kds), (Col.ints .u32 c0), (Col.ints .u16 c1), (Col.ints .u16 c2), (Col.ints .i64 vs)]))), (obj 4 1 [(bv false)]), (obj 24 1 [(SC.ref 3)]), (some (SO.abs true 0 D)), (obj 28 1 [(SC.ptr 5 0 0)]), (obj 31 2 [(iv .i64 s), (SC.ref 6)]), (some (SO.own true MK.row 47 4 (Ct.tab (Spec.lenE es) [(Col.ints .u32 (Spec.eP es)), (Col.ints .u16 (Spec.eF es)), (Col.ints .u16 (Spec.eG es)), (Col.ints .i64 (Spec.eV es))]))), (obj 38 5 [(iv .i64 (3)), (iv .u32 p), (iv .u16 f), (iv .u16 g), (iv .i64 v)])] (kSeq (ev cxPl (L + 82) 1 3 (codeAt Try.prog 3 [1, 1, 1, 1, 1, 1, 1, 0, 1, 0, 0, 1, 1, 0, 0, 1, 1, 1])) k))) := by kernel_rfl
end Go.Ev
end
section
namespace Go.Spec
open Go Go.Ev
def wfK (k : Kx) : Prop := (0 ≤ k.1 ∧ k.1 < 4294967296) ∧ (0 ≤ k.2.1 ∧ k.2.1 < 65536) ∧ (0 ≤ k.2.2 ∧ k.2.2 < 65536)
def shE (s : Int) (k : Kx) : Int := shR s k.1 k.2.1 k.2.2
structure RelT (s : Int) (D : TbD) (es : Es) : Prop where
  lo : 1 ≤ s
  hi : s ≤ 64
  len : D.sh.length = s.toNat
  sh : ∀ i, i < s.toNat → (D.sh.getD i []).Perm (es.filter fun e => decide (shE s e.1 = (i : Int)))
  nd : (es.map (·.1)).Nodup
  wf : ∀ e ∈ es, wfK e.1
theorem u32_wrap {x : Int} : IntKind.wrap .u32 x = x % 4294967296 := by rw [IntKind.wrap_u32]
theorem u64_wrap {x : Int} : IntKind.wrap .u64 x = x % 18446744073709551616 := by rw [IntKind.wrap_u64]
theorem shI_eq {s p f g : Int} (h : wfK (p, f, g)) (h1 : 1 ≤ s) (h2 : s ≤ 64) : shI s.toNat p f g = shR s p f g := by
  obtain ⟨⟨hp0, hp1⟩, ⟨hf0, hf1⟩, hg0, hg1⟩ := h
  simp only at hp0 hp1 hf0 hf1 hg0 hg1
  unfold shI shR
  simp only [remK_eq', shrK_eq, quoK_eq, addK_eq, mulK_eq, u32_wrap, u64_wrap]
  have e1 : min (16 : Int).toNat (IntKind.u32).bits = 16 := rfl
  rw [e1, Int.fdiv_eq_ediv_of_nonneg _ (by decide)]
  have e2 : ((2 : Int) ^ 16) = 65536 := rfl
  rw [e2]
  have e3 : ((s.toNat : Nat) : Int) = s := by omega
  rw [e3, Int.emod_eq_of_lt (a := s) (by omega) (by omega)]
  have hY0 : p * 2654435761 + f * 65599 + g * 31 < 18446744073709551616 := by omega
  generalize hX : ((p * 2654435761 % 4294967296 + f % 4294967296 * 65599 % 4294967296) % 4294967296 + g % 4294967296 * 31 % 4294967296) % 4294967296 = X
  have hY : ((p % 18446744073709551616 * 2654435761 % 18446744073709551616 + f % 18446744073709551616 * 65599 % 18446744073709551616) % 18446744073709551616 + g % 18446744073709551616 * 31 % 18446744073709551616) % 18446744073709551616 = p * 2654435761 + f * 65599 + g * 31 := by
    rw [Int.emod_eq_of_lt (a := p) (by omega) (by omega), Int.emod_eq_of_lt (a := f) (by omega) (by omega), Int.emod_eq_of_lt (a := g) (by omega) (by omega)]
    rw [Int.emod_eq_of_lt (a := p * 2654435761) (by omega) (by omega), Int.emod_eq_of_lt (a := f * 65599) (by omega) (by omega), Int.emod_eq_of_lt (a := g * 31) (by omega) (by omega)]
    rw [Int.emod_eq_of_lt (a := p * 2654435761 + f * 65599) (by omega) (by omega), Int.emod_eq_of_lt (by omega) hY0]
  rw [hY]
  have hXY : (p * 2654435761 + f * 65599 + g * 31) % 4294967296 = X := by
    rw [← hX, Int.emod_eq_of_lt (a := f) (by omega) (by omega), Int.emod_eq_of_lt (a := g) (by omega) (by omega)]
    generalize p * 2654435761 = P
    generalize f * 65599 = F
    generalize g * 31 = G
    omega
  have hS0 : 0 ≤ p * 2654435761 + f * 65599 + g * 31 := by omega
  have hX0 : 0 ≤ X ∧ X < 4294967296 := by rw [← hX]; omega
  clear hX hY hY0
  rw [Int.tmod_eq_emod_of_nonneg hS0, hXY, Int.tdiv_eq_ediv_of_nonneg (by omega)]
  have e4 : X / 65536 % 18446744073709551616 = X / 65536 := by omega
  rw [e4, Go.IntWalk.i64_in (X / 65536) (by omega), Int.tmod_eq_emod_of_nonneg (by omega)]
  have h3 := Int.emod_nonneg (X / 65536) (b := s) (by omega)
  have h4 := Int.emod_lt_of_pos (X / 65536) (b := s) (by omega)
  rw [Go.IntWalk.i64_in _ (by omega)]
theorem shE_in {s : Int} {k : Kx} (h : wfK k) (h1 : 1 ≤ s) (h2 : s ≤ 64) : 0 ≤ shE s k ∧ shE s k < s := by
  obtain ⟨p, f, g⟩ := k
  have := shI_in (n := s.toNat) (by omega) p f g
  rw [shI_eq h h1 h2] at this
  unfold shE
  simp only
  omega
theorem shN_eq {s : Int} {D : TbD} {es : Es} {k : Kx} (h : RelT s D es) (hk : wfK k) : ((shN D k : Nat) : Int) = shE s k ∧ shN D k < s.toNat := by
  obtain ⟨p, f, g⟩ := k
  have h1 := shE_in hk h.lo h.hi
  have h2 : shI D.sh.length p f g = shE s (p, f, g) := by rw [h.len]; exact shI_eq hk h.lo h.hi
  unfold shN
  simp only
  rw [h2]
  omega
theorem RelT.sub {s : Int} {D : TbD} {es : Es} (h : RelT s D es) {i : Nat} (hi : i < s.toNat) : ((D.sh.getD i []).map (·.1)).Nodup := by
  refine ((h.sh i hi).map (·.1)).nodup_iff.2 ?_
  exact h.nd.sublist (List.filter_sublist.map _)
theorem RelT.mem {s : Int} {D : TbD} {es : Es} (h : RelT s D es) {i : Nat} (hi : i < s.toNat) {e : Kx × Int} : e ∈ D.sh.getD i [] ↔ e ∈ es ∧ shE s e.1 = (i : Int) := by
  rw [(h.sh i hi).mem_iff, List.mem_filter]; simp
theorem key_one {es : Es} (h : (es.map (·.1)).Nodup) {a b : Kx × Int} (ha : a ∈ es) (hb : b ∈ es) (e : a.1 = b.1) : a = b := by
  induction es with
  | nil => simp at ha
  | cons x r ih =>
    simp only [List.map_cons, List.nodup_cons] at h
    rcases List.mem_cons.1 ha with ea | ha' <;> rcases List.mem_cons.1 hb with eb | hb'
    · rw [ea, eb]
    · exact absurd (List.mem_map.2 ⟨b, hb', by rw [← e, ea]⟩) h.1
    · exact absurd (List.mem_map.2 ⟨a, ha', by rw [e, eb]⟩) h.1
    · exact ih h.2 ha' hb'
theorem RelT.get {s : Int} {D : TbD} {es : Es} (h : RelT s D es) {k : Kx} (hk : wfK k) : (∀ v, (k, v) ∈ es → getT D k = some v) ∧ ((∀ e ∈ es, e.1 ≠ k) → getT D k = none) := by
  obtain ⟨h1, h2⟩ := shN_eq h hk
  constructor
  · intro v hv
    exact look_one (h.sub h2) ((h.mem h2).2 ⟨hv, h1.symm⟩)
  · intro hn
    exact look_none fun e he => hn e ((h.mem h2).1 he).1
theorem found_iff {es : Es} {p f g : Int} : foundE es p f g = true ↔ ∃ e ∈ es, e.1 = (p, f, g) := by
  unfold foundE; rw [List.any_eq_true]; simp
theorem RelT.getB {s : Int} {D : TbD} {es : Es} (h : RelT s D es) {p f g : Int} (hk : wfK (p, f, g)) : getB D p f g = foundE es p f g := by
  unfold Go.Spec.getB
  by_cases hf : ∃ e ∈ es, e.1 = (p, f, g)
  · rw [found_iff.2 hf]
    obtain ⟨e, he, e1⟩ := hf
    rw [(h.get hk).1 e.2 (by rw [← e1]; exact he)]; rfl
  · rw [(h.get hk).2 (fun e he e1 => hf ⟨e, he, e1⟩)]
    have : foundE es p f g = false := by
      cases hh : foundE es p f g
      · rfl
      · exact absurd (found_iff.1 hh) hf
    rw [this]; rfl
theorem RelT.getI {s : Int} {D : TbD} {es : Es} (h : RelT s D es) {p f g : Int} (hk : wfK (p, f, g)) : (foundE es p f g = false → getI D p f g = 0) ∧ (∀ i : Nat, (∃ e, es[i]? = some e ∧ e.1 = (p, f, g)) → getI D p f g = (eV es).getD i 0) := by
  unfold Go.Spec.getI
  constructor
  · intro hf
    rw [(h.get hk).2 (fun e he e1 => by have := found_iff.2 ⟨e, he, e1⟩; rw [hf] at this; cases this)]; rfl
  · rintro i ⟨e, he, e1⟩
    rw [(h.get hk).1 e.2 (by rw [← e1]; exact List.mem_of_getElem? he), (eP_getD he).2.2.2]; rfl
theorem erase_filter {k : Kx} : ∀ {es : Es}, (es.map (·.1)).Nodup → es.eraseP (fun e => decide (e.1 = k)) = es.filter fun e => !decide (e.1 = k)
  | [], _ => rfl
  | x :: r, h => by
    simp only [List.map_cons, List.nodup_cons] at h
    by_cases e : x.1 = k
    · rw [List.eraseP_cons, List.filter_cons]
      simp only [e, decide_true, if_true, Bool.not_true]
      refine (List.filter_eq_self.2 fun y hy => ?_).symm
      simp only [Bool.not_eq_true', decide_eq_false_iff_not]
      exact fun ey => h.1 (List.mem_map.2 ⟨y, hy, ey.trans e.symm⟩)
    · rw [List.eraseP_cons, List.filter_cons]
      simp only [e, decide_false, Bool.not_false, if_true]
      rw [erase_filter h.2]; rfl
theorem shE_told {s : Int} {k : Kx} {o : Option Int} {i : Int} : (told k o).filter (fun e => decide (shE s e.1 = i)) = if shE s k = i then told k o else [] := by
  cases o with
  | none => simp [told]
  | some v => by_cases h : shE s k = i <;> simp [told, h]
theorem RelT.set {s : Int} {D : TbD} {es : Es} (h : RelT s D es) {k : Kx} (hk : wfK k) (o : Option Int) : RelT s (setT D k o) ((es.filter fun e => !decide (e.1 = k)) ++ told k o) := by
  obtain ⟨h1, h2⟩ := shN_eq h hk
  refine ⟨h.lo, h.hi, by simp [setT, tbSet, h.len], fun i hi => ?_, ?_, fun e he => ?_⟩
  · rw [List.filter_append, shE_told]
    have hc : (es.filter fun e => !decide (e.1 = k)).filter (fun e => decide (shE s e.1 = (i : Int))) = (es.filter fun e => decide (shE s e.1 = (i : Int))).filter fun e => !decide (e.1 = k) := by
      rw [List.filter_filter, List.filter_filter]; congr 1; funext e; rw [Bool.and_comm]
    rw [hc]
    unfold setT tbSet
    by_cases hin : shN D k = i
    · subst hin
      rw [if_pos h1.symm]
      have : ((D.sh.set (shN D k) (setS (D.sh.getD (shN D k) []) k o)).getD (shN D k) []) = setS (D.sh.getD (shN D k) []) k o := by
        rw [List.getD_eq_getElem?_getD, List.getElem?_set_self (by rw [h.len]; exact h2)]; rfl
      simp only [this]
      exact ((h.sh _ h2).filter _).append (List.Perm.refl _)
    · rw [if_neg (fun e => hin (by omega)), List.append_nil]
      have : ((D.sh.set (shN D k) (setS (D.sh.getD (shN D k) []) k o)).getD i []) = D.sh.getD i [] := by
        rw [List.getD_eq_getElem?_getD, List.getElem?_set_ne hin, List.getD_eq_getElem?_getD]
      simp only [this]
      refine (h.sh i hi).trans (List.Perm.of_eq ?_)
      refine (List.filter_eq_self.2 fun e he => ?_).symm
      simp only [Bool.not_eq_true', decide_eq_false_iff_not]
      intro ek
      have := (List.mem_filter.1 he).2
      rw [ek] at this
      have := of_decide_eq_true this
      exact hin (by omega)
  · rw [List.map_append, List.nodup_append]
    refine ⟨h.nd.sublist (List.filter_sublist.map _), by cases o <;> simp [told], fun a ha b hb e => ?_⟩
    obtain ⟨x, hx, rfl⟩ := List.mem_map.1 ha
    have hx2 := (List.mem_filter.1 hx).2
    simp only [Bool.not_eq_true', decide_eq_false_iff_not] at hx2
    cases o with
    | none => simp [told] at hb
    | some v => simp [told] at hb; exact hx2 (e.trans hb)
  · rcases List.mem_append.1 he with he | he
    · exact h.wf e (List.mem_filter.1 he).1
    · cases o with
      | none => simp [told] at he
      | some v => simp [told] at he; rw [he]; exact hk
theorem RelT.drop {s : Int} {D : TbD} {es : Es} (h : RelT s D es) {p f g : Int} (hk : wfK (p, f, g)) : RelT s (setT D (p, f, g) none) (dropE es p f g) := by
  have := h.set hk none
  rw [← erase_filter h.nd] at this
  simpa [told, dropE] using this
theorem RelT.put {s : Int} {D : TbD} {es : Es} (h : RelT s D es) {p f g v : Int} (hk : wfK (p, f, g)) : RelT s (setT D (p, f, g) (some v)) (putE es p f g v) := by
  have := h.set hk (some v)
  rw [← erase_filter h.nd] at this
  simpa [told, putE, dropE] using this
theorem RelT.empty {s : Int} (h1 : 1 ≤ s) (h2 : s ≤ 64) : RelT s (emptyT s) [] :=
  ⟨h1, h2, by simp [emptyT], fun i hi => by
    have : (emptyT s).sh.getD i [] = [] := by
      unfold emptyT
      rw [List.getD_eq_getElem?_getD, List.getElem?_replicate]; split <;> rfl
    rw [this]; simp, by simp, fun e he => by simp at he⟩
theorem dropE_len {es : Es} {p f g : Int} : (dropE es p f g).length ≤ es.length := List.eraseP_sublist.length_le
theorem putE_len {es : Es} {p f g v : Int} : (putE es p f g v).length ≤ es.length + 1 := by
  have := dropE_len (es := es) (p := p) (f := f) (g := g)
  simp [putE]; exact this
theorem RelT.cnt {s : Int} {D : TbD} {es : Es} (h : RelT s D es) {i : Nat} (hi : i < s.toNat) : (D.sh.getD i []).length = (es.countP fun e => decide (shE s e.1 = (i : Int))) := by
  rw [(h.sh i hi).length_eq, List.countP_eq_length_filter]
theorem RelT.lenF {s : Int} {D : TbD} {es : Es} (h : RelT s D es) (hm : es.length ≤ 1000) : ∀ i : Nat, i ≤ s.toNat → lenF D i = ((es.countP fun e => decide (shE s e.1 < (i : Int)) : Nat) : Int)
  | 0, _ => by
    have : es.countP (fun e => decide (shE s e.1 < ((0 : Nat) : Int))) = 0 := by
      rw [List.countP_eq_zero]
      intro e he
      have := shE_in (h.wf e he) h.lo h.hi
      simp; omega
    rw [this]; rfl
  | i + 1, hi => by
    have ih := RelT.lenF h hm i (by omega)
    have hs : es.countP (fun e => decide (shE s e.1 < ((i + 1 : Nat) : Int))) = es.countP (fun e => decide (shE s e.1 < (i : Int))) + es.countP (fun e => decide (shE s e.1 = (i : Int))) := by
      clear ih h hm
      induction es with
      | nil => rfl
      | cons x r ih =>
        rw [List.countP_cons, List.countP_cons, List.countP_cons, ih]
        simp only [decide_eq_true_eq]
        repeat' split
        all_goals omega
    have hl : es.countP (fun e => decide (shE s e.1 < ((i + 1 : Nat) : Int))) ≤ es.length := List.countP_le_length
    unfold Go.Spec.lenF cntV
    rw [ih, Int.toNat_natCast, h.cnt (by omega), add64 (by omega), hs]
    omega
theorem RelT.lenT {s : Int} {D : TbD} {es : Es} (h : RelT s D es) (hm : es.length ≤ 1000) : lenT D = ((lenE es : Nat) : Int) := by
  unfold Go.Spec.lenT
  rw [h.len, h.lenF hm _ (Nat.le_refl _)]
  have : es.countP (fun e => decide (shE s e.1 < ((s.toNat : Nat) : Int))) = es.length := by
    rw [List.countP_eq_length]
    intro e he
    have := shE_in (h.wf e he) h.lo h.hi
    simp; omega
  rw [this]; rfl
theorem RelT.cntT {s : Int} {D : TbD} {es : Es} (h : RelT s D es) {x : Int} (h0 : 0 ≤ x) (h1 : x < s) : cntT D x = cntE es s x := by
  unfold Go.Spec.cntT cntE
  rw [if_pos ⟨h0, by rw [h.len]; omega⟩, h.cnt (by omega)]
  have : ((x.toNat : Nat) : Int) = x := by omega
  rw [this]; rfl
theorem RelT.cntN {s : Int} {D : TbD} {es : Es} (h : RelT s D es) : Go.Spec.cntT D s = 0 := by
  unfold Go.Spec.cntT
  have := h.lo
  rw [if_neg (by rw [h.len]; omega)]
end Go.Spec
end
section
namespace Go.Spec
open Go Go.Ev
def shardE (D : TbD) (q : Int) : Es := (keysT D q).map fun k => (k, valT D q k.1 k.2.1 k.2.2)
def uptoE (D : TbD) : Nat → Es
  | 0 => []
  | q + 1 => uptoE D q ++ shardE D (q : Int)
theorem ahead_iff {n : Int} {a b : Kx} : aheadE n a b = true ↔ shE n a < shE n b ∨ (shE n a = shE n b ∧ ltK a b = true) := by
  rw [ltK_iff]
  unfold aheadE shE
  generalize shR n a.1 a.2.1 a.2.2 = x
  generalize shR n b.1 b.2.1 b.2.2 = y
  repeat' split
  all_goals simp only [decide_eq_true_eq]
  all_goals omega
theorem ahead_irr {n : Int} {a : Kx} : aheadE n a a = false := by
  cases h : aheadE n a a
  · rfl
  · rw [ahead_iff, ltK_iff] at h; omega
theorem ahead_asym {n : Int} {a b : Kx} (h : aheadE n a b = true) : aheadE n b a = false := by
  cases h2 : aheadE n b a
  · rfl
  · rw [ahead_iff, ltK_iff] at h h2; omega
theorem ahead_trans {n : Int} {a b c : Kx} (h : aheadE n a b = true) (h2 : aheadE n b c = true) : aheadE n a c = true := by
  rw [ahead_iff, ltK_iff] at *; omega
theorem ahead_total {n : Int} {a b : Kx} (h : aheadE n a b = false) (hn : a ≠ b) : aheadE n b a = true := by
  have h1 : ¬ aheadE n a b = true := by rw [h]; decide
  rw [ahead_iff, ltK_iff] at h1
  rw [ahead_iff, ltK_iff]
  have : ¬ (a.1 = b.1 ∧ a.2.1 = b.2.1 ∧ a.2.2 = b.2.2) := fun ⟨e1, e2, e3⟩ => hn (by obtain ⟨a1, a2, a3⟩ := a; obtain ⟨b1, b2, b3⟩ := b; simp only at e1 e2 e3; rw [e1, e2, e3])
  by_cases hs : shE n a = shE n b
  · by_cases e1 : a.1 = b.1
    · by_cases e2 : a.2.1 = b.2.1 <;> omega
    · omega
  · omega
theorem sorted_one {R : Kx × Int → Kx × Int → Prop} (hi : ∀ a, ¬ R a a) (ha : ∀ a b, R a b → ¬ R b a) : ∀ {l1 l2 : Es}, l1.Pairwise R → l2.Pairwise R → (∀ x, x ∈ l1 ↔ x ∈ l2) → l1 = l2
  | [], [], _, _, _ => rfl
  | [], y :: r, _, _, h => by have := (h y).2 (List.mem_cons_self ..); simp at this
  | x :: r, [], _, _, h => by have := (h x).1 (List.mem_cons_self ..); simp at this
  | x :: r1, y :: r2, h1, h2, h => by
    obtain ⟨a1, b1⟩ := List.pairwise_cons.1 h1
    obtain ⟨a2, b2⟩ := List.pairwise_cons.1 h2
    have exy : x = y := by
      rcases List.mem_cons.1 ((h x).1 (List.mem_cons_self ..)) with e | e
      · exact e
      · rcases List.mem_cons.1 ((h y).2 (List.mem_cons_self ..)) with e' | e'
        · exact e'.symm
        · exact absurd (a1 y e') (ha _ _ (a2 x e))
    subst exy
    rw [sorted_one hi ha b1 b2 fun z => ?_]
    constructor
    · intro hz
      rcases List.mem_cons.1 ((h z).1 (List.mem_cons_of_mem _ hz)) with e | e
      · subst e; exact absurd (a1 z hz) (hi z)
      · exact e
    · intro hz
      rcases List.mem_cons.1 ((h z).2 (List.mem_cons_of_mem _ hz)) with e | e
      · subst e; exact absurd (a2 z hz) (hi z)
      · exact e
def aheadP (n : Int) (a b : Kx × Int) : Prop := aheadE n a.1 b.1 = true
theorem insBy_mem {lt : Kx → Bool} {x y : Kx × Int} : ∀ {l : Es}, y ∈ insBy lt x l ↔ y = x ∨ y ∈ l
  | [] => by simp [insBy]
  | z :: r => by
    unfold insBy
    split
    · rw [List.mem_cons, insBy_mem, List.mem_cons]
      constructor
      · rintro (h | h | h)
        · exact .inr (.inl h)
        · exact .inl h
        · exact .inr (.inr h)
      · rintro (h | h | h)
        · exact .inr (.inl h)
        · exact .inl h
        · exact .inr (.inr h)
    · simp
theorem insE_sorted {n : Int} {x : Kx × Int} : ∀ {l : Es}, l.Pairwise (aheadP n) → (∀ y ∈ l, y.1 ≠ x.1) → (insE n x l).Pairwise (aheadP n)
  | [], _, _ => by simp [insE, insBy]
  | y :: r, h, hn => by
    obtain ⟨h1, h2⟩ := List.pairwise_cons.1 h
    have ih := insE_sorted (n := n) (x := x) h2 fun z hz => hn z (List.mem_cons_of_mem _ hz)
    unfold insE at ih ⊢
    unfold insBy
    split
    · rename_i e
      refine List.pairwise_cons.2 ⟨fun z hz => ?_, ih⟩
      rcases insBy_mem.1 hz with rfl | hz
      · exact e
      · exact h1 z hz
    · rename_i e
      have hxy : aheadP n x y := ahead_total e (hn y (List.mem_cons_self ..))
      refine List.pairwise_cons.2 ⟨fun z hz => ?_, h⟩
      rcases List.mem_cons.1 hz with rfl | hz
      · exact hxy
      · exact ahead_trans hxy (h1 z hz)
theorem eachE_facts {n : Int} {es : Es} (hn : (es.map (·.1)).Nodup) : (∀ x, x ∈ eachE n es ↔ x ∈ es) ∧ (eachE n es).Pairwise (aheadP n) := by
  have key : ∀ (l out : Es), ((out ++ l).map (·.1)).Nodup → out.Pairwise (aheadP n) → (∀ x, x ∈ l.foldl (fun out x => insE n x out) out ↔ x ∈ out ∨ x ∈ l) ∧ (l.foldl (fun out x => insE n x out) out).Pairwise (aheadP n) := by
    intro l
    induction l with
    | nil => intro out _ hs; exact ⟨fun x => by simp, hs⟩
    | cons y r ih =>
      intro out hnd hs
      rw [List.foldl_cons]
      have hnd' : ((insE n y out ++ r).map (·.1)).Nodup := by
        have hp : (insE n y out).Perm (y :: out) := by
          unfold insE
          generalize (fun k => aheadE n k y.1) = lt
          clear hnd hs ih
          induction out with
          | nil => exact List.Perm.refl _
          | cons z r ih =>
            unfold insBy
            split
            · exact (List.Perm.cons z ih).trans (List.Perm.swap _ _ _)
            · exact List.Perm.refl _
        have hp2 : (insE n y out ++ r).Perm (out ++ y :: r) := ((hp.append_right r).trans (by simpa using (List.perm_middle (l₁ := out) (a := y) (l₂ := r)).symm))
        exact (hp2.map _).nodup_iff.2 hnd
      have hy : ∀ z ∈ out, z.1 ≠ y.1 := by
        rw [List.map_append, List.nodup_append] at hnd
        exact fun z hz => hnd.2.2 z.1 (List.mem_map.2 ⟨z, hz, rfl⟩) y.1 (by simp)
      obtain ⟨i1, i2⟩ := ih (insE n y out) hnd' (insE_sorted hs hy)
      refine ⟨fun x => ?_, i2⟩
      rw [i1 x]
      unfold insE
      rw [insBy_mem, List.mem_cons]
      constructor
      · rintro ((h | h) | h)
        · exact .inr (.inl h)
        · exact .inl h
        · exact .inr (.inr h)
      · rintro (h | h | h)
        · exact .inl (.inr h)
        · exact .inl (.inl h)
        · exact .inr h
  obtain ⟨k1, k2⟩ := key es [] (by simpa using hn) List.Pairwise.nil
  exact ⟨fun x => by have := k1 x; simpa [eachE] using this, k2⟩
section
variable {s : Int} {D : TbD} {es : Es}
theorem keysT_mem {q : Int} {k : Kx} : k ∈ keysT D q ↔ ∃ v, (k, v) ∈ D.sh.getD q.toNat [] := by
  unfold keysT
  rw [sortK_perm.mem_iff, List.mem_map]
  constructor
  · rintro ⟨e, he, rfl⟩; exact ⟨e.2, he⟩
  · rintro ⟨v, hv⟩; exact ⟨_, hv, rfl⟩
theorem valT_of (h : RelT s D es) {q : Nat} (hq : q < s.toNat) {k : Kx} {v : Int} (hv : (k, v) ∈ D.sh.getD q []) : valT D (q : Int) k.1 k.2.1 k.2.2 = v := by
  have := look_one (h.sub hq) hv
  unfold valT
  rw [Int.toNat_natCast]
  unfold lookS at this
  rw [show ((k.1, k.2.1, k.2.2) : Kx) = k from rfl, this]; rfl
theorem shardE_mem (h : RelT s D es) {q : Nat} (hq : q < s.toNat) {e : Kx × Int} : e ∈ shardE D (q : Int) ↔ e ∈ es ∧ shE s e.1 = (q : Int) := by
  unfold shardE
  rw [List.mem_map, ← h.mem hq]
  constructor
  · rintro ⟨k, hk, rfl⟩
    obtain ⟨v, hv⟩ := keysT_mem.1 hk
    rw [Int.toNat_natCast] at hv
    rw [valT_of h hq hv]; exact hv
  · intro he
    refine ⟨e.1, keysT_mem.2 ⟨e.2, by rw [Int.toNat_natCast]; exact he⟩, ?_⟩
    rw [valT_of h hq (k := e.1) (v := e.2) he]
theorem keysT_lt (h : RelT s D es) {q : Nat} (hq : q < s.toNat) : (keysT D (q : Int)).Pairwise fun a b => ltK a b = true := by
  have h1 := sortK_sorted (l := (D.sh.getD (q : Int).toNat []).map (·.1))
  have h2 : (keysT D (q : Int)).Nodup := sortK_perm.nodup_iff.2 (by rw [Int.toNat_natCast]; exact h.sub hq)
  refine List.Pairwise.imp₂ (fun {a b} h1 h2 => ?_) h1 h2
  cases hl : ltK a b
  · exact absurd (oneK a b hl h1) h2
  · rfl
theorem uptoE_facts (h : RelT s D es) : ∀ q : Nat, q ≤ s.toNat → (∀ e, e ∈ uptoE D q ↔ e ∈ es ∧ shE s e.1 < (q : Int)) ∧ (uptoE D q).Pairwise (aheadP s)
  | 0, _ => ⟨fun e => by
      simp only [uptoE, List.not_mem_nil, false_iff]
      rintro ⟨he, hl⟩
      have := shE_in (h.wf e he) h.lo h.hi
      omega, List.Pairwise.nil⟩
  | q + 1, hq => by
    obtain ⟨i1, i2⟩ := uptoE_facts h q (by omega)
    have hm := fun e => shardE_mem (e := e) h (q := q) (by omega)
    constructor
    · intro e
      unfold uptoE
      rw [List.mem_append, i1, hm]
      constructor
      · rintro (⟨a, b⟩ | ⟨a, b⟩) <;> exact ⟨a, by omega⟩
      · rintro ⟨a, b⟩
        by_cases hb : shE s e.1 = (q : Int)
        · exact .inr ⟨a, hb⟩
        · exact .inl ⟨a, by omega⟩
    · unfold uptoE
      rw [List.pairwise_append]
      refine ⟨i2, ?_, fun a ha b hb => ?_⟩
      · have hx : ∀ e ∈ shardE D (q : Int), shE s e.1 = (q : Int) := fun e he => ((hm e).1 he).2
        have hp : (shardE D (q : Int)).Pairwise fun a b => ltK a.1 b.1 = true := by
          unfold shardE
          rw [List.pairwise_map]
          exact keysT_lt h (by omega)
        refine List.Pairwise.imp_of_mem (fun {a b} ha hb hl => ?_) hp
        unfold aheadP
        rw [ahead_iff, hx a ha, hx b hb]
        exact .inr ⟨rfl, hl⟩
      · have h1 := (i1 a).1 ha
        have h2 := (hm b).1 hb
        unfold aheadP
        rw [ahead_iff]
        exact .inl (by omega)
theorem upto_each (h : RelT s D es) : uptoE D s.toNat = eachE s es := by
  obtain ⟨u1, u2⟩ := uptoE_facts h s.toNat (Nat.le_refl _)
  obtain ⟨e1, e2⟩ := eachE_facts (n := s) h.nd
  refine sorted_one (R := aheadP s) (fun a ha => ?_) (fun a b hab hba => ?_) u2 e2 fun x => ?_
  · unfold aheadP at ha; rw [ahead_irr] at ha; cases ha
  · unfold aheadP at hab hba; rw [ahead_asym hab] at hba; cases hba
  · rw [u1, e1]
    exact ⟨fun a => a.1, fun a => ⟨a, by have := shE_in (h.wf x a) h.lo h.hi; omega⟩⟩
theorem eachE_nd (h : RelT s D es) : ((eachE s es).map (·.1)).Nodup := by
  have := (eachE_facts (n := s) h.nd).2
  refine List.pairwise_map.2 (this.imp fun {a b} hab e => ?_)
  unfold aheadP at hab
  rw [e, ahead_irr] at hab; cases hab
theorem uptoE_len (h : RelT s D es) : ∀ q : Nat, q ≤ s.toNat → (uptoE D q).length ≤ es.length := by
  have hall : (uptoE D s.toNat).length = es.length := by rw [upto_each h]; exact eachE_len
  have mono : ∀ (d q : Nat), q + d ≤ s.toNat → (uptoE D q).length ≤ (uptoE D (q + d)).length := by
    intro d
    induction d with
    | zero => intro q _; exact Nat.le_refl _
    | succ d ih =>
      intro q hq
      refine Nat.le_trans (ih q (by omega)) ?_
      rw [show q + (d + 1) = (q + d) + 1 from by omega]
      show _ ≤ (uptoE D (q + d) ++ shardE D _).length
      rw [List.length_append]; omega
  intro q hq
  have := mono (s.toNat - q) q (by omega)
  rw [show q + (s.toNat - q) = s.toNat from by omega, hall] at this
  exact this
end
end Go.Spec
end
