/- ResetOrder: texts AnT, DsT, SrT, AlT0, AlT1, ThT0, ThT1, ThS, AlS, GaT0, GaT1, GaS, SrS, DsS, AnS, MaS, RoK, RoQ, one behind the other. No conditions. -/
import Derived.Test.YtjeinfbicgpkiaaRzA
import Derived.Test.YtjeinfbicgpkiaaEvD
set_option linter.unusedVariables false
set_option linter.unusedSimpArgs false
section
namespace Go.Ev
open Go Go.Proofs Go.Spec
theorem t_an0 (s : Sr) (rn ra : Int) (N : Nat) (k : SV → St → Prop) : evCall cxAn (ev cxAn (N + 60)) 20 [.one (.ptr 0 0 0), .agg [iv .u32 rn, iv .u8 ra]] (sideW 0 { s with o := none } []) k =
    (k (.sa (.one (iv .i64 (4)))) (sideW 0 { s with o := none } [])) := by
  rcases s with ⟨os, ps, qs, cum, zs, bs, cl, nx, ex, o, _ | ⟨_, _⟩⟩ <;> kernel_rfl
theorem t_an1 (s : Sr) (rn ra n kd mo : Int) (ss : List Int) (N : Nat) (k : SV → St → Prop) : evCall cxAn (ev cxAn (N + 60)) 20 [.one (.ptr 0 0 0), .agg [iv .u32 rn, iv .u8 ra]] (sideY 1 2 (own16 s.os) (own16 s.ps) (.ptr 7 0 0) s (n, kd, ss, mo) []) k =
    (branch (Bool.not (eqK (subK .u32 n rn) (0))) (branch (decide (((subK .u32 n rn) < (2147483648)))) (k (.sa (.one (iv .i64 (8)))) (sideY 1 2 (own16 s.os) (own16 s.ps) (.ptr 7 0 0) s (n, kd, ss, mo) [])) (branch (Bool.not (eqK rn n)) (k (.sa (.one (iv .i64 (5)))) (sideY 1 2 (own16 s.os) (own16 s.ps) (.ptr 7 0 0) s (n, kd, ss, mo) [])) (branch (Bool.not (eqK ra (1))) (k (.sa (.one (iv .i64 (0)))) (sideY 1 2 (own16 s.os) (own16 s.ps) nilP s (n, kd, ss, mo) [])) (branch (eqK kd (2)) (need (decide (((0) ≤ mo))) (need (decide ((mo ≤ mo))) (need (decide (((mo * (2)) ≤ (140737488355328)))) (need (decide ((mo < (9223372036854775808)))) (need (decide (((0 + (Int.toNat mo)) ≤ (List.length (List.replicate (Int.toNat mo) (0 : Int)))))) (need (decide (((((List.length s.os) + (List.length (List.take (Int.toNat mo) (List.replicate (Int.toNat mo) (0 : Int))))) * 2) ≤ 140737488355328))) (need (decide (((0 + (Int.toNat mo)) ≤ (List.length (List.replicate (Int.toNat mo) (0 : Int)))))) (need (decide (((((List.length s.ps) + (List.length (List.take (Int.toNat mo) (List.replicate (Int.toNat mo) (0 : Int))))) * 2) ≤ 140737488355328))) (k (.sa (.one (iv .i64 (0)))) (sideY (11 + nQ s.kp) (12 + nQ s.kp) none none nilP s (n, kd, ss, mo) [own16 (s.os ++ (List.take (Int.toNat mo) (List.replicate (Int.toNat mo) (0 : Int)))), own16 (s.ps ++ (List.take (Int.toNat mo) (List.replicate (Int.toNat mo) (0 : Int))))])))))))))) (need (decide ((((0) ≤ (((List.length s.os) : Nat) : Int)) ∧ ((((List.length s.os) : Nat) : Int) ≤ (65535))))) (branch (decide ((0 < (List.length ss)))) (ev cxAn (N + 51) (11 + nQ s.kp) 20 (codeAt Try.prog 20 [1, 1, 1, 1, 1, 1, 0, 1, 0]) (frm 85 [(0, (.sa (.one (SC.ptr 0 0 0)))), (72, (.sa (.one (SC.ref 8)))), (73, (.sa (.one (iv .i64 (((List.length ss) : Nat) : Int))))), (74, (.sa (.one (iv .i64 (0)))))]) (sideY 1 2 (own16 s.os) (own16 s.ps) nilP s (n, kd, ss, mo) []) (kBlock 0 (kSeq (ev cxAn (N + 53) (11 + nQ s.kp) 20 (codeAt Try.prog 20 [1, 1, 1, 1, 1, 1, 1])) (kRet (Cx.P cxAn) [(ResultVar.tmp 4)] (11 + nQ s.kp) k)))) (ev cxAn (N + 51) (11 + nQ s.kp) 20 (codeAt Try.prog 20 [1, 1, 1, 1, 1, 1, 0, 1, 0]) (frm 85 [(0, (.sa (.one (SC.ptr 0 0 0)))), (72, (.sa (.one (SC.ref (11 + nQ s.kp))))), (73, (.sa (.one (iv .i64 (((List.length (upI (0) (Int.toNat (((List.length s.os) : Nat) : Int)))) : Nat) : Int))))), (74, (.sa (.one (iv .i64 (0)))))]) (sideY 1 2 (own16 s.os) (own16 s.ps) nilP s (n, kd, ss, mo) [own16 (upI (0) (Int.toNat (((List.length s.os) : Nat) : Int)))]) (kBlock 0 (kSeq (ev cxAn (N + 53) (11 + nQ s.kp) 20 (codeAt Try.prog 20 [1, 1, 1, 1, 1, 1, 1])) (kRet (Cx.P cxAn) [(ResultVar.tmp 4)] (11 + nQ s.kp) k)))))))))) (branch (Bool.not (eqK rn n)) (k (.sa (.one (iv .i64 (5)))) (sideY 1 2 (own16 s.os) (own16 s.ps) (.ptr 7 0 0) s (n, kd, ss, mo) [])) (branch (Bool.not (eqK ra (1))) (k (.sa (.one (iv .i64 (0)))) (sideY 1 2 (own16 s.os) (own16 s.ps) nilP s (n, kd, ss, mo) [])) (branch (eqK kd (2)) (need (decide (((0) ≤ mo))) (need (decide ((mo ≤ mo))) (need (decide (((mo * (2)) ≤ (140737488355328)))) (need (decide ((mo < (9223372036854775808)))) (need (decide (((0 + (Int.toNat mo)) ≤ (List.length (List.replicate (Int.toNat mo) (0 : Int)))))) (need (decide (((((List.length s.os) + (List.length (List.take (Int.toNat mo) (List.replicate (Int.toNat mo) (0 : Int))))) * 2) ≤ 140737488355328))) (need (decide (((0 + (Int.toNat mo)) ≤ (List.length (List.replicate (Int.toNat mo) (0 : Int)))))) (need (decide (((((List.length s.ps) + (List.length (List.take (Int.toNat mo) (List.replicate (Int.toNat mo) (0 : Int))))) * 2) ≤ 140737488355328))) (k (.sa (.one (iv .i64 (0)))) (sideY (11 + nQ s.kp) (12 + nQ s.kp) none none nilP s (n, kd, ss, mo) [own16 (s.os ++ (List.take (Int.toNat mo) (List.replicate (Int.toNat mo) (0 : Int)))), own16 (s.ps ++ (List.take (Int.toNat mo) (List.replicate (Int.toNat mo) (0 : Int))))])))))))))) (need (decide ((((0) ≤ (((List.length s.os) : Nat) : Int)) ∧ ((((List.length s.os) : Nat) : Int) ≤ (65535))))) (branch (decide ((0 < (List.length ss)))) (ev cxAn (N + 51) (11 + nQ s.kp) 20 (codeAt Try.prog 20 [1, 1, 1, 1, 1, 1, 0, 1, 0]) (frm 85 [(0, (.sa (.one (SC.ptr 0 0 0)))), (72, (.sa (.one (SC.ref 8)))), (73, (.sa (.one (iv .i64 (((List.length ss) : Nat) : Int))))), (74, (.sa (.one (iv .i64 (0)))))]) (sideY 1 2 (own16 s.os) (own16 s.ps) nilP s (n, kd, ss, mo) []) (kBlock 0 (kSeq (ev cxAn (N + 53) (11 + nQ s.kp) 20 (codeAt Try.prog 20 [1, 1, 1, 1, 1, 1, 1])) (kRet (Cx.P cxAn) [(ResultVar.tmp 4)] (11 + nQ s.kp) k)))) (ev cxAn (N + 51) (11 + nQ s.kp) 20 (codeAt Try.prog 20 [1, 1, 1, 1, 1, 1, 0, 1, 0]) (frm 85 [(0, (.sa (.one (SC.ptr 0 0 0)))), (72, (.sa (.one (SC.ref (11 + nQ s.kp))))), (73, (.sa (.one (iv .i64 (((List.length (upI (0) (Int.toNat (((List.length s.os) : Nat) : Int)))) : Nat) : Int))))), (74, (.sa (.one (iv .i64 (0)))))]) (sideY 1 2 (own16 s.os) (own16 s.ps) nilP s (n, kd, ss, mo) [own16 (upI (0) (Int.toNat (((List.length s.os) : Nat) : Int)))]) (kBlock 0 (kSeq (ev cxAn (N + 53) (11 + nQ s.kp) 20 (codeAt Try.prog 20 [1, 1, 1, 1, 1, 1, 1])) (kRet (Cx.P cxAn) [(ResultVar.tmp 4)] (11 + nQ s.kp) k)))))))))) := by
  rcases s with ⟨os, ps, qs, cum, zs, bs, cl, nx, ex, _ | _, _ | ⟨_, _⟩⟩ <;> kernel_rfl
theorem t_anA (s : Sr) (len i n kd mo : Int) (ss os : List Int) (L M : Nat) (k : SV → St → Prop) : ev cxAn (L + 51) (11 + nQ s.kp) 20 (codeAt Try.prog 20 [1, 1, 1, 1, 1, 1, 0, 1, 0]) (frm 85 [(0, (.sa (.one (SC.ptr 0 0 0)))), (72, (.sa (.one (SC.ref 8)))), (73, (.sa (.one (iv .i64 len)))), (74, (.sa (.one (iv .i64 i))))]) (sideY 1 2 (own16 os) (own16 s.ps) nilP s (n, kd, ss, mo) []) (kBlock 0 (kSeq (ev cxAn (M + 53) (11 + nQ s.kp) 20 (codeAt Try.prog 20 [1, 1, 1, 1, 1, 1, 1])) (kRet (Cx.P cxAn) [(ResultVar.tmp 4)] (11 + nQ s.kp) k))) =
    (Again (branch (decide ((i < len))) (need (decide (((0) ≤ i))) (need (decide ((i < (((List.length ss) : Nat) : Int)))) (need (decide (((0 + (Int.toNat i)) < (List.length ss)))) (need (decide (((0) ≤ (List.getD ss (0 + (Int.toNat i)) (0))))) (need (decide (((List.getD ss (0 + (Int.toNat i)) (0)) < (((List.length os) : Nat) : Int)))) (need (decide (((0 + (Int.toNat (List.getD ss (0 + (Int.toNat i)) (0)))) < (List.length os)))) (ev cxAn (L + 50) (11 + nQ s.kp) 20 (codeAt Try.prog 20 [1, 1, 1, 1, 1, 1, 0, 1, 0]) (frm 85 [(0, (.sa (.one (SC.ptr 0 0 0)))), (72, (.sa (.one (SC.ref 8)))), (73, (.sa (.one (iv .i64 len)))), (74, (.sa (.one (iv .i64 (addK .i64 i (1))))))]) (sideY 1 2 (own16 (List.set os (0 + (Int.toNat (List.getD ss (0 + (Int.toNat i)) (0)))) (0))) (own16 s.ps) nilP s (n, kd, ss, mo) []) (kBlock 0 (kSeq (ev cxAn (M + 53) (11 + nQ s.kp) 20 (codeAt Try.prog 20 [1, 1, 1, 1, 1, 1, 1])) (kRet (Cx.P cxAn) [(ResultVar.tmp 4)] (11 + nQ s.kp) k)))))))))) (k (.sa (.one (iv .i64 (0)))) (sideY 1 2 (own16 os) (own16 s.ps) nilP s (n, kd, ss, mo) [])))) := by
  rcases s with ⟨os, ps, qs, cum, zs, bs, cl, nx, ex, _ | _, _ | ⟨_, _⟩⟩ <;> kernel_rfl
theorem t_anB (s : Sr) (len i n kd mo : Int) (ss ys os : List Int) (L M : Nat) (k : SV → St → Prop) : ev cxAn (L + 51) (11 + nQ s.kp) 20 (codeAt Try.prog 20 [1, 1, 1, 1, 1, 1, 0, 1, 0]) (frm 85 [(0, (.sa (.one (SC.ptr 0 0 0)))), (72, (.sa (.one (SC.ref (11 + nQ s.kp))))), (73, (.sa (.one (iv .i64 len)))), (74, (.sa (.one (iv .i64 i))))]) (sideY 1 2 (own16 os) (own16 s.ps) nilP s (n, kd, ss, mo) [own16 ys]) (kBlock 0 (kSeq (ev cxAn (M + 53) (11 + nQ s.kp) 20 (codeAt Try.prog 20 [1, 1, 1, 1, 1, 1, 1])) (kRet (Cx.P cxAn) [(ResultVar.tmp 4)] (11 + nQ s.kp) k))) =
    (Again (branch (decide ((i < len))) (need (decide (((0) ≤ i))) (need (decide ((i < (((List.length ys) : Nat) : Int)))) (need (decide (((0 + (Int.toNat i)) < (List.length ys)))) (need (decide (((0) ≤ (List.getD ys (0 + (Int.toNat i)) (0))))) (need (decide (((List.getD ys (0 + (Int.toNat i)) (0)) < (((List.length os) : Nat) : Int)))) (need (decide (((0 + (Int.toNat (List.getD ys (0 + (Int.toNat i)) (0)))) < (List.length os)))) (ev cxAn (L + 50) (11 + nQ s.kp) 20 (codeAt Try.prog 20 [1, 1, 1, 1, 1, 1, 0, 1, 0]) (frm 85 [(0, (.sa (.one (SC.ptr 0 0 0)))), (72, (.sa (.one (SC.ref (11 + nQ s.kp))))), (73, (.sa (.one (iv .i64 len)))), (74, (.sa (.one (iv .i64 (addK .i64 i (1))))))]) (sideY 1 2 (own16 (List.set os (0 + (Int.toNat (List.getD ys (0 + (Int.toNat i)) (0)))) (0))) (own16 s.ps) nilP s (n, kd, ss, mo) [own16 ys]) (kBlock 0 (kSeq (ev cxAn (M + 53) (11 + nQ s.kp) 20 (codeAt Try.prog 20 [1, 1, 1, 1, 1, 1, 1])) (kRet (Cx.P cxAn) [(ResultVar.tmp 4)] (11 + nQ s.kp) k)))))))))) (k (.sa (.one (iv .i64 (0)))) (sideY 1 2 (own16 os) (own16 s.ps) nilP s (n, kd, ss, mo) [])))) := by
  rcases s with ⟨os, ps, qs, cum, zs, bs, cl, nx, ex, _ | _, _ | ⟨_, _⟩⟩ <;> kernel_rfl
end Go.Ev
end
section
namespace Go.Ev
open Go Go.Proofs Go.Spec
theorem t_ds (s : Sr) (w : Bool) (kk : MK) (T : TypeId) (kd more : Int) (xs : List Int) (N : Nat) (k : SV → St → Prop) : evCall cxDs (ev cxDs (N + 60)) 33 [.one (.ptr 0 0 0), .agg [iv .u8 kd, .ref (nW s), iv .u16 more]] (sideW 0 s [anyR w kk T xs]) k =
    (branch (eqK kd (1)) (need (decide (((0 + (List.length xs)) ≤ (List.length xs)))) (need ((decide (((List.length (List.take (List.length xs) xs)) ≤ 70368744177664))) && (okU16 (List.take (List.length xs) xs))) (branch (thereB (((List.length s.qs) : Nat) : Int) (List.take (List.length xs) xs)) (need (decide ((((0) ≤ (((List.length s.qs) : Nat) : Int)) ∧ ((((List.length s.qs) : Nat) : Int) ≤ (65535))))) (branch (decide ((0 < (List.length xs)))) (ev cxDs (N + 52) (nW s + 1) 33 (codeAt Try.prog 33 [1, 0, 0, 1, 0, 0, 1, 0]) (frm 67 [(0, (.sa (.one (SC.ptr 0 0 0)))), (28, (.sa (.one (SC.ref (nW s))))), (29, (.sa (.one (iv .i64 (((List.length xs) : Nat) : Int))))), (30, (.sa (.one (iv .i64 (0)))))]) (sideW 0 s [anyR w kk T xs]) (kBlock 1 (kSeq (ev cxDs (N + 54) (nW s + 1) 33 (codeAt Try.prog 33 [1, 0, 0, 1, 0, 1])) (kBlock 0 (kSeq (ev cxDs (N + 58) (nW s + 1) 33 (codeAt Try.prog 33 [1, 1])) (kRet (Cx.P cxDs) [(ResultVar.tmp 4)] (nW s + 1) k)))))) (ev cxDs (N + 52) (nW s + 1) 33 (codeAt Try.prog 33 [1, 0, 0, 1, 0, 0, 1, 0]) (frm 67 [(0, (.sa (.one (SC.ptr 0 0 0)))), (28, (.sa (.one (SC.ref (nW s + 1))))), (29, (.sa (.one (iv .i64 (((List.length (upI (0) (Int.toNat (((List.length s.qs) : Nat) : Int)))) : Nat) : Int))))), (30, (.sa (.one (iv .i64 (0)))))]) (sideW 0 s [anyR w kk T xs, own16 (upI (0) (Int.toNat (((List.length s.qs) : Nat) : Int)))]) (kBlock 1 (kSeq (ev cxDs (N + 54) (nW s + 1) 33 (codeAt Try.prog 33 [1, 0, 0, 1, 0, 1])) (kBlock 0 (kSeq (ev cxDs (N + 58) (nW s + 1) 33 (codeAt Try.prog 33 [1, 1])) (kRet (Cx.P cxDs) [(ResultVar.tmp 4)] (nW s + 1) k)))))))) (branch (eqK kd (2)) (branch (decide (((addK .i64 (((List.length s.qs) : Nat) : Int) (IntKind.wrap .i64 more)) ≤ (16)))) (need (decide (((0) ≤ more))) (need (decide ((more < (9223372036854775808)))) (need (decide (((more * (2)) ≤ (281474976710656)))) (need (decide (((((List.length s.qs) + (List.length (List.replicate (Int.toNat more) (0 : Int)))) * 2) ≤ 140737488355328))) (k (.sa (.one (iv .u8 (1)))) (sideX 0 s 1 2 (nW s + 1) (own16 s.os) (own16 s.ps) none [anyR w kk T xs, own16 (s.qs ++ (List.replicate (Int.toNat more) (0 : Int)))])))))) (k (.sa (.one (iv .u8 (2)))) (sideW 0 s [anyR w kk T xs]))) (k (.sa (.one (iv .u8 (2)))) (sideW 0 s [anyR w kk T xs])))))) (branch (eqK kd (2)) (branch (decide (((addK .i64 (((List.length s.qs) : Nat) : Int) (IntKind.wrap .i64 more)) ≤ (16)))) (need (decide (((0) ≤ more))) (need (decide ((more < (9223372036854775808)))) (need (decide (((more * (2)) ≤ (281474976710656)))) (need (decide (((((List.length s.qs) + (List.length (List.replicate (Int.toNat more) (0 : Int)))) * 2) ≤ 140737488355328))) (k (.sa (.one (iv .u8 (1)))) (sideX 0 s 1 2 (nW s + 1) (own16 s.os) (own16 s.ps) none [anyR w kk T xs, own16 (s.qs ++ (List.replicate (Int.toNat more) (0 : Int)))])))))) (k (.sa (.one (iv .u8 (2)))) (sideW 0 s [anyR w kk T xs]))) (k (.sa (.one (iv .u8 (2)))) (sideW 0 s [anyR w kk T xs])))) := by
  rcases s with ⟨os, ps, qs, cum, zs, bs, cl, nx, ex, _ | ⟨n, kd, ss, mo⟩, _ | ⟨rn, ra⟩⟩ <;> kernel_rfl
theorem t_dsA (s : Sr) (w : Bool) (kk : MK) (T : TypeId) (len i : Int) (xs : List Int) (L M : Nat) (k : SV → St → Prop) : ev cxDs (L + 52) (nW s + 1) 33 (codeAt Try.prog 33 [1, 0, 0, 1, 0, 0, 1, 0]) (frm 67 [(0, (.sa (.one (SC.ptr 0 0 0)))), (28, (.sa (.one (SC.ref (nW s))))), (29, (.sa (.one (iv .i64 len)))), (30, (.sa (.one (iv .i64 i))))]) (sideW 0 s [anyR w kk T xs]) (kBlock 1 (kSeq (ev cxDs (M + 54) (nW s + 1) 33 (codeAt Try.prog 33 [1, 0, 0, 1, 0, 1])) (kBlock 0 (kSeq (ev cxDs (M + 58) (nW s + 1) 33 (codeAt Try.prog 33 [1, 1])) (kRet (Cx.P cxDs) [(ResultVar.tmp 4)] (nW s + 1) k))))) =
    (Again (branch (decide ((i < len))) (need (decide (((0) ≤ i))) (need (decide ((i < (((List.length xs) : Nat) : Int)))) (need (decide (((0 + (Int.toNat i)) < (List.length xs)))) (need (decide (((0) ≤ (List.getD xs (0 + (Int.toNat i)) (0))))) (need (decide (((List.getD xs (0 + (Int.toNat i)) (0)) < (((List.length s.qs) : Nat) : Int)))) (need (decide (((0 + (Int.toNat (List.getD xs (0 + (Int.toNat i)) (0)))) < (List.length s.qs)))) (ev cxDs (L + 51) (nW s + 1) 33 (codeAt Try.prog 33 [1, 0, 0, 1, 0, 0, 1, 0]) (frm 67 [(0, (.sa (.one (SC.ptr 0 0 0)))), (28, (.sa (.one (SC.ref (nW s))))), (29, (.sa (.one (iv .i64 len)))), (30, (.sa (.one (iv .i64 (addK .i64 i (1))))))]) (sideW 0 { s with qs := (List.set s.qs (0 + (Int.toNat (List.getD xs (0 + (Int.toNat i)) (0)))) (0)) } [anyR w kk T xs]) (kBlock 1 (kSeq (ev cxDs (M + 54) (nW s + 1) 33 (codeAt Try.prog 33 [1, 0, 0, 1, 0, 1])) (kBlock 0 (kSeq (ev cxDs (M + 58) (nW s + 1) 33 (codeAt Try.prog 33 [1, 1])) (kRet (Cx.P cxDs) [(ResultVar.tmp 4)] (nW s + 1) k)))))))))))) (k (.sa (.one (iv .u8 (1)))) (sideW 0 s [anyR w kk T xs])))) := by
  rcases s with ⟨os, ps, qs, cum, zs, bs, cl, nx, ex, _ | ⟨n, kd, ss, mo⟩, _ | ⟨rn, ra⟩⟩ <;> kernel_rfl
theorem t_dsB (s : Sr) (w : Bool) (kk : MK) (T : TypeId) (len i : Int) (xs ys : List Int) (L M : Nat) (k : SV → St → Prop) : ev cxDs (L + 52) (nW s + 1) 33 (codeAt Try.prog 33 [1, 0, 0, 1, 0, 0, 1, 0]) (frm 67 [(0, (.sa (.one (SC.ptr 0 0 0)))), (28, (.sa (.one (SC.ref (nW s + 1))))), (29, (.sa (.one (iv .i64 len)))), (30, (.sa (.one (iv .i64 i))))]) (sideW 0 s [anyR w kk T xs, own16 ys]) (kBlock 1 (kSeq (ev cxDs (M + 54) (nW s + 1) 33 (codeAt Try.prog 33 [1, 0, 0, 1, 0, 1])) (kBlock 0 (kSeq (ev cxDs (M + 58) (nW s + 1) 33 (codeAt Try.prog 33 [1, 1])) (kRet (Cx.P cxDs) [(ResultVar.tmp 4)] (nW s + 1) k))))) =
    (Again (branch (decide ((i < len))) (need (decide (((0) ≤ i))) (need (decide ((i < (((List.length ys) : Nat) : Int)))) (need (decide (((0 + (Int.toNat i)) < (List.length ys)))) (need (decide (((0) ≤ (List.getD ys (0 + (Int.toNat i)) (0))))) (need (decide (((List.getD ys (0 + (Int.toNat i)) (0)) < (((List.length s.qs) : Nat) : Int)))) (need (decide (((0 + (Int.toNat (List.getD ys (0 + (Int.toNat i)) (0)))) < (List.length s.qs)))) (ev cxDs (L + 51) (nW s + 1) 33 (codeAt Try.prog 33 [1, 0, 0, 1, 0, 0, 1, 0]) (frm 67 [(0, (.sa (.one (SC.ptr 0 0 0)))), (28, (.sa (.one (SC.ref (nW s + 1))))), (29, (.sa (.one (iv .i64 len)))), (30, (.sa (.one (iv .i64 (addK .i64 i (1))))))]) (sideW 0 { s with qs := (List.set s.qs (0 + (Int.toNat (List.getD ys (0 + (Int.toNat i)) (0)))) (0)) } [anyR w kk T xs, own16 ys]) (kBlock 1 (kSeq (ev cxDs (M + 54) (nW s + 1) 33 (codeAt Try.prog 33 [1, 0, 0, 1, 0, 1])) (kBlock 0 (kSeq (ev cxDs (M + 58) (nW s + 1) 33 (codeAt Try.prog 33 [1, 1])) (kRet (Cx.P cxDs) [(ResultVar.tmp 4)] (nW s + 1) k)))))))))))) (k (.sa (.one (iv .u8 (1)))) (sideW 0 s [anyR w kk T xs])))) := by
  rcases s with ⟨os, ps, qs, cum, zs, bs, cl, nx, ex, _ | ⟨n, kd, ss, mo⟩, _ | ⟨rn, ra⟩⟩ <;> kernel_rfl
end Go.Ev
end
section
namespace Go.Ev
open Go Go.Proofs Go.Spec
theorem t_im (s : Sr) (w : Bool) (kk : MK) (T : TypeId) (xs : List Int) (N : Nat) (k : SV → St → Prop) : evCall cxIm (ev cxIm (N + 60)) 57 [.one (.ref 0), .one (.ref 1)] (mayS w kk T xs s) k =
    (ev cxIm (N + 56) (3 + nW s) 57 (codeAt Try.prog 57 [1, 0, 1, 0]) (frm 19 [(0, (.sa (.one (SC.ref 0)))), (1, (.sa (.one (SC.ref 1)))), (7, (.sa (.one (iv .i64 (((List.length xs) : Nat) : Int))))), (8, (.sa (.one (iv .i64 (0)))))]) (mayS w kk T xs s) (kBlock 0 (kSeq (ev cxIm (N + 58) (3 + nW s) 57 (codeAt Try.prog 57 [1, 1])) (kRet (Cx.P cxIm) [(ResultVar.tmp 4)] (3 + nW s) k)))) := by
  rcases s with ⟨os, ps, qs, cum, zs, bs, cl, nx, ex, _ | ⟨n, kd, ss, mo⟩, _ | ⟨rn, ra⟩⟩ <;> kernel_rfl
theorem t_cm (s : Sr) (w : Bool) (kk : MK) (T : TypeId) (xs : List Int) (k : SV → St → Prop) : evCall cxCm (ev cxCm 30) 53 [.one (.ref 0), .one (.ref 1)] (mayS w kk T xs s) k =
    (need ((decide ((((List.length s.ps) ≤ 70368744177664) ∧ ((List.length xs) ≤ 70368744177664)))) && (Spec.allLt (List.length s.ps) xs)) (k (.sa (.one (bv (decide (((Spec.idxOp s.ps xs (0)) ≥ (0))))))) (mayS w kk T xs s))) := by
  rcases s with ⟨os, ps, qs, cum, zs, bs, cl, nx, ex, _ | ⟨n, kd, ss, mo⟩, _ | ⟨rn, ra⟩⟩ <;> kernel_rfl
theorem t_imS (s : Sr) (w : Bool) (kk : MK) (T : TypeId) (xs : List Int) (len i : Int) (L M : Nat) (k : SV → St → Prop) : ev cxIm (L + 56) (3 + nW s) 57 (codeAt Try.prog 57 [1, 0, 1, 0]) (frm 19 [(0, (.sa (.one (SC.ref 0)))), (1, (.sa (.one (SC.ref 1)))), (7, (.sa (.one (iv .i64 len)))), (8, (.sa (.one (iv .i64 i))))]) (mayS w kk T xs s) (kBlock 0 (kSeq (ev cxIm (M + 58) (3 + nW s) 57 (codeAt Try.prog 57 [1, 1])) (kRet (Cx.P cxIm) [(ResultVar.tmp 4)] (3 + nW s) k))) =
    (Again (branch (decide ((i < len))) (need (decide (((0) ≤ i))) (need (decide ((i < (((List.length xs) : Nat) : Int)))) (need (decide (((0 + (Int.toNat i)) < (List.length xs)))) (need (decide (((0) ≤ (List.getD xs (0 + (Int.toNat i)) (0))))) (need (decide (((List.getD xs (0 + (Int.toNat i)) (0)) < (((List.length s.ps) : Nat) : Int)))) (need (decide (((0 + (Int.toNat (List.getD xs (0 + (Int.toNat i)) (0)))) < (List.length s.ps)))) (branch (decide (((List.getD s.ps (0 + (Int.toNat (List.getD xs (0 + (Int.toNat i)) (0)))) (0)) > (0)))) (k (.sa (.one (iv .i64 i))) (mayS w kk T xs s)) (ev cxIm (L + 55) (3 + nW s) 57 (codeAt Try.prog 57 [1, 0, 1, 0]) (frm 19 [(0, (.sa (.one (SC.ref 0)))), (1, (.sa (.one (SC.ref 1)))), (7, (.sa (.one (iv .i64 len)))), (8, (.sa (.one (iv .i64 (addK .i64 i (1))))))]) (mayS w kk T xs s) (kBlock 0 (kSeq (ev cxIm (M + 58) (3 + nW s) 57 (codeAt Try.prog 57 [1, 1])) (kRet (Cx.P cxIm) [(ResultVar.tmp 4)] (3 + nW s) k))))))))))) (k (.sa (.one (iv .i64 (-(1))))) (mayS w kk T xs s)))) := by
  rcases s with ⟨os, ps, qs, cum, zs, bs, cl, nx, ex, _ | ⟨n, kd, ss, mo⟩, _ | ⟨rn, ra⟩⟩ <;> kernel_rfl
end Go.Ev
end
section
namespace Go.Ev
open Go Go.Proofs Go.Spec
theorem t_al (m : Int) (w : Bool) (kk : MK) (T : TypeId) (xs : List Int) (N : Nat) (k : SV → St → Prop) : evCall cxAl (ev cxAl (N + 60)) 46 [.one (.ref 0), .one (iv .i64 m)] [some (.own w kk T 1 (.ints .u16 xs))] k =
    (branch (decide (((((List.length xs) : Nat) : Int) > (0)))) (k (.sa (.one (SC.ref 0))) [(some (SO.own w kk T 1 (Ct.ints .u16 xs)))]) (ev cxAl (N + 54) 1 46 (codeAt Try.prog 46 [1, 1, 1, 0, 1, 0]) (frm 22 [(5, (.sa (.one (SC.ref 1)))), (12, (.sa (.one (iv .u16 (IntKind.wrap .u16 m))))), (13, (.sa (.one (iv .u16 (0)))))]) [(some (SO.own w kk T 1 (Ct.ints .u16 xs))), (some (SO.own true MK.row 22 1 (Ct.ints .u16 [])))] (kBlock 0 (kSeq (ev cxAl (N + 56) 1 46 (codeAt Try.prog 46 [1, 1, 1, 1])) (kRet (Cx.P cxAl) [(ResultVar.tmp 4)] 1 k))))) := by kernel_rfl
end Go.Ev
end
section
namespace Go.Ev
open Go Go.Proofs Go.Spec
theorem t_alS (m i : Int) (w : Bool) (kk : MK) (T : TypeId) (xs os : List Int) (L M : Nat) (k : SV → St → Prop) : ev cxAl (L + 54) 1 46 (codeAt Try.prog 46 [1, 1, 1, 0, 1, 0]) (frm 22 [(5, (.sa (.one (SC.ref 1)))), (12, (.sa (.one (iv .u16 m)))), (13, (.sa (.one (iv .u16 i))))]) [some (.own w kk T 1 (.ints .u16 xs)), own16 os] (kBlock 0 (kSeq (ev cxAl (M + 56) 1 46 (codeAt Try.prog 46 [1, 1, 1, 1])) (kRet (Cx.P cxAl) [(ResultVar.tmp 4)] 1 k))) =
    (Again (branch (decide ((i < m))) (need (decide (((((List.length os) + 1) * 2) ≤ 140737488355328))) (ev cxAl (L + 53) 1 46 (codeAt Try.prog 46 [1, 1, 1, 0, 1, 0]) (frm 22 [(5, (.sa (.one (SC.ref 1)))), (12, (.sa (.one (iv .u16 m)))), (13, (.sa (.one (iv .u16 (addK .u16 i (1))))))]) [(some (SO.own w kk T 1 (Ct.ints .u16 xs))), (some (SO.own true MK.row 22 1 (Ct.ints .u16 (os ++ [i]))))] (kBlock 0 (kSeq (ev cxAl (M + 56) 1 46 (codeAt Try.prog 46 [1, 1, 1, 1])) (kRet (Cx.P cxAl) [(ResultVar.tmp 4)] 1 k))))) (k (.sa (.one (SC.ref 1))) [(some (SO.own w kk T 1 (Ct.ints .u16 xs))), (some (SO.own true MK.row 22 1 (Ct.ints .u16 os)))]))) := by kernel_rfl
end Go.Ev
end
section
namespace Go.Ev
open Go Go.Proofs Go.Spec
theorem t_if (m : Int) (xs : List Int) (N : Nat) (k : SV → St → Prop) : evCall cxIf (ev cxIf (N + 60)) 57 [.one (.ref 0), .one (.ref 1)] [rd16 xs, some (.clo (.func 55) [] [.one (.ptr 2 0 0)]), obj 3 1 [iv .i64 m]] k =
    (ev cxIf (N + 56) 3 57 (codeAt Try.prog 57 [1, 0, 1, 0]) (frm 19 [(0, (.sa (.one (SC.ref 0)))), (1, (.sa (.one (SC.ref 1)))), (7, (.sa (.one (iv .i64 (((List.length xs) : Nat) : Int))))), (8, (.sa (.one (iv .i64 (0)))))]) [(some (SO.own false MK.ext 0 1 (Ct.ints .u16 xs))), (some (SO.clo (Fn.func 55) [] [(.one (SC.ptr 2 0 0))])), (obj 3 1 [(iv .i64 m)])] (kBlock 0 (kSeq (ev cxIf (N + 58) 3 57 (codeAt Try.prog 57 [1, 1])) (kRet (Cx.P cxIf) [(ResultVar.tmp 4)] 3 k)))) := by kernel_rfl
theorem t_cf (m : Int) (xs : List Int) (k : SV → St → Prop) : evCall cxCf (ev cxCf 30) 53 [.one (.ref 0), .one (.ref 1)] [rd16 xs, some (.clo (.func 55) [] [.one (.ptr 2 0 0)]), obj 3 1 [iv .i64 m]] k =
    (need ((decide (((List.length xs) ≤ 70368744177664))) && (Spec.okU16 xs)) (k (.sa (.one (bv (decide (((Spec.idxGe m xs (0)) ≥ (0))))))) [(some (SO.own false MK.ext 0 1 (Ct.ints .u16 xs))), (some (SO.clo (Fn.func 55) [] [(.one (SC.ptr 2 0 0))])), (obj 3 1 [(iv .i64 m)])])) := by kernel_rfl
theorem t_th (m : Int) (xs : List Int) (k : SV → St → Prop) : evCall cxTh (ev cxTh 30) 49 [.one (.ref 0), .one (iv .i64 m)] [rd16 xs] k =
    (need ((decide (((List.length xs) ≤ 70368744177664))) && (Spec.okU16 xs)) (k (.sa (.one (bv (Bool.not (decide (((Spec.idxGe m xs (0)) ≥ (0)))))))) [(some (SO.own false MK.ext 0 1 (Ct.ints .u16 xs)))])) := by kernel_rfl
end Go.Ev
end
section
namespace Go.Ev
open Go Go.Proofs Go.Spec
theorem t_ifS (m n i : Int) (xs : List Int) (L M : Nat) (k : SV → St → Prop) : ev cxIf (L + 56) 3 57 (codeAt Try.prog 57 [1, 0, 1, 0]) (frm 19 [(0, (.sa (.one (SC.ref 0)))), (1, (.sa (.one (SC.ref 1)))), (7, (.sa (.one (iv .i64 n)))), (8, (.sa (.one (iv .i64 i))))]) [some (.own false .ext 0 1 (.ints .u16 xs)), some (.clo (.func 55) [] [.one (.ptr 2 0 0)]), obj 3 1 [iv .i64 m]] (kBlock 0 (kSeq (ev cxIf (M + 58) 3 57 (codeAt Try.prog 57 [1, 1])) (kRet (Cx.P cxIf) [(ResultVar.tmp 4)] 3 k))) =
    (Again (branch (decide ((i < n))) (need (decide (((0) ≤ i))) (need (decide ((i < (((List.length xs) : Nat) : Int)))) (need (decide (((0 + (Int.toNat i)) < (List.length xs)))) (branch (decide (((IntKind.wrap .i64 (List.getD xs (0 + (Int.toNat i)) (0))) ≥ m))) (k (.sa (.one (iv .i64 i))) [(some (SO.own false MK.ext 0 1 (Ct.ints .u16 xs))), (some (SO.clo (Fn.func 55) [] [(.one (SC.ptr 2 0 0))])), (obj 3 1 [(iv .i64 m)])]) (ev cxIf (L + 55) 3 57 (codeAt Try.prog 57 [1, 0, 1, 0]) (frm 19 [(0, (.sa (.one (SC.ref 0)))), (1, (.sa (.one (SC.ref 1)))), (7, (.sa (.one (iv .i64 n)))), (8, (.sa (.one (iv .i64 (addK .i64 i (1))))))]) [(some (SO.own false MK.ext 0 1 (Ct.ints .u16 xs))), (some (SO.clo (Fn.func 55) [] [(.one (SC.ptr 2 0 0))])), (obj 3 1 [(iv .i64 m)])] (kBlock 0 (kSeq (ev cxIf (M + 58) 3 57 (codeAt Try.prog 57 [1, 1])) (kRet (Cx.P cxIf) [(ResultVar.tmp 4)] 3 k)))))))) (k (.sa (.one (iv .i64 (-(1))))) [(some (SO.own false MK.ext 0 1 (Ct.ints .u16 xs))), (some (SO.clo (Fn.func 55) [] [(.one (SC.ptr 2 0 0))])), (obj 3 1 [(iv .i64 m)])]))) := by kernel_rfl
end Go.Ev
end
section
namespace Go.Ev
open Go Go.Proofs Go.Spec
attribute [local irreducible] ev evCall branch need again
theorem evFuelR {c : Cx} {N N' m f : Nat} {co : Code} {fr : Fr} {st : St} {k : Exit → Fr → St → Prop} (h : ev c N m f co fr st k) (e : N = N') : ev c N' m f co fr st k := e ▸ h
theorem drop_getD {xs : List Int} {i : Nat} (h : i < xs.length) : xs.drop i = xs.getD i 0 :: xs.drop (i + 1) := by
  rw [List.drop_eq_getElem_cons h, List.getD_eq_getElem?_getD, List.getElem?_eq_getElem h]
  rfl
theorem u16_at {xs : List Int} (h : okU16 xs = true) (i : Nat) : 0 ≤ xs.getD i 0 ∧ xs.getD i 0 ≤ 65535 := by
  by_cases hi : i < xs.length
  · rw [List.getD_eq_getElem?_getD, List.getElem?_eq_getElem hi]
    exact of_decide_eq_true (List.all_eq_true.1 h _ (List.getElem_mem hi))
  · rw [List.getD_eq_getElem?_getD, List.getElem?_eq_none (by omega)]
    simp only [Option.getD_none]; omega
theorem cxIf_ok : CxOk Try.prog cxIf := mkCx_ok (by kernel_rfl) (by kernel_rfl) (by simp)
theorem if_loop (m : Int) (xs : List Int) (c M : Nat) (hl : xs.length ≤ 70368744177664) (hu : okU16 xs = true) (k : SV → St → Prop) (hk : k (.sa (.one (iv .i64 (idxGe m xs 0)))) [rd16 xs, some (.clo (.func 55) [] [.one (.ptr 2 0 0)]), obj 3 1 [iv .i64 m]]) :
    ∀ (rem i : Nat), i + rem = xs.length → idxGe m (xs.drop i) i = idxGe m xs 0 → ev cxIf (rem + c + 56) 3 57 (codeAt Try.prog 57 [1, 0, 1, 0]) (frm 19 [(0, (.sa (.one (SC.ref 0)))), (1, (.sa (.one (SC.ref 1)))), (7, (.sa (.one (iv .i64 ((xs.length : Nat) : Int))))), (8, (.sa (.one (iv .i64 (i : Int)))))]) [some (.own false .ext 0 1 (.ints .u16 xs)), some (.clo (.func 55) [] [.one (.ptr 2 0 0)]), obj 3 1 [iv .i64 m]] (kBlock 0 (kSeq (ev cxIf (M + 58) 3 57 (codeAt Try.prog 57 [1, 1])) (kRet (Cx.P cxIf) [(ResultVar.tmp 4)] 3 k))) := by
  have out : ∀ r : Int, r = idxGe m xs 0 → k (.sa (.one (iv .i64 r))) [rd16 xs, some (.clo (.func 55) [] [.one (.ptr 2 0 0)]), obj 3 1 [iv .i64 m]] := fun r e => e ▸ hk
  intro rem
  induction rem with
  | zero =>
    intro i h1 h2
    rw [t_ifS]
    refine Again.mk (brf (by omega) (out _ ?_))
    rw [← h2, List.drop_of_length_le (by omega)]
    rfl
  | succ rem ih =>
    intro i h1 h2
    rw [show rem + 1 + c + 56 = (rem + 1 + c) + 56 from rfl, t_ifS]
    have e1 : 0 + ((i : Nat) : Int).toNat = i := by omega
    have e2 : addK .i64 (i : Int) 1 = ((i + 1 : Nat) : Int) := by rw [add64 (by omega)]; omega
    have hx := u16_at hu i
    rw [e1, e2, Go.IntWalk.i64_in _ (by omega)]
    rw [drop_getD (by omega), idxGe] at h2
    refine Again.mk (brt (by omega) (ndd (by omega) (ndd (by omega) (ndd (by omega) (brd (fun g => out _ ?_) (fun g => ?_))))))
    · rw [decide_eq_true g] at h2
      exact h2
    · rw [decide_eq_false g] at h2
      exact evFuelR (ih (i + 1) (by omega) h2) (by omega)
theorem sIdxF_lin (args : List SA) (st : St) : Lin (sIdxF args st) := by
  intro k h
  unfold sIdxF at h ⊢
  split at h
  · exact (Lin.need (Lin.ret _ _)) k h
  · exact h.elim
theorem idxF_sum : SumOk Try.prog 57 sIdxF := by
  refine sumOk_of cxIf_ok sIdxF_lin fun args st k h => ?_
  unfold sIdxF at h
  split at h
  · rename_i xs m
    obtain ⟨h1, hK⟩ := need_iff.1 h
    rw [Bool.and_eq_true_iff] at h1
    refine ⟨xs.length + 60, ?_⟩
    show evCall cxIf (ev cxIf (xs.length + 60)) 57 [.one (.ref 0), .one (.ref 1)] [rd16 xs, some (.clo (.func 55) [] [.one (.ptr 2 0 0)]), obj 3 1 [iv .i64 m]] k
    rw [t_if]
    exact if_loop m xs 0 xs.length (of_decide_eq_true h1.1) h1.2 k hK xs.length 0 (by omega) rfl
  · exact h.elim
theorem cxCf_ok : CxOk Try.prog cxCf := mkCx_ok (by kernel_rfl) (by kernel_rfl) (by
  intro y h
  simp only [List.mem_cons, List.not_mem_nil, or_false] at h
  subst h
  exact idxF_sum)
theorem sConF_lin (args : List SA) (st : St) : Lin (sConF args st) := by
  intro k h
  unfold sConF at h ⊢
  split at h
  · exact (Lin.need (Lin.ret _ _)) k h
  · exact h.elim
theorem conF_sum : SumOk Try.prog 53 sConF := by
  refine sumOk_of cxCf_ok sConF_lin fun args st k h => ?_
  unfold sConF at h
  split at h
  · rename_i xs m
    obtain ⟨h1, hK⟩ := need_iff.1 h
    refine ⟨30, ?_⟩
    show evCall cxCf (ev cxCf 30) 53 [.one (.ref 0), .one (.ref 1)] [rd16 xs, some (.clo (.func 55) [] [.one (.ptr 2 0 0)]), obj 3 1 [iv .i64 m]] k
    rw [t_cf]
    exact nd h1 hK
  · exact h.elim
theorem cxTh_ok : CxOk Try.prog cxTh := mkCx_ok (by kernel_rfl) (by kernel_rfl) (by
  intro y h
  simp only [List.mem_cons, List.not_mem_nil, or_false] at h
  subst h
  exact conF_sum)
theorem fThere_lin (vas : List VA) : Lin (fThere vas) := by
  intro k h
  unfold fThere at h ⊢
  split at h
  · exact (Lin.need (Lin.ret _ _)) k h
  · exact h.elim
theorem there_sum : SumOk Try.prog 49 sThere := by
  refine pureSum_ok cxTh_ok fThere_lin fun vas K h => ?_
  unfold fThere at h
  split at h
  · rename_i xs m
    obtain ⟨h1, hK⟩ := need_iff.1 h
    refine ⟨30, ?_⟩
    show evCall cxTh (ev cxTh 30) 49 [.one (.ref 0), .one (iv .i64 m)] [rd16 xs] (pureK 1 K)
    rw [t_th]
    exact nd h1 hK
  · exact h.elim
end Go.Ev
end
section
namespace Go.Ev
open Go Go.Proofs Go.Spec
attribute [local irreducible] ev evCall branch need again
theorem cxAl_ok : CxOk Try.prog cxAl := mkCx_ok (by kernel_rfl) (by kernel_rfl) (by simp)
theorem upI_succ : ∀ (c : Nat) (i : Int), upI i (c + 1) = upI i c ++ [i + c]
  | 0, i => by simp [upI]
  | c + 1, i => by
    rw [upI, upI_succ c (i + 1), upI]
    simp only [List.cons_append, List.cons.injEq, true_and]
    congr 2
    omega
theorem al_loop (w : Bool) (kk : MK) (T : TypeId) (xs : List Int) (n c M : Nat) (hn : n ≤ 65535) (k : SV → St → Prop) (hk : k (.sa (.one (.ref 1))) [some (.own w kk T 1 (.ints .u16 xs)), own16 (upI 0 n)]) :
    ∀ (rem i : Nat), i + rem = n → ev cxAl (rem + c + 54) 1 46 (codeAt Try.prog 46 [1, 1, 1, 0, 1, 0]) (frm 22 [(5, (.sa (.one (SC.ref 1)))), (12, (.sa (.one (iv .u16 (n : Int))))), (13, (.sa (.one (iv .u16 (i : Int)))))]) [some (.own w kk T 1 (.ints .u16 xs)), own16 (upI 0 i)] (kBlock 0 (kSeq (ev cxAl (M + 56) 1 46 (codeAt Try.prog 46 [1, 1, 1, 1])) (kRet (Cx.P cxAl) [(ResultVar.tmp 4)] 1 k))) := by
  have hlen : ∀ i : Nat, ∀ j : Int, (upI j i).length = i := by
    intro i
    induction i with
    | zero => intro j; rfl
    | succ i ih => intro j; rw [upI, List.length_cons, ih]
  intro rem
  induction rem with
  | zero =>
    intro i h1
    have h1 : i = n := by omega
    subst h1
    rw [t_alS]
    exact Again.mk (brf (by omega) hk)
  | succ rem ih =>
    intro i h1
    rw [show rem + 1 + c + 54 = (rem + 1 + c) + 54 from rfl, t_alS]
    have e2 : addK .u16 (i : Int) 1 = ((i + 1 : Nat) : Int) := by rw [addK_eq, IntKind.wrap_u16]; omega
    have hl := hlen i 0
    have e3 : upI 0 i ++ [(i : Int)] = upI 0 (i + 1) := by rw [upI_succ, Int.zero_add]
    rw [e2]
    have H := ih (i + 1) (by omega)
    rw [← e3] at H
    exact Again.mk (brt (by omega) (by
      repeat' first
        | refine ndd (by omega) ?_
      exact evFuelR H (by omega)))
theorem sAll_lin (args : List SA) (st : St) : Lin (sAll args st) := by
  intro k h
  unfold sAll at h ⊢
  split at h
  · exact (Lin.need (Lin.branch (Lin.ret _ _) (Lin.ret _ _))) k h
  · exact h.elim
theorem all_sum : SumOk Try.prog 46 sAll := by
  refine sumOk_of cxAl_ok sAll_lin fun args st k h => ?_
  unfold sAll at h
  split at h
  · rename_i m w kk T xs
    obtain ⟨h1, hK⟩ := need_iff.1 h
    have h1 := of_decide_eq_true h1
    refine ⟨m.toNat + 60, ?_⟩
    show evCall cxAl (ev cxAl (m.toNat + 60)) 46 [.one (.ref 0), .one (iv .i64 m)] [some (.own w kk T 1 (.ints .u16 xs))] k
    rw [t_al]
    refine brd (fun g => ?_) (fun g => ?_)
    · rcases branch_or hK with ⟨_, h⟩ | ⟨e, _⟩
      · exact h
      · have := of_decide_eq_false e; omega
    · rcases branch_or hK with ⟨e, _⟩ | ⟨_, h⟩
      · have := of_decide_eq_true e; omega
      · have e : IntKind.wrap .u16 m = ((m.toNat : Nat) : Int) := by rw [IntKind.wrap_u16]; omega
        rw [e]
        exact al_loop w kk T xs m.toNat 0 m.toNat (by omega) k h m.toNat 0 (by omega)
  · exact h.elim
end Go.Ev
end
section
namespace Go.Ev
open Go Go.Proofs Go.Spec
theorem t_hasG (w w2 : Bool) (cum tsn : Int) (cl : Nat) (xs bs : List Int) (N : Nat) (k : SV → St → Prop) : evCall cxGh (ev cxGh 60) 36 [.one (.ptr 0 0 0), .one (iv .u32 tsn)] [some (.mem w .whole 112 3 (.lst [[iv .u32 cum, .ref 1, .raw (.slice none 0 0)]])), some (.mt w2 (.ints .u32 xs) true [] bs cl)] k =
    (branch (decide (((idxI tsn xs) < (List.length xs)))) (k (.sa (.one (bv true))) [(some (SO.mem w MK.whole 112 3 (Ct.lst [[(iv .u32 cum), (SC.ref 1), (SC.raw (Value.slice Option.none 0 0))]]))), (some (SO.mt w2 (KC.ints .u32 xs) true [] bs cl))]) (branch (eqK tsn cum) (k (.sa (.one (bv true))) [(some (SO.mem w MK.whole 112 3 (Ct.lst [[(iv .u32 cum), (SC.ref 1), (SC.raw (Value.slice Option.none 0 0))]]))), (some (SO.mt w2 (KC.ints .u32 xs) true [] bs cl))]) (branch (Bool.not (eqK (subK .u32 cum tsn) (0))) (k (.sa (.one (bv (decide (((subK .u32 cum tsn) < (2147483648))))))) [(some (SO.mem w MK.whole 112 3 (Ct.lst [[(iv .u32 cum), (SC.ref 1), (SC.raw (Value.slice Option.none 0 0))]]))), (some (SO.mt w2 (KC.ints .u32 xs) true [] bs cl))]) (k (.sa (.one (bv false))) [(some (SO.mem w MK.whole 112 3 (Ct.lst [[(iv .u32 cum), (SC.ref 1), (SC.raw (Value.slice Option.none 0 0))]]))), (some (SO.mt w2 (KC.ints .u32 xs) true [] bs cl))])))) := by kernel_rfl
theorem t_addG (cum tsn : Int) (cl : Nat) (xs bs : List Int) (N : Nat) (k : SV → St → Prop) : evCall cxGa (ev cxGa (N + 60)) 37 [.one (.ptr 0 0 0), .one (iv .u32 tsn)] [setO cum 1, mapS xs bs cl] k =
    (branch (Spec.hasB cum xs tsn) (k (.sa (.one (iv .u8 (1)))) [(obj 112 3 [(iv .u32 cum), (SC.ref 1), (SC.ref 2)]), (some (SO.mt true (KC.ints .u32 xs) true [] bs cl)), (some (SO.own true MK.row 23 1 (Ct.ints .u32 [tsn])))]) (branch (decide (((subK .u32 tsn cum) > (65535)))) (k (.sa (.one (iv .u8 (2)))) [(obj 112 3 [(iv .u32 cum), (SC.ref 1), (SC.raw (Value.slice Option.none 0 0))]), (some (SO.mt true (KC.ints .u32 xs) true [] bs cl))]) (branch (decide (((idxI tsn xs) < (List.length xs)))) (ev cxGa (N + 54) 2 37 (codeAt Try.prog 37 [1, 1, 1, 1, 1, 0]) (frm 71 [(0, (.sa (.one (SC.ptr 0 0 0))))]) [(obj 112 3 [(iv .u32 cum), (SC.ref 1), (SC.raw (Value.slice Option.none 0 0))]), (some (SO.mt true (KC.ints .u32 xs) true [] bs cl))] (kBlock 0 (kRet (Cx.P cxGa) [(ResultVar.tmp 4)] 2 k))) (ev cxGa (N + 54) 2 37 (codeAt Try.prog 37 [1, 1, 1, 1, 1, 0]) (frm 71 [(0, (.sa (.one (SC.ptr 0 0 0))))]) [(obj 112 3 [(iv .u32 cum), (SC.ref 1), (SC.raw (Value.slice Option.none 0 0))]), (some (SO.mt true (KC.ints .u32 (xs ++ [tsn])) true [] (bs ++ [((cl : Nat) : Int)]) (cl + 1)))] (kBlock 0 (kRet (Cx.P cxGa) [(ResultVar.tmp 4)] 2 k)))))) := by kernel_rfl
end Go.Ev
end
section
namespace Go.Ev
open Go Go.Proofs Go.Spec
theorem t_addS (cum : Int) (cl : Nat) (xs bs : List Int) (L : Nat) (k : SV → St → Prop) : ev cxGa (L + 54) 2 37 (codeAt Try.prog 37 [1, 1, 1, 1, 1, 0]) (frm 71 [(0, (.sa (.one (SC.ptr 0 0 0))))]) [setO cum 1, mapS xs bs cl] (kBlock 0 (kRet (Cx.P cxGa) [(ResultVar.tmp 4)] 2 k)) =
    (Again (branch (decide (((idxI (addK .u32 cum (1)) xs) < (List.length xs)))) (branch (decide (((idxI (addK .u32 cum (1)) xs) < (List.length xs)))) (ev cxGa (L + 53) 2 37 (codeAt Try.prog 37 [1, 1, 1, 1, 1, 0]) (frm 71 [(0, (.sa (.one (SC.ptr 0 0 0))))]) [(obj 112 3 [(iv .u32 (addK .u32 cum (1))), (SC.ref 1), (SC.raw (Value.slice Option.none 0 0))]), (some (SO.mt true (KC.ints .u32 (List.eraseIdx xs (idxI (addK .u32 cum (1)) xs))) true [] (List.eraseIdx bs (idxI (addK .u32 cum (1)) xs)) cl))] (kBlock 0 (kRet (Cx.P cxGa) [(ResultVar.tmp 4)] 2 k))) (ev cxGa (L + 53) 2 37 (codeAt Try.prog 37 [1, 1, 1, 1, 1, 0]) (frm 71 [(0, (.sa (.one (SC.ptr 0 0 0))))]) [(obj 112 3 [(iv .u32 (addK .u32 cum (1))), (SC.ref 1), (SC.raw (Value.slice Option.none 0 0))]), (some (SO.mt true (KC.ints .u32 xs) true [] bs cl))] (kBlock 0 (kRet (Cx.P cxGa) [(ResultVar.tmp 4)] 2 k)))) (k (.sa (.one (iv .u8 (0)))) [(obj 112 3 [(iv .u32 cum), (SC.ref 1), (SC.raw (Value.slice Option.none 0 0))]), (some (SO.mt true (KC.ints .u32 xs) true [] bs cl))]))) := by kernel_rfl
end Go.Ev
end
section
namespace Go.Ev
open Go Go.Proofs Go.Spec
attribute [local irreducible] ev evCall branch need again
theorem namesR : namesB Try.prog = true := by kernel_rfl
theorem mixedR : Try.prog.follows .mixedOrders = true := by kernel_rfl
theorem cxGh_ok : CxOk Try.prog cxGh := mkCx_ok namesR mixedR (by intro x h; cases h)
theorem hasG_sum : SumOk Try.prog 36 sHasG := by
  refine sumOk_of cxGh_ok ?_ fun args st k h => ?_
  · intro args st k h
    unfold sHasG at h ⊢
    split at h
    · exact Lin.ret _ _ k h
    · exact h.elim
  · unfold sHasG at h
    split at h
    · rename_i tsn w cum w2 xs bs cl
      refine ⟨60, Eq.mpr (t_hasG w w2 cum tsn cl xs bs 0 k) ?_⟩
      unfold hasB at h
      refine br (fun e => ?_) (fun e => ?_)
      · rw [e] at h; exact h
      rw [e] at h
      refine br (fun e2 => ?_) (fun e2 => ?_)
      · rw [e2] at h; exact h
      rw [e2] at h
      refine br (fun e3 => ?_) (fun e3 => ?_)
      · rw [Bool.not_eq_true'] at e3; rw [e3] at h; exact h
      · rw [Bool.not_eq_false'] at e3; rw [e3] at h; exact h
    · exact h.elim
theorem cxGa_ok : CxOk Try.prog cxGa := mkCx_ok namesR mixedR (by
  intro x h
  simp only [List.mem_cons, List.not_mem_nil, or_false] at h
  subst h
  exact hasG_sum)
theorem adv_loop {k : SV → St → Prop} {cl : Nat} : ∀ (m : Nat) (cum : Int) (xs bs : List Int) (L : Nat), xs.length ≤ m → m ≤ L → k (.sa (.one (iv .u8 0))) [setO (adv m cum xs bs).1 1, mapS (adv m cum xs bs).2.1 (adv m cum xs bs).2.2 cl] →
    ev cxGa (L + 54) 2 37 (codeAt Try.prog 37 [1, 1, 1, 1, 1, 0]) (frm 71 [(0, (.sa (.one (SC.ptr 0 0 0))))]) [setO cum 1, mapS xs bs cl] (kBlock 0 (kRet (Cx.P cxGa) [(ResultVar.tmp 4)] 2 k)) := by
  intro m
  induction m with
  | zero =>
    intro cum xs bs L hm hL hk
    refine Eq.mpr (t_addS ..) (Again.mk (brf (by omega) ?_))
    exact hk
  | succ m ih =>
    intro cum xs bs L hm hL hk
    obtain ⟨L, rfl⟩ : ∃ L', L = L' + 1 := ⟨L - 1, by omega⟩
    unfold adv at hk
    refine Eq.mpr (t_addS ..) (Again.mk (brd (fun e => ?_) (fun e => ?_)))
    · rw [decide_eq_true e] at hk
      repeat' refine brt e ?_
      exact ih _ _ _ L (by rw [List.length_eraseIdx]; split <;> omega) (by omega) hk
    · rw [decide_eq_false e] at hk
      exact hk
theorem addG_sum : SumOk Try.prog 37 sAddG := by
  refine sumOk_of cxGa_ok ?_ fun args st k h => ?_
  · intro args st k h
    unfold sAddG at h ⊢
    split at h
    · exact (Lin.need (Lin.ret _ _)) k h
    · exact h.elim
  · unfold sAddG at h
    split at h
    · rename_i tsn cum xs bs cl
      obtain ⟨h1, h⟩ := need_iff.1 h
      obtain ⟨h1, h2⟩ := Bool.and_eq_true_iff.1 h1
      obtain ⟨h2, h3⟩ := of_decide_eq_true h2
      rw [Bool.not_eq_true'] at h1
      refine ⟨xs.length + 1 + 60, Eq.mpr (t_addG ..) ?_⟩
      refine br (fun e => by rw [h1] at e; cases e) fun _ => ?_
      refine brf (by omega) ?_
      have hx : ¬ idxI tsn xs < xs.length := fun e => by unfold hasB at h1; rw [decide_eq_true e] at h1; cases h1
      refine brf hx ?_
      exact adv_loop (xs.length + 1) cum (xs ++ [tsn]) (bs ++ [(cl : Int)]) (xs.length + 1) (by simp) (by omega) h
    · exact h.elim
end Go.Ev
end
section
namespace Go.Ev
open Go Go.Proofs Go.Spec
attribute [local irreducible] ev evCall branch need again
theorem beq_eq {a b : Nat} (h : Nat.beq a b = true) : a = b := Nat.eq_of_beq_eq_true h
theorem rdDo_spec {b d : Nat} {st : St} {f : Int → Option (Int × Int) → St → Prop} (h : rdDo b d st f) : ∃ ex kp r, st = doW b d ex kp r ∧ f ex kp r := by
  unfold rdDo at h
  split at h
  · split at h
    · rename_i hb
      obtain ⟨h1, h2⟩ := Bool.and_eq_true_iff.1 hb
      have h1 := beq_eq h1
      have h2 := beq_eq h2
      subst h1 h2
      split at h
      · exact ⟨_, none, _, rfl, h⟩
      · split at h
        · rename_i hd
          have hd := beq_eq hd
          subst hd
          exact ⟨_, some (_, _), _, rfl, h⟩
        · exact h.elim
      · exact h.elim
    · exact h.elim
  · exact h.elim
theorem rdQu_spec {b : Nat} {st : St} {f : Int → Option (Int × Int × List Int × Int) → Int → Option (Int × Int) → St → Prop} (h : rdQu b st f) : ∃ nx o ex kp r, st = askW b nx o :: quW b o (doW b (b + 7 + 2 * nQ o) ex kp r) ∧ f nx o ex kp r := by
  unfold rdQu at h
  split at h
  · split at h
    · obtain ⟨ex, kp, r, rfl, h'⟩ := rdDo_spec h
      exact ⟨_, none, _, _, _, rfl, h'⟩
    · split at h
      · rename_i hp
        have hp := beq_eq hp
        subst hp
        split at h
        · rename_i hj
          have hj := beq_eq hj
          subst hj
          obtain ⟨ex, kp, r, rfl, h'⟩ := rdDo_spec h
          exact ⟨_, some (_, _, _, _), _, _, _, rfl, h'⟩
        · exact h.elim
      · exact h.elim
    · exact h.elim
  · exact h.elim
theorem rdSd_spec {b : Nat} {st : St} {f : Sr → St → Prop} (h : rdSd b st f) : ∃ s r, st = sideW b s r ∧ f s r := by
  unfold rdSd at h
  split at h
  · split at h
    · split at h
      · split at h
        · rename_i hb
          simp only [Bool.and_eq_true] at hb
          obtain ⟨h1, h2, h3, h4, h6, h5⟩ := hb
          have h1 := beq_eq h1
          have h2 := beq_eq h2
          have h3 := beq_eq h3
          have h4 := beq_eq h4
          have h5 := beq_eq h5
          have h6 := beq_eq h6
          subst h1 h2 h3 h4 h5 h6
          obtain ⟨nx, o, ex, kp, r, rfl, h'⟩ := rdQu_spec h
          split at h'
          · rename_i h7
            have h7 := beq_eq h7
            subst h7
            exact ⟨⟨_, _, _, _, _, _, _, nx, ex, o, kp⟩, r, rfl, h'⟩
          · exact h'.elim
        · exact h.elim
      · exact h.elim
    · exact h.elim
  · exact h.elim
theorem rdSd_mk3 {s : Sr} {r : St} {f : Sr → St → Prop} : rdSd 3 (sideW 3 s r) f = f s r := by
  rcases s with ⟨os, ps, qs, cum, zs, bs, cl, nx, ex, _ | ⟨n, kd, ss, mo⟩, _ | ⟨rn, ra⟩⟩ <;> rfl
theorem rdSd_mk0 {s : Sr} {r : St} {f : Sr → St → Prop} : rdSd 0 (sideW 0 s r) f = f s r := by
  rcases s with ⟨os, ps, qs, cum, zs, bs, cl, nx, ex, _ | ⟨n, kd, ss, mo⟩, _ | ⟨rn, ra⟩⟩ <;> rfl
theorem lin_last {r : St} {f : (SV → St → Prop) → Prop} (hf : Lin f) : Lin (fun k => lastW r (f k)) := by
  intro k h
  cases r with
  | nil => exact hf k h
  | cons x r => exact h.elim
theorem lin3 {st : St} {F : Sr → St → (SV → St → Prop) → Prop} (hF : ∀ s r, Lin (F s r)) : Lin (fun k => rdSd 3 st fun s r => F s r k) := by
  intro k h
  obtain ⟨s, r, rfl, h'⟩ := rdSd_spec h
  obtain ⟨v, st', h1, h2⟩ := hF s r k h'
  refine ⟨v, st', h1, fun k2 hk => ?_⟩
  show rdSd 3 (sideW 3 s r) fun s r => F s r k2
  rw [rdSd_mk3]; exact h2 k2 hk
theorem lin0 {st : St} {F : Sr → St → (SV → St → Prop) → Prop} (hF : ∀ s r, Lin (F s r)) : Lin (fun k => rdSd 0 st fun s r => F s r k) := by
  intro k h
  obtain ⟨s, r, rfl, h'⟩ := rdSd_spec h
  obtain ⟨v, st', h1, h2⟩ := hF s r k h'
  refine ⟨v, st', h1, fun k2 hk => ?_⟩
  show rdSd 0 (sideW 0 s r) fun s r => F s r k2
  rw [rdSd_mk0]; exact h2 k2 hk
theorem allLt_at {n : Nat} {xs : List Int} (h : allLt n xs = true) {i : Nat} (hi : i < xs.length) : 0 ≤ xs.getD i 0 ∧ xs.getD i 0 < n := by
  rw [List.getD_eq_getElem?_getD, List.getElem?_eq_getElem hi]
  exact of_decide_eq_true (List.all_eq_true.1 h _ (List.getElem_mem hi))
theorem cxIm_ok : CxOk Try.prog cxIm := mkCx_ok namesR mixedR (by intro x h; cases h)
theorem im_loop {s : Sr} {w : Bool} {kk : MK} {T : TypeId} {xs : List Int} {M : Nat} (hl : xs.length ≤ 70368744177664) (hp : s.ps.length ≤ 70368744177664) (hu : allLt s.ps.length xs = true) {k : SV → St → Prop} (hk : k (.sa (.one (iv .i64 (idxOp s.ps xs 0)))) (mayS w kk T xs s)) :
    ∀ (rem i L : Nat), i + rem = xs.length → rem ≤ L → idxOp s.ps (xs.drop i) i = idxOp s.ps xs 0 → ev cxIm (L + 56) (3 + nW s) 57 (codeAt Try.prog 57 [1, 0, 1, 0]) (frm 19 [(0, (.sa (.one (SC.ref 0)))), (1, (.sa (.one (SC.ref 1)))), (7, (.sa (.one (iv .i64 ((xs.length : Nat) : Int))))), (8, (.sa (.one (iv .i64 (i : Int)))))]) (mayS w kk T xs s) (kBlock 0 (kSeq (ev cxIm (M + 58) (3 + nW s) 57 (codeAt Try.prog 57 [1, 1])) (kRet (Cx.P cxIm) [(ResultVar.tmp 4)] (3 + nW s) k))) := by
  have out : ∀ r : Int, r = idxOp s.ps xs 0 → k (.sa (.one (iv .i64 r))) (mayS w kk T xs s) := fun r e => e ▸ hk
  intro rem
  induction rem with
  | zero =>
    intro i L h1 hL h2
    refine Eq.mpr (t_imS ..) (Again.mk (brf (by omega) (out _ ?_)))
    rw [← h2, List.drop_of_length_le (by omega)]
    rfl
  | succ rem ih =>
    intro i L h1 hL h2
    obtain ⟨L, rfl⟩ : ∃ L', L = L' + 1 := ⟨L - 1, by omega⟩
    refine Eq.mpr (t_imS ..) (Again.mk ?_)
    have e1 : 0 + ((i : Nat) : Int).toNat = i := by omega
    have e2 : addK .i64 (i : Int) 1 = ((i + 1 : Nat) : Int) := by rw [add64 (by omega)]; omega
    have hx := allLt_at hu (i := i) (by omega)
    rw [e1, e2]
    rw [drop_getD (by omega), idxOp] at h2
    generalize xs.getD i 0 = x at hx h2 ⊢
    have e3 : 0 + x.toNat = x.toNat := by omega
    rw [e3]
    refine brt (by omega) (ndd (by omega) (ndd (by omega) (ndd (by omega) (ndd (by omega) (ndd (by omega) (ndd (by omega) (brd (fun g => out _ ?_) (fun g => ?_))))))))
    · rw [decide_eq_true g] at h2
      exact h2
    · rw [decide_eq_false g] at h2
      exact ih (i + 1) L (by omega) (by omega) h2
theorem sIfM_lin (args : List SA) (st : St) : Lin (sIfM args st) := by
  intro k h
  unfold sIfM at h ⊢
  split at h
  · exact lin3 (fun s r => Lin.need (lin_last (Lin.ret _ _))) k h
  · exact h.elim
theorem ifM_sum : SumOk Try.prog 57 sIfM := by
  refine sumOk_of cxIm_ok sIfM_lin fun args st k h => ?_
  unfold sIfM at h
  split at h
  · rename_i w kk T xs rest
    obtain ⟨s, r, rfl, h'⟩ := rdSd_spec h
    cases r with
    | cons x r => exact (need_iff.1 h').2.elim
    | nil =>
    obtain ⟨h1, hK⟩ := need_iff.1 h'
    rw [Bool.and_eq_true_iff] at h1
    have h2 := of_decide_eq_true h1.1
    refine ⟨xs.length + 60, Eq.mpr (t_im s w kk T xs xs.length k) ?_⟩
    exact im_loop h2.2 h2.1 h1.2 hK xs.length 0 xs.length (by omega) (Nat.le_refl _) rfl
  · exact h.elim
theorem cxCm_ok : CxOk Try.prog cxCm := mkCx_ok namesR mixedR (by
  intro y h
  simp only [List.mem_cons, List.not_mem_nil, or_false] at h
  subst h
  exact ifM_sum)
theorem sCoM_lin (args : List SA) (st : St) : Lin (sCoM args st) := by
  intro k h
  unfold sCoM at h ⊢
  split at h
  · exact lin3 (fun s r => Lin.need (lin_last (Lin.ret _ _))) k h
  · exact h.elim
theorem coM_sum : SumOk Try.prog 53 sCoM := by
  refine sumOk_of cxCm_ok sCoM_lin fun args st k h => ?_
  unfold sCoM at h
  split at h
  · rename_i w kk T xs rest
    obtain ⟨s, r, rfl, h'⟩ := rdSd_spec h
    cases r with
    | cons x r => exact (need_iff.1 h').2.elim
    | nil =>
    obtain ⟨h1, hK⟩ := need_iff.1 h'
    exact ⟨30, Eq.mpr (t_cm s w kk T xs k) (nd h1 hK)⟩
  · exact h.elim
end Go.Ev
end
section
namespace Go.Ev
open Go Go.Proofs Go.Spec
attribute [local irreducible] ev evCall branch need again
theorem cxDs_ok : CxOk Try.prog cxDs := mkCx_ok namesR mixedR (by
  intro y h
  simp only [List.mem_cons, List.not_mem_nil, or_false] at h
  rcases h with rfl | rfl
  · exact there_sum
  · exact all_sum)
theorem idxGe_no {m : Int} : ∀ {xs : List Int} {i : Int}, 0 ≤ i → ¬ idxGe m xs i ≥ 0 → ∀ x ∈ xs, x < m
  | [], _, _, _, x, hx => by simp at hx
  | y :: r, i, h0, h, x, hx => by
    unfold idxGe at h
    split at h
    · exact absurd h0 h
    · rename_i e
      have e := of_decide_eq_false e
      rcases List.mem_cons.1 hx with rfl | hx
      · omega
      · exact idxGe_no (by omega) h x hx
theorem there_lt {m : Int} {xs : List Int} (h : thereB m xs = true) : ∀ x ∈ xs, x < m := by
  unfold thereB at h
  refine idxGe_no (i := 0) (by omega) fun h2 => ?_
  rw [decide_eq_true h2] at h
  cases h
theorem upI_mem : ∀ {c : Nat} {i x : Int}, x ∈ upI i c → i ≤ x ∧ x < i + c
  | 0, i, x, h => by simp [upI] at h
  | c + 1, i, x, h => by
    simp only [upI, List.mem_cons] at h
    rcases h with rfl | h
    · omega
    · have := upI_mem h; omega
theorem ds_loopA (w : Bool) (kk : MK) (T : TypeId) (s : Sr) (xs : List Int) (c M : Nat) (hl : xs.length ≤ 70368744177664) (hx : ∀ x ∈ xs, 0 ≤ x ∧ x < (s.qs.length : Int)) (k : SV → St → Prop) :
    ∀ (rem i : Nat) (qs : List Int), i + rem = xs.length → qs.length = s.qs.length → k (.sa (.one (iv .u8 1))) (sideW 0 { s with qs := resetL (xs.drop i) qs } [anyR w kk T xs]) →
      ev cxDs (rem + c + 52) (nW s + 1) 33 (codeAt Try.prog 33 [1, 0, 0, 1, 0, 0, 1, 0]) (frm 67 [(0, (.sa (.one (SC.ptr 0 0 0)))), (28, (.sa (.one (SC.ref (nW s))))), (29, (.sa (.one (iv .i64 ((xs.length : Nat) : Int))))), (30, (.sa (.one (iv .i64 (i : Int)))))]) (sideW 0 { s with qs := qs } [anyR w kk T xs]) (kBlock 1 (kSeq (ev cxDs (M + 54) (nW s + 1) 33 (codeAt Try.prog 33 [1, 0, 0, 1, 0, 1])) (kBlock 0 (kSeq (ev cxDs (M + 58) (nW s + 1) 33 (codeAt Try.prog 33 [1, 1])) (kRet (Cx.P cxDs) [(ResultVar.tmp 4)] (nW s + 1) k))))) := by
  intro rem
  induction rem with
  | zero =>
    intro i qs h1 h2 hk
    refine Eq.mpr (t_dsA { s with qs := qs } ..) ?_
    rw [List.drop_of_length_le (by omega)] at hk
    exact Again.mk (brf (by omega) hk)
  | succ rem ih =>
    intro i qs h1 h2 hk
    rw [show rem + 1 + c + 52 = (rem + 1 + c) + 52 from rfl]
    refine Eq.mpr (t_dsA { s with qs := qs } ..) ?_
    have e1 : 0 + ((i : Nat) : Int).toNat = i := by omega
    have e2 : addK .i64 (i : Int) 1 = ((i + 1 : Nat) : Int) := by rw [add64 (by omega)]; omega
    have hm := hx (xs.getD i 0) (by rw [List.getD_eq_getElem?_getD, List.getElem?_eq_getElem (by omega)]; exact List.getElem_mem _)
    rw [e1, e2]
    rw [drop_getD (by omega), resetL] at hk
    generalize xs.getD i 0 = x at hm hk ⊢
    have e3 : 0 + x.toNat = x.toNat := by omega
    rw [e3]
    refine Again.mk (brt (by omega) (ndd (by omega) (ndd (by omega) (ndd (by omega) (ndd (by omega) (ndd (by dsimp only; omega) (ndd (by dsimp only; omega) ?_)))))))
    exact evFuelR (ih (i + 1) (qs.set x.toNat 0) (by omega) (by rw [List.length_set]; exact h2) hk) (by omega)
theorem ds_loopB (w : Bool) (kk : MK) (T : TypeId) (s : Sr) (xs ys : List Int) (c M : Nat) (hl : ys.length ≤ 70368744177664) (hx : ∀ x ∈ ys, 0 ≤ x ∧ x < (s.qs.length : Int)) (k : SV → St → Prop) :
    ∀ (rem i : Nat) (qs : List Int), i + rem = ys.length → qs.length = s.qs.length → k (.sa (.one (iv .u8 1))) (sideW 0 { s with qs := resetL (ys.drop i) qs } [anyR w kk T xs]) →
      ev cxDs (rem + c + 52) (nW s + 1) 33 (codeAt Try.prog 33 [1, 0, 0, 1, 0, 0, 1, 0]) (frm 67 [(0, (.sa (.one (SC.ptr 0 0 0)))), (28, (.sa (.one (SC.ref (nW s + 1))))), (29, (.sa (.one (iv .i64 ((ys.length : Nat) : Int))))), (30, (.sa (.one (iv .i64 (i : Int)))))]) (sideW 0 { s with qs := qs } [anyR w kk T xs, own16 ys]) (kBlock 1 (kSeq (ev cxDs (M + 54) (nW s + 1) 33 (codeAt Try.prog 33 [1, 0, 0, 1, 0, 1])) (kBlock 0 (kSeq (ev cxDs (M + 58) (nW s + 1) 33 (codeAt Try.prog 33 [1, 1])) (kRet (Cx.P cxDs) [(ResultVar.tmp 4)] (nW s + 1) k))))) := by
  intro rem
  induction rem with
  | zero =>
    intro i qs h1 h2 hk
    refine Eq.mpr (t_dsB { s with qs := qs } ..) ?_
    rw [List.drop_of_length_le (by omega)] at hk
    exact Again.mk (brf (by omega) hk)
  | succ rem ih =>
    intro i qs h1 h2 hk
    rw [show rem + 1 + c + 52 = (rem + 1 + c) + 52 from rfl]
    refine Eq.mpr (t_dsB { s with qs := qs } ..) ?_
    have e1 : 0 + ((i : Nat) : Int).toNat = i := by omega
    have e2 : addK .i64 (i : Int) 1 = ((i + 1 : Nat) : Int) := by rw [add64 (by omega)]; omega
    have hm := hx (ys.getD i 0) (by rw [List.getD_eq_getElem?_getD, List.getElem?_eq_getElem (by omega)]; exact List.getElem_mem _)
    rw [e1, e2]
    rw [drop_getD (by omega), resetL] at hk
    generalize ys.getD i 0 = x at hm hk ⊢
    have e3 : 0 + x.toNat = x.toNat := by omega
    rw [e3]
    refine Again.mk (brt (by omega) (ndd (by omega) (ndd (by omega) (ndd (by omega) (ndd (by omega) (ndd (by dsimp only; omega) (ndd (by dsimp only; omega) ?_)))))))
    exact evFuelR (ih (i + 1) (qs.set x.toNat 0) (by omega) (by rw [List.length_set]; exact h2) hk) (by omega)
theorem sDoes_lin (args : List SA) (st : St) : Lin (sDoes args st) := by
  intro k h
  unfold sDoes at h ⊢
  split at h
  · refine lin0 (F := fun s r => dsK _ _ _ s r) (fun s r => ?_) k h
    intro k h
    unfold dsK at h ⊢
    split at h
    · exact (Lin.need (Lin.branch (Lin.ret _ _) (Lin.branch (Lin.ret _ _) (Lin.ret _ _)))) k h
    · exact h.elim
  · exact h.elim
theorem u16_all {xs : List Int} (h : okU16 xs = true) : ∀ x ∈ xs, 0 ≤ x ∧ x ≤ 65535 := fun x hx => of_decide_eq_true (List.all_eq_true.1 h x hx)
theorem upI_len : ∀ (c : Nat) (i : Int), (upI i c).length = c
  | 0, _ => rfl
  | c + 1, i => by rw [upI, List.length_cons, upI_len c]
theorem does_sum : SumOk Try.prog 33 sDoes := by
  refine sumOk_of cxDs_ok sDoes_lin fun args st k h => ?_
  unfold sDoes at h
  split at h
  · rename_i kd j more
    obtain ⟨s, r, rfl, h'⟩ := rdSd_spec h
    clear h
    have h := h'
    clear h'
    unfold dsK at h
    split at h
    · rename_i w kk T xs
      obtain ⟨h1, hK⟩ := need_iff.1 h
      clear h
      rw [Bool.and_eq_true_iff] at h1
      obtain ⟨h1, hu⟩ := h1
      obtain ⟨g1, g2, g3, g4, g5⟩ := of_decide_eq_true h1
      subst g1
      refine ⟨(xs.length + 20) + 60, ?_⟩
      have htk : xs.take xs.length = xs := List.take_of_length_le (Nat.le_refl _)
      refine Eq.mpr (t_ds s w kk T kd more xs (xs.length + 20) k) ?_
      rw [htk]
      have wm : IntKind.wrap .i64 more = more := Go.IntWalk.i64_in _ (by omega)
      have am : addK .i64 ((s.qs.length : Nat) : Int) (IntKind.wrap .i64 more) = (s.qs.length : Int) + more := by rw [wm, add64 (by omega)]
      rw [am]
      have fin : ∀ e : doB kd (s.qs.length : Int) xs = false, branch (eqK kd 2) (branch (decide ((s.qs.length : Int) + more ≤ 16)) (need (decide (0 ≤ more)) (need (decide (more < 9223372036854775808)) (need (decide (more * 2 ≤ 281474976710656)) (need (decide ((s.qs.length + (List.replicate more.toNat (0 : Int)).length) * 2 ≤ 140737488355328)) (k (.sa (.one (iv .u8 1))) (sideX 0 s 1 2 (nW s + 1) (own16 s.os) (own16 s.ps) none [anyR w kk T xs, own16 (s.qs ++ List.replicate more.toNat 0)])))))) (k (.sa (.one (iv .u8 2))) (sideW 0 s [anyR w kk T xs]))) (k (.sa (.one (iv .u8 2))) (sideW 0 s [anyR w kk T xs])) := fun e => by
        have h : branch (moB kd ((s.qs.length : Nat) : Int) more) (k (.sa (.one (iv .u8 1))) (sideX 0 s 1 2 (nW s + 1) (own16 s.os) (own16 s.ps) none [anyR w kk T xs, own16 (s.qs ++ List.replicate more.toNat 0)])) (k (.sa (.one (iv .u8 2))) (sideW 0 s [anyR w kk T xs])) := by
          rcases branch_or hK with ⟨e', _⟩ | ⟨_, h⟩
          · rw [e] at e'; cases e'
          · exact h
        refine bre (fun h2 => brd (fun h3 => ?_) (fun h3 => ?_)) (fun h2 => ?_)
        · have hm : moB kd (s.qs.length : Int) more = true := by unfold moB; rw [eqK_t.2 h2, decide_eq_true h3]; rfl
          rcases branch_or h with ⟨_, h⟩ | ⟨e', _⟩
          · simp only [List.length_replicate]
            exact ndd (by omega) (ndd (by omega) (ndd (by omega) (ndd (by omega) h)))
          · rw [hm] at e'; cases e'
        · have hm : moB kd (s.qs.length : Int) more = false := by unfold moB; rw [decide_eq_false h3, Bool.and_false]
          rcases branch_or h with ⟨e', _⟩ | ⟨_, h⟩
          · rw [hm] at e'; cases e'
          · exact h
        · have hm : moB kd (s.qs.length : Int) more = false := by unfold moB; rw [eqK_f.2 h2]; rfl
          rcases branch_or h with ⟨e', _⟩ | ⟨_, h⟩
          · rw [hm] at e'; cases e'
          · exact h
      refine bre (fun h2 => ndd (by omega) (nd (Bool.and_eq_true_iff.2 ⟨decide_eq_true (by omega), hu⟩) (br (fun h3 => ?_) (fun h3 => ?_)))) (fun h2 => ?_)
      · have hd : doB kd (s.qs.length : Int) xs = true := by unfold doB; rw [eqK_t.2 h2, h3]; rfl
        rcases branch_or hK with ⟨_, h⟩ | ⟨e', _⟩
        · have hlt := there_lt h3
          have hall : ∀ x ∈ xs, 0 ≤ x ∧ x < (s.qs.length : Int) := fun x hx => ⟨(u16_all hu x hx).1, hlt x hx⟩
          refine ndd (by omega) (brd (fun h4 => ?_) (fun h4 => ?_))
          · unfold allOf at h
            rw [decide_eq_true h4] at h
            exact evFuelR (ds_loopA w kk T s xs 20 (xs.length + 20) g5 hall k xs.length 0 s.qs (by omega) rfl h) (by omega)
          · unfold allOf at h
            rw [decide_eq_false h4] at h
            have e5 : ((s.qs.length : Nat) : Int).toNat = s.qs.length := by omega
            rw [e5]
            have hlen := upI_len s.qs.length 0
            have := ds_loopB w kk T s xs (upI 0 s.qs.length) (20 - s.qs.length + xs.length) (xs.length + 20) (by omega) (fun x hx => by have := upI_mem hx; omega) k s.qs.length 0 s.qs (by omega) rfl h
            exact evFuelR this (by omega)
        · rw [hd] at e'; cases e'
      · exact fin (by unfold doB; rw [h3, Bool.and_false])
      · exact fin (by unfold doB; rw [eqK_f.2 h2]; rfl)
    · exact h.elim
  · exact h.elim
end Go.Ev
end
section
namespace Go.Ev
open Go Go.Proofs Go.Spec
attribute [local irreducible] ev evCall branch need again
theorem cxAn_ok : CxOk Try.prog cxAn := mkCx_ok namesR mixedR (by
  intro y h
  simp only [List.mem_cons, List.not_mem_nil, or_false] at h
  subst h
  exact all_sum)
theorem an_loopA (s : Sr) (n kd mo : Int) (ss : List Int) (c M : Nat) (hl : ss.length ≤ 70368744177664) (hx : ∀ x ∈ ss, 0 ≤ x ∧ x < (s.os.length : Int)) (k : SV → St → Prop) :
    ∀ (rem i : Nat) (os : List Int), i + rem = ss.length → os.length = s.os.length → k (.sa (.one (iv .i64 0))) (sideY 1 2 (own16 (resetL (ss.drop i) os)) (own16 s.ps) nilP s (n, kd, ss, mo) []) →
      ev cxAn (rem + c + 51) (11 + nQ s.kp) 20 (codeAt Try.prog 20 [1, 1, 1, 1, 1, 1, 0, 1, 0]) (frm 85 [(0, (.sa (.one (SC.ptr 0 0 0)))), (72, (.sa (.one (SC.ref 8)))), (73, (.sa (.one (iv .i64 ((ss.length : Nat) : Int))))), (74, (.sa (.one (iv .i64 (i : Int)))))]) (sideY 1 2 (own16 os) (own16 s.ps) nilP s (n, kd, ss, mo) []) (kBlock 0 (kSeq (ev cxAn (M + 53) (11 + nQ s.kp) 20 (codeAt Try.prog 20 [1, 1, 1, 1, 1, 1, 1])) (kRet (Cx.P cxAn) [(ResultVar.tmp 4)] (11 + nQ s.kp) k))) := by
  intro rem
  induction rem with
  | zero =>
    intro i os h1 h2 hk
    refine Eq.mpr (t_anA s ..) ?_
    rw [List.drop_of_length_le (by omega)] at hk
    exact Again.mk (brf (by omega) hk)
  | succ rem ih =>
    intro i os h1 h2 hk
    rw [show rem + 1 + c + 51 = (rem + 1 + c) + 51 from rfl]
    refine Eq.mpr (t_anA s ..) ?_
    have e1 : 0 + ((i : Nat) : Int).toNat = i := by omega
    have e2 : addK .i64 (i : Int) 1 = ((i + 1 : Nat) : Int) := by rw [add64 (by omega)]; omega
    have hm := hx (ss.getD i 0) (by rw [List.getD_eq_getElem?_getD, List.getElem?_eq_getElem (by omega)]; exact List.getElem_mem _)
    rw [e1, e2]
    rw [drop_getD (by omega), resetL] at hk
    generalize ss.getD i 0 = x at hm hk ⊢
    have e3 : 0 + x.toNat = x.toNat := by omega
    rw [e3]
    refine Again.mk (brt (by omega) (ndd (by omega) (ndd (by omega) (ndd (by omega) (ndd (by omega) (ndd (by omega) (ndd (by omega) ?_)))))))
    exact evFuelR (ih (i + 1) (os.set x.toNat 0) (by omega) (by rw [List.length_set]; exact h2) hk) (by omega)
theorem an_loopB (s : Sr) (n kd mo : Int) (ss ys : List Int) (c M : Nat) (hl : ys.length ≤ 70368744177664) (hx : ∀ x ∈ ys, 0 ≤ x ∧ x < (s.os.length : Int)) (k : SV → St → Prop) :
    ∀ (rem i : Nat) (os : List Int), i + rem = ys.length → os.length = s.os.length → k (.sa (.one (iv .i64 0))) (sideY 1 2 (own16 (resetL (ys.drop i) os)) (own16 s.ps) nilP s (n, kd, ss, mo) []) →
      ev cxAn (rem + c + 51) (11 + nQ s.kp) 20 (codeAt Try.prog 20 [1, 1, 1, 1, 1, 1, 0, 1, 0]) (frm 85 [(0, (.sa (.one (SC.ptr 0 0 0)))), (72, (.sa (.one (SC.ref (11 + nQ s.kp))))), (73, (.sa (.one (iv .i64 ((ys.length : Nat) : Int))))), (74, (.sa (.one (iv .i64 (i : Int)))))]) (sideY 1 2 (own16 os) (own16 s.ps) nilP s (n, kd, ss, mo) [own16 ys]) (kBlock 0 (kSeq (ev cxAn (M + 53) (11 + nQ s.kp) 20 (codeAt Try.prog 20 [1, 1, 1, 1, 1, 1, 1])) (kRet (Cx.P cxAn) [(ResultVar.tmp 4)] (11 + nQ s.kp) k))) := by
  intro rem
  induction rem with
  | zero =>
    intro i os h1 h2 hk
    refine Eq.mpr (t_anB s ..) ?_
    rw [List.drop_of_length_le (by omega)] at hk
    exact Again.mk (brf (by omega) hk)
  | succ rem ih =>
    intro i os h1 h2 hk
    rw [show rem + 1 + c + 51 = (rem + 1 + c) + 51 from rfl]
    refine Eq.mpr (t_anB s ..) ?_
    have e1 : 0 + ((i : Nat) : Int).toNat = i := by omega
    have e2 : addK .i64 (i : Int) 1 = ((i + 1 : Nat) : Int) := by rw [add64 (by omega)]; omega
    have hm := hx (ys.getD i 0) (by rw [List.getD_eq_getElem?_getD, List.getElem?_eq_getElem (by omega)]; exact List.getElem_mem _)
    rw [e1, e2]
    rw [drop_getD (by omega), resetL] at hk
    generalize ys.getD i 0 = x at hm hk ⊢
    have e3 : 0 + x.toNat = x.toNat := by omega
    rw [e3]
    refine Again.mk (brt (by omega) (ndd (by omega) (ndd (by omega) (ndd (by omega) (ndd (by omega) (ndd (by omega) (ndd (by omega) ?_)))))))
    exact evFuelR (ih (i + 1) (os.set x.toNat 0) (by omega) (by rw [List.length_set]; exact h2) hk) (by omega)
theorem ansK_lin (rn ra : Int) (s : Sr) : Lin (ansK rn ra s) := by
  intro k h
  unfold ansK at h ⊢
  split at h
  · exact Lin.ret _ _ k h
  · exact (Lin.need (Lin.branch (Lin.ret _ _) (Lin.branch (Lin.branch (Lin.branch (Lin.ret _ _) (Lin.ret _ _)) (Lin.ret _ _)) (Lin.ret _ _)))) k h
theorem sAns_lin (args : List SA) (st : St) : Lin (sAns args st) := by
  intro k h
  unfold sAns at h ⊢
  split at h
  · exact lin0 (F := fun s r k => lastW r (ansK _ _ s k)) (fun s r => lin_last (ansK_lin _ _ s)) k h
  · exact h.elim
theorem ans_sum : SumOk Try.prog 20 sAns := by
  refine sumOk_of cxAn_ok sAns_lin fun args st k h => ?_
  unfold sAns at h
  split at h
  · rename_i rn ra
    obtain ⟨s, r, rfl, h'⟩ := rdSd_spec h
    clear h
    cases r with
    | cons x r => exact h'.elim
    | nil =>
    have h : ansK rn ra s k := h'
    clear h'
    rcases s with ⟨os, ps, qs, cum, zs, bs, cl, nx, ex, o, kp⟩
    cases o with
    | none => exact ⟨60, Eq.mpr (t_an0 ⟨os, ps, qs, cum, zs, bs, cl, nx, ex, none, kp⟩ rn ra 0 k) h⟩
    | some c =>
      obtain ⟨n, kd, ss, mo⟩ := c
      unfold ansK at h
      dsimp only at h
      obtain ⟨h1, hK⟩ := need_iff.1 h
      clear h
      rw [Bool.and_eq_true_iff] at h1
      obtain ⟨h1, hu⟩ := h1
      obtain ⟨g1, g2, g3, g4, g5⟩ := of_decide_eq_true h1
      have hall : ∀ x ∈ ss, 0 ≤ x ∧ x < (os.length : Int) := fun x hx => of_decide_eq_true (List.all_eq_true.1 hu x hx)
      refine ⟨(ss.length + 20) + 60, ?_⟩
      refine Eq.mpr (t_an1 ⟨os, ps, qs, cum, zs, bs, cl, nx, ex, some (n, kd, ss, mo), kp⟩ rn ra n kd mo ss (ss.length + 20) k) ?_
      have htk : (List.replicate mo.toNat (0 : Int)).take mo.toNat = List.replicate mo.toNat 0 := List.take_of_length_le (by simp)
      rw [htk]
      refine br (fun e1 => br (fun e2 => ?_) (fun e2 => ?_)) (fun e1 => ?_)
      · rw [Bool.not_eq_true'] at e1
        have hb : befQ n rn = true := by unfold befQ; rw [e1]; exact e2
        rcases branch_or hK with ⟨_, h⟩ | ⟨e', _⟩
        · exact h
        · rw [hb] at e'; cases e'
      all_goals
        have hb : befQ n rn = false := by
          unfold befQ
          first
            | (rw [Bool.not_eq_true'] at e1; rw [e1]; exact e2)
            | (rw [Bool.not_eq_false'] at e1; rw [e1])
        rcases branch_or hK with ⟨e', _⟩ | ⟨_, h⟩
        · rw [hb] at e'; cases e'
        refine br (fun e3 => ?_) (fun e3 => ?_)
        · rw [Bool.not_eq_true'] at e3
          rcases branch_or h with ⟨e', _⟩ | ⟨_, h⟩
          · rw [e3] at e'; cases e'
          · exact h
        rw [Bool.not_eq_false'] at e3
        rcases branch_or h with ⟨_, h⟩ | ⟨e', _⟩
        rotate_left
        · rw [e3] at e'; cases e'
        refine br (fun e4 => ?_) (fun e4 => ?_)
        · rw [Bool.not_eq_true'] at e4
          rcases branch_or h with ⟨e', _⟩ | ⟨_, h⟩
          · rw [e4] at e'; cases e'
          · exact h
        rw [Bool.not_eq_false'] at e4
        rcases branch_or h with ⟨_, h⟩ | ⟨e', _⟩
        rotate_left
        · rw [e4] at e'; cases e'
        refine br (fun e5 => ?_) (fun e5 => ?_)
        · rcases branch_or h with ⟨_, h⟩ | ⟨e', _⟩
          · simp only [List.length_replicate]
            exact ndd (by omega) (ndd (by omega) (ndd (by omega) (ndd (by omega) (ndd (by omega) (ndd (by omega) (ndd (by omega) (ndd (by omega) h)))))))
          · rw [e5] at e'; cases e'
        · rcases branch_or h with ⟨e', _⟩ | ⟨_, h⟩
          · rw [e5] at e'; cases e'
          · dsimp only
            refine ndd (by omega) (brd (fun h4 => ?_) (fun h4 => ?_))
            · unfold allOf at h
              rw [decide_eq_true h4] at h
              exact evFuelR (an_loopA ⟨os, ps, qs, cum, zs, bs, cl, nx, ex, some (n, kd, ss, mo), kp⟩ n kd mo ss 20 (ss.length + 20) g5 hall k ss.length 0 os (by omega) rfl h) (by omega)
            · unfold allOf at h
              rw [decide_eq_false h4] at h
              have e5 : ((os.length : Nat) : Int).toNat = os.length := by omega
              rw [e5]
              have hlen := upI_len os.length 0
              have := an_loopB ⟨os, ps, qs, cum, zs, bs, cl, nx, ex, some (n, kd, ss, mo), kp⟩ n kd mo ss (upI 0 os.length) (20 - os.length + ss.length) (ss.length + 20) (by omega) (fun x hx => by have := upI_mem hx; dsimp only; omega) k os.length 0 os (by omega) rfl h
              exact evFuelR this (by omega)
  · exact h.elim
end Go.Ev
end
section
namespace Go.Ev
open Go Go.Proofs Go.Spec
attribute [local irreducible] ev evCall branch need again
theorem brT {p q : Prop} (h : p) : branch true p q := br (fun _ => h) (fun e => by cases e)
theorem brF {p q : Prop} (h : q) : branch false p q := br (fun e => by cases e) (fun _ => h)
theorem wrap16 {x : Int} (h : 0 ≤ x ∧ x ≤ 65535) : IntKind.wrap .i64 x = x := Go.IntWalk.i64_in _ (by omega)
theorem brTe {a b : Prop} : branch true a b = a := propext (Iff.intro (fun h => (branch_or h).elim (fun h => h.2) (fun h => nomatch h.1)) brT)
theorem brFe {a b : Prop} : branch false a b = b := propext (Iff.intro (fun h => (branch_or h).elim (fun h => nomatch h.1) (fun h => h.2)) brF)
theorem cxMa_ok : CxOk Try.prog cxMa := mkCx_ok namesR mixedR (by
  intro y h
  simp only [List.mem_cons, List.not_mem_nil, or_false] at h
  rcases h with rfl | rfl | rfl
  · exact there_sum
  · exact all_sum
  · exact coM_sum)
theorem maK_lin (wk : Int) (j : Nat) (wm : Int) (s : Sr) (r : St) : Lin (maK wk j wm s r) := by
  intro k h
  unfold maK at h ⊢
  split at h
  · exact Lin.need (Lin.ret _ _) k h
  · exact h.elim
theorem sMa_lin (args : List SA) (st : St) : Lin (sMa args st) := by
  intro k h
  unfold sMa at h ⊢
  split at h
  · rename_i wk j wm
    exact lin0 (F := fun s r => maK wk j wm s r) (fun s r => maK_lin wk j wm s r) k h
  · exact h.elim
theorem allLt_of {n : Nat} {xs : List Int} (h : okU16 xs = true) (h2 : thereB (n : Int) xs = true) : allLt n xs = true :=
  List.all_eq_true.2 fun x hx => decide_eq_true ⟨(u16_all h x hx).1, there_lt h2 x hx⟩
theorem allLt_up (n : Nat) : allLt n (upI 0 n) = true :=
  List.all_eq_true.2 fun x hx => by have := upI_mem hx; exact decide_eq_true ⟨this.1, by omega⟩
theorem ma_sum : SumOk Try.prog 39 sMa := by
  refine sumOk_of cxMa_ok sMa_lin fun args st k h => ?_
  unfold sMa at h
  split at h
  · rename_i kd j more
    obtain ⟨s, r, rfl, h'⟩ := rdSd_spec h
    clear h
    unfold maK at h'
    split at h'
    · rename_i xs
      obtain ⟨h1, hK⟩ := need_iff.1 h'
      clear h'
      rw [Bool.and_eq_true_iff] at h1
      obtain ⟨h1, hu⟩ := h1
      obtain ⟨g1, g2, g3, g4, g5, g6⟩ := of_decide_eq_true h1
      subst g1
      refine ⟨60, Eq.mpr (t_ma s kd more xs 0 k) ?_⟩
      have two : argB kd more xs.length = true → k (.sa (.one (iv .i64 2))) (sideW 0 s [rd16 xs]) := fun e => by
        unfold mayR at hK; rw [e] at hK; exact hK
      have main : argB kd more xs.length = false → (branch (decide (((addK .i64 (((List.length s.os) : Nat) : Int) (IntKind.wrap .i64 more)) > (16)))) (k (.sa (.one (iv .i64 (7)))) (sideW 0 s [rd16 xs])) (need (decide (((0 + (List.length xs)) ≤ (List.length xs)))) (need ((decide (((List.length (List.take (List.length xs) xs)) ≤ 70368744177664))) && (okU16 (List.take (List.length xs) xs))) (branch (Bool.not (thereB (((List.length s.os) : Nat) : Int) (List.take (List.length xs) xs))) (k (.sa (.one (iv .i64 (4)))) (sideW 0 s [rd16 xs])) (branch (eqK kd (1)) (need (decide ((((0) ≤ (((List.length s.os) : Nat) : Int)) ∧ ((((List.length s.os) : Nat) : Int) ≤ (65535))))) (branch (decide ((0 < (List.length xs)))) (need ((decide ((((List.length s.ps) ≤ 70368744177664) ∧ ((List.length xs) ≤ 70368744177664)))) && (allLt (List.length s.ps) xs)) (branch (decide (((idxOp s.ps xs (0)) ≥ (0)))) (k (.sa (.one (iv .i64 (6)))) (sideW 0 s [rd16 xs])) (k (.sa (.one (iv .i64 (0)))) (sideW 0 s [rd16 xs])))) (need ((decide ((((List.length s.ps) ≤ 70368744177664) ∧ ((List.length (upI (0) (Int.toNat (((List.length s.os) : Nat) : Int)))) ≤ 70368744177664)))) && (allLt (List.length s.ps) (upI (0) (Int.toNat (((List.length s.os) : Nat) : Int))))) (branch (decide (((idxOp s.ps (upI (0) (Int.toNat (((List.length s.os) : Nat) : Int))) (0)) ≥ (0)))) (k (.sa (.one (iv .i64 (6)))) (sideW 0 s [rd16 xs])) (k (.sa (.one (iv .i64 (0)))) (sideW 0 s [rd16 xs])))))) (k (.sa (.one (iv .i64 (0)))) (sideW 0 s [rd16 xs]))))))) := fun e => by
        have htk : xs.take xs.length = xs := List.take_of_length_le (Nat.le_refl _)
        have wm' : IntKind.wrap .i64 more = more := wrap16 ⟨g4, g5⟩
        have am : addK .i64 ((s.os.length : Nat) : Int) more = (s.os.length : Int) + more := by rw [add64 (by omega)]
        have e5 : ((s.os.length : Nat) : Int).toNat = s.os.length := by omega
        have hlen := upI_len s.os.length 0
        rw [htk, wm', am, e5]
        unfold mayR at hK
        rw [e] at hK
        refine br (fun e2 => ?_) (fun e2 => ?_)
        · rw [e2] at hK; exact hK
        rw [e2] at hK
        refine ndd (by omega) (nd (Bool.and_eq_true_iff.2 ⟨decide_eq_true g6, hu⟩) (br (fun e3 => ?_) (fun e3 => ?_)))
        · rw [Bool.not_eq_true'] at e3
          rw [e3] at hK; exact hK
        · rw [Bool.not_eq_false'] at e3
          rw [e3] at hK
          have hal := allLt_of hu e3
          rw [g3] at hal
          have hup := allLt_up s.os.length
          rw [g3] at hup
          refine br (fun e4 => ?_) (fun e4 => ?_)
          · rw [e4] at hK
            refine ndd (by omega) (brd (fun e6 => ?_) (fun e6 => ?_))
            · refine nd (Bool.and_eq_true_iff.2 ⟨decide_eq_true (by omega), hal⟩) (br (fun e7 => ?_) (fun e7 => ?_))
              · unfold allOf at hK; rw [decide_eq_true e6] at hK; dsimp only at hK; rw [e7] at hK; exact hK
              · unfold allOf at hK; rw [decide_eq_true e6] at hK; dsimp only at hK; rw [e7] at hK; exact hK
            · refine nd (Bool.and_eq_true_iff.2 ⟨decide_eq_true (by omega), by rw [g3]; exact hup⟩) (br (fun e7 => ?_) (fun e7 => ?_))
              · unfold allOf at hK; rw [decide_eq_false e6] at hK; dsimp only at hK; rw [e7] at hK; exact hK
              · unfold allOf at hK; rw [decide_eq_false e6] at hK; dsimp only at hK; rw [e7] at hK; exact hK
          · rw [e4] at hK
            exact hK
      unfold argB at two main
      cases h1 : eqK kd 1 <;> cases h2 : eqK kd 2 <;> rw [h1] at two main <;> simp only [h1, h2, brTe, brFe, Bool.not_true, Bool.not_false]
      · rw [h2] at two
        exact two rfl
      · rw [h2] at two main
        cases h3 : eqK more 0
        · rw [h3] at two main
          simp only [brTe, brFe] at main
          refine brF (brd (fun e => two ?_) (fun e => main ?_))
          · have : xs.length ≠ 0 := by omega
            rw [eqK_f.2 (by omega)] <;> rfl
          · have : xs.length = 0 := by omega
            rw [eqK_t.2 (by omega)] <;> rfl
        · rw [h3] at two
          exact brT (two rfl)
      · simp only [brTe, brFe] at main
        refine brd (fun e => two ?_) (fun e => main ?_)
        · rw [eqK_f.2 (by omega)] <;> rfl
        · rw [eqK_t.2 (by omega)] <;> rfl
      · rw [eqK_t] at h1 h2
        omega
    · exact h'.elim
  · exact h.elim
end Go.Ev
end
section
namespace Go.Ev
open Go Go.Proofs Go.Spec
theorem inR_mem {v : Int} : ∀ {xs : List Int}, inR v xs = true ↔ v ∈ xs
  | [] => by simp [inR]
  | x :: r => by
    rw [inR]
    cases e : eqK x v with
    | true => rw [eqK_t] at e; simp [e]
    | false =>
      rw [eqK_f] at e
      simp only [List.mem_cons]
      rw [inR_mem]
      constructor
      · exact Or.inr
      · rintro (h | h)
        · exact absurd h.symm e
        · exact h
theorem inB_iff {xs : List Int} {v : Int} : inB xs v = true ↔ v ∈ xs ∨ xs = [] := by
  unfold inB
  cases e : inR v xs with
  | true => simp [inR_mem.1 e]
  | false =>
    have h : ¬ v ∈ xs := fun h => by rw [inR_mem.2 h] at e; cases e
    simp only [h, false_or]
    rw [eqK_t]
    constructor
    · intro h; exact List.eq_nil_of_length_eq_zero (by omega)
    · intro h; subst h; rfl
theorem mem_upI : ∀ {c : Nat} {i x : Int}, x ∈ upI i c ↔ i ≤ x ∧ x < i + c
  | 0, i, x => by simp [upI]
  | c + 1, i, x => by
    simp only [upI, List.mem_cons]
    rw [mem_upI]
    omega
theorem mem_allOf {xs : List Int} {n : Nat} {v : Int} (h : 0 ≤ v ∧ v < n) : v ∈ allOf xs n ↔ inB xs v = true := by
  rw [inB_iff]
  unfold allOf
  cases xs with
  | nil => simp; rw [mem_upI]; omega
  | cons x r => simp
theorem hasAll {xs : List Int} {n : Nat} {v : Int} (h : 0 ≤ v ∧ v < n) : hasL (allOf xs n) v = inB xs v := by
  rw [Bool.eq_iff_iff]
  unfold hasL
  rw [List.contains_iff_mem, mem_allOf h]
theorem allOf_lt {xs : List Int} {n : Nat} (h : allLt n xs = true) : ∀ x ∈ allOf xs n, 0 ≤ x ∧ x < (n : Int) := by
  intro x hx
  unfold allOf at hx
  split at hx
  · exact of_decide_eq_true (List.all_eq_true.1 h x hx)
  · have := mem_upI.1 hx; omega
theorem idxOp_iff {ps : List Int} : ∀ {ys : List Int} {i : Int}, 0 ≤ i → (idxOp ps ys i ≥ 0 ↔ ∃ x ∈ ys, ps.getD x.toNat 0 > 0)
  | [], i, _ => by simp [idxOp]
  | y :: r, i, h => by
    rw [idxOp]
    by_cases e : ps.getD y.toNat 0 > 0
    · rw [decide_eq_true e]
      simp only [List.mem_cons]
      exact ⟨fun _ => ⟨y, Or.inl rfl, e⟩, fun _ => h⟩
    · rw [decide_eq_false e]
      dsimp only
      rw [idxOp_iff (by omega)]
      constructor
      · rintro ⟨x, hx, hp⟩; exact ⟨x, List.mem_cons_of_mem _ hx, hp⟩
      · rintro ⟨x, hx, hp⟩
        rcases List.mem_cons.1 hx with rfl | hx
        · exact absurd hp e
        · exact ⟨x, hx, hp⟩
theorem opR_iff {xs ps : List Int} : ∀ {m i : Nat}, opR xs ps m i = true ↔ ∃ j : Nat, i ≤ j ∧ j < i + m ∧ inB xs j = true ∧ ps.getD j 0 > 0
  | 0, i => by simp [opR]; intro x h1 h2; omega
  | m + 1, i => by
    rw [opR]
    cases e : (inB xs i && decide (ps.getD i 0 > 0)) with
    | true =>
      rw [Bool.and_eq_true_iff] at e
      exact ⟨fun _ => ⟨i, by omega, by omega, e.1, of_decide_eq_true e.2⟩, fun _ => rfl⟩
    | false =>
      dsimp only
      rw [opR_iff]
      constructor
      · rintro ⟨j, h1, h2, h3⟩; exact ⟨j, by omega, by omega, h3⟩
      · rintro ⟨j, h1, h2, h3, h4⟩
        by_cases hj : j = i
        · subst hj; rw [h3, decide_eq_true h4] at e; cases e
        · exact ⟨j, by omega, by omega, h3, h4⟩
theorem open_eq {xs ps : List Int} {n : Nat} (h : allLt n xs = true) : decide (idxOp ps (allOf xs n) 0 ≥ 0) = opR xs ps n 0 := by
  rw [Bool.eq_iff_iff, decide_eq_true_iff, idxOp_iff (by omega), opR_iff]
  constructor
  · rintro ⟨x, hx, hp⟩
    have hb := allOf_lt h x hx
    refine ⟨x.toNat, by omega, by omega, ?_, hp⟩
    have e : ((x.toNat : Nat) : Int) = x := by omega
    rw [e]; exact (mem_allOf hb).1 hx
  · rintro ⟨j, h1, h2, h3, h4⟩
    refine ⟨(j : Int), (mem_allOf (by omega)).2 h3, ?_⟩
    have e : ((j : Nat) : Int).toNat = j := by omega
    rw [e]; exact h4
theorem may_eq {s : Sr} {d : Dr} {wk wm : Int} {xs : List Int} (hu : okU16 xs = true) (h1 : d.os = s.os) (h2 : d.ps = s.ps) : mayD d wk xs wm = (match decide (mayR s wk xs wm = 0) && d.is with
    | true => 6
    | false => mayR s wk xs wm) := by
  unfold mayD mayR
  rw [h1, h2]
  cases argB wk wm xs.length
  rotate_left
  · rfl
  dsimp only
  cases decide ((s.os.length : Int) + wm > 16)
  rotate_left
  · rfl
  dsimp only
  cases e : thereB ((s.os.length : Nat) : Int) xs
  · rfl
  dsimp only
  rw [open_eq (allLt_of hu e)]
  cases (eqK wk 1 && opR xs s.ps s.os.length 0)
  rotate_left
  · rfl
  dsimp only
  cases d.is <;> rfl
theorem getD_set' (qs : List Int) (i j : Nat) (hi : i < qs.length) : (qs.set i 0).getD j 0 = if i = j then 0 else qs.getD j 0 := by
  rw [List.getD_eq_getElem?_getD, List.getElem?_set]
  split
  · rename_i e; subst e; simp [hi]
  · rw [List.getD_eq_getElem?_getD]
theorem resetL_len : ∀ (xs qs : List Int), (resetL xs qs).length = qs.length
  | [], _ => rfl
  | x :: r, qs => by rw [resetL, resetL_len r, List.length_set]
theorem clrR_len (xs : List Int) : ∀ (m i : Nat) (qs : List Int), (clrR xs m i qs).length = qs.length
  | 0, _, _ => rfl
  | m + 1, i, qs => by
    rw [clrR]
    split
    · rw [clrR_len xs m, List.length_set]
    · exact clrR_len xs m _ _
theorem resetL_get : ∀ (ys qs : List Int) (j : Nat), (∀ y ∈ ys, 0 ≤ y ∧ y < (qs.length : Int)) → (resetL ys qs).getD j 0 = if (j : Int) ∈ ys then 0 else qs.getD j 0
  | [], qs, j, _ => by simp [resetL]
  | y :: r, qs, j, h => by
    have hy := h y (List.mem_cons_self ..)
    rw [resetL, resetL_get r _ j (fun z hz => by rw [List.length_set]; exact h z (List.mem_cons_of_mem _ hz)), getD_set' _ _ _ (by omega)]
    by_cases e : y.toNat = j
    · have : (j : Int) = y := by omega
      simp [e, this]
    · have : ¬ (j : Int) = y := by omega
      simp [e, this]
theorem clrR_get (xs : List Int) : ∀ (m i : Nat) (qs : List Int) (j : Nat), i + m ≤ qs.length → (clrR xs m i qs).getD j 0 = if i ≤ j ∧ j < i + m ∧ inB xs j = true then 0 else qs.getD j 0
  | 0, i, qs, j, _ => by
    rw [clrR, if_neg (by omega)]
  | m + 1, i, qs, j, h => by
    rw [clrR]
    cases e : inB xs i with
    | true =>
      dsimp only
      rw [clrR_get xs m (i + 1) _ j (by rw [List.length_set]; omega), getD_set' _ _ _ (by omega)]
      by_cases hj : i = j
      · subst hj
        rw [if_neg (by omega), if_pos rfl, if_pos ⟨by omega, by omega, e⟩]
      · rw [if_neg hj]
        by_cases hc : i + 1 ≤ j ∧ j < i + 1 + m ∧ inB xs j = true
        · rw [if_pos hc, if_pos ⟨by omega, by omega, hc.2.2⟩]
        · rw [if_neg hc, if_neg (fun hh => hc ⟨by omega, by omega, hh.2.2⟩)]
    | false =>
      dsimp only
      rw [clrR_get xs m (i + 1) qs j (by omega)]
      by_cases hc : i + 1 ≤ j ∧ j < i + 1 + m ∧ inB xs j = true
      · rw [if_pos hc, if_pos ⟨by omega, by omega, hc.2.2⟩]
      · rw [if_neg hc, if_neg]
        rintro ⟨h1, h2, h3⟩
        by_cases hj : i = j
        · subst hj; rw [e] at h3; cases h3
        · exact hc ⟨by omega, by omega, h3⟩
theorem ext_getD {a b : List Int} (hl : a.length = b.length) (h : ∀ j, j < a.length → a.getD j 0 = b.getD j 0) : a = b := by
  apply List.ext_getElem hl
  intro i h1 h2
  have := h i h1
  rw [List.getD_eq_getElem?_getD, List.getD_eq_getElem?_getD, List.getElem?_eq_getElem h1, List.getElem?_eq_getElem h2] at this
  exact this
theorem reset_clr {xs qs : List Int} (h : allLt qs.length xs = true) : resetL (allOf xs qs.length) qs = clrR xs qs.length 0 qs := by
  apply ext_getD
  · rw [resetL_len, clrR_len]
  · intro j hj
    rw [resetL_len] at hj
    rw [resetL_get _ _ _ (allOf_lt h), clrR_get _ _ _ _ _ (by omega)]
    have hm := mem_allOf (xs := xs) (n := qs.length) (v := (j : Int)) (by omega)
    by_cases e : inB xs j = true
    · rw [if_pos (hm.2 e), if_pos ⟨by omega, by omega, e⟩]
    · rw [if_neg (fun hh => e (hm.1 hh)), if_neg (fun hh => e hh.2.2)]
theorem idxI_mem {x : Int} : ∀ {xs : List Int}, idxI x xs < xs.length ↔ x ∈ xs
  | [] => by simp [idxI]
  | y :: r => by
    rw [idxI]
    cases e : eqK x y with
    | true => rw [eqK_t] at e; simp [e]
    | false =>
      rw [eqK_f] at e
      simp only [List.length_cons, List.mem_cons, e, false_or]
      rw [← idxI_mem (xs := r)]
      omega
theorem erase_mem {x y : Int} : ∀ {xs : List Int}, y ≠ x → (y ∈ xs.eraseIdx (idxI x xs) ↔ y ∈ xs)
  | [], _ => by simp [idxI]
  | z :: r, h => by
    rw [idxI]
    cases e : eqK x z with
    | true =>
      rw [eqK_t] at e
      subst e
      simp [h]
    | false =>
      simp only [List.eraseIdx_cons_succ, List.mem_cons]
      rw [erase_mem h]
theorem erase_sub {x : Int} : ∀ {xs : List Int} {y : Int}, y ∈ xs.eraseIdx (idxI x xs) → y ∈ xs := fun h => List.mem_of_mem_eraseIdx h
def tn (c : Int) (k : Nat) : Int := (c + k) % 4294967296
theorem tn_add (c : Int) (k j : Nat) : addK .u32 (tn c k) j = tn c (k + j) := by rw [addK_eq, IntKind.wrap_u32]; unfold tn; omega
theorem tn_inj {c : Int} {i j : Nat} (hi : i ≤ 100000) (hj : j ≤ 100000) (h : tn c i = tn c j) : i = j := by unfold tn at h; omega
theorem tn_sub {c : Int} {i j : Nat} (hi : i ≤ 100000) (hj : j ≤ 100000) : subK .u32 (tn c i) (tn c j) = (if j ≤ i then ((i - j : Nat) : Int) else 4294967296 - ((j - i : Nat) : Int)) := by
  rw [subK_eq, IntKind.wrap_u32]
  unfold tn
  split <;> omega
theorem tn_zero {c : Int} (h : 0 ≤ c ∧ c ≤ 4294967295) : tn c 0 = c := by unfold tn; omega
structure GI (c : Int) (m : Nat) (cum : Int) (xs cs : List Int) : Prop where
  hm : m ≤ 999
  hc : cum = tn c m
  hx : ∀ x ∈ xs, ∃ k : Nat, 1 ≤ k ∧ k ≤ 999 ∧ x = tn c k
  hs : ∀ k : Nat, 1 ≤ k → k ≤ 999 → (tn c k ∈ cs ↔ (k ≤ m ∨ tn c k ∈ xs))
theorem GI.has {c : Int} {m : Nat} {cum : Int} {xs cs : List Int} (g : GI c m cum xs cs) (h : 0 ≤ c ∧ c ≤ 4294967295) {k : Nat} (hk : k ≤ 999) : hasB cum xs (tn c k) = cameB cs (tn c k) c := by
  have hm := g.hm
  unfold hasB cameB
  rw [g.hc]
  have e1 := tn_sub (c := c) (i := m) (j := k) (by omega) (by omega)
  have e2 := tn_sub (c := c) (i := 0) (j := k) (by omega) (by omega)
  rw [tn_zero h] at e2
  rw [e1, e2]
  by_cases k0 : k = 0
  · subst k0
    rw [if_pos (Nat.zero_le _), if_pos (Nat.le_refl _)]
    rw [show decide (((0 - 0 : Nat) : Int) < 2147483648) = true from rfl]
    dsimp only
    split
    · rfl
    · split
      · rfl
      · rename_i e3
        rw [eqK_f] at e3
        have : m ≠ 0 := fun e => e3 (by rw [e])
        rw [eqK_f.2 (by omega)]
        exact decide_eq_true (by omega)
  · rw [if_neg (by omega : ¬ k ≤ 0), decide_eq_false (by omega : ¬ (4294967296 - ((k - 0 : Nat) : Int) < 2147483648))]
    dsimp only
    have hs := g.hs k (by omega) hk
    by_cases hx : tn c k ∈ xs
    · rw [decide_eq_true (idxI_mem.2 hx)]
      exact (inR_mem.2 (hs.2 (Or.inr hx))).symm
    · rw [decide_eq_false (fun e => hx (idxI_mem.1 e))]
      dsimp only
      by_cases km : k ≤ m
      · rw [inR_mem.2 (hs.2 (Or.inl km))]
        split
        · rfl
        · rename_i e3
          rw [eqK_f] at e3
          have : k ≠ m := fun e => e3 (by rw [e])
          rw [if_pos km, eqK_f.2 (by omega)]
          exact decide_eq_true (by omega)
      · have : inR (tn c k) cs = false := by
          cases e : inR (tn c k) cs
          · rfl
          · rcases hs.1 (inR_mem.1 e) with h | h
            · exact absurd h km
            · exact absurd h hx
        rw [this, if_neg km]
        rw [eqK_f.2 (fun e => km (by have := tn_inj (by omega) (by omega) e; omega)), eqK_f.2 (by omega)]
        exact decide_eq_false (by omega)
theorem GI.adv {c : Int} {cs : List Int} : ∀ (f : Nat) {m : Nat} {cum : Int} {xs bs : List Int}, GI c m cum xs cs → ∃ m', GI c m' (adv f cum xs bs).1 (adv f cum xs bs).2.1 cs ∧ (adv f cum xs bs).2.1.length ≤ xs.length
  | 0, m, cum, xs, bs, g => ⟨m, g, Nat.le_refl _⟩
  | f + 1, m, cum, xs, bs, g => by
    have hm := g.hm
    have e1 : addK .u32 cum 1 = tn c (m + 1) := by rw [g.hc]; exact tn_add c m 1
    rw [Go.Spec.adv, e1]
    by_cases e : idxI (tn c (m + 1)) xs < xs.length
    · rw [decide_eq_true e]
      dsimp only
      obtain ⟨k, k1, k2, k3⟩ := g.hx _ (idxI_mem.1 e)
      have := tn_inj (by omega) (by omega) k3
      have g' : GI c (m + 1) (tn c (m + 1)) (xs.eraseIdx (idxI (tn c (m + 1)) xs)) cs := by
        refine ⟨by omega, rfl, fun x hx => g.hx x (erase_sub hx), fun j j1 j2 => ?_⟩
        rw [g.hs j j1 j2]
        by_cases hj : j = m + 1
        · subst hj
          exact ⟨fun _ => Or.inl (Nat.le_refl _), fun _ => Or.inr (idxI_mem.1 e)⟩
        · rw [erase_mem (fun h => hj (tn_inj (by omega) (by omega) h))]
          constructor
          · rintro (h | h)
            · exact Or.inl (by omega)
            · exact Or.inr h
          · rintro (h | h)
            · exact Or.inl (by omega)
            · exact Or.inr h
      obtain ⟨m', h1, h2⟩ := GI.adv f (bs := bs.eraseIdx (idxI (tn c (m + 1)) xs)) g'
      refine ⟨m', h1, Nat.le_trans h2 ?_⟩
      rw [List.length_eraseIdx]; split <;> omega
    · rw [decide_eq_false e]
      exact ⟨m, g, Nat.le_refl _⟩
theorem GI.add {c : Int} {m : Nat} {cum : Int} {xs cs bs : List Int} {cl : Nat} (g : GI c m cum xs cs) {k : Nat} (h1 : 1 ≤ k) (hk : k ≤ 999) : ∃ m', GI c m' (advA (tn c k) cum xs bs cl).1 (advA (tn c k) cum xs bs cl).2.1 (cs ++ [tn c k]) ∧ (advA (tn c k) cum xs bs cl).2.1.length ≤ xs.length + 1 := by
  unfold advA
  have hm := g.hm
  have g' : GI c m cum (xs ++ [tn c k]) (cs ++ [tn c k]) := by
    refine ⟨g.hm, g.hc, fun x hx => ?_, fun j j1 j2 => ?_⟩
    · rcases List.mem_append.1 hx with hx | hx
      · exact g.hx x hx
      · rw [List.mem_singleton] at hx; exact ⟨k, h1, hk, hx⟩
    · rw [List.mem_append, List.mem_append, g.hs j j1 j2, or_assoc]
  obtain ⟨m', h2, h3⟩ := GI.adv (xs.length + 1) (bs := bs ++ [(cl : Int)]) g'
  exact ⟨m', h2, by rw [List.length_append] at h3; exact h3⟩
end Go.Ev
end
section
namespace Go.Ev
open Go Go.Proofs Go.Spec
def tcOf (l : List Yt) : Tc := ⟨l.length, l.map (·.is), l.map (·.ts), l.map (·.ss), l.map (·.ns), l.map (·.qs), l.map (·.kd), l.map (·.xs), l.map (·.ms)⟩
def bcOf (l : List Zt) : Bc := ⟨l.length, l.map (·.is), l.map (·.ts), l.map (·.ss), l.map (·.rs), l.map (·.vs)⟩
theorem fitLm {α β : Type} (d : β) (g : α → β) (l : List α) : fitL d l.length (l.map g) = l.map g := fitL_same d _ _ (by simp)
theorem tcOf_app (l : List Yt) (y : Yt) : (tcOf l).app y = tcOf (l ++ [y]) := by
  simp only [tcOf, Tc.app, fitLm, List.map_append, List.map_cons, List.map_nil, List.length_append, List.length_cons, List.length_nil, Nat.zero_add]
theorem bcOf_app (l : List Zt) (y : Zt) : (bcOf l).app y = bcOf (l ++ [y]) := by
  simp only [bcOf, Bc.app, fitLm, List.map_append, List.map_cons, List.map_nil, List.length_append, List.length_cons, List.length_nil, Nat.zero_add]
theorem map_er {α β : Type} (g : α → β) : ∀ (l : List α) (i : Nat), (l.eraseIdx i).map g = (l.map g).eraseIdx i
  | [], _ => rfl
  | x :: r, 0 => rfl
  | x :: r, i + 1 => by simp only [List.eraseIdx_cons_succ, List.map_cons, map_er g r i]
theorem tcMap_er {l : List Yt} {n i : Nat} {f : ∀ (α : Type), α → List α → List α} (hi : i < l.length) (hn : n = l.length - 1) (hf : ∀ (α : Type) (d : α) (x : List α), x.length = l.length → f α d x = x.eraseIdx i) : tcMap n f (tcOf l) = tcOf (l.eraseIdx i) := by
  simp only [tcOf, tcMap, map_er]
  rw [hf _ _ _ (by simp), hf _ _ _ (by simp), hf _ _ _ (by simp), hf _ _ _ (by simp), hf _ _ _ (by simp), hf _ _ _ (by simp), hf _ _ _ (by simp), hf _ _ _ (by simp), List.length_eraseIdx, if_pos hi, hn]
theorem bcMap_er {l : List Zt} {n i : Nat} {f : ∀ (α : Type), α → List α → List α} (hi : i < l.length) (hn : n = l.length - 1) (hf : ∀ (α : Type) (d : α) (x : List α), x.length = l.length → f α d x = x.eraseIdx i) : bcMap n f (bcOf l) = bcOf (l.eraseIdx i) := by
  simp only [bcOf, bcMap, map_er]
  rw [hf _ _ _ (by simp), hf _ _ _ (by simp), hf _ _ _ (by simp), hf _ _ _ (by simp), hf _ _ _ (by simp), List.length_eraseIdx, if_pos hi, hn]
theorem er_eq {α : Type} : ∀ (l : List α) (i : Nat), l.eraseIdx i = l.take i ++ l.drop (i + 1)
  | [], i => by simp
  | x :: r, 0 => by simp
  | x :: r, i + 1 => by simp [er_eq r i]
theorem fitL_take {α : Type} (d : α) : ∀ (n : Nat) (l : List α), n ≤ l.length → fitL d n l = l.take n
  | 0, _, _ => by simp [fitL]
  | n + 1, [], h => by simp at h
  | n + 1, x :: r, h => by simp only [fitL, List.take_succ_cons]; rw [fitL_take d n r (by simpa using h)]
theorem er1 {α : Type} {d : α} {l : List α} {j : Nat} (h0 : j = 1) (hl : 0 < l.length) : fitL d (l.length - j) (l.drop (0 + j)) = l.eraseIdx 0 := by
  subst h0
  rw [fitL_take _ _ _ (by simp), List.take_of_length_le (by simp)]
  cases l <;> simp
theorem er2 {α : Type} {d : α} {l : List α} {i : Nat} (h : l.length = i + 1) : fitL d (i - 0) l = l.eraseIdx i := by
  rw [fitL_take _ _ _ (by omega), er_eq, List.drop_of_length_le (by omega), List.append_nil, Nat.sub_zero]
theorem er4 {α : Type} {d : α} {l : List α} {i j : Nat} (hj : j = i + 1) (h : i < l.length) : fitL d (i - 0) l ++ fitL d (l.length - j) (l.drop (0 + j)) = l.eraseIdx i := by
  subst hj
  rw [fitL_take _ _ _ (by omega), fitL_take _ _ _ (by simp), er_eq, Nat.zero_add, List.take_of_length_le (l := l.drop (i + 1)) (by simp), Nat.sub_zero]
def dY : Yt := ⟨false, 0, 0, 0, 0, 0, [], 0⟩
def dZ : Zt := ⟨false, 0, 0, 0, 0⟩
theorem getDm {α β : Type} (g : α → β) (l : List α) (i : Nat) (d : α) : (l.map g).getD i (g d) = g (l.getD i d) := by
  rw [List.getD_eq_getElem?_getD, List.getD_eq_getElem?_getD, List.getElem?_map]
  cases l[i]? <;> rfl
theorem yAt (l : List Yt) (i : Nat) : (⟨(tcOf l).is.getD i false, (tcOf l).ts.getD i 0, (tcOf l).ss.getD i 0, (tcOf l).ns.getD i 0, (tcOf l).qs.getD i 0, (tcOf l).kds.getD i 0, (tcOf l).xss.getD i [], (tcOf l).ms.getD i 0⟩ : Yt) = l.getD i dY := by
  have e1 := getDm (·.is) l i dY; have e2 := getDm (·.ts) l i dY; have e3 := getDm (·.ss) l i dY; have e4 := getDm (·.ns) l i dY
  have e5 := getDm (·.qs) l i dY; have e6 := getDm (·.kd) l i dY; have e7 := getDm (·.xs) l i dY; have e8 := getDm (·.ms) l i dY
  simp only [dY] at e1 e2 e3 e4 e5 e6 e7 e8
  simp only [tcOf, e1, e2, e3, e4, e5, e6, e7, e8, dY]
theorem zAt (l : List Zt) (i : Nat) : (⟨(bcOf l).is.getD i false, (bcOf l).ts.getD i 0, (bcOf l).ss.getD i 0, (bcOf l).rs.getD i 0, (bcOf l).vs.getD i 0⟩ : Zt) = l.getD i dZ := by
  have e1 := getDm (·.is) l i dZ; have e2 := getDm (·.ts) l i dZ; have e3 := getDm (·.ss) l i dZ; have e4 := getDm (·.rs) l i dZ
  have e5 := getDm (·.vs) l i dZ
  simp only [dZ] at e1 e2 e3 e4 e5
  simp only [bcOf, e1, e2, e3, e4, e5, dZ]
end Go.Ev
end
