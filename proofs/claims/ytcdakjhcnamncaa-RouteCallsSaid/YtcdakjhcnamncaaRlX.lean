/- What RouteCalls and the methods of routes come to on states with numbers that are not known: printed, checked by the kernel; or drawn from that. No conditions. -/
import Derived.Test.YtcdakjhcnamncaaRlP
import Derived.Test.YtcdakjhcnamncaaRlB
import Derived.Test.YtcdakjhcnamncaaRlC
import Derived.Test.YtcdakjhcnamncaaRlE
import Derived.Test.YtcdakjhcnamncaaRlM
set_option linter.unusedVariables false
set_option linter.unusedSimpArgs false
set_option maxRecDepth 100000
namespace Go.Ev
open Go Go.Proofs Go.Spec
attribute [local irreducible] ev evCall branch need again
noncomputable def rlH1 (p0 : Pa) (r0 : Ra) (prim sil al : Int) (n : Nat) (xs ys ks is : List Int) (i : Int) (L M : Nat) (k : KT) : Prop := ev (cxRl 1) (L + 70) 3 6 (codeAt Try.prog 6 [1, 1, 1, 1, 1, 1, 1, 0, 1, 0]) (frm 257 [(8, (.sa (.one (SC.ptr 3 0 0)))), (9, (.sa (.one (SC.ptr 4 0 0)))), (11, (.sa (.one (SC.ptr 11 0 0)))), (77, (.sa (.one (SC.ref 2)))), (78, (.sa (.one (iv .i64 ((n : Nat) : Int))))), (79, (.sa (.one (iv .i64 i))))]) (exO xs :: exO ys :: taO n ks is :: obj 4 1 [bv false] :: obj 29 1 [.ptr 5 0 0] :: (rtLo 5 [p0] prim sil al ++ (obj 54 1 [.ptr 12 0 0] :: rfL 12 [r0] prim sil al))) (kE (cxRl 1) (M) k)
noncomputable def rlG1 (p0 : Pa) (r0 : Ra) (prim sil al : Int) (n : Nat) (xs ys ks is : List Int) (i : Int) (L M : Nat) (k : KT) : Prop := ev (cxRl 1) (L + 61) 3 6 (codeAt Try.prog 6 [1, 1, 1, 1, 1, 1, 1, 0, 1, 0, 0, 1, 1, 0, 0, 1, 1, 0, 0]) (frm 257 [(8, (.sa (.one (SC.ptr 3 0 0)))), (9, (.sa (.one (SC.ptr 4 0 0)))), (11, (.sa (.one (SC.ptr 11 0 0)))), (13, (.sa (.one (iv .i64 i)))), (77, (.sa (.one (SC.ref 2)))), (78, (.sa (.one (iv .i64 ((n : Nat) : Int))))), (79, (.sa (.one (iv .i64 i))))]) (exO xs :: exO ys :: taO n ks is :: obj 4 1 [bv false] :: obj 29 1 [.ptr 5 0 0] :: (rtLo 5 [p0] prim sil al ++ (obj 54 1 [.ptr 12 0 0] :: rfL 12 [r0] prim sil al))) (kSeq (ev (cxRl 1) (L + 61) 3 6 (codeAt Try.prog 6 [1, 1, 1, 1, 1, 1, 1, 0, 1, 0, 0, 1, 1, 0, 0, 1, 1, 0, 1])) (kSeq (ev (cxRl 1) (L + 62) 3 6 (codeAt Try.prog 6 [1, 1, 1, 1, 1, 1, 1, 0, 1, 0, 0, 1, 1, 0, 0, 1, 1, 1])) (kBlock 1 (kSeq (ev (cxRl 1) (L + 66) 3 6 (codeAt Try.prog 6 [1, 1, 1, 1, 1, 1, 1, 0, 1, 0, 0, 1, 1, 1])) (kSeq (ev (cxRl 1) (L + 69) 3 6 (codeAt Try.prog 6 [1, 1, 1, 1, 1, 1, 1, 0, 1, 0])) (kE (cxRl 1) (M) k))))))
noncomputable def rlZ1 (p0 : Pa) (r0 : Ra) (prim sil al : Int) (n : Nat) (xs ys ks is : List Int) (M : Nat) (k : KT) : Prop := ev (cxRl 1) (M + 71) 3 6 (codeAt Try.prog 6 [1, 1, 1, 1, 1, 1, 1, 1, 0]) (frm 257 [(8, (.sa (.one (SC.ptr 3 0 0)))), (9, (.sa (.one (SC.ptr 4 0 0)))), (11, (.sa (.one (SC.ptr 11 0 0))))]) (exO xs :: exO ys :: taO n ks is :: obj 4 1 [bv false] :: obj 29 1 [.ptr 5 0 0] :: (rtLo 5 [p0] prim sil al ++ (obj 54 1 [.ptr 12 0 0] :: rfL 12 [r0] prim sil al))) (kSeq (ev (cxRl 1) (M + 71) 3 6 (codeAt Try.prog 6 [1, 1, 1, 1, 1, 1, 1, 1, 1])) (kRet (Cx.P (cxRl 1)) [(ResultVar.cell 8 4)] 3 k))
theorem rlC_step1 (p0 : Pa) (r0 : Ra) (prim sil al : Int) (n : Nat) (xs ys ks is : List Int) (i : Int) (b : Int) (L M : Nat) (k : KT) (h : relS b [p0] [r0] = true) (hn : rlH1 p0 r0 prim sil al n xs ys ks is (addK .i64 i 1) L M k) : rlG1 p0 r0 prim sil al n xs ys ks is i (L + 1) M k := by
 have hd := rel_downs h
 obtain ⟨c0, h⟩ := relS_cons h
 obtain ⟨f0, t0, _, m0, a0, _⟩ := relB_of c0
 refine Eq.mpr (t_rlC1 p0 r0 prim sil al prim sil al n xs ys ks is i (L + 1) M k) (Again.mk ?_)
 rw [hd, a0, m0]
 refine eqN ?_
 refine eqN (beqN (eqN ?_))
 refine eqN ?_
 exact bre (fun _ => Eq.mpr (t_rlD1 p0 r0 prim sil al prim sil al n xs ys ks is i (L + 1) M k) (Again.mk (evFS hn (by omega)))) (fun _ => evFS hn (by omega))
theorem rlE_end1 (p0 : Pa) (r0 : Ra) (prim sil al : Int) (n : Nat) (xs ys ks is : List Int) (b : Int) (M : Nat) (k : KT) (h : relS b [p0] [r0] = true) (hd : (endsP [p0]).Nodup) (hT : ∀ st, k (.sa (.one (bv true))) st) : rlZ1 p0 r0 prim sil al n xs ys ks is M k := by
 obtain ⟨c0, h⟩ := relS_cons h
 obtain ⟨f0, t0, _, m0, a0, _⟩ := relB_of c0
 have g0 : findS p0.f p0.t [p0] = 0 := (find_at hd (i := 0) rfl).trans rfl
 refine Eq.mpr (t_rlE1 p0 r0 prim sil al prim sil al n xs ys ks is M k) (Again.mk ?_)
 rw [f0, t0, g0]
 refine eqN (eqN (eqN ?_))
 exact hT _
theorem rl_loop1 (al : Int) (n : Nat) (xs ys ks is : List Int) (C M : Nat) (k : KT) (hn : n ≤ 2000) (hT : ∀ st, k (.sa (.one (bv true))) st) :
   ∀ (rem i : Nat) (p0 : Pa) (r0 : Ra) (prim sil : Int), i + rem = n → relS (i : Int) [p0] [r0] = true → (endsP [p0]).Nodup → thereB prim 1 = true → rlH1 p0 r0 prim sil al n xs ys ks is (i : Int) (rem + C) M k := by
 intro rem
 induction rem with
 | zero =>
   intro i p0 r0 prim sil h1 h2 h3 h4
   refine Eq.mpr (t_rlB1 p0 r0 prim sil al prim sil al n xs ys ks is (i : Int) (0 + C) M k) (Again.mk (brf (by omega) ?_))
   exact rlE_end1 p0 r0 prim sil al n xs ys ks is (i : Int) M k h2 h3 hT
 | succ rem ih =>
   intro i p0 r0 prim sil h1 h2 h3 h4
   rw [show rem + 1 + C = rem + C + 1 by omega]
   refine Eq.mpr (t_rlB1 p0 r0 prim sil al prim sil al n xs ys ks is (i : Int) (rem + C + 1) M k) (Again.mk (brt (by omega) (ndd (by omega) (ndd (by omega) (ndd (by omega) ?_)))))
   generalize ks.getD (0 + Int.toNat (i : Int)) 0 = kd
   generalize is.getD (0 + Int.toNat (i : Int)) 0 = I
   have h5 : relS 1000000 [p0] [r0] = true := rel_mono (by omega) h2
   have h6 := rel_tell (b := (i : Int)) (by omega) kd I 0 h2
   have h7 : (endsP (tellP kd I [p0] 0)).Nodup := by rw [ends_tell]; exact h3
   have h8 : thereB (tellQ kd I 1 prim) 1 = true := tellQ_in h4
   have h9 : eqB3 prim prim sil sil al al = true := decide_eq_true ⟨rfl, rfl, rfl⟩
   have e3 : addK .i64 (i : Int) 1 = ((i + 1 : Nat) : Int) := by rw [add64 (by omega)]; omega
   rw [h5, h8, h9, rel_downs h6]
   refine nd rfl (nd rfl (nd rfl (eqN (eqN ?_))))
   obtain ⟨q0, eq⟩ : ∃ q0, tellP kd I [p0] 0 = [q0] := ⟨_, rfl⟩
   obtain ⟨s0, es⟩ : ∃ s0, tellR kd I [r0] 0 = [s0] := ⟨_, rfl⟩
   rw [eq] at h6 h7 ⊢
   rw [es] at h6 ⊢
   refine rlC_step1 q0 s0 (tellQ kd I 1 prim) (tellS kd I 1 sil) al n xs ys ks is (i : Int) ((i : Int) + 1) (rem + C) M k h6 ?_
   rw [e3]
   exact ih (i + 1) q0 s0 _ _ (by omega) (by rw [show (((i + 1 : Nat) : Int)) = (i : Int) + 1 by omega]; exact h6) h7 h8
end Go.Ev
set_option linter.unusedVariables false
set_option linter.unusedSimpArgs false
set_option maxRecDepth 100000
namespace Go.Ev
open Go Go.Proofs Go.Spec
attribute [local irreducible] ev evCall branch need again
noncomputable def rlH2 (p0 p1 : Pa) (r0 r1 : Ra) (prim sil al : Int) (n : Nat) (xs ys ks is : List Int) (i : Int) (L M : Nat) (k : KT) : Prop := ev (cxRl 2) (L + 70) 3 6 (codeAt Try.prog 6 [1, 1, 1, 1, 1, 1, 1, 0, 1, 0]) (frm 257 [(8, (.sa (.one (SC.ptr 3 0 0)))), (9, (.sa (.one (SC.ptr 4 0 0)))), (11, (.sa (.one (SC.ptr 15 0 0)))), (77, (.sa (.one (SC.ref 2)))), (78, (.sa (.one (iv .i64 ((n : Nat) : Int))))), (79, (.sa (.one (iv .i64 i))))]) (exO xs :: exO ys :: taO n ks is :: obj 4 1 [bv false] :: obj 29 1 [.ptr 5 0 0] :: (rtLo 5 [p0, p1] prim sil al ++ (obj 54 1 [.ptr 16 0 0] :: rfL 16 [r0, r1] prim sil al))) (kE (cxRl 2) (M) k)
noncomputable def rlG2 (p0 p1 : Pa) (r0 r1 : Ra) (prim sil al : Int) (n : Nat) (xs ys ks is : List Int) (i : Int) (L M : Nat) (k : KT) : Prop := ev (cxRl 2) (L + 61) 3 6 (codeAt Try.prog 6 [1, 1, 1, 1, 1, 1, 1, 0, 1, 0, 0, 1, 1, 0, 0, 1, 1, 0, 0]) (frm 257 [(8, (.sa (.one (SC.ptr 3 0 0)))), (9, (.sa (.one (SC.ptr 4 0 0)))), (11, (.sa (.one (SC.ptr 15 0 0)))), (13, (.sa (.one (iv .i64 i)))), (77, (.sa (.one (SC.ref 2)))), (78, (.sa (.one (iv .i64 ((n : Nat) : Int))))), (79, (.sa (.one (iv .i64 i))))]) (exO xs :: exO ys :: taO n ks is :: obj 4 1 [bv false] :: obj 29 1 [.ptr 5 0 0] :: (rtLo 5 [p0, p1] prim sil al ++ (obj 54 1 [.ptr 16 0 0] :: rfL 16 [r0, r1] prim sil al))) (kSeq (ev (cxRl 2) (L + 61) 3 6 (codeAt Try.prog 6 [1, 1, 1, 1, 1, 1, 1, 0, 1, 0, 0, 1, 1, 0, 0, 1, 1, 0, 1])) (kSeq (ev (cxRl 2) (L + 62) 3 6 (codeAt Try.prog 6 [1, 1, 1, 1, 1, 1, 1, 0, 1, 0, 0, 1, 1, 0, 0, 1, 1, 1])) (kBlock 1 (kSeq (ev (cxRl 2) (L + 66) 3 6 (codeAt Try.prog 6 [1, 1, 1, 1, 1, 1, 1, 0, 1, 0, 0, 1, 1, 1])) (kSeq (ev (cxRl 2) (L + 69) 3 6 (codeAt Try.prog 6 [1, 1, 1, 1, 1, 1, 1, 0, 1, 0])) (kE (cxRl 2) (M) k))))))
noncomputable def rlZ2 (p0 p1 : Pa) (r0 r1 : Ra) (prim sil al : Int) (n : Nat) (xs ys ks is : List Int) (M : Nat) (k : KT) : Prop := ev (cxRl 2) (M + 71) 3 6 (codeAt Try.prog 6 [1, 1, 1, 1, 1, 1, 1, 1, 0]) (frm 257 [(8, (.sa (.one (SC.ptr 3 0 0)))), (9, (.sa (.one (SC.ptr 4 0 0)))), (11, (.sa (.one (SC.ptr 15 0 0))))]) (exO xs :: exO ys :: taO n ks is :: obj 4 1 [bv false] :: obj 29 1 [.ptr 5 0 0] :: (rtLo 5 [p0, p1] prim sil al ++ (obj 54 1 [.ptr 16 0 0] :: rfL 16 [r0, r1] prim sil al))) (kSeq (ev (cxRl 2) (M + 71) 3 6 (codeAt Try.prog 6 [1, 1, 1, 1, 1, 1, 1, 1, 1])) (kRet (Cx.P (cxRl 2)) [(ResultVar.cell 8 4)] 3 k))
theorem rlC_step2 (p0 p1 : Pa) (r0 r1 : Ra) (prim sil al : Int) (n : Nat) (xs ys ks is : List Int) (i : Int) (b : Int) (L M : Nat) (k : KT) (h : relS b [p0, p1] [r0, r1] = true) (hn : rlH2 p0 p1 r0 r1 prim sil al n xs ys ks is (addK .i64 i 1) L M k) : rlG2 p0 p1 r0 r1 prim sil al n xs ys ks is i (L + 1) M k := by
 have hd := rel_downs h
 obtain ⟨c0, h⟩ := relS_cons h
 obtain ⟨f0, t0, _, m0, a0, _⟩ := relB_of c0
 obtain ⟨c1, h⟩ := relS_cons h
 obtain ⟨f1, t1, _, m1, a1, _⟩ := relB_of c1
 refine Eq.mpr (t_rlC2 p0 p1 r0 r1 prim sil al prim sil al n xs ys ks is i (L + 1) M k) (Again.mk ?_)
 rw [hd, a0, m0, a1, m1]
 refine eqN ?_
 refine eqN (beqN (eqN ?_))
 refine eqN (beqN (eqN ?_))
 refine eqN ?_
 exact bre (fun _ => Eq.mpr (t_rlD2 p0 p1 r0 r1 prim sil al prim sil al n xs ys ks is i (L + 1) M k) (Again.mk (evFS hn (by omega)))) (fun _ => evFS hn (by omega))
theorem rlE_end2 (p0 p1 : Pa) (r0 r1 : Ra) (prim sil al : Int) (n : Nat) (xs ys ks is : List Int) (b : Int) (M : Nat) (k : KT) (h : relS b [p0, p1] [r0, r1] = true) (hd : (endsP [p0, p1]).Nodup) (hT : ∀ st, k (.sa (.one (bv true))) st) : rlZ2 p0 p1 r0 r1 prim sil al n xs ys ks is M k := by
 obtain ⟨c0, h⟩ := relS_cons h
 obtain ⟨f0, t0, _, m0, a0, _⟩ := relB_of c0
 obtain ⟨c1, h⟩ := relS_cons h
 obtain ⟨f1, t1, _, m1, a1, _⟩ := relB_of c1
 have g0 : findS p0.f p0.t [p0, p1] = 0 := (find_at hd (i := 0) rfl).trans rfl
 have g1 : findS p1.f p1.t [p0, p1] = 1 := (find_at hd (i := 1) rfl).trans rfl
 refine Eq.mpr (t_rlE2 p0 p1 r0 r1 prim sil al prim sil al n xs ys ks is M k) (Again.mk ?_)
 rw [f0, t0, g0, f1, t1, g1]
 refine eqN (eqN (eqN ?_))
 refine eqN (eqN (eqN ?_))
 exact hT _
theorem rl_loop2 (al : Int) (n : Nat) (xs ys ks is : List Int) (C M : Nat) (k : KT) (hn : n ≤ 2000) (hT : ∀ st, k (.sa (.one (bv true))) st) :
   ∀ (rem i : Nat) (p0 p1 : Pa) (r0 r1 : Ra) (prim sil : Int), i + rem = n → relS (i : Int) [p0, p1] [r0, r1] = true → (endsP [p0, p1]).Nodup → thereB prim 2 = true → rlH2 p0 p1 r0 r1 prim sil al n xs ys ks is (i : Int) (rem + C) M k := by
 intro rem
 induction rem with
 | zero =>
   intro i p0 p1 r0 r1 prim sil h1 h2 h3 h4
   refine Eq.mpr (t_rlB2 p0 p1 r0 r1 prim sil al prim sil al n xs ys ks is (i : Int) (0 + C) M k) (Again.mk (brf (by omega) ?_))
   exact rlE_end2 p0 p1 r0 r1 prim sil al n xs ys ks is (i : Int) M k h2 h3 hT
 | succ rem ih =>
   intro i p0 p1 r0 r1 prim sil h1 h2 h3 h4
   rw [show rem + 1 + C = rem + C + 1 by omega]
   refine Eq.mpr (t_rlB2 p0 p1 r0 r1 prim sil al prim sil al n xs ys ks is (i : Int) (rem + C + 1) M k) (Again.mk (brt (by omega) (ndd (by omega) (ndd (by omega) (ndd (by omega) ?_)))))
   generalize ks.getD (0 + Int.toNat (i : Int)) 0 = kd
   generalize is.getD (0 + Int.toNat (i : Int)) 0 = I
   have h5 : relS 1000000 [p0, p1] [r0, r1] = true := rel_mono (by omega) h2
   have h6 := rel_tell (b := (i : Int)) (by omega) kd I 0 h2
   have h7 : (endsP (tellP kd I [p0, p1] 0)).Nodup := by rw [ends_tell]; exact h3
   have h8 : thereB (tellQ kd I 2 prim) 2 = true := tellQ_in h4
   have h9 : eqB3 prim prim sil sil al al = true := decide_eq_true ⟨rfl, rfl, rfl⟩
   have e3 : addK .i64 (i : Int) 1 = ((i + 1 : Nat) : Int) := by rw [add64 (by omega)]; omega
   rw [h5, h8, h9, rel_downs h6]
   refine nd rfl (nd rfl (nd rfl (eqN (eqN ?_))))
   obtain ⟨q0, q1, eq⟩ : ∃ q0 q1, tellP kd I [p0, p1] 0 = [q0, q1] := ⟨_, _, rfl⟩
   obtain ⟨s0, s1, es⟩ : ∃ s0 s1, tellR kd I [r0, r1] 0 = [s0, s1] := ⟨_, _, rfl⟩
   rw [eq] at h6 h7 ⊢
   rw [es] at h6 ⊢
   refine rlC_step2 q0 q1 s0 s1 (tellQ kd I 2 prim) (tellS kd I 2 sil) al n xs ys ks is (i : Int) ((i : Int) + 1) (rem + C) M k h6 ?_
   rw [e3]
   exact ih (i + 1) q0 q1 s0 s1 _ _ (by omega) (by rw [show (((i + 1 : Nat) : Int)) = (i : Int) + 1 by omega]; exact h6) h7 h8
end Go.Ev
set_option linter.unusedVariables false
set_option linter.unusedSimpArgs false
set_option maxRecDepth 100000
namespace Go.Ev
open Go Go.Proofs Go.Spec
attribute [local irreducible] ev evCall branch need again
noncomputable def rlH3 (p0 p1 p2 : Pa) (r0 r1 r2 : Ra) (prim sil al : Int) (n : Nat) (xs ys ks is : List Int) (i : Int) (L M : Nat) (k : KT) : Prop := ev (cxRl 3) (L + 70) 3 6 (codeAt Try.prog 6 [1, 1, 1, 1, 1, 1, 1, 0, 1, 0]) (frm 257 [(8, (.sa (.one (SC.ptr 3 0 0)))), (9, (.sa (.one (SC.ptr 4 0 0)))), (11, (.sa (.one (SC.ptr 19 0 0)))), (77, (.sa (.one (SC.ref 2)))), (78, (.sa (.one (iv .i64 ((n : Nat) : Int))))), (79, (.sa (.one (iv .i64 i))))]) (exO xs :: exO ys :: taO n ks is :: obj 4 1 [bv false] :: obj 29 1 [.ptr 5 0 0] :: (rtLo 5 [p0, p1, p2] prim sil al ++ (obj 54 1 [.ptr 20 0 0] :: rfL 20 [r0, r1, r2] prim sil al))) (kE (cxRl 3) (M) k)
noncomputable def rlG3 (p0 p1 p2 : Pa) (r0 r1 r2 : Ra) (prim sil al : Int) (n : Nat) (xs ys ks is : List Int) (i : Int) (L M : Nat) (k : KT) : Prop := ev (cxRl 3) (L + 61) 3 6 (codeAt Try.prog 6 [1, 1, 1, 1, 1, 1, 1, 0, 1, 0, 0, 1, 1, 0, 0, 1, 1, 0, 0]) (frm 257 [(8, (.sa (.one (SC.ptr 3 0 0)))), (9, (.sa (.one (SC.ptr 4 0 0)))), (11, (.sa (.one (SC.ptr 19 0 0)))), (13, (.sa (.one (iv .i64 i)))), (77, (.sa (.one (SC.ref 2)))), (78, (.sa (.one (iv .i64 ((n : Nat) : Int))))), (79, (.sa (.one (iv .i64 i))))]) (exO xs :: exO ys :: taO n ks is :: obj 4 1 [bv false] :: obj 29 1 [.ptr 5 0 0] :: (rtLo 5 [p0, p1, p2] prim sil al ++ (obj 54 1 [.ptr 20 0 0] :: rfL 20 [r0, r1, r2] prim sil al))) (kSeq (ev (cxRl 3) (L + 61) 3 6 (codeAt Try.prog 6 [1, 1, 1, 1, 1, 1, 1, 0, 1, 0, 0, 1, 1, 0, 0, 1, 1, 0, 1])) (kSeq (ev (cxRl 3) (L + 62) 3 6 (codeAt Try.prog 6 [1, 1, 1, 1, 1, 1, 1, 0, 1, 0, 0, 1, 1, 0, 0, 1, 1, 1])) (kBlock 1 (kSeq (ev (cxRl 3) (L + 66) 3 6 (codeAt Try.prog 6 [1, 1, 1, 1, 1, 1, 1, 0, 1, 0, 0, 1, 1, 1])) (kSeq (ev (cxRl 3) (L + 69) 3 6 (codeAt Try.prog 6 [1, 1, 1, 1, 1, 1, 1, 0, 1, 0])) (kE (cxRl 3) (M) k))))))
noncomputable def rlZ3 (p0 p1 p2 : Pa) (r0 r1 r2 : Ra) (prim sil al : Int) (n : Nat) (xs ys ks is : List Int) (M : Nat) (k : KT) : Prop := ev (cxRl 3) (M + 71) 3 6 (codeAt Try.prog 6 [1, 1, 1, 1, 1, 1, 1, 1, 0]) (frm 257 [(8, (.sa (.one (SC.ptr 3 0 0)))), (9, (.sa (.one (SC.ptr 4 0 0)))), (11, (.sa (.one (SC.ptr 19 0 0))))]) (exO xs :: exO ys :: taO n ks is :: obj 4 1 [bv false] :: obj 29 1 [.ptr 5 0 0] :: (rtLo 5 [p0, p1, p2] prim sil al ++ (obj 54 1 [.ptr 20 0 0] :: rfL 20 [r0, r1, r2] prim sil al))) (kSeq (ev (cxRl 3) (M + 71) 3 6 (codeAt Try.prog 6 [1, 1, 1, 1, 1, 1, 1, 1, 1])) (kRet (Cx.P (cxRl 3)) [(ResultVar.cell 8 4)] 3 k))
theorem rlC_step3 (p0 p1 p2 : Pa) (r0 r1 r2 : Ra) (prim sil al : Int) (n : Nat) (xs ys ks is : List Int) (i : Int) (b : Int) (L M : Nat) (k : KT) (h : relS b [p0, p1, p2] [r0, r1, r2] = true) (hn : rlH3 p0 p1 p2 r0 r1 r2 prim sil al n xs ys ks is (addK .i64 i 1) L M k) : rlG3 p0 p1 p2 r0 r1 r2 prim sil al n xs ys ks is i (L + 1) M k := by
 have hd := rel_downs h
 obtain ⟨c0, h⟩ := relS_cons h
 obtain ⟨f0, t0, _, m0, a0, _⟩ := relB_of c0
 obtain ⟨c1, h⟩ := relS_cons h
 obtain ⟨f1, t1, _, m1, a1, _⟩ := relB_of c1
 obtain ⟨c2, h⟩ := relS_cons h
 obtain ⟨f2, t2, _, m2, a2, _⟩ := relB_of c2
 refine Eq.mpr (t_rlC3 p0 p1 p2 r0 r1 r2 prim sil al prim sil al n xs ys ks is i (L + 1) M k) (Again.mk ?_)
 rw [hd, a0, m0, a1, m1, a2, m2]
 refine eqN ?_
 refine eqN (beqN (eqN ?_))
 refine eqN (beqN (eqN ?_))
 refine eqN (beqN (eqN ?_))
 refine eqN ?_
 exact bre (fun _ => Eq.mpr (t_rlD3 p0 p1 p2 r0 r1 r2 prim sil al prim sil al n xs ys ks is i (L + 1) M k) (Again.mk (evFS hn (by omega)))) (fun _ => evFS hn (by omega))
theorem rlE_end3 (p0 p1 p2 : Pa) (r0 r1 r2 : Ra) (prim sil al : Int) (n : Nat) (xs ys ks is : List Int) (b : Int) (M : Nat) (k : KT) (h : relS b [p0, p1, p2] [r0, r1, r2] = true) (hd : (endsP [p0, p1, p2]).Nodup) (hT : ∀ st, k (.sa (.one (bv true))) st) : rlZ3 p0 p1 p2 r0 r1 r2 prim sil al n xs ys ks is M k := by
 obtain ⟨c0, h⟩ := relS_cons h
 obtain ⟨f0, t0, _, m0, a0, _⟩ := relB_of c0
 obtain ⟨c1, h⟩ := relS_cons h
 obtain ⟨f1, t1, _, m1, a1, _⟩ := relB_of c1
 obtain ⟨c2, h⟩ := relS_cons h
 obtain ⟨f2, t2, _, m2, a2, _⟩ := relB_of c2
 have g0 : findS p0.f p0.t [p0, p1, p2] = 0 := (find_at hd (i := 0) rfl).trans rfl
 have g1 : findS p1.f p1.t [p0, p1, p2] = 1 := (find_at hd (i := 1) rfl).trans rfl
 have g2 : findS p2.f p2.t [p0, p1, p2] = 2 := (find_at hd (i := 2) rfl).trans rfl
 refine Eq.mpr (t_rlE3 p0 p1 p2 r0 r1 r2 prim sil al prim sil al n xs ys ks is M k) (Again.mk ?_)
 rw [f0, t0, g0, f1, t1, g1, f2, t2, g2]
 refine eqN (eqN (eqN ?_))
 refine eqN (eqN (eqN ?_))
 refine eqN (eqN (eqN ?_))
 exact hT _
theorem rl_loop3 (al : Int) (n : Nat) (xs ys ks is : List Int) (C M : Nat) (k : KT) (hn : n ≤ 2000) (hT : ∀ st, k (.sa (.one (bv true))) st) :
   ∀ (rem i : Nat) (p0 p1 p2 : Pa) (r0 r1 r2 : Ra) (prim sil : Int), i + rem = n → relS (i : Int) [p0, p1, p2] [r0, r1, r2] = true → (endsP [p0, p1, p2]).Nodup → thereB prim 3 = true → rlH3 p0 p1 p2 r0 r1 r2 prim sil al n xs ys ks is (i : Int) (rem + C) M k := by
 intro rem
 induction rem with
 | zero =>
   intro i p0 p1 p2 r0 r1 r2 prim sil h1 h2 h3 h4
   refine Eq.mpr (t_rlB3 p0 p1 p2 r0 r1 r2 prim sil al prim sil al n xs ys ks is (i : Int) (0 + C) M k) (Again.mk (brf (by omega) ?_))
   exact rlE_end3 p0 p1 p2 r0 r1 r2 prim sil al n xs ys ks is (i : Int) M k h2 h3 hT
 | succ rem ih =>
   intro i p0 p1 p2 r0 r1 r2 prim sil h1 h2 h3 h4
   rw [show rem + 1 + C = rem + C + 1 by omega]
   refine Eq.mpr (t_rlB3 p0 p1 p2 r0 r1 r2 prim sil al prim sil al n xs ys ks is (i : Int) (rem + C + 1) M k) (Again.mk (brt (by omega) (ndd (by omega) (ndd (by omega) (ndd (by omega) ?_)))))
   generalize ks.getD (0 + Int.toNat (i : Int)) 0 = kd
   generalize is.getD (0 + Int.toNat (i : Int)) 0 = I
   have h5 : relS 1000000 [p0, p1, p2] [r0, r1, r2] = true := rel_mono (by omega) h2
   have h6 := rel_tell (b := (i : Int)) (by omega) kd I 0 h2
   have h7 : (endsP (tellP kd I [p0, p1, p2] 0)).Nodup := by rw [ends_tell]; exact h3
   have h8 : thereB (tellQ kd I 3 prim) 3 = true := tellQ_in h4
   have h9 : eqB3 prim prim sil sil al al = true := decide_eq_true ⟨rfl, rfl, rfl⟩
   have e3 : addK .i64 (i : Int) 1 = ((i + 1 : Nat) : Int) := by rw [add64 (by omega)]; omega
   rw [h5, h8, h9, rel_downs h6]
   refine nd rfl (nd rfl (nd rfl (eqN (eqN ?_))))
   obtain ⟨q0, q1, q2, eq⟩ : ∃ q0 q1 q2, tellP kd I [p0, p1, p2] 0 = [q0, q1, q2] := ⟨_, _, _, rfl⟩
   obtain ⟨s0, s1, s2, es⟩ : ∃ s0 s1 s2, tellR kd I [r0, r1, r2] 0 = [s0, s1, s2] := ⟨_, _, _, rfl⟩
   rw [eq] at h6 h7 ⊢
   rw [es] at h6 ⊢
   refine rlC_step3 q0 q1 q2 s0 s1 s2 (tellQ kd I 3 prim) (tellS kd I 3 sil) al n xs ys ks is (i : Int) ((i : Int) + 1) (rem + C) M k h6 ?_
   rw [e3]
   exact ih (i + 1) q0 q1 q2 s0 s1 s2 _ _ (by omega) (by rw [show (((i + 1 : Nat) : Int)) = (i : Int) + 1 by omega]; exact h6) h7 h8
end Go.Ev
set_option linter.unusedVariables false
set_option linter.unusedSimpArgs false
set_option maxRecDepth 100000
namespace Go.Ev
open Go Go.Proofs Go.Spec
attribute [local irreducible] ev evCall branch need again
noncomputable def rlH4 (p0 p1 p2 p3 : Pa) (r0 r1 r2 r3 : Ra) (prim sil al : Int) (n : Nat) (xs ys ks is : List Int) (i : Int) (L M : Nat) (k : KT) : Prop := ev (cxRl 4) (L + 70) 3 6 (codeAt Try.prog 6 [1, 1, 1, 1, 1, 1, 1, 0, 1, 0]) (frm 257 [(8, (.sa (.one (SC.ptr 3 0 0)))), (9, (.sa (.one (SC.ptr 4 0 0)))), (11, (.sa (.one (SC.ptr 23 0 0)))), (77, (.sa (.one (SC.ref 2)))), (78, (.sa (.one (iv .i64 ((n : Nat) : Int))))), (79, (.sa (.one (iv .i64 i))))]) (exO xs :: exO ys :: taO n ks is :: obj 4 1 [bv false] :: obj 29 1 [.ptr 5 0 0] :: (rtLo 5 [p0, p1, p2, p3] prim sil al ++ (obj 54 1 [.ptr 24 0 0] :: rfL 24 [r0, r1, r2, r3] prim sil al))) (kE (cxRl 4) (M) k)
noncomputable def rlG4 (p0 p1 p2 p3 : Pa) (r0 r1 r2 r3 : Ra) (prim sil al : Int) (n : Nat) (xs ys ks is : List Int) (i : Int) (L M : Nat) (k : KT) : Prop := ev (cxRl 4) (L + 61) 3 6 (codeAt Try.prog 6 [1, 1, 1, 1, 1, 1, 1, 0, 1, 0, 0, 1, 1, 0, 0, 1, 1, 0, 0]) (frm 257 [(8, (.sa (.one (SC.ptr 3 0 0)))), (9, (.sa (.one (SC.ptr 4 0 0)))), (11, (.sa (.one (SC.ptr 23 0 0)))), (13, (.sa (.one (iv .i64 i)))), (77, (.sa (.one (SC.ref 2)))), (78, (.sa (.one (iv .i64 ((n : Nat) : Int))))), (79, (.sa (.one (iv .i64 i))))]) (exO xs :: exO ys :: taO n ks is :: obj 4 1 [bv false] :: obj 29 1 [.ptr 5 0 0] :: (rtLo 5 [p0, p1, p2, p3] prim sil al ++ (obj 54 1 [.ptr 24 0 0] :: rfL 24 [r0, r1, r2, r3] prim sil al))) (kSeq (ev (cxRl 4) (L + 61) 3 6 (codeAt Try.prog 6 [1, 1, 1, 1, 1, 1, 1, 0, 1, 0, 0, 1, 1, 0, 0, 1, 1, 0, 1])) (kSeq (ev (cxRl 4) (L + 62) 3 6 (codeAt Try.prog 6 [1, 1, 1, 1, 1, 1, 1, 0, 1, 0, 0, 1, 1, 0, 0, 1, 1, 1])) (kBlock 1 (kSeq (ev (cxRl 4) (L + 66) 3 6 (codeAt Try.prog 6 [1, 1, 1, 1, 1, 1, 1, 0, 1, 0, 0, 1, 1, 1])) (kSeq (ev (cxRl 4) (L + 69) 3 6 (codeAt Try.prog 6 [1, 1, 1, 1, 1, 1, 1, 0, 1, 0])) (kE (cxRl 4) (M) k))))))
noncomputable def rlZ4 (p0 p1 p2 p3 : Pa) (r0 r1 r2 r3 : Ra) (prim sil al : Int) (n : Nat) (xs ys ks is : List Int) (M : Nat) (k : KT) : Prop := ev (cxRl 4) (M + 71) 3 6 (codeAt Try.prog 6 [1, 1, 1, 1, 1, 1, 1, 1, 0]) (frm 257 [(8, (.sa (.one (SC.ptr 3 0 0)))), (9, (.sa (.one (SC.ptr 4 0 0)))), (11, (.sa (.one (SC.ptr 23 0 0))))]) (exO xs :: exO ys :: taO n ks is :: obj 4 1 [bv false] :: obj 29 1 [.ptr 5 0 0] :: (rtLo 5 [p0, p1, p2, p3] prim sil al ++ (obj 54 1 [.ptr 24 0 0] :: rfL 24 [r0, r1, r2, r3] prim sil al))) (kSeq (ev (cxRl 4) (M + 71) 3 6 (codeAt Try.prog 6 [1, 1, 1, 1, 1, 1, 1, 1, 1])) (kRet (Cx.P (cxRl 4)) [(ResultVar.cell 8 4)] 3 k))
theorem rlC_step4 (p0 p1 p2 p3 : Pa) (r0 r1 r2 r3 : Ra) (prim sil al : Int) (n : Nat) (xs ys ks is : List Int) (i : Int) (b : Int) (L M : Nat) (k : KT) (h : relS b [p0, p1, p2, p3] [r0, r1, r2, r3] = true) (hn : rlH4 p0 p1 p2 p3 r0 r1 r2 r3 prim sil al n xs ys ks is (addK .i64 i 1) L M k) : rlG4 p0 p1 p2 p3 r0 r1 r2 r3 prim sil al n xs ys ks is i (L + 1) M k := by
 have hd := rel_downs h
 obtain ⟨c0, h⟩ := relS_cons h
 obtain ⟨f0, t0, _, m0, a0, _⟩ := relB_of c0
 obtain ⟨c1, h⟩ := relS_cons h
 obtain ⟨f1, t1, _, m1, a1, _⟩ := relB_of c1
 obtain ⟨c2, h⟩ := relS_cons h
 obtain ⟨f2, t2, _, m2, a2, _⟩ := relB_of c2
 obtain ⟨c3, h⟩ := relS_cons h
 obtain ⟨f3, t3, _, m3, a3, _⟩ := relB_of c3
 refine Eq.mpr (t_rlC4 p0 p1 p2 p3 r0 r1 r2 r3 prim sil al prim sil al n xs ys ks is i (L + 1) M k) (Again.mk ?_)
 rw [hd, a0, m0, a1, m1, a2, m2, a3, m3]
 refine eqN ?_
 refine eqN (beqN (eqN ?_))
 refine eqN (beqN (eqN ?_))
 refine eqN (beqN (eqN ?_))
 refine eqN (beqN (eqN ?_))
 refine eqN ?_
 exact bre (fun _ => Eq.mpr (t_rlD4 p0 p1 p2 p3 r0 r1 r2 r3 prim sil al prim sil al n xs ys ks is i (L + 1) M k) (Again.mk (evFS hn (by omega)))) (fun _ => evFS hn (by omega))
theorem rlE_end4 (p0 p1 p2 p3 : Pa) (r0 r1 r2 r3 : Ra) (prim sil al : Int) (n : Nat) (xs ys ks is : List Int) (b : Int) (M : Nat) (k : KT) (h : relS b [p0, p1, p2, p3] [r0, r1, r2, r3] = true) (hd : (endsP [p0, p1, p2, p3]).Nodup) (hT : ∀ st, k (.sa (.one (bv true))) st) : rlZ4 p0 p1 p2 p3 r0 r1 r2 r3 prim sil al n xs ys ks is M k := by
 obtain ⟨c0, h⟩ := relS_cons h
 obtain ⟨f0, t0, _, m0, a0, _⟩ := relB_of c0
 obtain ⟨c1, h⟩ := relS_cons h
 obtain ⟨f1, t1, _, m1, a1, _⟩ := relB_of c1
 obtain ⟨c2, h⟩ := relS_cons h
 obtain ⟨f2, t2, _, m2, a2, _⟩ := relB_of c2
 obtain ⟨c3, h⟩ := relS_cons h
 obtain ⟨f3, t3, _, m3, a3, _⟩ := relB_of c3
 have g0 : findS p0.f p0.t [p0, p1, p2, p3] = 0 := (find_at hd (i := 0) rfl).trans rfl
 have g1 : findS p1.f p1.t [p0, p1, p2, p3] = 1 := (find_at hd (i := 1) rfl).trans rfl
 have g2 : findS p2.f p2.t [p0, p1, p2, p3] = 2 := (find_at hd (i := 2) rfl).trans rfl
 have g3 : findS p3.f p3.t [p0, p1, p2, p3] = 3 := (find_at hd (i := 3) rfl).trans rfl
 refine Eq.mpr (t_rlE4 p0 p1 p2 p3 r0 r1 r2 r3 prim sil al prim sil al n xs ys ks is M k) (Again.mk ?_)
 rw [f0, t0, g0, f1, t1, g1, f2, t2, g2, f3, t3, g3]
 refine eqN (eqN (eqN ?_))
 refine eqN (eqN (eqN ?_))
 refine eqN (eqN (eqN ?_))
 refine eqN (eqN (eqN ?_))
 exact hT _
theorem rl_loop4 (al : Int) (n : Nat) (xs ys ks is : List Int) (C M : Nat) (k : KT) (hn : n ≤ 2000) (hT : ∀ st, k (.sa (.one (bv true))) st) :
   ∀ (rem i : Nat) (p0 p1 p2 p3 : Pa) (r0 r1 r2 r3 : Ra) (prim sil : Int), i + rem = n → relS (i : Int) [p0, p1, p2, p3] [r0, r1, r2, r3] = true → (endsP [p0, p1, p2, p3]).Nodup → thereB prim 4 = true → rlH4 p0 p1 p2 p3 r0 r1 r2 r3 prim sil al n xs ys ks is (i : Int) (rem + C) M k := by
 intro rem
 induction rem with
 | zero =>
   intro i p0 p1 p2 p3 r0 r1 r2 r3 prim sil h1 h2 h3 h4
   refine Eq.mpr (t_rlB4 p0 p1 p2 p3 r0 r1 r2 r3 prim sil al prim sil al n xs ys ks is (i : Int) (0 + C) M k) (Again.mk (brf (by omega) ?_))
   exact rlE_end4 p0 p1 p2 p3 r0 r1 r2 r3 prim sil al n xs ys ks is (i : Int) M k h2 h3 hT
 | succ rem ih =>
   intro i p0 p1 p2 p3 r0 r1 r2 r3 prim sil h1 h2 h3 h4
   rw [show rem + 1 + C = rem + C + 1 by omega]
   refine Eq.mpr (t_rlB4 p0 p1 p2 p3 r0 r1 r2 r3 prim sil al prim sil al n xs ys ks is (i : Int) (rem + C + 1) M k) (Again.mk (brt (by omega) (ndd (by omega) (ndd (by omega) (ndd (by omega) ?_)))))
   generalize ks.getD (0 + Int.toNat (i : Int)) 0 = kd
   generalize is.getD (0 + Int.toNat (i : Int)) 0 = I
   have h5 : relS 1000000 [p0, p1, p2, p3] [r0, r1, r2, r3] = true := rel_mono (by omega) h2
   have h6 := rel_tell (b := (i : Int)) (by omega) kd I 0 h2
   have h7 : (endsP (tellP kd I [p0, p1, p2, p3] 0)).Nodup := by rw [ends_tell]; exact h3
   have h8 : thereB (tellQ kd I 4 prim) 4 = true := tellQ_in h4
   have h9 : eqB3 prim prim sil sil al al = true := decide_eq_true ⟨rfl, rfl, rfl⟩
   have e3 : addK .i64 (i : Int) 1 = ((i + 1 : Nat) : Int) := by rw [add64 (by omega)]; omega
   rw [h5, h8, h9, rel_downs h6]
   refine nd rfl (nd rfl (nd rfl (eqN (eqN ?_))))
   obtain ⟨q0, q1, q2, q3, eq⟩ : ∃ q0 q1 q2 q3, tellP kd I [p0, p1, p2, p3] 0 = [q0, q1, q2, q3] := ⟨_, _, _, _, rfl⟩
   obtain ⟨s0, s1, s2, s3, es⟩ : ∃ s0 s1 s2 s3, tellR kd I [r0, r1, r2, r3] 0 = [s0, s1, s2, s3] := ⟨_, _, _, _, rfl⟩
   rw [eq] at h6 h7 ⊢
   rw [es] at h6 ⊢
   refine rlC_step4 q0 q1 q2 q3 s0 s1 s2 s3 (tellQ kd I 4 prim) (tellS kd I 4 sil) al n xs ys ks is (i : Int) ((i : Int) + 1) (rem + C) M k h6 ?_
   rw [e3]
   exact ih (i + 1) q0 q1 q2 q3 s0 s1 s2 s3 _ _ (by omega) (by rw [show (((i + 1 : Nat) : Int)) = (i : Int) + 1 by omega]; exact h6) h7 h8
end Go.Ev
set_option linter.unusedVariables false
set_option linter.unusedSimpArgs false
set_option maxRecDepth 100000
namespace Go.Ev
open Go Go.Proofs Go.Spec
attribute [local irreducible] ev evCall branch need again
noncomputable def rlH6 (p0 p1 p2 p3 p4 p5 : Pa) (r0 r1 r2 r3 r4 r5 : Ra) (prim sil al : Int) (n : Nat) (xs ys ks is : List Int) (i : Int) (L M : Nat) (k : KT) : Prop := ev (cxRl 6) (L + 70) 3 6 (codeAt Try.prog 6 [1, 1, 1, 1, 1, 1, 1, 0, 1, 0]) (frm 257 [(8, (.sa (.one (SC.ptr 3 0 0)))), (9, (.sa (.one (SC.ptr 4 0 0)))), (11, (.sa (.one (SC.ptr 31 0 0)))), (77, (.sa (.one (SC.ref 2)))), (78, (.sa (.one (iv .i64 ((n : Nat) : Int))))), (79, (.sa (.one (iv .i64 i))))]) (exO xs :: exO ys :: taO n ks is :: obj 4 1 [bv false] :: obj 29 1 [.ptr 5 0 0] :: (rtLo 5 [p0, p1, p2, p3, p4, p5] prim sil al ++ (obj 54 1 [.ptr 32 0 0] :: rfL 32 [r0, r1, r2, r3, r4, r5] prim sil al))) (kE (cxRl 6) (M) k)
noncomputable def rlG6 (p0 p1 p2 p3 p4 p5 : Pa) (r0 r1 r2 r3 r4 r5 : Ra) (prim sil al : Int) (n : Nat) (xs ys ks is : List Int) (i : Int) (L M : Nat) (k : KT) : Prop := ev (cxRl 6) (L + 61) 3 6 (codeAt Try.prog 6 [1, 1, 1, 1, 1, 1, 1, 0, 1, 0, 0, 1, 1, 0, 0, 1, 1, 0, 0]) (frm 257 [(8, (.sa (.one (SC.ptr 3 0 0)))), (9, (.sa (.one (SC.ptr 4 0 0)))), (11, (.sa (.one (SC.ptr 31 0 0)))), (13, (.sa (.one (iv .i64 i)))), (77, (.sa (.one (SC.ref 2)))), (78, (.sa (.one (iv .i64 ((n : Nat) : Int))))), (79, (.sa (.one (iv .i64 i))))]) (exO xs :: exO ys :: taO n ks is :: obj 4 1 [bv false] :: obj 29 1 [.ptr 5 0 0] :: (rtLo 5 [p0, p1, p2, p3, p4, p5] prim sil al ++ (obj 54 1 [.ptr 32 0 0] :: rfL 32 [r0, r1, r2, r3, r4, r5] prim sil al))) (kSeq (ev (cxRl 6) (L + 61) 3 6 (codeAt Try.prog 6 [1, 1, 1, 1, 1, 1, 1, 0, 1, 0, 0, 1, 1, 0, 0, 1, 1, 0, 1])) (kSeq (ev (cxRl 6) (L + 62) 3 6 (codeAt Try.prog 6 [1, 1, 1, 1, 1, 1, 1, 0, 1, 0, 0, 1, 1, 0, 0, 1, 1, 1])) (kBlock 1 (kSeq (ev (cxRl 6) (L + 66) 3 6 (codeAt Try.prog 6 [1, 1, 1, 1, 1, 1, 1, 0, 1, 0, 0, 1, 1, 1])) (kSeq (ev (cxRl 6) (L + 69) 3 6 (codeAt Try.prog 6 [1, 1, 1, 1, 1, 1, 1, 0, 1, 0])) (kE (cxRl 6) (M) k))))))
noncomputable def rlZ6 (p0 p1 p2 p3 p4 p5 : Pa) (r0 r1 r2 r3 r4 r5 : Ra) (prim sil al : Int) (n : Nat) (xs ys ks is : List Int) (M : Nat) (k : KT) : Prop := ev (cxRl 6) (M + 71) 3 6 (codeAt Try.prog 6 [1, 1, 1, 1, 1, 1, 1, 1, 0]) (frm 257 [(8, (.sa (.one (SC.ptr 3 0 0)))), (9, (.sa (.one (SC.ptr 4 0 0)))), (11, (.sa (.one (SC.ptr 31 0 0))))]) (exO xs :: exO ys :: taO n ks is :: obj 4 1 [bv false] :: obj 29 1 [.ptr 5 0 0] :: (rtLo 5 [p0, p1, p2, p3, p4, p5] prim sil al ++ (obj 54 1 [.ptr 32 0 0] :: rfL 32 [r0, r1, r2, r3, r4, r5] prim sil al))) (kSeq (ev (cxRl 6) (M + 71) 3 6 (codeAt Try.prog 6 [1, 1, 1, 1, 1, 1, 1, 1, 1])) (kRet (Cx.P (cxRl 6)) [(ResultVar.cell 8 4)] 3 k))
theorem rlC_step6 (p0 p1 p2 p3 p4 p5 : Pa) (r0 r1 r2 r3 r4 r5 : Ra) (prim sil al : Int) (n : Nat) (xs ys ks is : List Int) (i : Int) (b : Int) (L M : Nat) (k : KT) (h : relS b [p0, p1, p2, p3, p4, p5] [r0, r1, r2, r3, r4, r5] = true) (hn : rlH6 p0 p1 p2 p3 p4 p5 r0 r1 r2 r3 r4 r5 prim sil al n xs ys ks is (addK .i64 i 1) L M k) : rlG6 p0 p1 p2 p3 p4 p5 r0 r1 r2 r3 r4 r5 prim sil al n xs ys ks is i (L + 1) M k := by
 have hd := rel_downs h
 obtain ⟨c0, h⟩ := relS_cons h
 obtain ⟨f0, t0, _, m0, a0, _⟩ := relB_of c0
 obtain ⟨c1, h⟩ := relS_cons h
 obtain ⟨f1, t1, _, m1, a1, _⟩ := relB_of c1
 obtain ⟨c2, h⟩ := relS_cons h
 obtain ⟨f2, t2, _, m2, a2, _⟩ := relB_of c2
 obtain ⟨c3, h⟩ := relS_cons h
 obtain ⟨f3, t3, _, m3, a3, _⟩ := relB_of c3
 obtain ⟨c4, h⟩ := relS_cons h
 obtain ⟨f4, t4, _, m4, a4, _⟩ := relB_of c4
 obtain ⟨c5, h⟩ := relS_cons h
 obtain ⟨f5, t5, _, m5, a5, _⟩ := relB_of c5
 refine Eq.mpr (t_rlC6 p0 p1 p2 p3 p4 p5 r0 r1 r2 r3 r4 r5 prim sil al prim sil al n xs ys ks is i (L + 1) M k) (Again.mk ?_)
 rw [hd, a0, m0, a1, m1, a2, m2, a3, m3, a4, m4, a5, m5]
 refine eqN ?_
 refine eqN (beqN (eqN ?_))
 refine eqN (beqN (eqN ?_))
 refine eqN (beqN (eqN ?_))
 refine eqN (beqN (eqN ?_))
 refine eqN (beqN (eqN ?_))
 refine eqN (beqN (eqN ?_))
 refine eqN ?_
 exact bre (fun _ => Eq.mpr (t_rlD6 p0 p1 p2 p3 p4 p5 r0 r1 r2 r3 r4 r5 prim sil al prim sil al n xs ys ks is i (L + 1) M k) (Again.mk (evFS hn (by omega)))) (fun _ => evFS hn (by omega))
theorem rlE_end6 (p0 p1 p2 p3 p4 p5 : Pa) (r0 r1 r2 r3 r4 r5 : Ra) (prim sil al : Int) (n : Nat) (xs ys ks is : List Int) (b : Int) (M : Nat) (k : KT) (h : relS b [p0, p1, p2, p3, p4, p5] [r0, r1, r2, r3, r4, r5] = true) (hd : (endsP [p0, p1, p2, p3, p4, p5]).Nodup) (hT : ∀ st, k (.sa (.one (bv true))) st) : rlZ6 p0 p1 p2 p3 p4 p5 r0 r1 r2 r3 r4 r5 prim sil al n xs ys ks is M k := by
 obtain ⟨c0, h⟩ := relS_cons h
 obtain ⟨f0, t0, _, m0, a0, _⟩ := relB_of c0
 obtain ⟨c1, h⟩ := relS_cons h
 obtain ⟨f1, t1, _, m1, a1, _⟩ := relB_of c1
 obtain ⟨c2, h⟩ := relS_cons h
 obtain ⟨f2, t2, _, m2, a2, _⟩ := relB_of c2
 obtain ⟨c3, h⟩ := relS_cons h
 obtain ⟨f3, t3, _, m3, a3, _⟩ := relB_of c3
 obtain ⟨c4, h⟩ := relS_cons h
 obtain ⟨f4, t4, _, m4, a4, _⟩ := relB_of c4
 obtain ⟨c5, h⟩ := relS_cons h
 obtain ⟨f5, t5, _, m5, a5, _⟩ := relB_of c5
 have g0 : findS p0.f p0.t [p0, p1, p2, p3, p4, p5] = 0 := (find_at hd (i := 0) rfl).trans rfl
 have g1 : findS p1.f p1.t [p0, p1, p2, p3, p4, p5] = 1 := (find_at hd (i := 1) rfl).trans rfl
 have g2 : findS p2.f p2.t [p0, p1, p2, p3, p4, p5] = 2 := (find_at hd (i := 2) rfl).trans rfl
 have g3 : findS p3.f p3.t [p0, p1, p2, p3, p4, p5] = 3 := (find_at hd (i := 3) rfl).trans rfl
 have g4 : findS p4.f p4.t [p0, p1, p2, p3, p4, p5] = 4 := (find_at hd (i := 4) rfl).trans rfl
 have g5 : findS p5.f p5.t [p0, p1, p2, p3, p4, p5] = 5 := (find_at hd (i := 5) rfl).trans rfl
 refine Eq.mpr (t_rlE6 p0 p1 p2 p3 p4 p5 r0 r1 r2 r3 r4 r5 prim sil al prim sil al n xs ys ks is M k) (Again.mk ?_)
 rw [f0, t0, g0, f1, t1, g1, f2, t2, g2, f3, t3, g3, f4, t4, g4, f5, t5, g5]
 refine eqN (eqN (eqN ?_))
 refine eqN (eqN (eqN ?_))
 refine eqN (eqN (eqN ?_))
 refine eqN (eqN (eqN ?_))
 refine eqN (eqN (eqN ?_))
 refine eqN (eqN (eqN ?_))
 exact hT _
theorem rl_loop6 (al : Int) (n : Nat) (xs ys ks is : List Int) (C M : Nat) (k : KT) (hn : n ≤ 2000) (hT : ∀ st, k (.sa (.one (bv true))) st) :
   ∀ (rem i : Nat) (p0 p1 p2 p3 p4 p5 : Pa) (r0 r1 r2 r3 r4 r5 : Ra) (prim sil : Int), i + rem = n → relS (i : Int) [p0, p1, p2, p3, p4, p5] [r0, r1, r2, r3, r4, r5] = true → (endsP [p0, p1, p2, p3, p4, p5]).Nodup → thereB prim 6 = true → rlH6 p0 p1 p2 p3 p4 p5 r0 r1 r2 r3 r4 r5 prim sil al n xs ys ks is (i : Int) (rem + C) M k := by
 intro rem
 induction rem with
 | zero =>
   intro i p0 p1 p2 p3 p4 p5 r0 r1 r2 r3 r4 r5 prim sil h1 h2 h3 h4
   refine Eq.mpr (t_rlB6 p0 p1 p2 p3 p4 p5 r0 r1 r2 r3 r4 r5 prim sil al prim sil al n xs ys ks is (i : Int) (0 + C) M k) (Again.mk (brf (by omega) ?_))
   exact rlE_end6 p0 p1 p2 p3 p4 p5 r0 r1 r2 r3 r4 r5 prim sil al n xs ys ks is (i : Int) M k h2 h3 hT
 | succ rem ih =>
   intro i p0 p1 p2 p3 p4 p5 r0 r1 r2 r3 r4 r5 prim sil h1 h2 h3 h4
   rw [show rem + 1 + C = rem + C + 1 by omega]
   refine Eq.mpr (t_rlB6 p0 p1 p2 p3 p4 p5 r0 r1 r2 r3 r4 r5 prim sil al prim sil al n xs ys ks is (i : Int) (rem + C + 1) M k) (Again.mk (brt (by omega) (ndd (by omega) (ndd (by omega) (ndd (by omega) ?_)))))
   generalize ks.getD (0 + Int.toNat (i : Int)) 0 = kd
   generalize is.getD (0 + Int.toNat (i : Int)) 0 = I
   have h5 : relS 1000000 [p0, p1, p2, p3, p4, p5] [r0, r1, r2, r3, r4, r5] = true := rel_mono (by omega) h2
   have h6 := rel_tell (b := (i : Int)) (by omega) kd I 0 h2
   have h7 : (endsP (tellP kd I [p0, p1, p2, p3, p4, p5] 0)).Nodup := by rw [ends_tell]; exact h3
   have h8 : thereB (tellQ kd I 6 prim) 6 = true := tellQ_in h4
   have h9 : eqB3 prim prim sil sil al al = true := decide_eq_true ⟨rfl, rfl, rfl⟩
   have e3 : addK .i64 (i : Int) 1 = ((i + 1 : Nat) : Int) := by rw [add64 (by omega)]; omega
   rw [h5, h8, h9, rel_downs h6]
   refine nd rfl (nd rfl (nd rfl (eqN (eqN ?_))))
   obtain ⟨q0, q1, q2, q3, q4, q5, eq⟩ : ∃ q0 q1 q2 q3 q4 q5, tellP kd I [p0, p1, p2, p3, p4, p5] 0 = [q0, q1, q2, q3, q4, q5] := ⟨_, _, _, _, _, _, rfl⟩
   obtain ⟨s0, s1, s2, s3, s4, s5, es⟩ : ∃ s0 s1 s2 s3 s4 s5, tellR kd I [r0, r1, r2, r3, r4, r5] 0 = [s0, s1, s2, s3, s4, s5] := ⟨_, _, _, _, _, _, rfl⟩
   rw [eq] at h6 h7 ⊢
   rw [es] at h6 ⊢
   refine rlC_step6 q0 q1 q2 q3 q4 q5 s0 s1 s2 s3 s4 s5 (tellQ kd I 6 prim) (tellS kd I 6 sil) al n xs ys ks is (i : Int) ((i : Int) + 1) (rem + C) M k h6 ?_
   rw [e3]
   exact ih (i + 1) q0 q1 q2 q3 q4 q5 s0 s1 s2 s3 s4 s5 _ _ (by omega) (by rw [show (((i + 1 : Nat) : Int)) = (i : Int) + 1 by omega]; exact h6) h7 h8
end Go.Ev
set_option linter.unusedVariables false
set_option linter.unusedSimpArgs false
set_option maxRecDepth 100000
namespace Go.Ev
open Go Go.Proofs Go.Spec
attribute [local irreducible] ev evCall branch need again
noncomputable def rlH9 (p0 p1 p2 p3 p4 p5 p6 p7 p8 : Pa) (r0 r1 r2 r3 r4 r5 r6 r7 r8 : Ra) (prim sil al : Int) (n : Nat) (xs ys ks is : List Int) (i : Int) (L M : Nat) (k : KT) : Prop := ev cxRl9 (L + 70) 3 6 (codeAt Try.prog 6 [1, 1, 1, 1, 1, 1, 1, 0, 1, 0]) (frm 257 [(8, (.sa (.one (SC.ptr 3 0 0)))), (9, (.sa (.one (SC.ptr 4 0 0)))), (11, (.sa (.one (SC.ptr 43 0 0)))), (77, (.sa (.one (SC.ref 2)))), (78, (.sa (.one (iv .i64 ((n : Nat) : Int))))), (79, (.sa (.one (iv .i64 i))))]) (exO xs :: exO ys :: taO n ks is :: obj 4 1 [bv false] :: obj 29 1 [.ptr 5 0 0] :: (rtLo 5 [p0, p1, p2, p3, p4, p5, p6, p7, p8] prim sil al ++ (obj 54 1 [.ptr 44 0 0] :: rfL 44 [r0, r1, r2, r3, r4, r5, r6, r7, r8] prim sil al))) (kE cxRl9 (M) k)
noncomputable def rlG9 (p0 p1 p2 p3 p4 p5 p6 p7 p8 : Pa) (r0 r1 r2 r3 r4 r5 r6 r7 r8 : Ra) (prim sil al : Int) (n : Nat) (xs ys ks is : List Int) (i : Int) (L M : Nat) (k : KT) : Prop := ev cxRl9 (L + 61) 3 6 (codeAt Try.prog 6 [1, 1, 1, 1, 1, 1, 1, 0, 1, 0, 0, 1, 1, 0, 0, 1, 1, 0, 0]) (frm 257 [(8, (.sa (.one (SC.ptr 3 0 0)))), (9, (.sa (.one (SC.ptr 4 0 0)))), (11, (.sa (.one (SC.ptr 43 0 0)))), (13, (.sa (.one (iv .i64 i)))), (77, (.sa (.one (SC.ref 2)))), (78, (.sa (.one (iv .i64 ((n : Nat) : Int))))), (79, (.sa (.one (iv .i64 i))))]) (exO xs :: exO ys :: taO n ks is :: obj 4 1 [bv false] :: obj 29 1 [.ptr 5 0 0] :: (rtLo 5 [p0, p1, p2, p3, p4, p5, p6, p7, p8] prim sil al ++ (obj 54 1 [.ptr 44 0 0] :: rfL 44 [r0, r1, r2, r3, r4, r5, r6, r7, r8] prim sil al))) (kSeq (ev cxRl9 (L + 61) 3 6 (codeAt Try.prog 6 [1, 1, 1, 1, 1, 1, 1, 0, 1, 0, 0, 1, 1, 0, 0, 1, 1, 0, 1])) (kSeq (ev cxRl9 (L + 62) 3 6 (codeAt Try.prog 6 [1, 1, 1, 1, 1, 1, 1, 0, 1, 0, 0, 1, 1, 0, 0, 1, 1, 1])) (kBlock 1 (kSeq (ev cxRl9 (L + 66) 3 6 (codeAt Try.prog 6 [1, 1, 1, 1, 1, 1, 1, 0, 1, 0, 0, 1, 1, 1])) (kSeq (ev cxRl9 (L + 69) 3 6 (codeAt Try.prog 6 [1, 1, 1, 1, 1, 1, 1, 0, 1, 0])) (kE cxRl9 (M) k))))))
noncomputable def rlZ9 (p0 p1 p2 p3 p4 p5 p6 p7 p8 : Pa) (r0 r1 r2 r3 r4 r5 r6 r7 r8 : Ra) (prim sil al : Int) (n : Nat) (xs ys ks is : List Int) (M : Nat) (k : KT) : Prop := ev cxRl9 (M + 71) 3 6 (codeAt Try.prog 6 [1, 1, 1, 1, 1, 1, 1, 1, 0]) (frm 257 [(8, (.sa (.one (SC.ptr 3 0 0)))), (9, (.sa (.one (SC.ptr 4 0 0)))), (11, (.sa (.one (SC.ptr 43 0 0))))]) (exO xs :: exO ys :: taO n ks is :: obj 4 1 [bv false] :: obj 29 1 [.ptr 5 0 0] :: (rtLo 5 [p0, p1, p2, p3, p4, p5, p6, p7, p8] prim sil al ++ (obj 54 1 [.ptr 44 0 0] :: rfL 44 [r0, r1, r2, r3, r4, r5, r6, r7, r8] prim sil al))) (kSeq (ev cxRl9 (M + 71) 3 6 (codeAt Try.prog 6 [1, 1, 1, 1, 1, 1, 1, 1, 1])) (kRet (Cx.P cxRl9) [(ResultVar.cell 8 4)] 3 k))
theorem rlC_step9 (p0 p1 p2 p3 p4 p5 p6 p7 p8 : Pa) (r0 r1 r2 r3 r4 r5 r6 r7 r8 : Ra) (prim sil al : Int) (n : Nat) (xs ys ks is : List Int) (i : Int) (b : Int) (L M : Nat) (hL : 11 ≤ L) (k : KT) (h : relS b [p0, p1, p2, p3, p4, p5, p6, p7, p8] [r0, r1, r2, r3, r4, r5, r6, r7, r8] = true) (hn : rlH9 p0 p1 p2 p3 p4 p5 p6 p7 p8 r0 r1 r2 r3 r4 r5 r6 r7 r8 prim sil al n xs ys ks is (addK .i64 i 1) L M k) : rlG9 p0 p1 p2 p3 p4 p5 p6 p7 p8 r0 r1 r2 r3 r4 r5 r6 r7 r8 prim sil al n xs ys ks is i (L + 1) M k := by
 have hd := rel_downs h
 obtain ⟨c0, h⟩ := relS_cons h
 obtain ⟨f0, t0, _, m0, a0, _⟩ := relB_of c0
 obtain ⟨c1, h⟩ := relS_cons h
 obtain ⟨f1, t1, _, m1, a1, _⟩ := relB_of c1
 obtain ⟨c2, h⟩ := relS_cons h
 obtain ⟨f2, t2, _, m2, a2, _⟩ := relB_of c2
 obtain ⟨c3, h⟩ := relS_cons h
 obtain ⟨f3, t3, _, m3, a3, _⟩ := relB_of c3
 obtain ⟨c4, h⟩ := relS_cons h
 obtain ⟨f4, t4, _, m4, a4, _⟩ := relB_of c4
 obtain ⟨c5, h⟩ := relS_cons h
 obtain ⟨f5, t5, _, m5, a5, _⟩ := relB_of c5
 obtain ⟨c6, h⟩ := relS_cons h
 obtain ⟨f6, t6, _, m6, a6, _⟩ := relB_of c6
 obtain ⟨c7, h⟩ := relS_cons h
 obtain ⟨f7, t7, _, m7, a7, _⟩ := relB_of c7
 obtain ⟨c8, h⟩ := relS_cons h
 obtain ⟨f8, t8, _, m8, a8, _⟩ := relB_of c8
 obtain ⟨L, rfl⟩ : ∃ K, L = K + 11 := ⟨L - 11, by omega⟩
 refine Eq.mpr (t_rlC9 p0 p1 p2 p3 p4 p5 p6 p7 p8 r0 r1 r2 r3 r4 r5 r6 r7 r8 prim sil al prim sil al n xs ys ks is i (L + 11 + 1) M k) (Again.mk ?_)
 refine Eq.mpr (t_rlS9_0 p0 p1 p2 p3 p4 p5 p6 p7 p8 r0 r1 r2 r3 r4 r5 r6 r7 r8 prim sil al n xs ys ks is i (L + 11) (L + 11 + 1) M k) (Again.mk ?_)
 rw [hd]
 refine eqN ?_
 refine Eq.mpr (t_rlS9_1 p0 p1 p2 p3 p4 p5 p6 p7 p8 r0 r1 r2 r3 r4 r5 r6 r7 r8 prim sil al n xs ys ks is i (L + 10) (L + 11 + 1) M k) (Again.mk ?_)
 rw [hd, a0, m0]
 refine eqN (beqN (eqN ?_))
 refine Eq.mpr (t_rlS9_2 p0 p1 p2 p3 p4 p5 p6 p7 p8 r0 r1 r2 r3 r4 r5 r6 r7 r8 prim sil al n xs ys ks is i (L + 9) (L + 11 + 1) M k) (Again.mk ?_)
 rw [hd, a1, m1]
 refine eqN (beqN (eqN ?_))
 refine Eq.mpr (t_rlS9_3 p0 p1 p2 p3 p4 p5 p6 p7 p8 r0 r1 r2 r3 r4 r5 r6 r7 r8 prim sil al n xs ys ks is i (L + 8) (L + 11 + 1) M k) (Again.mk ?_)
 rw [hd, a2, m2]
 refine eqN (beqN (eqN ?_))
 refine Eq.mpr (t_rlS9_4 p0 p1 p2 p3 p4 p5 p6 p7 p8 r0 r1 r2 r3 r4 r5 r6 r7 r8 prim sil al n xs ys ks is i (L + 7) (L + 11 + 1) M k) (Again.mk ?_)
 rw [hd, a3, m3]
 refine eqN (beqN (eqN ?_))
 refine Eq.mpr (t_rlS9_5 p0 p1 p2 p3 p4 p5 p6 p7 p8 r0 r1 r2 r3 r4 r5 r6 r7 r8 prim sil al n xs ys ks is i (L + 6) (L + 11 + 1) M k) (Again.mk ?_)
 rw [hd, a4, m4]
 refine eqN (beqN (eqN ?_))
 refine Eq.mpr (t_rlS9_6 p0 p1 p2 p3 p4 p5 p6 p7 p8 r0 r1 r2 r3 r4 r5 r6 r7 r8 prim sil al n xs ys ks is i (L + 5) (L + 11 + 1) M k) (Again.mk ?_)
 rw [hd, a5, m5]
 refine eqN (beqN (eqN ?_))
 refine Eq.mpr (t_rlS9_7 p0 p1 p2 p3 p4 p5 p6 p7 p8 r0 r1 r2 r3 r4 r5 r6 r7 r8 prim sil al n xs ys ks is i (L + 4) (L + 11 + 1) M k) (Again.mk ?_)
 rw [hd, a6, m6]
 refine eqN (beqN (eqN ?_))
 refine Eq.mpr (t_rlS9_8 p0 p1 p2 p3 p4 p5 p6 p7 p8 r0 r1 r2 r3 r4 r5 r6 r7 r8 prim sil al n xs ys ks is i (L + 3) (L + 11 + 1) M k) (Again.mk ?_)
 rw [hd, a7, m7]
 refine eqN (beqN (eqN ?_))
 refine Eq.mpr (t_rlS9_9 p0 p1 p2 p3 p4 p5 p6 p7 p8 r0 r1 r2 r3 r4 r5 r6 r7 r8 prim sil al n xs ys ks is i (L + 2) (L + 11 + 1) M k) (Again.mk ?_)
 rw [hd, a8, m8]
 refine eqN (beqN (eqN ?_))
 refine Eq.mpr (t_rlS9_10 p0 p1 p2 p3 p4 p5 p6 p7 p8 r0 r1 r2 r3 r4 r5 r6 r7 r8 prim sil al n xs ys ks is i (L + 1) (L + 11 + 1) M k) (Again.mk ?_)
 rw [hd]
 refine eqN ?_
 refine Eq.mpr (t_rlS9_11 p0 p1 p2 p3 p4 p5 p6 p7 p8 r0 r1 r2 r3 r4 r5 r6 r7 r8 prim sil al n xs ys ks is i (L + 0) (L + 11 + 1) M k) (Again.mk ?_)
 exact bre (fun _ => Eq.mpr (t_rlD9 p0 p1 p2 p3 p4 p5 p6 p7 p8 r0 r1 r2 r3 r4 r5 r6 r7 r8 prim sil al prim sil al n xs ys ks is i (L + 11 + 1) M k) (Again.mk (evFS hn (by omega)))) (fun _ => evFS hn (by omega))
theorem rlE_end9 (p0 p1 p2 p3 p4 p5 p6 p7 p8 : Pa) (r0 r1 r2 r3 r4 r5 r6 r7 r8 : Ra) (prim sil al : Int) (n : Nat) (xs ys ks is : List Int) (b : Int) (M : Nat) (k : KT) (h : relS b [p0, p1, p2, p3, p4, p5, p6, p7, p8] [r0, r1, r2, r3, r4, r5, r6, r7, r8] = true) (hd : (endsP [p0, p1, p2, p3, p4, p5, p6, p7, p8]).Nodup) (hT : ∀ st, k (.sa (.one (bv true))) st) : rlZ9 p0 p1 p2 p3 p4 p5 p6 p7 p8 r0 r1 r2 r3 r4 r5 r6 r7 r8 prim sil al n xs ys ks is M k := by
 obtain ⟨c0, h⟩ := relS_cons h
 obtain ⟨f0, t0, _, m0, a0, _⟩ := relB_of c0
 obtain ⟨c1, h⟩ := relS_cons h
 obtain ⟨f1, t1, _, m1, a1, _⟩ := relB_of c1
 obtain ⟨c2, h⟩ := relS_cons h
 obtain ⟨f2, t2, _, m2, a2, _⟩ := relB_of c2
 obtain ⟨c3, h⟩ := relS_cons h
 obtain ⟨f3, t3, _, m3, a3, _⟩ := relB_of c3
 obtain ⟨c4, h⟩ := relS_cons h
 obtain ⟨f4, t4, _, m4, a4, _⟩ := relB_of c4
 obtain ⟨c5, h⟩ := relS_cons h
 obtain ⟨f5, t5, _, m5, a5, _⟩ := relB_of c5
 obtain ⟨c6, h⟩ := relS_cons h
 obtain ⟨f6, t6, _, m6, a6, _⟩ := relB_of c6
 obtain ⟨c7, h⟩ := relS_cons h
 obtain ⟨f7, t7, _, m7, a7, _⟩ := relB_of c7
 obtain ⟨c8, h⟩ := relS_cons h
 obtain ⟨f8, t8, _, m8, a8, _⟩ := relB_of c8
 have g0 : findS p0.f p0.t [p0, p1, p2, p3, p4, p5, p6, p7, p8] = 0 := (find_at hd (i := 0) rfl).trans rfl
 have g1 : findS p1.f p1.t [p0, p1, p2, p3, p4, p5, p6, p7, p8] = 1 := (find_at hd (i := 1) rfl).trans rfl
 have g2 : findS p2.f p2.t [p0, p1, p2, p3, p4, p5, p6, p7, p8] = 2 := (find_at hd (i := 2) rfl).trans rfl
 have g3 : findS p3.f p3.t [p0, p1, p2, p3, p4, p5, p6, p7, p8] = 3 := (find_at hd (i := 3) rfl).trans rfl
 have g4 : findS p4.f p4.t [p0, p1, p2, p3, p4, p5, p6, p7, p8] = 4 := (find_at hd (i := 4) rfl).trans rfl
 have g5 : findS p5.f p5.t [p0, p1, p2, p3, p4, p5, p6, p7, p8] = 5 := (find_at hd (i := 5) rfl).trans rfl
 have g6 : findS p6.f p6.t [p0, p1, p2, p3, p4, p5, p6, p7, p8] = 6 := (find_at hd (i := 6) rfl).trans rfl
 have g7 : findS p7.f p7.t [p0, p1, p2, p3, p4, p5, p6, p7, p8] = 7 := (find_at hd (i := 7) rfl).trans rfl
 have g8 : findS p8.f p8.t [p0, p1, p2, p3, p4, p5, p6, p7, p8] = 8 := (find_at hd (i := 8) rfl).trans rfl
 refine Eq.mpr (t_rlE9 p0 p1 p2 p3 p4 p5 p6 p7 p8 r0 r1 r2 r3 r4 r5 r6 r7 r8 prim sil al prim sil al n xs ys ks is M k) (Again.mk ?_)
 rw [f0, t0, g0, f1, t1, g1, f2, t2, g2, f3, t3, g3, f4, t4, g4, f5, t5, g5, f6, t6, g6, f7, t7, g7, f8, t8, g8]
 refine eqN (eqN (eqN ?_))
 refine eqN (eqN (eqN ?_))
 refine eqN (eqN (eqN ?_))
 refine eqN (eqN (eqN ?_))
 refine eqN (eqN (eqN ?_))
 refine eqN (eqN (eqN ?_))
 refine eqN (eqN (eqN ?_))
 refine eqN (eqN (eqN ?_))
 refine eqN (eqN (eqN ?_))
 exact hT _
theorem rl_loop9 (al : Int) (n : Nat) (xs ys ks is : List Int) (C M : Nat) (hC : 11 ≤ C) (k : KT) (hn : n ≤ 2000) (hT : ∀ st, k (.sa (.one (bv true))) st) :
   ∀ (rem i : Nat) (p0 p1 p2 p3 p4 p5 p6 p7 p8 : Pa) (r0 r1 r2 r3 r4 r5 r6 r7 r8 : Ra) (prim sil : Int), i + rem = n → relS (i : Int) [p0, p1, p2, p3, p4, p5, p6, p7, p8] [r0, r1, r2, r3, r4, r5, r6, r7, r8] = true → (endsP [p0, p1, p2, p3, p4, p5, p6, p7, p8]).Nodup → thereB prim 9 = true → rlH9 p0 p1 p2 p3 p4 p5 p6 p7 p8 r0 r1 r2 r3 r4 r5 r6 r7 r8 prim sil al n xs ys ks is (i : Int) (rem + C) M k := by
 intro rem
 induction rem with
 | zero =>
   intro i p0 p1 p2 p3 p4 p5 p6 p7 p8 r0 r1 r2 r3 r4 r5 r6 r7 r8 prim sil h1 h2 h3 h4
   refine Eq.mpr (t_rlB9 p0 p1 p2 p3 p4 p5 p6 p7 p8 r0 r1 r2 r3 r4 r5 r6 r7 r8 prim sil al prim sil al n xs ys ks is (i : Int) (0 + C) M k) (Again.mk (brf (by omega) ?_))
   exact rlE_end9 p0 p1 p2 p3 p4 p5 p6 p7 p8 r0 r1 r2 r3 r4 r5 r6 r7 r8 prim sil al n xs ys ks is (i : Int) M k h2 h3 hT
 | succ rem ih =>
   intro i p0 p1 p2 p3 p4 p5 p6 p7 p8 r0 r1 r2 r3 r4 r5 r6 r7 r8 prim sil h1 h2 h3 h4
   rw [show rem + 1 + C = rem + C + 1 by omega]
   refine Eq.mpr (t_rlB9 p0 p1 p2 p3 p4 p5 p6 p7 p8 r0 r1 r2 r3 r4 r5 r6 r7 r8 prim sil al prim sil al n xs ys ks is (i : Int) (rem + C + 1) M k) (Again.mk (brt (by omega) (ndd (by omega) (ndd (by omega) (ndd (by omega) ?_)))))
   generalize ks.getD (0 + Int.toNat (i : Int)) 0 = kd
   generalize is.getD (0 + Int.toNat (i : Int)) 0 = I
   have h5 : relS 1000000 [p0, p1, p2, p3, p4, p5, p6, p7, p8] [r0, r1, r2, r3, r4, r5, r6, r7, r8] = true := rel_mono (by omega) h2
   have h6 := rel_tell (b := (i : Int)) (by omega) kd I 0 h2
   have h7 : (endsP (tellP kd I [p0, p1, p2, p3, p4, p5, p6, p7, p8] 0)).Nodup := by rw [ends_tell]; exact h3
   have h8 : thereB (tellQ kd I 9 prim) 9 = true := tellQ_in h4
   have h9 : eqB3 prim prim sil sil al al = true := decide_eq_true ⟨rfl, rfl, rfl⟩
   have e3 : addK .i64 (i : Int) 1 = ((i + 1 : Nat) : Int) := by rw [add64 (by omega)]; omega
   rw [h5, h8, h9, rel_downs h6]
   refine nd rfl (nd rfl (nd rfl (eqN (eqN ?_))))
   obtain ⟨q0, q1, q2, q3, q4, q5, q6, q7, q8, eq⟩ : ∃ q0 q1 q2 q3 q4 q5 q6 q7 q8, tellP kd I [p0, p1, p2, p3, p4, p5, p6, p7, p8] 0 = [q0, q1, q2, q3, q4, q5, q6, q7, q8] := ⟨_, _, _, _, _, _, _, _, _, rfl⟩
   obtain ⟨s0, s1, s2, s3, s4, s5, s6, s7, s8, es⟩ : ∃ s0 s1 s2 s3 s4 s5 s6 s7 s8, tellR kd I [r0, r1, r2, r3, r4, r5, r6, r7, r8] 0 = [s0, s1, s2, s3, s4, s5, s6, s7, s8] := ⟨_, _, _, _, _, _, _, _, _, rfl⟩
   rw [eq] at h6 h7 ⊢
   rw [es] at h6 ⊢
   refine rlC_step9 q0 q1 q2 q3 q4 q5 q6 q7 q8 s0 s1 s2 s3 s4 s5 s6 s7 s8 (tellQ kd I 9 prim) (tellS kd I 9 sil) al n xs ys ks is (i : Int) ((i : Int) + 1) (rem + C) M (by omega) k h6 ?_
   rw [e3]
   exact ih (i + 1) q0 q1 q2 q3 q4 q5 q6 q7 q8 s0 s1 s2 s3 s4 s5 s6 s7 s8 _ _ (by omega) (by rw [show (((i + 1 : Nat) : Int)) = (i : Int) + 1 by omega]; exact h6) h7 h8
end Go.Ev
