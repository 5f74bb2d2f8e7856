/- Which path has these ends: the summary. No conditions. -/
import Derived.Test.YtcdakjhcnamncaaSdS
import Derived.Test.YtcdakjhcnamncaaTeT
set_option linter.unusedVariables false
set_option linter.unusedSimpArgs false
set_option maxRecDepth 100000
namespace Go.Ev
open Go Go.Proofs Go.Spec
attribute [local irreducible] ev evCall branch need again
theorem cxFi_ok : CxOk Try.prog cxFi := mkCx_ok namesRk mixedRk (by simp)
theorem findS_eq (f t : Int) (ps : List Pa) : findS f t ps = findA f t ps 0 := by unfold findS stkP; rw [fI_eq]
theorem fi_1 (p0 : Pa) (prim sil al f t : Int) (k : KT) (h : k (.sa (.one (iv .i64 (findA f t [p0] 0)))) (rtL [p0] prim sil al)) : evCall cxFi (ev cxFi (2 + 80)) 20 [.one (.ptr 0 0 0), .one (iv .u32 f), .one (iv .u32 t)] (rtL [p0] prim sil al) k := by
 have s1 : k (.sa (.one (iv .i64 (-1)))) (rtL [p0] prim sil al) → fiH1 p0 prim sil al f t 1 1 2 k := fun h => Eq.mpr (t_fs1_1 p0 prim sil al f t 0 2 k) (Again.mk h)
 have s0 : k (.sa (.one (iv .i64 (findA f t [p0] 0)))) (rtL [p0] prim sil al) → fiH1 p0 prim sil al f t 0 2 2 k := by
   intro h
   refine Eq.mpr (t_fs1_0 p0 prim sil al f t 1 2 k) (Again.mk (bre (fun e => bre (fun e2 => ?_) (fun e2 => ?_)) (fun e => ?_)))
   · rw [findA, if_pos ⟨e, e2⟩] at h; exact h
   · rw [findA, if_neg (fun c => e2 c.2)] at h; exact s1 h
   · rw [findA, if_neg (fun c => e c.1)] at h; exact s1 h
 exact Eq.mpr (t_fi1 p0 prim sil al f t 2 k) (s0 h)
theorem fi_2 (p0 p1 : Pa) (prim sil al f t : Int) (k : KT) (h : k (.sa (.one (iv .i64 (findA f t [p0, p1] 0)))) (rtL [p0, p1] prim sil al)) : evCall cxFi (ev cxFi (3 + 80)) 20 [.one (.ptr 0 0 0), .one (iv .u32 f), .one (iv .u32 t)] (rtL [p0, p1] prim sil al) k := by
 have s2 : k (.sa (.one (iv .i64 (-1)))) (rtL [p0, p1] prim sil al) → fiH2 p0 p1 prim sil al f t 2 1 3 k := fun h => Eq.mpr (t_fs2_2 p0 p1 prim sil al f t 0 3 k) (Again.mk h)
 have s1 : k (.sa (.one (iv .i64 (findA f t [p1] 1)))) (rtL [p0, p1] prim sil al) → fiH2 p0 p1 prim sil al f t 1 2 3 k := by
   intro h
   refine Eq.mpr (t_fs2_1 p0 p1 prim sil al f t 1 3 k) (Again.mk (bre (fun e => bre (fun e2 => ?_) (fun e2 => ?_)) (fun e => ?_)))
   · rw [findA, if_pos ⟨e, e2⟩] at h; exact h
   · rw [findA, if_neg (fun c => e2 c.2)] at h; exact s2 h
   · rw [findA, if_neg (fun c => e c.1)] at h; exact s2 h
 have s0 : k (.sa (.one (iv .i64 (findA f t [p0, p1] 0)))) (rtL [p0, p1] prim sil al) → fiH2 p0 p1 prim sil al f t 0 3 3 k := by
   intro h
   refine Eq.mpr (t_fs2_0 p0 p1 prim sil al f t 2 3 k) (Again.mk (bre (fun e => bre (fun e2 => ?_) (fun e2 => ?_)) (fun e => ?_)))
   · rw [findA, if_pos ⟨e, e2⟩] at h; exact h
   · rw [findA, if_neg (fun c => e2 c.2)] at h; exact s1 h
   · rw [findA, if_neg (fun c => e c.1)] at h; exact s1 h
 exact Eq.mpr (t_fi2 p0 p1 prim sil al f t 3 k) (s0 h)
theorem fi_3 (p0 p1 p2 : Pa) (prim sil al f t : Int) (k : KT) (h : k (.sa (.one (iv .i64 (findA f t [p0, p1, p2] 0)))) (rtL [p0, p1, p2] prim sil al)) : evCall cxFi (ev cxFi (4 + 80)) 20 [.one (.ptr 0 0 0), .one (iv .u32 f), .one (iv .u32 t)] (rtL [p0, p1, p2] prim sil al) k := by
 have s3 : k (.sa (.one (iv .i64 (-1)))) (rtL [p0, p1, p2] prim sil al) → fiH3 p0 p1 p2 prim sil al f t 3 1 4 k := fun h => Eq.mpr (t_fs3_3 p0 p1 p2 prim sil al f t 0 4 k) (Again.mk h)
 have s2 : k (.sa (.one (iv .i64 (findA f t [p2] 2)))) (rtL [p0, p1, p2] prim sil al) → fiH3 p0 p1 p2 prim sil al f t 2 2 4 k := by
   intro h
   refine Eq.mpr (t_fs3_2 p0 p1 p2 prim sil al f t 1 4 k) (Again.mk (bre (fun e => bre (fun e2 => ?_) (fun e2 => ?_)) (fun e => ?_)))
   · rw [findA, if_pos ⟨e, e2⟩] at h; exact h
   · rw [findA, if_neg (fun c => e2 c.2)] at h; exact s3 h
   · rw [findA, if_neg (fun c => e c.1)] at h; exact s3 h
 have s1 : k (.sa (.one (iv .i64 (findA f t [p1, p2] 1)))) (rtL [p0, p1, p2] prim sil al) → fiH3 p0 p1 p2 prim sil al f t 1 3 4 k := by
   intro h
   refine Eq.mpr (t_fs3_1 p0 p1 p2 prim sil al f t 2 4 k) (Again.mk (bre (fun e => bre (fun e2 => ?_) (fun e2 => ?_)) (fun e => ?_)))
   · rw [findA, if_pos ⟨e, e2⟩] at h; exact h
   · rw [findA, if_neg (fun c => e2 c.2)] at h; exact s2 h
   · rw [findA, if_neg (fun c => e c.1)] at h; exact s2 h
 have s0 : k (.sa (.one (iv .i64 (findA f t [p0, p1, p2] 0)))) (rtL [p0, p1, p2] prim sil al) → fiH3 p0 p1 p2 prim sil al f t 0 4 4 k := by
   intro h
   refine Eq.mpr (t_fs3_0 p0 p1 p2 prim sil al f t 3 4 k) (Again.mk (bre (fun e => bre (fun e2 => ?_) (fun e2 => ?_)) (fun e => ?_)))
   · rw [findA, if_pos ⟨e, e2⟩] at h; exact h
   · rw [findA, if_neg (fun c => e2 c.2)] at h; exact s1 h
   · rw [findA, if_neg (fun c => e c.1)] at h; exact s1 h
 exact Eq.mpr (t_fi3 p0 p1 p2 prim sil al f t 4 k) (s0 h)
theorem fi_4 (p0 p1 p2 p3 : Pa) (prim sil al f t : Int) (k : KT) (h : k (.sa (.one (iv .i64 (findA f t [p0, p1, p2, p3] 0)))) (rtL [p0, p1, p2, p3] prim sil al)) : evCall cxFi (ev cxFi (5 + 80)) 20 [.one (.ptr 0 0 0), .one (iv .u32 f), .one (iv .u32 t)] (rtL [p0, p1, p2, p3] prim sil al) k := by
 have s4 : k (.sa (.one (iv .i64 (-1)))) (rtL [p0, p1, p2, p3] prim sil al) → fiH4 p0 p1 p2 p3 prim sil al f t 4 1 5 k := fun h => Eq.mpr (t_fs4_4 p0 p1 p2 p3 prim sil al f t 0 5 k) (Again.mk h)
 have s3 : k (.sa (.one (iv .i64 (findA f t [p3] 3)))) (rtL [p0, p1, p2, p3] prim sil al) → fiH4 p0 p1 p2 p3 prim sil al f t 3 2 5 k := by
   intro h
   refine Eq.mpr (t_fs4_3 p0 p1 p2 p3 prim sil al f t 1 5 k) (Again.mk (bre (fun e => bre (fun e2 => ?_) (fun e2 => ?_)) (fun e => ?_)))
   · rw [findA, if_pos ⟨e, e2⟩] at h; exact h
   · rw [findA, if_neg (fun c => e2 c.2)] at h; exact s4 h
   · rw [findA, if_neg (fun c => e c.1)] at h; exact s4 h
 have s2 : k (.sa (.one (iv .i64 (findA f t [p2, p3] 2)))) (rtL [p0, p1, p2, p3] prim sil al) → fiH4 p0 p1 p2 p3 prim sil al f t 2 3 5 k := by
   intro h
   refine Eq.mpr (t_fs4_2 p0 p1 p2 p3 prim sil al f t 2 5 k) (Again.mk (bre (fun e => bre (fun e2 => ?_) (fun e2 => ?_)) (fun e => ?_)))
   · rw [findA, if_pos ⟨e, e2⟩] at h; exact h
   · rw [findA, if_neg (fun c => e2 c.2)] at h; exact s3 h
   · rw [findA, if_neg (fun c => e c.1)] at h; exact s3 h
 have s1 : k (.sa (.one (iv .i64 (findA f t [p1, p2, p3] 1)))) (rtL [p0, p1, p2, p3] prim sil al) → fiH4 p0 p1 p2 p3 prim sil al f t 1 4 5 k := by
   intro h
   refine Eq.mpr (t_fs4_1 p0 p1 p2 p3 prim sil al f t 3 5 k) (Again.mk (bre (fun e => bre (fun e2 => ?_) (fun e2 => ?_)) (fun e => ?_)))
   · rw [findA, if_pos ⟨e, e2⟩] at h; exact h
   · rw [findA, if_neg (fun c => e2 c.2)] at h; exact s2 h
   · rw [findA, if_neg (fun c => e c.1)] at h; exact s2 h
 have s0 : k (.sa (.one (iv .i64 (findA f t [p0, p1, p2, p3] 0)))) (rtL [p0, p1, p2, p3] prim sil al) → fiH4 p0 p1 p2 p3 prim sil al f t 0 5 5 k := by
   intro h
   refine Eq.mpr (t_fs4_0 p0 p1 p2 p3 prim sil al f t 4 5 k) (Again.mk (bre (fun e => bre (fun e2 => ?_) (fun e2 => ?_)) (fun e => ?_)))
   · rw [findA, if_pos ⟨e, e2⟩] at h; exact h
   · rw [findA, if_neg (fun c => e2 c.2)] at h; exact s1 h
   · rw [findA, if_neg (fun c => e c.1)] at h; exact s1 h
 exact Eq.mpr (t_fi4 p0 p1 p2 p3 prim sil al f t 5 k) (s0 h)
theorem fi_6 (p0 p1 p2 p3 p4 p5 : Pa) (prim sil al f t : Int) (k : KT) (h : k (.sa (.one (iv .i64 (findA f t [p0, p1, p2, p3, p4, p5] 0)))) (rtL [p0, p1, p2, p3, p4, p5] prim sil al)) : evCall cxFi (ev cxFi (7 + 80)) 20 [.one (.ptr 0 0 0), .one (iv .u32 f), .one (iv .u32 t)] (rtL [p0, p1, p2, p3, p4, p5] prim sil al) k := by
 have s6 : k (.sa (.one (iv .i64 (-1)))) (rtL [p0, p1, p2, p3, p4, p5] prim sil al) → fiH6 p0 p1 p2 p3 p4 p5 prim sil al f t 6 1 7 k := fun h => Eq.mpr (t_fs6_6 p0 p1 p2 p3 p4 p5 prim sil al f t 0 7 k) (Again.mk h)
 have s5 : k (.sa (.one (iv .i64 (findA f t [p5] 5)))) (rtL [p0, p1, p2, p3, p4, p5] prim sil al) → fiH6 p0 p1 p2 p3 p4 p5 prim sil al f t 5 2 7 k := by
   intro h
   refine Eq.mpr (t_fs6_5 p0 p1 p2 p3 p4 p5 prim sil al f t 1 7 k) (Again.mk (bre (fun e => bre (fun e2 => ?_) (fun e2 => ?_)) (fun e => ?_)))
   · rw [findA, if_pos ⟨e, e2⟩] at h; exact h
   · rw [findA, if_neg (fun c => e2 c.2)] at h; exact s6 h
   · rw [findA, if_neg (fun c => e c.1)] at h; exact s6 h
 have s4 : k (.sa (.one (iv .i64 (findA f t [p4, p5] 4)))) (rtL [p0, p1, p2, p3, p4, p5] prim sil al) → fiH6 p0 p1 p2 p3 p4 p5 prim sil al f t 4 3 7 k := by
   intro h
   refine Eq.mpr (t_fs6_4 p0 p1 p2 p3 p4 p5 prim sil al f t 2 7 k) (Again.mk (bre (fun e => bre (fun e2 => ?_) (fun e2 => ?_)) (fun e => ?_)))
   · rw [findA, if_pos ⟨e, e2⟩] at h; exact h
   · rw [findA, if_neg (fun c => e2 c.2)] at h; exact s5 h
   · rw [findA, if_neg (fun c => e c.1)] at h; exact s5 h
 have s3 : k (.sa (.one (iv .i64 (findA f t [p3, p4, p5] 3)))) (rtL [p0, p1, p2, p3, p4, p5] prim sil al) → fiH6 p0 p1 p2 p3 p4 p5 prim sil al f t 3 4 7 k := by
   intro h
   refine Eq.mpr (t_fs6_3 p0 p1 p2 p3 p4 p5 prim sil al f t 3 7 k) (Again.mk (bre (fun e => bre (fun e2 => ?_) (fun e2 => ?_)) (fun e => ?_)))
   · rw [findA, if_pos ⟨e, e2⟩] at h; exact h
   · rw [findA, if_neg (fun c => e2 c.2)] at h; exact s4 h
   · rw [findA, if_neg (fun c => e c.1)] at h; exact s4 h
 have s2 : k (.sa (.one (iv .i64 (findA f t [p2, p3, p4, p5] 2)))) (rtL [p0, p1, p2, p3, p4, p5] prim sil al) → fiH6 p0 p1 p2 p3 p4 p5 prim sil al f t 2 5 7 k := by
   intro h
   refine Eq.mpr (t_fs6_2 p0 p1 p2 p3 p4 p5 prim sil al f t 4 7 k) (Again.mk (bre (fun e => bre (fun e2 => ?_) (fun e2 => ?_)) (fun e => ?_)))
   · rw [findA, if_pos ⟨e, e2⟩] at h; exact h
   · rw [findA, if_neg (fun c => e2 c.2)] at h; exact s3 h
   · rw [findA, if_neg (fun c => e c.1)] at h; exact s3 h
 have s1 : k (.sa (.one (iv .i64 (findA f t [p1, p2, p3, p4, p5] 1)))) (rtL [p0, p1, p2, p3, p4, p5] prim sil al) → fiH6 p0 p1 p2 p3 p4 p5 prim sil al f t 1 6 7 k := by
   intro h
   refine Eq.mpr (t_fs6_1 p0 p1 p2 p3 p4 p5 prim sil al f t 5 7 k) (Again.mk (bre (fun e => bre (fun e2 => ?_) (fun e2 => ?_)) (fun e => ?_)))
   · rw [findA, if_pos ⟨e, e2⟩] at h; exact h
   · rw [findA, if_neg (fun c => e2 c.2)] at h; exact s2 h
   · rw [findA, if_neg (fun c => e c.1)] at h; exact s2 h
 have s0 : k (.sa (.one (iv .i64 (findA f t [p0, p1, p2, p3, p4, p5] 0)))) (rtL [p0, p1, p2, p3, p4, p5] prim sil al) → fiH6 p0 p1 p2 p3 p4 p5 prim sil al f t 0 7 7 k := by
   intro h
   refine Eq.mpr (t_fs6_0 p0 p1 p2 p3 p4 p5 prim sil al f t 6 7 k) (Again.mk (bre (fun e => bre (fun e2 => ?_) (fun e2 => ?_)) (fun e => ?_)))
   · rw [findA, if_pos ⟨e, e2⟩] at h; exact h
   · rw [findA, if_neg (fun c => e2 c.2)] at h; exact s1 h
   · rw [findA, if_neg (fun c => e c.1)] at h; exact s1 h
 exact Eq.mpr (t_fi6 p0 p1 p2 p3 p4 p5 prim sil al f t 7 k) (s0 h)
theorem fi_9 (p0 p1 p2 p3 p4 p5 p6 p7 p8 : Pa) (prim sil al f t : Int) (k : KT) (h : k (.sa (.one (iv .i64 (findA f t [p0, p1, p2, p3, p4, p5, p6, p7, p8] 0)))) (rtL [p0, p1, p2, p3, p4, p5, p6, p7, p8] prim sil al)) : evCall cxFi (ev cxFi (10 + 80)) 20 [.one (.ptr 0 0 0), .one (iv .u32 f), .one (iv .u32 t)] (rtL [p0, p1, p2, p3, p4, p5, p6, p7, p8] prim sil al) k := by
 have s9 : k (.sa (.one (iv .i64 (-1)))) (rtL [p0, p1, p2, p3, p4, p5, p6, p7, p8] prim sil al) → fiH9 p0 p1 p2 p3 p4 p5 p6 p7 p8 prim sil al f t 9 1 10 k := fun h => Eq.mpr (t_fs9_9 p0 p1 p2 p3 p4 p5 p6 p7 p8 prim sil al f t 0 10 k) (Again.mk h)
 have s8 : k (.sa (.one (iv .i64 (findA f t [p8] 8)))) (rtL [p0, p1, p2, p3, p4, p5, p6, p7, p8] prim sil al) → fiH9 p0 p1 p2 p3 p4 p5 p6 p7 p8 prim sil al f t 8 2 10 k := by
   intro h
   refine Eq.mpr (t_fs9_8 p0 p1 p2 p3 p4 p5 p6 p7 p8 prim sil al f t 1 10 k) (Again.mk (bre (fun e => bre (fun e2 => ?_) (fun e2 => ?_)) (fun e => ?_)))
   · rw [findA, if_pos ⟨e, e2⟩] at h; exact h
   · rw [findA, if_neg (fun c => e2 c.2)] at h; exact s9 h
   · rw [findA, if_neg (fun c => e c.1)] at h; exact s9 h
 have s7 : k (.sa (.one (iv .i64 (findA f t [p7, p8] 7)))) (rtL [p0, p1, p2, p3, p4, p5, p6, p7, p8] prim sil al) → fiH9 p0 p1 p2 p3 p4 p5 p6 p7 p8 prim sil al f t 7 3 10 k := by
   intro h
   refine Eq.mpr (t_fs9_7 p0 p1 p2 p3 p4 p5 p6 p7 p8 prim sil al f t 2 10 k) (Again.mk (bre (fun e => bre (fun e2 => ?_) (fun e2 => ?_)) (fun e => ?_)))
   · rw [findA, if_pos ⟨e, e2⟩] at h; exact h
   · rw [findA, if_neg (fun c => e2 c.2)] at h; exact s8 h
   · rw [findA, if_neg (fun c => e c.1)] at h; exact s8 h
 have s6 : k (.sa (.one (iv .i64 (findA f t [p6, p7, p8] 6)))) (rtL [p0, p1, p2, p3, p4, p5, p6, p7, p8] prim sil al) → fiH9 p0 p1 p2 p3 p4 p5 p6 p7 p8 prim sil al f t 6 4 10 k := by
   intro h
   refine Eq.mpr (t_fs9_6 p0 p1 p2 p3 p4 p5 p6 p7 p8 prim sil al f t 3 10 k) (Again.mk (bre (fun e => bre (fun e2 => ?_) (fun e2 => ?_)) (fun e => ?_)))
   · rw [findA, if_pos ⟨e, e2⟩] at h; exact h
   · rw [findA, if_neg (fun c => e2 c.2)] at h; exact s7 h
   · rw [findA, if_neg (fun c => e c.1)] at h; exact s7 h
 have s5 : k (.sa (.one (iv .i64 (findA f t [p5, p6, p7, p8] 5)))) (rtL [p0, p1, p2, p3, p4, p5, p6, p7, p8] prim sil al) → fiH9 p0 p1 p2 p3 p4 p5 p6 p7 p8 prim sil al f t 5 5 10 k := by
   intro h
   refine Eq.mpr (t_fs9_5 p0 p1 p2 p3 p4 p5 p6 p7 p8 prim sil al f t 4 10 k) (Again.mk (bre (fun e => bre (fun e2 => ?_) (fun e2 => ?_)) (fun e => ?_)))
   · rw [findA, if_pos ⟨e, e2⟩] at h; exact h
   · rw [findA, if_neg (fun c => e2 c.2)] at h; exact s6 h
   · rw [findA, if_neg (fun c => e c.1)] at h; exact s6 h
 have s4 : k (.sa (.one (iv .i64 (findA f t [p4, p5, p6, p7, p8] 4)))) (rtL [p0, p1, p2, p3, p4, p5, p6, p7, p8] prim sil al) → fiH9 p0 p1 p2 p3 p4 p5 p6 p7 p8 prim sil al f t 4 6 10 k := by
   intro h
   refine Eq.mpr (t_fs9_4 p0 p1 p2 p3 p4 p5 p6 p7 p8 prim sil al f t 5 10 k) (Again.mk (bre (fun e => bre (fun e2 => ?_) (fun e2 => ?_)) (fun e => ?_)))
   · rw [findA, if_pos ⟨e, e2⟩] at h; exact h
   · rw [findA, if_neg (fun c => e2 c.2)] at h; exact s5 h
   · rw [findA, if_neg (fun c => e c.1)] at h; exact s5 h
 have s3 : k (.sa (.one (iv .i64 (findA f t [p3, p4, p5, p6, p7, p8] 3)))) (rtL [p0, p1, p2, p3, p4, p5, p6, p7, p8] prim sil al) → fiH9 p0 p1 p2 p3 p4 p5 p6 p7 p8 prim sil al f t 3 7 10 k := by
   intro h
   refine Eq.mpr (t_fs9_3 p0 p1 p2 p3 p4 p5 p6 p7 p8 prim sil al f t 6 10 k) (Again.mk (bre (fun e => bre (fun e2 => ?_) (fun e2 => ?_)) (fun e => ?_)))
   · rw [findA, if_pos ⟨e, e2⟩] at h; exact h
   · rw [findA, if_neg (fun c => e2 c.2)] at h; exact s4 h
   · rw [findA, if_neg (fun c => e c.1)] at h; exact s4 h
 have s2 : k (.sa (.one (iv .i64 (findA f t [p2, p3, p4, p5, p6, p7, p8] 2)))) (rtL [p0, p1, p2, p3, p4, p5, p6, p7, p8] prim sil al) → fiH9 p0 p1 p2 p3 p4 p5 p6 p7 p8 prim sil al f t 2 8 10 k := by
   intro h
   refine Eq.mpr (t_fs9_2 p0 p1 p2 p3 p4 p5 p6 p7 p8 prim sil al f t 7 10 k) (Again.mk (bre (fun e => bre (fun e2 => ?_) (fun e2 => ?_)) (fun e => ?_)))
   · rw [findA, if_pos ⟨e, e2⟩] at h; exact h
   · rw [findA, if_neg (fun c => e2 c.2)] at h; exact s3 h
   · rw [findA, if_neg (fun c => e c.1)] at h; exact s3 h
 have s1 : k (.sa (.one (iv .i64 (findA f t [p1, p2, p3, p4, p5, p6, p7, p8] 1)))) (rtL [p0, p1, p2, p3, p4, p5, p6, p7, p8] prim sil al) → fiH9 p0 p1 p2 p3 p4 p5 p6 p7 p8 prim sil al f t 1 9 10 k := by
   intro h
   refine Eq.mpr (t_fs9_1 p0 p1 p2 p3 p4 p5 p6 p7 p8 prim sil al f t 8 10 k) (Again.mk (bre (fun e => bre (fun e2 => ?_) (fun e2 => ?_)) (fun e => ?_)))
   · rw [findA, if_pos ⟨e, e2⟩] at h; exact h
   · rw [findA, if_neg (fun c => e2 c.2)] at h; exact s2 h
   · rw [findA, if_neg (fun c => e c.1)] at h; exact s2 h
 have s0 : k (.sa (.one (iv .i64 (findA f t [p0, p1, p2, p3, p4, p5, p6, p7, p8] 0)))) (rtL [p0, p1, p2, p3, p4, p5, p6, p7, p8] prim sil al) → fiH9 p0 p1 p2 p3 p4 p5 p6 p7 p8 prim sil al f t 0 10 10 k := by
   intro h
   refine Eq.mpr (t_fs9_0 p0 p1 p2 p3 p4 p5 p6 p7 p8 prim sil al f t 9 10 k) (Again.mk (bre (fun e => bre (fun e2 => ?_) (fun e2 => ?_)) (fun e => ?_)))
   · rw [findA, if_pos ⟨e, e2⟩] at h; exact h
   · rw [findA, if_neg (fun c => e2 c.2)] at h; exact s1 h
   · rw [findA, if_neg (fun c => e c.1)] at h; exact s1 h
 exact Eq.mpr (t_fi9 p0 p1 p2 p3 p4 p5 p6 p7 p8 prim sil al f t 10 k) (s0 h)
theorem find_lin (args : List SA) (st : St) : Lin (sFind args st) := by
 intro k h
 unfold sFind at h ⊢
 split at h
 · exact rd_lin (fun ps a b c => Lin.need (Lin.ret _ _)) k h
 · exact h.elim
theorem find_sum : SumOk Try.prog 20 sFind := by
 refine sumOk_of cxFi_ok find_lin fun args st k h => ?_
 unfold sFind at h
 split at h
 · rename_i f t
   obtain ⟨ps, prim, sil, al, rfl, h'⟩ := rdRt_ok h
   obtain ⟨hn, hk⟩ := need_iff.1 h'
   rw [findS_eq] at hk
   rcases len_cases hn with ⟨p0, rfl⟩ | ⟨p0, p1, rfl⟩ | ⟨p0, p1, p2, rfl⟩ | ⟨p0, p1, p2, p3, rfl⟩ | ⟨p0, p1, p2, p3, p4, p5, rfl⟩ | ⟨p0, p1, p2, p3, p4, p5, p6, p7, p8, rfl⟩
   · exact ⟨_, fi_1 p0 prim sil al f t k hk⟩
   · exact ⟨_, fi_2 p0 p1 prim sil al f t k hk⟩
   · exact ⟨_, fi_3 p0 p1 p2 prim sil al f t k hk⟩
   · exact ⟨_, fi_4 p0 p1 p2 p3 prim sil al f t k hk⟩
   · exact ⟨_, fi_6 p0 p1 p2 p3 p4 p5 prim sil al f t k hk⟩
   · exact ⟨_, fi_9 p0 p1 p2 p3 p4 p5 p6 p7 p8 prim sil al f t k hk⟩
 · exact h.elim
end Go.Ev
