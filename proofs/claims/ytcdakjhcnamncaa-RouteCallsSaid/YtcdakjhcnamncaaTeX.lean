/- What RouteCalls and the methods of routes come to on states with numbers that are not known: printed, checked by the kernel; or drawn from that. No conditions. -/
import Derived.Test.YtcdakjhcnamncaaTeT
import Derived.Test.YtcdakjhcnamncaaRkG
set_option linter.unusedVariables false
set_option linter.unusedSimpArgs false
set_option maxRecDepth 100000
namespace Go.Ev
open Go Go.Proofs Go.Spec
attribute [local irreducible] ev evCall branch need again
theorem te_1 (p0 : Pa) (r0 : Ra) (prim sil al kd I : Int) (k : KT) (hm : missT I [p0] 0 = missRT I [r0] 0) (hh : hearT I [p0] 0 = hearRT I [r0] 0) (hk : k (.sa (.one (bv true))) (rtL (tellP kd I [p0] 0) (tellQ kd I 1 prim) (tellS kd I 1 sil) al ++ rfL 6 (tellR kd I [r0] 0) (tellQ kd I 1 prim) (tellS kd I 1 sil) al)) : evCall cxTe (ev cxTe 80) 25 [.one (.ptr 0 0 0), .one (.ptr 6 0 0), .agg [iv .u8 kd, iv .i64 I]] (rtL [p0] prim sil al ++ rfL 6 [r0] prim sil al) k := by
 refine Eq.mpr (t_te1 p0 r0 prim sil al prim sil al kd I k) ?_
 refine bre (fun e => ?_) (fun e0 => bre (fun e => ?_) (fun e1 => bre (fun e => ?_) (fun e2 => ?_)))
 · subst e
   rw [tellP_0, tellR_0, show tellQ 0 I 1 prim = prim from if_neg (by decide), show tellS 0 I 1 sil = thI I 1 (addK .i64 sil 1) sil from if_pos rfl] at hk
   rw [hm, beq_self_eq_true]
   refine br (fun _ => ?_) (fun e => by cases e)
   rw [beq_self_eq_true]
   exact hk
 · subst e
   rw [tellP_1, tellR_1, show tellQ 1 I 1 prim = prim from if_neg (by decide), show tellS 1 I 1 sil = thI I 1 0 sil from (if_neg (by decide)).trans (if_pos rfl)] at hk
   rw [hh, beq_self_eq_true]
   exact hk
 · subst e
   rw [tellP_o (by decide) (by decide), tellR_o (by decide) (by decide), show tellQ 2 I 1 prim = thI I 1 I prim from if_pos rfl, show tellS 2 I 1 sil = sil from (if_neg (by decide)).trans (if_neg (by decide))] at hk
   have out : (I < 0 ∨ I ≥ (1 : Int)) → k (.sa (.one (bv (eqK (thI I 1 0 4) 4)))) (rtL [p0] (thI I 1 I prim) sil al ++ rfL 6 [r0] prim sil al) := by
     intro c
     have hn : thereB I 1 = false := there_no (n := 1) c
     unfold thI at hk ⊢
     rw [hn] at hk ⊢
     exact hk
   refine brd (fun c => out (.inl c)) (fun c1 => brd (fun c => out (.inr c)) (fun c2 => ?_))
   have hn : thereB I 1 = true := by unfold thereB; rw [decide_eq_true (show 0 ≤ I by omega), decide_eq_true (show I < ((1 : Nat) : Int) by omega)]; rfl
   unfold thI at hk ⊢
   rw [hn] at hk ⊢
   exact hk
 · rw [tellP_o e0 e1, tellR_o e0 e1, show tellQ kd I 1 prim = prim from if_neg e2, show tellS kd I 1 sil = sil from (if_neg e0).trans (if_neg e1)] at hk
   exact hk
end Go.Ev
set_option linter.unusedVariables false
set_option linter.unusedSimpArgs false
set_option maxRecDepth 100000
namespace Go.Ev
open Go Go.Proofs Go.Spec
attribute [local irreducible] ev evCall branch need again
theorem te_2 (p0 p1 : Pa) (r0 r1 : Ra) (prim sil al kd I : Int) (k : KT) (hm : missT I [p0, p1] 0 = missRT I [r0, r1] 0) (hh : hearT I [p0, p1] 0 = hearRT I [r0, r1] 0) (hk : k (.sa (.one (bv true))) (rtL (tellP kd I [p0, p1] 0) (tellQ kd I 2 prim) (tellS kd I 2 sil) al ++ rfL 10 (tellR kd I [r0, r1] 0) (tellQ kd I 2 prim) (tellS kd I 2 sil) al)) : evCall cxTe (ev cxTe 80) 25 [.one (.ptr 0 0 0), .one (.ptr 10 0 0), .agg [iv .u8 kd, iv .i64 I]] (rtL [p0, p1] prim sil al ++ rfL 10 [r0, r1] prim sil al) k := by
 refine Eq.mpr (t_te2 p0 p1 r0 r1 prim sil al prim sil al kd I k) ?_
 refine bre (fun e => ?_) (fun e0 => bre (fun e => ?_) (fun e1 => bre (fun e => ?_) (fun e2 => ?_)))
 · subst e
   rw [tellP_0, tellR_0, show tellQ 0 I 2 prim = prim from if_neg (by decide), show tellS 0 I 2 sil = thI I 2 (addK .i64 sil 1) sil from if_pos rfl] at hk
   rw [hm, beq_self_eq_true]
   refine br (fun _ => ?_) (fun e => by cases e)
   rw [beq_self_eq_true]
   exact hk
 · subst e
   rw [tellP_1, tellR_1, show tellQ 1 I 2 prim = prim from if_neg (by decide), show tellS 1 I 2 sil = thI I 2 0 sil from (if_neg (by decide)).trans (if_pos rfl)] at hk
   rw [hh, beq_self_eq_true]
   exact hk
 · subst e
   rw [tellP_o (by decide) (by decide), tellR_o (by decide) (by decide), show tellQ 2 I 2 prim = thI I 2 I prim from if_pos rfl, show tellS 2 I 2 sil = sil from (if_neg (by decide)).trans (if_neg (by decide))] at hk
   have out : (I < 0 ∨ I ≥ (2 : Int)) → k (.sa (.one (bv (eqK (thI I 2 0 4) 4)))) (rtL [p0, p1] (thI I 2 I prim) sil al ++ rfL 10 [r0, r1] prim sil al) := by
     intro c
     have hn : thereB I 2 = false := there_no (n := 2) c
     unfold thI at hk ⊢
     rw [hn] at hk ⊢
     exact hk
   refine brd (fun c => out (.inl c)) (fun c1 => brd (fun c => out (.inr c)) (fun c2 => ?_))
   have hn : thereB I 2 = true := by unfold thereB; rw [decide_eq_true (show 0 ≤ I by omega), decide_eq_true (show I < ((2 : Nat) : Int) by omega)]; rfl
   unfold thI at hk ⊢
   rw [hn] at hk ⊢
   exact hk
 · rw [tellP_o e0 e1, tellR_o e0 e1, show tellQ kd I 2 prim = prim from if_neg e2, show tellS kd I 2 sil = sil from (if_neg e0).trans (if_neg e1)] at hk
   exact hk
end Go.Ev
set_option linter.unusedVariables false
set_option linter.unusedSimpArgs false
set_option maxRecDepth 100000
namespace Go.Ev
open Go Go.Proofs Go.Spec
attribute [local irreducible] ev evCall branch need again
theorem te_3 (p0 p1 p2 : Pa) (r0 r1 r2 : Ra) (prim sil al kd I : Int) (k : KT) (hm : missT I [p0, p1, p2] 0 = missRT I [r0, r1, r2] 0) (hh : hearT I [p0, p1, p2] 0 = hearRT I [r0, r1, r2] 0) (hk : k (.sa (.one (bv true))) (rtL (tellP kd I [p0, p1, p2] 0) (tellQ kd I 3 prim) (tellS kd I 3 sil) al ++ rfL 14 (tellR kd I [r0, r1, r2] 0) (tellQ kd I 3 prim) (tellS kd I 3 sil) al)) : evCall cxTe (ev cxTe 80) 25 [.one (.ptr 0 0 0), .one (.ptr 14 0 0), .agg [iv .u8 kd, iv .i64 I]] (rtL [p0, p1, p2] prim sil al ++ rfL 14 [r0, r1, r2] prim sil al) k := by
 refine Eq.mpr (t_te3 p0 p1 p2 r0 r1 r2 prim sil al prim sil al kd I k) ?_
 refine bre (fun e => ?_) (fun e0 => bre (fun e => ?_) (fun e1 => bre (fun e => ?_) (fun e2 => ?_)))
 · subst e
   rw [tellP_0, tellR_0, show tellQ 0 I 3 prim = prim from if_neg (by decide), show tellS 0 I 3 sil = thI I 3 (addK .i64 sil 1) sil from if_pos rfl] at hk
   rw [hm, beq_self_eq_true]
   refine br (fun _ => ?_) (fun e => by cases e)
   rw [beq_self_eq_true]
   exact hk
 · subst e
   rw [tellP_1, tellR_1, show tellQ 1 I 3 prim = prim from if_neg (by decide), show tellS 1 I 3 sil = thI I 3 0 sil from (if_neg (by decide)).trans (if_pos rfl)] at hk
   rw [hh, beq_self_eq_true]
   exact hk
 · subst e
   rw [tellP_o (by decide) (by decide), tellR_o (by decide) (by decide), show tellQ 2 I 3 prim = thI I 3 I prim from if_pos rfl, show tellS 2 I 3 sil = sil from (if_neg (by decide)).trans (if_neg (by decide))] at hk
   have out : (I < 0 ∨ I ≥ (3 : Int)) → k (.sa (.one (bv (eqK (thI I 3 0 4) 4)))) (rtL [p0, p1, p2] (thI I 3 I prim) sil al ++ rfL 14 [r0, r1, r2] prim sil al) := by
     intro c
     have hn : thereB I 3 = false := there_no (n := 3) c
     unfold thI at hk ⊢
     rw [hn] at hk ⊢
     exact hk
   refine brd (fun c => out (.inl c)) (fun c1 => brd (fun c => out (.inr c)) (fun c2 => ?_))
   have hn : thereB I 3 = true := by unfold thereB; rw [decide_eq_true (show 0 ≤ I by omega), decide_eq_true (show I < ((3 : Nat) : Int) by omega)]; rfl
   unfold thI at hk ⊢
   rw [hn] at hk ⊢
   exact hk
 · rw [tellP_o e0 e1, tellR_o e0 e1, show tellQ kd I 3 prim = prim from if_neg e2, show tellS kd I 3 sil = sil from (if_neg e0).trans (if_neg e1)] at hk
   exact hk
end Go.Ev
set_option linter.unusedVariables false
set_option linter.unusedSimpArgs false
set_option maxRecDepth 100000
namespace Go.Ev
open Go Go.Proofs Go.Spec
attribute [local irreducible] ev evCall branch need again
theorem te_4 (p0 p1 p2 p3 : Pa) (r0 r1 r2 r3 : Ra) (prim sil al kd I : Int) (k : KT) (hm : missT I [p0, p1, p2, p3] 0 = missRT I [r0, r1, r2, r3] 0) (hh : hearT I [p0, p1, p2, p3] 0 = hearRT I [r0, r1, r2, r3] 0) (hk : k (.sa (.one (bv true))) (rtL (tellP kd I [p0, p1, p2, p3] 0) (tellQ kd I 4 prim) (tellS kd I 4 sil) al ++ rfL 18 (tellR kd I [r0, r1, r2, r3] 0) (tellQ kd I 4 prim) (tellS kd I 4 sil) al)) : evCall cxTe (ev cxTe 80) 25 [.one (.ptr 0 0 0), .one (.ptr 18 0 0), .agg [iv .u8 kd, iv .i64 I]] (rtL [p0, p1, p2, p3] prim sil al ++ rfL 18 [r0, r1, r2, r3] prim sil al) k := by
 refine Eq.mpr (t_te4 p0 p1 p2 p3 r0 r1 r2 r3 prim sil al prim sil al kd I k) ?_
 refine bre (fun e => ?_) (fun e0 => bre (fun e => ?_) (fun e1 => bre (fun e => ?_) (fun e2 => ?_)))
 · subst e
   rw [tellP_0, tellR_0, show tellQ 0 I 4 prim = prim from if_neg (by decide), show tellS 0 I 4 sil = thI I 4 (addK .i64 sil 1) sil from if_pos rfl] at hk
   rw [hm, beq_self_eq_true]
   refine br (fun _ => ?_) (fun e => by cases e)
   rw [beq_self_eq_true]
   exact hk
 · subst e
   rw [tellP_1, tellR_1, show tellQ 1 I 4 prim = prim from if_neg (by decide), show tellS 1 I 4 sil = thI I 4 0 sil from (if_neg (by decide)).trans (if_pos rfl)] at hk
   rw [hh, beq_self_eq_true]
   exact hk
 · subst e
   rw [tellP_o (by decide) (by decide), tellR_o (by decide) (by decide), show tellQ 2 I 4 prim = thI I 4 I prim from if_pos rfl, show tellS 2 I 4 sil = sil from (if_neg (by decide)).trans (if_neg (by decide))] at hk
   have out : (I < 0 ∨ I ≥ (4 : Int)) → k (.sa (.one (bv (eqK (thI I 4 0 4) 4)))) (rtL [p0, p1, p2, p3] (thI I 4 I prim) sil al ++ rfL 18 [r0, r1, r2, r3] prim sil al) := by
     intro c
     have hn : thereB I 4 = false := there_no (n := 4) c
     unfold thI at hk ⊢
     rw [hn] at hk ⊢
     exact hk
   refine brd (fun c => out (.inl c)) (fun c1 => brd (fun c => out (.inr c)) (fun c2 => ?_))
   have hn : thereB I 4 = true := by unfold thereB; rw [decide_eq_true (show 0 ≤ I by omega), decide_eq_true (show I < ((4 : Nat) : Int) by omega)]; rfl
   unfold thI at hk ⊢
   rw [hn] at hk ⊢
   exact hk
 · rw [tellP_o e0 e1, tellR_o e0 e1, show tellQ kd I 4 prim = prim from if_neg e2, show tellS kd I 4 sil = sil from (if_neg e0).trans (if_neg e1)] at hk
   exact hk
end Go.Ev
set_option linter.unusedVariables false
set_option linter.unusedSimpArgs false
set_option maxRecDepth 100000
namespace Go.Ev
open Go Go.Proofs Go.Spec
attribute [local irreducible] ev evCall branch need again
theorem te_6 (p0 p1 p2 p3 p4 p5 : Pa) (r0 r1 r2 r3 r4 r5 : Ra) (prim sil al kd I : Int) (k : KT) (hm : missT I [p0, p1, p2, p3, p4, p5] 0 = missRT I [r0, r1, r2, r3, r4, r5] 0) (hh : hearT I [p0, p1, p2, p3, p4, p5] 0 = hearRT I [r0, r1, r2, r3, r4, r5] 0) (hk : k (.sa (.one (bv true))) (rtL (tellP kd I [p0, p1, p2, p3, p4, p5] 0) (tellQ kd I 6 prim) (tellS kd I 6 sil) al ++ rfL 26 (tellR kd I [r0, r1, r2, r3, r4, r5] 0) (tellQ kd I 6 prim) (tellS kd I 6 sil) al)) : evCall cxTe (ev cxTe 80) 25 [.one (.ptr 0 0 0), .one (.ptr 26 0 0), .agg [iv .u8 kd, iv .i64 I]] (rtL [p0, p1, p2, p3, p4, p5] prim sil al ++ rfL 26 [r0, r1, r2, r3, r4, r5] prim sil al) k := by
 refine Eq.mpr (t_te6 p0 p1 p2 p3 p4 p5 r0 r1 r2 r3 r4 r5 prim sil al prim sil al kd I k) ?_
 refine bre (fun e => ?_) (fun e0 => bre (fun e => ?_) (fun e1 => bre (fun e => ?_) (fun e2 => ?_)))
 · subst e
   rw [tellP_0, tellR_0, show tellQ 0 I 6 prim = prim from if_neg (by decide), show tellS 0 I 6 sil = thI I 6 (addK .i64 sil 1) sil from if_pos rfl] at hk
   rw [hm, beq_self_eq_true]
   refine br (fun _ => ?_) (fun e => by cases e)
   rw [beq_self_eq_true]
   exact hk
 · subst e
   rw [tellP_1, tellR_1, show tellQ 1 I 6 prim = prim from if_neg (by decide), show tellS 1 I 6 sil = thI I 6 0 sil from (if_neg (by decide)).trans (if_pos rfl)] at hk
   rw [hh, beq_self_eq_true]
   exact hk
 · subst e
   rw [tellP_o (by decide) (by decide), tellR_o (by decide) (by decide), show tellQ 2 I 6 prim = thI I 6 I prim from if_pos rfl, show tellS 2 I 6 sil = sil from (if_neg (by decide)).trans (if_neg (by decide))] at hk
   have out : (I < 0 ∨ I ≥ (6 : Int)) → k (.sa (.one (bv (eqK (thI I 6 0 4) 4)))) (rtL [p0, p1, p2, p3, p4, p5] (thI I 6 I prim) sil al ++ rfL 26 [r0, r1, r2, r3, r4, r5] prim sil al) := by
     intro c
     have hn : thereB I 6 = false := there_no (n := 6) c
     unfold thI at hk ⊢
     rw [hn] at hk ⊢
     exact hk
   refine brd (fun c => out (.inl c)) (fun c1 => brd (fun c => out (.inr c)) (fun c2 => ?_))
   have hn : thereB I 6 = true := by unfold thereB; rw [decide_eq_true (show 0 ≤ I by omega), decide_eq_true (show I < ((6 : Nat) : Int) by omega)]; rfl
   unfold thI at hk ⊢
   rw [hn] at hk ⊢
   exact hk
 · rw [tellP_o e0 e1, tellR_o e0 e1, show tellQ kd I 6 prim = prim from if_neg e2, show tellS kd I 6 sil = sil from (if_neg e0).trans (if_neg e1)] at hk
   exact hk
end Go.Ev
set_option linter.unusedVariables false
set_option linter.unusedSimpArgs false
set_option maxRecDepth 100000
namespace Go.Ev
open Go Go.Proofs Go.Spec
attribute [local irreducible] ev evCall branch need again
theorem te_9 (p0 p1 p2 p3 p4 p5 p6 p7 p8 : Pa) (r0 r1 r2 r3 r4 r5 r6 r7 r8 : Ra) (prim sil al kd I : Int) (k : KT) (hm : missT I [p0, p1, p2, p3, p4, p5, p6, p7, p8] 0 = missRT I [r0, r1, r2, r3, r4, r5, r6, r7, r8] 0) (hh : hearT I [p0, p1, p2, p3, p4, p5, p6, p7, p8] 0 = hearRT I [r0, r1, r2, r3, r4, r5, r6, r7, r8] 0) (hk : k (.sa (.one (bv true))) (rtL (tellP kd I [p0, p1, p2, p3, p4, p5, p6, p7, p8] 0) (tellQ kd I 9 prim) (tellS kd I 9 sil) al ++ rfL 38 (tellR kd I [r0, r1, r2, r3, r4, r5, r6, r7, r8] 0) (tellQ kd I 9 prim) (tellS kd I 9 sil) al)) : evCall cxTe (ev cxTe 80) 25 [.one (.ptr 0 0 0), .one (.ptr 38 0 0), .agg [iv .u8 kd, iv .i64 I]] (rtL [p0, p1, p2, p3, p4, p5, p6, p7, p8] prim sil al ++ rfL 38 [r0, r1, r2, r3, r4, r5, r6, r7, r8] prim sil al) k := by
 refine Eq.mpr (t_te9 p0 p1 p2 p3 p4 p5 p6 p7 p8 r0 r1 r2 r3 r4 r5 r6 r7 r8 prim sil al prim sil al kd I k) ?_
 refine bre (fun e => ?_) (fun e0 => bre (fun e => ?_) (fun e1 => bre (fun e => ?_) (fun e2 => ?_)))
 · subst e
   rw [tellP_0, tellR_0, show tellQ 0 I 9 prim = prim from if_neg (by decide), show tellS 0 I 9 sil = thI I 9 (addK .i64 sil 1) sil from if_pos rfl] at hk
   rw [hm, beq_self_eq_true]
   refine br (fun _ => ?_) (fun e => by cases e)
   rw [beq_self_eq_true]
   exact hk
 · subst e
   rw [tellP_1, tellR_1, show tellQ 1 I 9 prim = prim from if_neg (by decide), show tellS 1 I 9 sil = thI I 9 0 sil from (if_neg (by decide)).trans (if_pos rfl)] at hk
   rw [hh, beq_self_eq_true]
   exact hk
 · subst e
   rw [tellP_o (by decide) (by decide), tellR_o (by decide) (by decide), show tellQ 2 I 9 prim = thI I 9 I prim from if_pos rfl, show tellS 2 I 9 sil = sil from (if_neg (by decide)).trans (if_neg (by decide))] at hk
   have out : (I < 0 ∨ I ≥ (9 : Int)) → k (.sa (.one (bv (eqK (thI I 9 0 4) 4)))) (rtL [p0, p1, p2, p3, p4, p5, p6, p7, p8] (thI I 9 I prim) sil al ++ rfL 38 [r0, r1, r2, r3, r4, r5, r6, r7, r8] prim sil al) := by
     intro c
     have hn : thereB I 9 = false := there_no (n := 9) c
     unfold thI at hk ⊢
     rw [hn] at hk ⊢
     exact hk
   refine brd (fun c => out (.inl c)) (fun c1 => brd (fun c => out (.inr c)) (fun c2 => ?_))
   have hn : thereB I 9 = true := by unfold thereB; rw [decide_eq_true (show 0 ≤ I by omega), decide_eq_true (show I < ((9 : Nat) : Int) by omega)]; rfl
   unfold thI at hk ⊢
   rw [hn] at hk ⊢
   exact hk
 · rw [tellP_o e0 e1, tellR_o e0 e1, show tellQ kd I 9 prim = prim from if_neg e2, show tellS kd I 9 sil = sil from (if_neg e0).trans (if_neg e1)] at hk
   exact hk
end Go.Ev
