/- What RouteCalls and the methods of routes come to on states with numbers that are not known: printed, checked by the kernel; or drawn from that. No conditions. -/
import Derived.Test.YtcdakjhcnamncaaRkT
import Derived.Test.YtcdakjhcnamncaaRkR
set_option linter.unusedVariables false
set_option linter.unusedSimpArgs false
set_option maxRecDepth 100000
namespace Go.Ev
open Go Go.Proofs Go.Spec
attribute [local irreducible] ev evCall branch need again
theorem bF {a b : Prop} (h : b) : branch false a b := br (fun e => by cases e) (fun _ => h)
theorem bT {a b : Prop} (h : a) : branch true a b := br (fun _ => h) (fun e => by cases e)
theorem ic1 (I : Int) : I = 0 ∨ (∃ m : Nat, I = Int.negSucc m) ∨ (∃ m : Nat, I = ((m + 1 : Nat) : Int)) := by
 by_cases h : I < 0
 · exact Or.inr (Or.inl ⟨(-I - 1).toNat, by rw [Int.negSucc_eq]; omega⟩)
 · by_cases h2 : I ≥ 1
   · exact Or.inr (Or.inr (⟨(I - 1).toNat, by omega⟩))
   · omega
theorem mi_1 (p0 : Pa) (prim sil al I : Int) (k : KT) (h : k (.tup [.one (bv (missT I [p0] 0)), .one (bv (lostB I 1 sil al))]) (rtL (missP I [p0] 0) prim (thI I 1 (addK .i64 sil 1) sil) al)) : evCall cxRk (ev cxRk 60) 10 [.one (.ptr 0 0 0), .one (iv .i64 I)] (rtL [p0] prim sil al) k := by
 rcases ic1 I with rfl | ⟨m, rfl⟩ | ⟨m, rfl⟩
 · rw [t_mi1_0]
   exact h
 · rw [t_mi1_n]
   exact brt (Int.negSucc_lt_zero _) (miss_no (ps := [p0]) (Or.inl (Int.negSucc_lt_zero _)) prim sil al h)
 · rw [t_mi1_p]
   exact brt (by omega) (miss_no (ps := [p0]) (Or.inr (by show _ ≥ ((1 : Nat) : Int); omega)) prim sil al h)
theorem he_1 (p0 : Pa) (prim sil al I : Int) (k : KT) (h : k (.sa (.one (bv (hearT I [p0] 0)))) (rtL (hearP I [p0] 0) prim (thI I 1 0 sil) al)) : evCall cxRk (ev cxRk 60) 11 [.one (.ptr 0 0 0), .one (iv .i64 I)] (rtL [p0] prim sil al) k := by
 rcases ic1 I with rfl | ⟨m, rfl⟩ | ⟨m, rfl⟩
 · rw [t_he1_0]
   exact h
 · rw [t_he1_n]
   exact brt (Int.negSucc_lt_zero _) (hear_no (ps := [p0]) (Or.inl (Int.negSucc_lt_zero _)) prim sil al h)
 · rw [t_he1_p]
   exact brt (by omega) (hear_no (ps := [p0]) (Or.inr (by show _ ≥ ((1 : Nat) : Int); omega)) prim sil al h)
theorem pr_1 (p0 : Pa) (prim sil al I : Int) (k : KT) (h : k (.sa (.one (iv .i64 (thI I 1 0 4)))) (rtL [p0] (thI I 1 I prim) sil al)) : evCall cxRk (ev cxRk 60) 21 [.one (.ptr 0 0 0), .one (iv .i64 I)] (rtL [p0] prim sil al) k := by
 rcases ic1 I with rfl | ⟨m, rfl⟩ | ⟨m, rfl⟩
 · rw [t_pr1_0]
   exact h
 · rw [t_pr1_n]
   exact brt (Int.negSucc_lt_zero _) (prim_no (ps := [p0]) (Or.inl (Int.negSucc_lt_zero _)) prim sil al h)
 · rw [t_pr1_p]
   exact brt (by omega) (prim_no (ps := [p0]) (Or.inr (by show _ ≥ ((1 : Nat) : Int); omega)) prim sil al h)
theorem nx_1 (p0 : Pa) (prim sil al I : Int) (k : KT) (h : k (.sa (.one (iv .i64 (nextS (downs [p0]) I)))) (rtL [p0] prim sil al)) : evCall cxRk (ev cxRk 60) 16 [.one (.ptr 0 0 0), .one (iv .i64 I)] (rtL [p0] prim sil al) k := by
 rcases ic1 I with rfl | ⟨m, rfl⟩ | ⟨m, rfl⟩
 · rw [t_nx1_0]
   rw [nextS_eq] at h
   have e : nextI (downs [p0]) 0 = ((firstU [] 0 : Nat) : Int) := by kernel_rfl
   rw [e] at h
   exact h
 · rw [t_nx1_n]
   exact brt (Int.negSucc_lt_zero _) (next_no (ps := [p0]) (Or.inl (Int.negSucc_lt_zero _)) prim sil al h)
 · rw [t_nx1_p]
   exact brt (by omega) (next_no (ps := [p0]) (Or.inr (by show _ ≥ ((1 : Nat) : Int); omega)) prim sil al h)
theorem mr_1 (p0 : Ra) (prim sil al I : Int) (k : KT) (h : k (.tup [.one (bv (missRT I [p0] 0)), .one (bv (lostB I 1 sil al))]) (rfL 0 (missR I [p0] 0) prim (thI I 1 (addK .i64 sil 1) sil) al)) : evCall cxRk (ev cxRk 60) 39 [.one (.ptr 0 0 0), .one (iv .i64 I)] (rfL 0 [p0] prim sil al) k := by
 rcases ic1 I with rfl | ⟨m, rfl⟩ | ⟨m, rfl⟩
 · rw [t_mr1_0]
   have h : k (.tup [.one (bv (Bool.not (p0.a == offB (gtB (addK .i64 p0.m 1) p0.tr) p0.a))), .one (bv (gtB (addK .i64 sil 1) al))]) (rfL 0 [(raW p0 (addK .i64 p0.m 1) (offB (gtB (addK .i64 p0.m 1) p0.tr) p0.a))] prim (addK .i64 sil 1) al) := h
   unfold gtB at h
   refine br (fun e => ?_) (fun e => ?_)
   · rw [e] at h; exact h
   · rw [e] at h; exact h
 · rw [t_mr1_n]
   exact (miss_noR (ps := [p0]) (Or.inl (Int.negSucc_lt_zero _)) prim sil al h)
 · rw [t_mr1_p]
   exact (miss_noR (ps := [p0]) (Or.inr (by show _ ≥ ((1 : Nat) : Int); omega)) prim sil al h)
theorem hr_1 (p0 : Ra) (prim sil al I : Int) (k : KT) (h : k (.sa (.one (bv (hearRT I [p0] 0)))) (rfL 0 (hearR I [p0] 0) prim (thI I 1 0 sil) al)) : evCall cxRk (ev cxRk 60) 40 [.one (.ptr 0 0 0), .one (iv .i64 I)] (rfL 0 [p0] prim sil al) k := by
 rcases ic1 I with rfl | ⟨m, rfl⟩ | ⟨m, rfl⟩
 · rw [t_hr1_0]
   exact h
 · rw [t_hr1_n]
   exact (hear_noR (ps := [p0]) (Or.inl (Int.negSucc_lt_zero _)) prim sil al h)
 · rw [t_hr1_p]
   exact (hear_noR (ps := [p0]) (Or.inr (by show _ ≥ ((1 : Nat) : Int); omega)) prim sil al h)
theorem nr_1 (p0 : Ra) (prim sil al I : Int) (k : KT) (h : k (.sa (.one (iv .i64 (nextS (downR [p0]) I)))) (rfL 0 [p0] prim sil al)) : evCall cxRk (ev cxRk 60) 27 [.one (.ptr 0 0 0), .one (iv .i64 I)] (rfL 0 [p0] prim sil al) k := by
 rcases ic1 I with rfl | ⟨m, rfl⟩ | ⟨m, rfl⟩
 · rw [t_nr1_0]
   rw [nextS_eq] at h
   have e : nextI (downR [p0]) 0 = ((firstU [] 0 : Nat) : Int) := by kernel_rfl
   rw [e] at h
   exact h
 · rw [t_nr1_n]
   exact (next_noR (ps := [p0]) (Or.inl (Int.negSucc_lt_zero _)) prim sil al h)
 · rw [t_nr1_p]
   exact (next_noR (ps := [p0]) (Or.inr (by show _ ≥ ((1 : Nat) : Int); omega)) prim sil al h)
theorem ch_1 (p0 : Pa) (prim sil al : Int) (hp : 0 ≤ prim ∧ prim < 1) (k : KT) (h : k (.sa (.one (iv .i64 (chooseS (downs [p0]) prim)))) (rtL [p0] prim sil al)) : evCall cxRk (ev cxRk 60) 18 [.one (.ptr 0 0 0)] (rtL [p0] prim sil al) k := by
 rw [chooseS_eq] at h
 have hc : prim = 0 := by omega
 subst hc
 · rw [t_ch1_0]
   have e : chooseI (downs [p0]) 0 = if p0.d = true then ((firstU [] 0 : Nat) : Int) else 0 := by kernel_rfl
   rw [e] at h
   cases hd : p0.d with
   | false =>
     rw [hd] at h
     exact bT h
   | true =>
     rw [pick_t (b := p0.d) hd] at h
     refine bF ?_
     exact h
theorem cr_1 (p0 : Ra) (prim sil al : Int) (hp : 0 ≤ prim ∧ prim < 1) (k : KT) (h : k (.sa (.one (iv .i64 (chooseS (downR [p0]) prim)))) (rfL 0 [p0] prim sil al)) : evCall cxRk (ev cxRk 60) 26 [.one (.ptr 0 0 0)] (rfL 0 [p0] prim sil al) k := by
 rw [chooseS_eq] at h
 have hc : prim = 0 := by omega
 subst hc
 · rw [t_cr1_0]
   have e : chooseI (downR [p0]) 0 = if (Bool.not p0.a) = true then ((firstU [] 0 : Nat) : Int) else 0 := by kernel_rfl
   rw [e] at h
   cases hd : p0.a with
   | true =>
     rw [hd] at h
     exact bT h
   | false =>
     rw [pick_t (b := (Bool.not p0.a)) (by rw [hd]; rfl)] at h
     refine bF ?_
     exact h
end Go.Ev
set_option linter.unusedVariables false
set_option linter.unusedSimpArgs false
set_option maxRecDepth 100000
namespace Go.Ev
open Go Go.Proofs Go.Spec
attribute [local irreducible] ev evCall branch need again
theorem ic2 (I : Int) : I = 0 ∨ I = 1 ∨ (∃ m : Nat, I = Int.negSucc m) ∨ (∃ m : Nat, I = ((m + 2 : Nat) : Int)) := by
 by_cases h : I < 0
 · exact Or.inr (Or.inr (Or.inl ⟨(-I - 1).toNat, by rw [Int.negSucc_eq]; omega⟩))
 · by_cases h2 : I ≥ 2
   · exact Or.inr (Or.inr (Or.inr (⟨(I - 2).toNat, by omega⟩)))
   · omega
theorem mi_2 (p0 p1 : Pa) (prim sil al I : Int) (k : KT) (h : k (.tup [.one (bv (missT I [p0, p1] 0)), .one (bv (lostB I 2 sil al))]) (rtL (missP I [p0, p1] 0) prim (thI I 2 (addK .i64 sil 1) sil) al)) : evCall cxRk (ev cxRk 60) 10 [.one (.ptr 0 0 0), .one (iv .i64 I)] (rtL [p0, p1] prim sil al) k := by
 rcases ic2 I with rfl | rfl | ⟨m, rfl⟩ | ⟨m, rfl⟩
 · rw [t_mi2_0]
   exact h
 · rw [t_mi2_1]
   exact h
 · rw [t_mi2_n]
   exact brt (Int.negSucc_lt_zero _) (miss_no (ps := [p0, p1]) (Or.inl (Int.negSucc_lt_zero _)) prim sil al h)
 · rw [t_mi2_p]
   exact brt (by omega) (miss_no (ps := [p0, p1]) (Or.inr (by show _ ≥ ((2 : Nat) : Int); omega)) prim sil al h)
theorem he_2 (p0 p1 : Pa) (prim sil al I : Int) (k : KT) (h : k (.sa (.one (bv (hearT I [p0, p1] 0)))) (rtL (hearP I [p0, p1] 0) prim (thI I 2 0 sil) al)) : evCall cxRk (ev cxRk 60) 11 [.one (.ptr 0 0 0), .one (iv .i64 I)] (rtL [p0, p1] prim sil al) k := by
 rcases ic2 I with rfl | rfl | ⟨m, rfl⟩ | ⟨m, rfl⟩
 · rw [t_he2_0]
   exact h
 · rw [t_he2_1]
   exact h
 · rw [t_he2_n]
   exact brt (Int.negSucc_lt_zero _) (hear_no (ps := [p0, p1]) (Or.inl (Int.negSucc_lt_zero _)) prim sil al h)
 · rw [t_he2_p]
   exact brt (by omega) (hear_no (ps := [p0, p1]) (Or.inr (by show _ ≥ ((2 : Nat) : Int); omega)) prim sil al h)
theorem pr_2 (p0 p1 : Pa) (prim sil al I : Int) (k : KT) (h : k (.sa (.one (iv .i64 (thI I 2 0 4)))) (rtL [p0, p1] (thI I 2 I prim) sil al)) : evCall cxRk (ev cxRk 60) 21 [.one (.ptr 0 0 0), .one (iv .i64 I)] (rtL [p0, p1] prim sil al) k := by
 rcases ic2 I with rfl | rfl | ⟨m, rfl⟩ | ⟨m, rfl⟩
 · rw [t_pr2_0]
   exact h
 · rw [t_pr2_1]
   exact h
 · rw [t_pr2_n]
   exact brt (Int.negSucc_lt_zero _) (prim_no (ps := [p0, p1]) (Or.inl (Int.negSucc_lt_zero _)) prim sil al h)
 · rw [t_pr2_p]
   exact brt (by omega) (prim_no (ps := [p0, p1]) (Or.inr (by show _ ≥ ((2 : Nat) : Int); omega)) prim sil al h)
theorem nx_2 (p0 p1 : Pa) (prim sil al I : Int) (k : KT) (h : k (.sa (.one (iv .i64 (nextS (downs [p0, p1]) I)))) (rtL [p0, p1] prim sil al)) : evCall cxRk (ev cxRk 60) 16 [.one (.ptr 0 0 0), .one (iv .i64 I)] (rtL [p0, p1] prim sil al) k := by
 rcases ic2 I with rfl | rfl | ⟨m, rfl⟩ | ⟨m, rfl⟩
 · rw [t_nx2_0]
   rw [nextS_eq] at h
   have e : nextI (downs [p0, p1]) 0 = ((firstU [(1, p1.d)] 1 : Nat) : Int) := by kernel_rfl
   rw [e] at h
   iterate 1 refine fu_nx h (fun h => ?_)
   exact h
 · rw [t_nx2_1]
   rw [nextS_eq] at h
   have e : nextI (downs [p0, p1]) 1 = ((firstU [(0, p0.d)] 0 : Nat) : Int) := by kernel_rfl
   rw [e] at h
   iterate 1 refine fu_nx h (fun h => ?_)
   exact h
 · rw [t_nx2_n]
   exact brt (Int.negSucc_lt_zero _) (next_no (ps := [p0, p1]) (Or.inl (Int.negSucc_lt_zero _)) prim sil al h)
 · rw [t_nx2_p]
   exact brt (by omega) (next_no (ps := [p0, p1]) (Or.inr (by show _ ≥ ((2 : Nat) : Int); omega)) prim sil al h)
theorem mr_2 (p0 p1 : Ra) (prim sil al I : Int) (k : KT) (h : k (.tup [.one (bv (missRT I [p0, p1] 0)), .one (bv (lostB I 2 sil al))]) (rfL 0 (missR I [p0, p1] 0) prim (thI I 2 (addK .i64 sil 1) sil) al)) : evCall cxRk (ev cxRk 60) 39 [.one (.ptr 0 0 0), .one (iv .i64 I)] (rfL 0 [p0, p1] prim sil al) k := by
 rcases ic2 I with rfl | rfl | ⟨m, rfl⟩ | ⟨m, rfl⟩
 · rw [t_mr2_0]
   have h : k (.tup [.one (bv (Bool.not (p0.a == offB (gtB (addK .i64 p0.m 1) p0.tr) p0.a))), .one (bv (gtB (addK .i64 sil 1) al))]) (rfL 0 [(raW p0 (addK .i64 p0.m 1) (offB (gtB (addK .i64 p0.m 1) p0.tr) p0.a)), p1] prim (addK .i64 sil 1) al) := h
   unfold gtB at h
   refine br (fun e => ?_) (fun e => ?_)
   · rw [e] at h; exact h
   · rw [e] at h; exact h
 · rw [t_mr2_1]
   have h : k (.tup [.one (bv (Bool.not (p1.a == offB (gtB (addK .i64 p1.m 1) p1.tr) p1.a))), .one (bv (gtB (addK .i64 sil 1) al))]) (rfL 0 [p0, (raW p1 (addK .i64 p1.m 1) (offB (gtB (addK .i64 p1.m 1) p1.tr) p1.a))] prim (addK .i64 sil 1) al) := h
   unfold gtB at h
   refine br (fun e => ?_) (fun e => ?_)
   · rw [e] at h; exact h
   · rw [e] at h; exact h
 · rw [t_mr2_n]
   exact (miss_noR (ps := [p0, p1]) (Or.inl (Int.negSucc_lt_zero _)) prim sil al h)
 · rw [t_mr2_p]
   exact (miss_noR (ps := [p0, p1]) (Or.inr (by show _ ≥ ((2 : Nat) : Int); omega)) prim sil al h)
theorem hr_2 (p0 p1 : Ra) (prim sil al I : Int) (k : KT) (h : k (.sa (.one (bv (hearRT I [p0, p1] 0)))) (rfL 0 (hearR I [p0, p1] 0) prim (thI I 2 0 sil) al)) : evCall cxRk (ev cxRk 60) 40 [.one (.ptr 0 0 0), .one (iv .i64 I)] (rfL 0 [p0, p1] prim sil al) k := by
 rcases ic2 I with rfl | rfl | ⟨m, rfl⟩ | ⟨m, rfl⟩
 · rw [t_hr2_0]
   exact h
 · rw [t_hr2_1]
   exact h
 · rw [t_hr2_n]
   exact (hear_noR (ps := [p0, p1]) (Or.inl (Int.negSucc_lt_zero _)) prim sil al h)
 · rw [t_hr2_p]
   exact (hear_noR (ps := [p0, p1]) (Or.inr (by show _ ≥ ((2 : Nat) : Int); omega)) prim sil al h)
theorem nr_2 (p0 p1 : Ra) (prim sil al I : Int) (k : KT) (h : k (.sa (.one (iv .i64 (nextS (downR [p0, p1]) I)))) (rfL 0 [p0, p1] prim sil al)) : evCall cxRk (ev cxRk 60) 27 [.one (.ptr 0 0 0), .one (iv .i64 I)] (rfL 0 [p0, p1] prim sil al) k := by
 rcases ic2 I with rfl | rfl | ⟨m, rfl⟩ | ⟨m, rfl⟩
 · rw [t_nr2_0]
   rw [nextS_eq] at h
   have e : nextI (downR [p0, p1]) 0 = ((firstU [(1, Bool.not p1.a)] 1 : Nat) : Int) := by kernel_rfl
   rw [e] at h
   iterate 1 refine fu_nr h (fun h => ?_)
   exact h
 · rw [t_nr2_1]
   rw [nextS_eq] at h
   have e : nextI (downR [p0, p1]) 1 = ((firstU [(0, Bool.not p0.a)] 0 : Nat) : Int) := by kernel_rfl
   rw [e] at h
   iterate 1 refine fu_nr h (fun h => ?_)
   exact h
 · rw [t_nr2_n]
   exact (next_noR (ps := [p0, p1]) (Or.inl (Int.negSucc_lt_zero _)) prim sil al h)
 · rw [t_nr2_p]
   exact (next_noR (ps := [p0, p1]) (Or.inr (by show _ ≥ ((2 : Nat) : Int); omega)) prim sil al h)
theorem ch_2 (p0 p1 : Pa) (prim sil al : Int) (hp : 0 ≤ prim ∧ prim < 2) (k : KT) (h : k (.sa (.one (iv .i64 (chooseS (downs [p0, p1]) prim)))) (rtL [p0, p1] prim sil al)) : evCall cxRk (ev cxRk 60) 18 [.one (.ptr 0 0 0)] (rtL [p0, p1] prim sil al) k := by
 rw [chooseS_eq] at h
 have hc : prim = 0 ∨ prim = 1 := by omega
 rcases hc with rfl | rfl
 · rw [t_ch2_0]
   have e : chooseI (downs [p0, p1]) 0 = if p0.d = true then ((firstU [(1, p1.d)] 1 : Nat) : Int) else 0 := by kernel_rfl
   rw [e] at h
   cases hd : p0.d with
   | false =>
     rw [hd] at h
     exact bT h
   | true =>
     rw [pick_t (b := p0.d) hd] at h
     refine bF ?_
     iterate 1 refine fu_nx h (fun h => ?_)
     exact h
 · rw [t_ch2_1]
   have e : chooseI (downs [p0, p1]) 1 = if p1.d = true then ((firstU [(0, p0.d)] 0 : Nat) : Int) else 1 := by kernel_rfl
   rw [e] at h
   cases hd : p1.d with
   | false =>
     rw [hd] at h
     exact bT h
   | true =>
     rw [pick_t (b := p1.d) hd] at h
     refine bF ?_
     iterate 1 refine fu_nx h (fun h => ?_)
     exact h
theorem cr_2 (p0 p1 : Ra) (prim sil al : Int) (hp : 0 ≤ prim ∧ prim < 2) (k : KT) (h : k (.sa (.one (iv .i64 (chooseS (downR [p0, p1]) prim)))) (rfL 0 [p0, p1] prim sil al)) : evCall cxRk (ev cxRk 60) 26 [.one (.ptr 0 0 0)] (rfL 0 [p0, p1] prim sil al) k := by
 rw [chooseS_eq] at h
 have hc : prim = 0 ∨ prim = 1 := by omega
 rcases hc with rfl | rfl
 · rw [t_cr2_0]
   have e : chooseI (downR [p0, p1]) 0 = if (Bool.not p0.a) = true then ((firstU [(1, (Bool.not p1.a))] 1 : Nat) : Int) else 0 := by kernel_rfl
   rw [e] at h
   cases hd : p0.a with
   | true =>
     rw [hd] at h
     exact bT h
   | false =>
     rw [pick_t (b := (Bool.not p0.a)) (by rw [hd]; rfl)] at h
     refine bF ?_
     iterate 1 refine fu_nr h (fun h => ?_)
     exact h
 · rw [t_cr2_1]
   have e : chooseI (downR [p0, p1]) 1 = if (Bool.not p1.a) = true then ((firstU [(0, (Bool.not p0.a))] 0 : Nat) : Int) else 1 := by kernel_rfl
   rw [e] at h
   cases hd : p1.a with
   | true =>
     rw [hd] at h
     exact bT h
   | false =>
     rw [pick_t (b := (Bool.not p1.a)) (by rw [hd]; rfl)] at h
     refine bF ?_
     iterate 1 refine fu_nr h (fun h => ?_)
     exact h
end Go.Ev
set_option linter.unusedVariables false
set_option linter.unusedSimpArgs false
set_option maxRecDepth 100000
namespace Go.Ev
open Go Go.Proofs Go.Spec
attribute [local irreducible] ev evCall branch need again
theorem ic3 (I : Int) : I = 0 ∨ I = 1 ∨ I = 2 ∨ (∃ m : Nat, I = Int.negSucc m) ∨ (∃ m : Nat, I = ((m + 3 : Nat) : Int)) := by
 by_cases h : I < 0
 · exact Or.inr (Or.inr (Or.inr (Or.inl ⟨(-I - 1).toNat, by rw [Int.negSucc_eq]; omega⟩)))
 · by_cases h2 : I ≥ 3
   · exact Or.inr (Or.inr (Or.inr (Or.inr (⟨(I - 3).toNat, by omega⟩))))
   · omega
theorem mi_3 (p0 p1 p2 : Pa) (prim sil al I : Int) (k : KT) (h : k (.tup [.one (bv (missT I [p0, p1, p2] 0)), .one (bv (lostB I 3 sil al))]) (rtL (missP I [p0, p1, p2] 0) prim (thI I 3 (addK .i64 sil 1) sil) al)) : evCall cxRk (ev cxRk 60) 10 [.one (.ptr 0 0 0), .one (iv .i64 I)] (rtL [p0, p1, p2] prim sil al) k := by
 rcases ic3 I with rfl | rfl | rfl | ⟨m, rfl⟩ | ⟨m, rfl⟩
 · rw [t_mi3_0]
   exact h
 · rw [t_mi3_1]
   exact h
 · rw [t_mi3_2]
   exact h
 · rw [t_mi3_n]
   exact brt (Int.negSucc_lt_zero _) (miss_no (ps := [p0, p1, p2]) (Or.inl (Int.negSucc_lt_zero _)) prim sil al h)
 · rw [t_mi3_p]
   exact brt (by omega) (miss_no (ps := [p0, p1, p2]) (Or.inr (by show _ ≥ ((3 : Nat) : Int); omega)) prim sil al h)
theorem he_3 (p0 p1 p2 : Pa) (prim sil al I : Int) (k : KT) (h : k (.sa (.one (bv (hearT I [p0, p1, p2] 0)))) (rtL (hearP I [p0, p1, p2] 0) prim (thI I 3 0 sil) al)) : evCall cxRk (ev cxRk 60) 11 [.one (.ptr 0 0 0), .one (iv .i64 I)] (rtL [p0, p1, p2] prim sil al) k := by
 rcases ic3 I with rfl | rfl | rfl | ⟨m, rfl⟩ | ⟨m, rfl⟩
 · rw [t_he3_0]
   exact h
 · rw [t_he3_1]
   exact h
 · rw [t_he3_2]
   exact h
 · rw [t_he3_n]
   exact brt (Int.negSucc_lt_zero _) (hear_no (ps := [p0, p1, p2]) (Or.inl (Int.negSucc_lt_zero _)) prim sil al h)
 · rw [t_he3_p]
   exact brt (by omega) (hear_no (ps := [p0, p1, p2]) (Or.inr (by show _ ≥ ((3 : Nat) : Int); omega)) prim sil al h)
theorem pr_3 (p0 p1 p2 : Pa) (prim sil al I : Int) (k : KT) (h : k (.sa (.one (iv .i64 (thI I 3 0 4)))) (rtL [p0, p1, p2] (thI I 3 I prim) sil al)) : evCall cxRk (ev cxRk 60) 21 [.one (.ptr 0 0 0), .one (iv .i64 I)] (rtL [p0, p1, p2] prim sil al) k := by
 rcases ic3 I with rfl | rfl | rfl | ⟨m, rfl⟩ | ⟨m, rfl⟩
 · rw [t_pr3_0]
   exact h
 · rw [t_pr3_1]
   exact h
 · rw [t_pr3_2]
   exact h
 · rw [t_pr3_n]
   exact brt (Int.negSucc_lt_zero _) (prim_no (ps := [p0, p1, p2]) (Or.inl (Int.negSucc_lt_zero _)) prim sil al h)
 · rw [t_pr3_p]
   exact brt (by omega) (prim_no (ps := [p0, p1, p2]) (Or.inr (by show _ ≥ ((3 : Nat) : Int); omega)) prim sil al h)
theorem nx_3 (p0 p1 p2 : Pa) (prim sil al I : Int) (k : KT) (h : k (.sa (.one (iv .i64 (nextS (downs [p0, p1, p2]) I)))) (rtL [p0, p1, p2] prim sil al)) : evCall cxRk (ev cxRk 60) 16 [.one (.ptr 0 0 0), .one (iv .i64 I)] (rtL [p0, p1, p2] prim sil al) k := by
 rcases ic3 I with rfl | rfl | rfl | ⟨m, rfl⟩ | ⟨m, rfl⟩
 · rw [t_nx3_0]
   show branch _ _ _
   rw [nextS_eq] at h
   have e : nextI (downs [p0, p1, p2]) 0 = ((firstU [(1, p1.d), (2, p2.d)] 1 : Nat) : Int) := by kernel_rfl
   rw [e] at h
   iterate 2 refine fu_nx h (fun h => ?_)
   exact h
 · rw [t_nx3_1]
   show branch _ _ _
   rw [nextS_eq] at h
   have e : nextI (downs [p0, p1, p2]) 1 = ((firstU [(2, p2.d), (0, p0.d)] 2 : Nat) : Int) := by kernel_rfl
   rw [e] at h
   iterate 2 refine fu_nx h (fun h => ?_)
   exact h
 · rw [t_nx3_2]
   show branch _ _ _
   rw [nextS_eq] at h
   have e : nextI (downs [p0, p1, p2]) 2 = ((firstU [(0, p0.d), (1, p1.d)] 0 : Nat) : Int) := by kernel_rfl
   rw [e] at h
   iterate 2 refine fu_nx h (fun h => ?_)
   exact h
 · rw [t_nx3_n]
   exact brt (Int.negSucc_lt_zero _) (next_no (ps := [p0, p1, p2]) (Or.inl (Int.negSucc_lt_zero _)) prim sil al h)
 · rw [t_nx3_p]
   exact brt (by omega) (next_no (ps := [p0, p1, p2]) (Or.inr (by show _ ≥ ((3 : Nat) : Int); omega)) prim sil al h)
theorem mr_3 (p0 p1 p2 : Ra) (prim sil al I : Int) (k : KT) (h : k (.tup [.one (bv (missRT I [p0, p1, p2] 0)), .one (bv (lostB I 3 sil al))]) (rfL 0 (missR I [p0, p1, p2] 0) prim (thI I 3 (addK .i64 sil 1) sil) al)) : evCall cxRk (ev cxRk 60) 39 [.one (.ptr 0 0 0), .one (iv .i64 I)] (rfL 0 [p0, p1, p2] prim sil al) k := by
 rcases ic3 I with rfl | rfl | rfl | ⟨m, rfl⟩ | ⟨m, rfl⟩
 · rw [t_mr3_0]
   have h : k (.tup [.one (bv (Bool.not (p0.a == offB (gtB (addK .i64 p0.m 1) p0.tr) p0.a))), .one (bv (gtB (addK .i64 sil 1) al))]) (rfL 0 [(raW p0 (addK .i64 p0.m 1) (offB (gtB (addK .i64 p0.m 1) p0.tr) p0.a)), p1, p2] prim (addK .i64 sil 1) al) := h
   unfold gtB at h
   refine br (fun e => ?_) (fun e => ?_)
   · rw [e] at h; exact h
   · rw [e] at h; exact h
 · rw [t_mr3_1]
   have h : k (.tup [.one (bv (Bool.not (p1.a == offB (gtB (addK .i64 p1.m 1) p1.tr) p1.a))), .one (bv (gtB (addK .i64 sil 1) al))]) (rfL 0 [p0, (raW p1 (addK .i64 p1.m 1) (offB (gtB (addK .i64 p1.m 1) p1.tr) p1.a)), p2] prim (addK .i64 sil 1) al) := h
   unfold gtB at h
   refine br (fun e => ?_) (fun e => ?_)
   · rw [e] at h; exact h
   · rw [e] at h; exact h
 · rw [t_mr3_2]
   have h : k (.tup [.one (bv (Bool.not (p2.a == offB (gtB (addK .i64 p2.m 1) p2.tr) p2.a))), .one (bv (gtB (addK .i64 sil 1) al))]) (rfL 0 [p0, p1, (raW p2 (addK .i64 p2.m 1) (offB (gtB (addK .i64 p2.m 1) p2.tr) p2.a))] prim (addK .i64 sil 1) al) := h
   unfold gtB at h
   refine br (fun e => ?_) (fun e => ?_)
   · rw [e] at h; exact h
   · rw [e] at h; exact h
 · rw [t_mr3_n]
   exact (miss_noR (ps := [p0, p1, p2]) (Or.inl (Int.negSucc_lt_zero _)) prim sil al h)
 · rw [t_mr3_p]
   exact (miss_noR (ps := [p0, p1, p2]) (Or.inr (by show _ ≥ ((3 : Nat) : Int); omega)) prim sil al h)
theorem hr_3 (p0 p1 p2 : Ra) (prim sil al I : Int) (k : KT) (h : k (.sa (.one (bv (hearRT I [p0, p1, p2] 0)))) (rfL 0 (hearR I [p0, p1, p2] 0) prim (thI I 3 0 sil) al)) : evCall cxRk (ev cxRk 60) 40 [.one (.ptr 0 0 0), .one (iv .i64 I)] (rfL 0 [p0, p1, p2] prim sil al) k := by
 rcases ic3 I with rfl | rfl | rfl | ⟨m, rfl⟩ | ⟨m, rfl⟩
 · rw [t_hr3_0]
   exact h
 · rw [t_hr3_1]
   exact h
 · rw [t_hr3_2]
   exact h
 · rw [t_hr3_n]
   exact (hear_noR (ps := [p0, p1, p2]) (Or.inl (Int.negSucc_lt_zero _)) prim sil al h)
 · rw [t_hr3_p]
   exact (hear_noR (ps := [p0, p1, p2]) (Or.inr (by show _ ≥ ((3 : Nat) : Int); omega)) prim sil al h)
theorem nr_3 (p0 p1 p2 : Ra) (prim sil al I : Int) (k : KT) (h : k (.sa (.one (iv .i64 (nextS (downR [p0, p1, p2]) I)))) (rfL 0 [p0, p1, p2] prim sil al)) : evCall cxRk (ev cxRk 60) 27 [.one (.ptr 0 0 0), .one (iv .i64 I)] (rfL 0 [p0, p1, p2] prim sil al) k := by
 rcases ic3 I with rfl | rfl | rfl | ⟨m, rfl⟩ | ⟨m, rfl⟩
 · rw [t_nr3_0]
   show branch _ _ _
   rw [nextS_eq] at h
   have e : nextI (downR [p0, p1, p2]) 0 = ((firstU [(1, Bool.not p1.a), (2, Bool.not p2.a)] 1 : Nat) : Int) := by kernel_rfl
   rw [e] at h
   iterate 2 refine fu_nr h (fun h => ?_)
   exact h
 · rw [t_nr3_1]
   show branch _ _ _
   rw [nextS_eq] at h
   have e : nextI (downR [p0, p1, p2]) 1 = ((firstU [(2, Bool.not p2.a), (0, Bool.not p0.a)] 2 : Nat) : Int) := by kernel_rfl
   rw [e] at h
   iterate 2 refine fu_nr h (fun h => ?_)
   exact h
 · rw [t_nr3_2]
   show branch _ _ _
   rw [nextS_eq] at h
   have e : nextI (downR [p0, p1, p2]) 2 = ((firstU [(0, Bool.not p0.a), (1, Bool.not p1.a)] 0 : Nat) : Int) := by kernel_rfl
   rw [e] at h
   iterate 2 refine fu_nr h (fun h => ?_)
   exact h
 · rw [t_nr3_n]
   exact (next_noR (ps := [p0, p1, p2]) (Or.inl (Int.negSucc_lt_zero _)) prim sil al h)
 · rw [t_nr3_p]
   exact (next_noR (ps := [p0, p1, p2]) (Or.inr (by show _ ≥ ((3 : Nat) : Int); omega)) prim sil al h)
theorem ch_3 (p0 p1 p2 : Pa) (prim sil al : Int) (hp : 0 ≤ prim ∧ prim < 3) (k : KT) (h : k (.sa (.one (iv .i64 (chooseS (downs [p0, p1, p2]) prim)))) (rtL [p0, p1, p2] prim sil al)) : evCall cxRk (ev cxRk 60) 18 [.one (.ptr 0 0 0)] (rtL [p0, p1, p2] prim sil al) k := by
 rw [chooseS_eq] at h
 have hc : prim = 0 ∨ prim = 1 ∨ prim = 2 := by omega
 rcases hc with rfl | rfl | rfl
 · rw [t_ch3_0]
   show branch _ _ _
   have e : chooseI (downs [p0, p1, p2]) 0 = if p0.d = true then ((firstU [(1, p1.d), (2, p2.d)] 1 : Nat) : Int) else 0 := by kernel_rfl
   rw [e] at h
   cases hd : p0.d with
   | false =>
     rw [hd] at h
     exact bT h
   | true =>
     rw [pick_t (b := p0.d) hd] at h
     refine bF ?_
     iterate 2 refine fu_nx h (fun h => ?_)
     exact h
 · rw [t_ch3_1]
   show branch _ _ _
   have e : chooseI (downs [p0, p1, p2]) 1 = if p1.d = true then ((firstU [(2, p2.d), (0, p0.d)] 2 : Nat) : Int) else 1 := by kernel_rfl
   rw [e] at h
   cases hd : p1.d with
   | false =>
     rw [hd] at h
     exact bT h
   | true =>
     rw [pick_t (b := p1.d) hd] at h
     refine bF ?_
     iterate 2 refine fu_nx h (fun h => ?_)
     exact h
 · rw [t_ch3_2]
   show branch _ _ _
   have e : chooseI (downs [p0, p1, p2]) 2 = if p2.d = true then ((firstU [(0, p0.d), (1, p1.d)] 0 : Nat) : Int) else 2 := by kernel_rfl
   rw [e] at h
   cases hd : p2.d with
   | false =>
     rw [hd] at h
     exact bT h
   | true =>
     rw [pick_t (b := p2.d) hd] at h
     refine bF ?_
     iterate 2 refine fu_nx h (fun h => ?_)
     exact h
theorem cr_3 (p0 p1 p2 : Ra) (prim sil al : Int) (hp : 0 ≤ prim ∧ prim < 3) (k : KT) (h : k (.sa (.one (iv .i64 (chooseS (downR [p0, p1, p2]) prim)))) (rfL 0 [p0, p1, p2] prim sil al)) : evCall cxRk (ev cxRk 60) 26 [.one (.ptr 0 0 0)] (rfL 0 [p0, p1, p2] prim sil al) k := by
 rw [chooseS_eq] at h
 have hc : prim = 0 ∨ prim = 1 ∨ prim = 2 := by omega
 rcases hc with rfl | rfl | rfl
 · rw [t_cr3_0]
   show branch _ _ _
   have e : chooseI (downR [p0, p1, p2]) 0 = if (Bool.not p0.a) = true then ((firstU [(1, (Bool.not p1.a)), (2, (Bool.not p2.a))] 1 : Nat) : Int) else 0 := by kernel_rfl
   rw [e] at h
   cases hd : p0.a with
   | true =>
     rw [hd] at h
     exact bT h
   | false =>
     rw [pick_t (b := (Bool.not p0.a)) (by rw [hd]; rfl)] at h
     refine bF ?_
     iterate 2 refine fu_nr h (fun h => ?_)
     exact h
 · rw [t_cr3_1]
   show branch _ _ _
   have e : chooseI (downR [p0, p1, p2]) 1 = if (Bool.not p1.a) = true then ((firstU [(2, (Bool.not p2.a)), (0, (Bool.not p0.a))] 2 : Nat) : Int) else 1 := by kernel_rfl
   rw [e] at h
   cases hd : p1.a with
   | true =>
     rw [hd] at h
     exact bT h
   | false =>
     rw [pick_t (b := (Bool.not p1.a)) (by rw [hd]; rfl)] at h
     refine bF ?_
     iterate 2 refine fu_nr h (fun h => ?_)
     exact h
 · rw [t_cr3_2]
   show branch _ _ _
   have e : chooseI (downR [p0, p1, p2]) 2 = if (Bool.not p2.a) = true then ((firstU [(0, (Bool.not p0.a)), (1, (Bool.not p1.a))] 0 : Nat) : Int) else 2 := by kernel_rfl
   rw [e] at h
   cases hd : p2.a with
   | true =>
     rw [hd] at h
     exact bT h
   | false =>
     rw [pick_t (b := (Bool.not p2.a)) (by rw [hd]; rfl)] at h
     refine bF ?_
     iterate 2 refine fu_nr h (fun h => ?_)
     exact h
end Go.Ev
set_option linter.unusedVariables false
set_option linter.unusedSimpArgs false
set_option maxRecDepth 100000
namespace Go.Ev
open Go Go.Proofs Go.Spec
attribute [local irreducible] ev evCall branch need again
theorem ic4 (I : Int) : I = 0 ∨ I = 1 ∨ I = 2 ∨ I = 3 ∨ (∃ m : Nat, I = Int.negSucc m) ∨ (∃ m : Nat, I = ((m + 4 : Nat) : Int)) := by
 by_cases h : I < 0
 · exact Or.inr (Or.inr (Or.inr (Or.inr (Or.inl ⟨(-I - 1).toNat, by rw [Int.negSucc_eq]; omega⟩))))
 · by_cases h2 : I ≥ 4
   · exact Or.inr (Or.inr (Or.inr (Or.inr (Or.inr (⟨(I - 4).toNat, by omega⟩)))))
   · omega
theorem mi_4 (p0 p1 p2 p3 : Pa) (prim sil al I : Int) (k : KT) (h : k (.tup [.one (bv (missT I [p0, p1, p2, p3] 0)), .one (bv (lostB I 4 sil al))]) (rtL (missP I [p0, p1, p2, p3] 0) prim (thI I 4 (addK .i64 sil 1) sil) al)) : evCall cxRk (ev cxRk 60) 10 [.one (.ptr 0 0 0), .one (iv .i64 I)] (rtL [p0, p1, p2, p3] prim sil al) k := by
 rcases ic4 I with rfl | rfl | rfl | rfl | ⟨m, rfl⟩ | ⟨m, rfl⟩
 · rw [t_mi4_0]
   exact h
 · rw [t_mi4_1]
   exact h
 · rw [t_mi4_2]
   exact h
 · rw [t_mi4_3]
   exact h
 · rw [t_mi4_n]
   exact brt (Int.negSucc_lt_zero _) (miss_no (ps := [p0, p1, p2, p3]) (Or.inl (Int.negSucc_lt_zero _)) prim sil al h)
 · rw [t_mi4_p]
   exact brt (by omega) (miss_no (ps := [p0, p1, p2, p3]) (Or.inr (by show _ ≥ ((4 : Nat) : Int); omega)) prim sil al h)
theorem he_4 (p0 p1 p2 p3 : Pa) (prim sil al I : Int) (k : KT) (h : k (.sa (.one (bv (hearT I [p0, p1, p2, p3] 0)))) (rtL (hearP I [p0, p1, p2, p3] 0) prim (thI I 4 0 sil) al)) : evCall cxRk (ev cxRk 60) 11 [.one (.ptr 0 0 0), .one (iv .i64 I)] (rtL [p0, p1, p2, p3] prim sil al) k := by
 rcases ic4 I with rfl | rfl | rfl | rfl | ⟨m, rfl⟩ | ⟨m, rfl⟩
 · rw [t_he4_0]
   exact h
 · rw [t_he4_1]
   exact h
 · rw [t_he4_2]
   exact h
 · rw [t_he4_3]
   exact h
 · rw [t_he4_n]
   exact brt (Int.negSucc_lt_zero _) (hear_no (ps := [p0, p1, p2, p3]) (Or.inl (Int.negSucc_lt_zero _)) prim sil al h)
 · rw [t_he4_p]
   exact brt (by omega) (hear_no (ps := [p0, p1, p2, p3]) (Or.inr (by show _ ≥ ((4 : Nat) : Int); omega)) prim sil al h)
theorem pr_4 (p0 p1 p2 p3 : Pa) (prim sil al I : Int) (k : KT) (h : k (.sa (.one (iv .i64 (thI I 4 0 4)))) (rtL [p0, p1, p2, p3] (thI I 4 I prim) sil al)) : evCall cxRk (ev cxRk 60) 21 [.one (.ptr 0 0 0), .one (iv .i64 I)] (rtL [p0, p1, p2, p3] prim sil al) k := by
 rcases ic4 I with rfl | rfl | rfl | rfl | ⟨m, rfl⟩ | ⟨m, rfl⟩
 · rw [t_pr4_0]
   exact h
 · rw [t_pr4_1]
   exact h
 · rw [t_pr4_2]
   exact h
 · rw [t_pr4_3]
   exact h
 · rw [t_pr4_n]
   exact brt (Int.negSucc_lt_zero _) (prim_no (ps := [p0, p1, p2, p3]) (Or.inl (Int.negSucc_lt_zero _)) prim sil al h)
 · rw [t_pr4_p]
   exact brt (by omega) (prim_no (ps := [p0, p1, p2, p3]) (Or.inr (by show _ ≥ ((4 : Nat) : Int); omega)) prim sil al h)
theorem nx_4 (p0 p1 p2 p3 : Pa) (prim sil al I : Int) (k : KT) (h : k (.sa (.one (iv .i64 (nextS (downs [p0, p1, p2, p3]) I)))) (rtL [p0, p1, p2, p3] prim sil al)) : evCall cxRk (ev cxRk 60) 16 [.one (.ptr 0 0 0), .one (iv .i64 I)] (rtL [p0, p1, p2, p3] prim sil al) k := by
 rcases ic4 I with rfl | rfl | rfl | rfl | ⟨m, rfl⟩ | ⟨m, rfl⟩
 · rw [t_nx4_0]
   show branch _ _ _
   rw [nextS_eq] at h
   have e : nextI (downs [p0, p1, p2, p3]) 0 = ((firstU [(1, p1.d), (2, p2.d), (3, p3.d)] 1 : Nat) : Int) := by kernel_rfl
   rw [e] at h
   iterate 3 refine fu_nx h (fun h => ?_)
   exact h
 · rw [t_nx4_1]
   show branch _ _ _
   rw [nextS_eq] at h
   have e : nextI (downs [p0, p1, p2, p3]) 1 = ((firstU [(2, p2.d), (3, p3.d), (0, p0.d)] 2 : Nat) : Int) := by kernel_rfl
   rw [e] at h
   iterate 3 refine fu_nx h (fun h => ?_)
   exact h
 · rw [t_nx4_2]
   show branch _ _ _
   rw [nextS_eq] at h
   have e : nextI (downs [p0, p1, p2, p3]) 2 = ((firstU [(3, p3.d), (0, p0.d), (1, p1.d)] 3 : Nat) : Int) := by kernel_rfl
   rw [e] at h
   iterate 3 refine fu_nx h (fun h => ?_)
   exact h
 · rw [t_nx4_3]
   show branch _ _ _
   rw [nextS_eq] at h
   have e : nextI (downs [p0, p1, p2, p3]) 3 = ((firstU [(0, p0.d), (1, p1.d), (2, p2.d)] 0 : Nat) : Int) := by kernel_rfl
   rw [e] at h
   iterate 3 refine fu_nx h (fun h => ?_)
   exact h
 · rw [t_nx4_n]
   exact brt (Int.negSucc_lt_zero _) (next_no (ps := [p0, p1, p2, p3]) (Or.inl (Int.negSucc_lt_zero _)) prim sil al h)
 · rw [t_nx4_p]
   exact brt (by omega) (next_no (ps := [p0, p1, p2, p3]) (Or.inr (by show _ ≥ ((4 : Nat) : Int); omega)) prim sil al h)
theorem mr_4 (p0 p1 p2 p3 : Ra) (prim sil al I : Int) (k : KT) (h : k (.tup [.one (bv (missRT I [p0, p1, p2, p3] 0)), .one (bv (lostB I 4 sil al))]) (rfL 0 (missR I [p0, p1, p2, p3] 0) prim (thI I 4 (addK .i64 sil 1) sil) al)) : evCall cxRk (ev cxRk 60) 39 [.one (.ptr 0 0 0), .one (iv .i64 I)] (rfL 0 [p0, p1, p2, p3] prim sil al) k := by
 rcases ic4 I with rfl | rfl | rfl | rfl | ⟨m, rfl⟩ | ⟨m, rfl⟩
 · rw [t_mr4_0]
   have h : k (.tup [.one (bv (Bool.not (p0.a == offB (gtB (addK .i64 p0.m 1) p0.tr) p0.a))), .one (bv (gtB (addK .i64 sil 1) al))]) (rfL 0 [(raW p0 (addK .i64 p0.m 1) (offB (gtB (addK .i64 p0.m 1) p0.tr) p0.a)), p1, p2, p3] prim (addK .i64 sil 1) al) := h
   unfold gtB at h
   refine br (fun e => ?_) (fun e => ?_)
   · rw [e] at h; exact h
   · rw [e] at h; exact h
 · rw [t_mr4_1]
   have h : k (.tup [.one (bv (Bool.not (p1.a == offB (gtB (addK .i64 p1.m 1) p1.tr) p1.a))), .one (bv (gtB (addK .i64 sil 1) al))]) (rfL 0 [p0, (raW p1 (addK .i64 p1.m 1) (offB (gtB (addK .i64 p1.m 1) p1.tr) p1.a)), p2, p3] prim (addK .i64 sil 1) al) := h
   unfold gtB at h
   refine br (fun e => ?_) (fun e => ?_)
   · rw [e] at h; exact h
   · rw [e] at h; exact h
 · rw [t_mr4_2]
   have h : k (.tup [.one (bv (Bool.not (p2.a == offB (gtB (addK .i64 p2.m 1) p2.tr) p2.a))), .one (bv (gtB (addK .i64 sil 1) al))]) (rfL 0 [p0, p1, (raW p2 (addK .i64 p2.m 1) (offB (gtB (addK .i64 p2.m 1) p2.tr) p2.a)), p3] prim (addK .i64 sil 1) al) := h
   unfold gtB at h
   refine br (fun e => ?_) (fun e => ?_)
   · rw [e] at h; exact h
   · rw [e] at h; exact h
 · rw [t_mr4_3]
   have h : k (.tup [.one (bv (Bool.not (p3.a == offB (gtB (addK .i64 p3.m 1) p3.tr) p3.a))), .one (bv (gtB (addK .i64 sil 1) al))]) (rfL 0 [p0, p1, p2, (raW p3 (addK .i64 p3.m 1) (offB (gtB (addK .i64 p3.m 1) p3.tr) p3.a))] prim (addK .i64 sil 1) al) := h
   unfold gtB at h
   refine br (fun e => ?_) (fun e => ?_)
   · rw [e] at h; exact h
   · rw [e] at h; exact h
 · rw [t_mr4_n]
   exact (miss_noR (ps := [p0, p1, p2, p3]) (Or.inl (Int.negSucc_lt_zero _)) prim sil al h)
 · rw [t_mr4_p]
   exact (miss_noR (ps := [p0, p1, p2, p3]) (Or.inr (by show _ ≥ ((4 : Nat) : Int); omega)) prim sil al h)
theorem hr_4 (p0 p1 p2 p3 : Ra) (prim sil al I : Int) (k : KT) (h : k (.sa (.one (bv (hearRT I [p0, p1, p2, p3] 0)))) (rfL 0 (hearR I [p0, p1, p2, p3] 0) prim (thI I 4 0 sil) al)) : evCall cxRk (ev cxRk 60) 40 [.one (.ptr 0 0 0), .one (iv .i64 I)] (rfL 0 [p0, p1, p2, p3] prim sil al) k := by
 rcases ic4 I with rfl | rfl | rfl | rfl | ⟨m, rfl⟩ | ⟨m, rfl⟩
 · rw [t_hr4_0]
   exact h
 · rw [t_hr4_1]
   exact h
 · rw [t_hr4_2]
   exact h
 · rw [t_hr4_3]
   exact h
 · rw [t_hr4_n]
   exact (hear_noR (ps := [p0, p1, p2, p3]) (Or.inl (Int.negSucc_lt_zero _)) prim sil al h)
 · rw [t_hr4_p]
   exact (hear_noR (ps := [p0, p1, p2, p3]) (Or.inr (by show _ ≥ ((4 : Nat) : Int); omega)) prim sil al h)
theorem nr_4 (p0 p1 p2 p3 : Ra) (prim sil al I : Int) (k : KT) (h : k (.sa (.one (iv .i64 (nextS (downR [p0, p1, p2, p3]) I)))) (rfL 0 [p0, p1, p2, p3] prim sil al)) : evCall cxRk (ev cxRk 60) 27 [.one (.ptr 0 0 0), .one (iv .i64 I)] (rfL 0 [p0, p1, p2, p3] prim sil al) k := by
 rcases ic4 I with rfl | rfl | rfl | rfl | ⟨m, rfl⟩ | ⟨m, rfl⟩
 · rw [t_nr4_0]
   show branch _ _ _
   rw [nextS_eq] at h
   have e : nextI (downR [p0, p1, p2, p3]) 0 = ((firstU [(1, Bool.not p1.a), (2, Bool.not p2.a), (3, Bool.not p3.a)] 1 : Nat) : Int) := by kernel_rfl
   rw [e] at h
   iterate 3 refine fu_nr h (fun h => ?_)
   exact h
 · rw [t_nr4_1]
   show branch _ _ _
   rw [nextS_eq] at h
   have e : nextI (downR [p0, p1, p2, p3]) 1 = ((firstU [(2, Bool.not p2.a), (3, Bool.not p3.a), (0, Bool.not p0.a)] 2 : Nat) : Int) := by kernel_rfl
   rw [e] at h
   iterate 3 refine fu_nr h (fun h => ?_)
   exact h
 · rw [t_nr4_2]
   show branch _ _ _
   rw [nextS_eq] at h
   have e : nextI (downR [p0, p1, p2, p3]) 2 = ((firstU [(3, Bool.not p3.a), (0, Bool.not p0.a), (1, Bool.not p1.a)] 3 : Nat) : Int) := by kernel_rfl
   rw [e] at h
   iterate 3 refine fu_nr h (fun h => ?_)
   exact h
 · rw [t_nr4_3]
   show branch _ _ _
   rw [nextS_eq] at h
   have e : nextI (downR [p0, p1, p2, p3]) 3 = ((firstU [(0, Bool.not p0.a), (1, Bool.not p1.a), (2, Bool.not p2.a)] 0 : Nat) : Int) := by kernel_rfl
   rw [e] at h
   iterate 3 refine fu_nr h (fun h => ?_)
   exact h
 · rw [t_nr4_n]
   exact (next_noR (ps := [p0, p1, p2, p3]) (Or.inl (Int.negSucc_lt_zero _)) prim sil al h)
 · rw [t_nr4_p]
   exact (next_noR (ps := [p0, p1, p2, p3]) (Or.inr (by show _ ≥ ((4 : Nat) : Int); omega)) prim sil al h)
theorem ch_4 (p0 p1 p2 p3 : Pa) (prim sil al : Int) (hp : 0 ≤ prim ∧ prim < 4) (k : KT) (h : k (.sa (.one (iv .i64 (chooseS (downs [p0, p1, p2, p3]) prim)))) (rtL [p0, p1, p2, p3] prim sil al)) : evCall cxRk (ev cxRk 60) 18 [.one (.ptr 0 0 0)] (rtL [p0, p1, p2, p3] prim sil al) k := by
 rw [chooseS_eq] at h
 have hc : prim = 0 ∨ prim = 1 ∨ prim = 2 ∨ prim = 3 := by omega
 rcases hc with rfl | rfl | rfl | rfl
 · rw [t_ch4_0]
   show branch _ _ _
   have e : chooseI (downs [p0, p1, p2, p3]) 0 = if p0.d = true then ((firstU [(1, p1.d), (2, p2.d), (3, p3.d)] 1 : Nat) : Int) else 0 := by kernel_rfl
   rw [e] at h
   cases hd : p0.d with
   | false =>
     rw [hd] at h
     exact bT h
   | true =>
     rw [pick_t (b := p0.d) hd] at h
     refine bF ?_
     iterate 3 refine fu_nx h (fun h => ?_)
     exact h
 · rw [t_ch4_1]
   show branch _ _ _
   have e : chooseI (downs [p0, p1, p2, p3]) 1 = if p1.d = true then ((firstU [(2, p2.d), (3, p3.d), (0, p0.d)] 2 : Nat) : Int) else 1 := by kernel_rfl
   rw [e] at h
   cases hd : p1.d with
   | false =>
     rw [hd] at h
     exact bT h
   | true =>
     rw [pick_t (b := p1.d) hd] at h
     refine bF ?_
     iterate 3 refine fu_nx h (fun h => ?_)
     exact h
 · rw [t_ch4_2]
   show branch _ _ _
   have e : chooseI (downs [p0, p1, p2, p3]) 2 = if p2.d = true then ((firstU [(3, p3.d), (0, p0.d), (1, p1.d)] 3 : Nat) : Int) else 2 := by kernel_rfl
   rw [e] at h
   cases hd : p2.d with
   | false =>
     rw [hd] at h
     exact bT h
   | true =>
     rw [pick_t (b := p2.d) hd] at h
     refine bF ?_
     iterate 3 refine fu_nx h (fun h => ?_)
     exact h
 · rw [t_ch4_3]
   show branch _ _ _
   have e : chooseI (downs [p0, p1, p2, p3]) 3 = if p3.d = true then ((firstU [(0, p0.d), (1, p1.d), (2, p2.d)] 0 : Nat) : Int) else 3 := by kernel_rfl
   rw [e] at h
   cases hd : p3.d with
   | false =>
     rw [hd] at h
     exact bT h
   | true =>
     rw [pick_t (b := p3.d) hd] at h
     refine bF ?_
     iterate 3 refine fu_nx h (fun h => ?_)
     exact h
theorem cr_4 (p0 p1 p2 p3 : Ra) (prim sil al : Int) (hp : 0 ≤ prim ∧ prim < 4) (k : KT) (h : k (.sa (.one (iv .i64 (chooseS (downR [p0, p1, p2, p3]) prim)))) (rfL 0 [p0, p1, p2, p3] prim sil al)) : evCall cxRk (ev cxRk 60) 26 [.one (.ptr 0 0 0)] (rfL 0 [p0, p1, p2, p3] prim sil al) k := by
 rw [chooseS_eq] at h
 have hc : prim = 0 ∨ prim = 1 ∨ prim = 2 ∨ prim = 3 := by omega
 rcases hc with rfl | rfl | rfl | rfl
 · rw [t_cr4_0]
   show branch _ _ _
   have e : chooseI (downR [p0, p1, p2, p3]) 0 = if (Bool.not p0.a) = true then ((firstU [(1, (Bool.not p1.a)), (2, (Bool.not p2.a)), (3, (Bool.not p3.a))] 1 : Nat) : Int) else 0 := by kernel_rfl
   rw [e] at h
   cases hd : p0.a with
   | true =>
     rw [hd] at h
     exact bT h
   | false =>
     rw [pick_t (b := (Bool.not p0.a)) (by rw [hd]; rfl)] at h
     refine bF ?_
     iterate 3 refine fu_nr h (fun h => ?_)
     exact h
 · rw [t_cr4_1]
   show branch _ _ _
   have e : chooseI (downR [p0, p1, p2, p3]) 1 = if (Bool.not p1.a) = true then ((firstU [(2, (Bool.not p2.a)), (3, (Bool.not p3.a)), (0, (Bool.not p0.a))] 2 : Nat) : Int) else 1 := by kernel_rfl
   rw [e] at h
   cases hd : p1.a with
   | true =>
     rw [hd] at h
     exact bT h
   | false =>
     rw [pick_t (b := (Bool.not p1.a)) (by rw [hd]; rfl)] at h
     refine bF ?_
     iterate 3 refine fu_nr h (fun h => ?_)
     exact h
 · rw [t_cr4_2]
   show branch _ _ _
   have e : chooseI (downR [p0, p1, p2, p3]) 2 = if (Bool.not p2.a) = true then ((firstU [(3, (Bool.not p3.a)), (0, (Bool.not p0.a)), (1, (Bool.not p1.a))] 3 : Nat) : Int) else 2 := by kernel_rfl
   rw [e] at h
   cases hd : p2.a with
   | true =>
     rw [hd] at h
     exact bT h
   | false =>
     rw [pick_t (b := (Bool.not p2.a)) (by rw [hd]; rfl)] at h
     refine bF ?_
     iterate 3 refine fu_nr h (fun h => ?_)
     exact h
 · rw [t_cr4_3]
   show branch _ _ _
   have e : chooseI (downR [p0, p1, p2, p3]) 3 = if (Bool.not p3.a) = true then ((firstU [(0, (Bool.not p0.a)), (1, (Bool.not p1.a)), (2, (Bool.not p2.a))] 0 : Nat) : Int) else 3 := by kernel_rfl
   rw [e] at h
   cases hd : p3.a with
   | true =>
     rw [hd] at h
     exact bT h
   | false =>
     rw [pick_t (b := (Bool.not p3.a)) (by rw [hd]; rfl)] at h
     refine bF ?_
     iterate 3 refine fu_nr h (fun h => ?_)
     exact h
end Go.Ev
set_option linter.unusedVariables false
set_option linter.unusedSimpArgs false
set_option maxRecDepth 100000
namespace Go.Ev
open Go Go.Proofs Go.Spec
attribute [local irreducible] ev evCall branch need again
theorem ic6 (I : Int) : I = 0 ∨ I = 1 ∨ I = 2 ∨ I = 3 ∨ I = 4 ∨ I = 5 ∨ (∃ m : Nat, I = Int.negSucc m) ∨ (∃ m : Nat, I = ((m + 6 : Nat) : Int)) := by
 by_cases h : I < 0
 · exact Or.inr (Or.inr (Or.inr (Or.inr (Or.inr (Or.inr (Or.inl ⟨(-I - 1).toNat, by rw [Int.negSucc_eq]; omega⟩))))))
 · by_cases h2 : I ≥ 6
   · exact Or.inr (Or.inr (Or.inr (Or.inr (Or.inr (Or.inr (Or.inr (⟨(I - 6).toNat, by omega⟩)))))))
   · omega
theorem mi_6 (p0 p1 p2 p3 p4 p5 : Pa) (prim sil al I : Int) (k : KT) (h : k (.tup [.one (bv (missT I [p0, p1, p2, p3, p4, p5] 0)), .one (bv (lostB I 6 sil al))]) (rtL (missP I [p0, p1, p2, p3, p4, p5] 0) prim (thI I 6 (addK .i64 sil 1) sil) al)) : evCall cxRk (ev cxRk 60) 10 [.one (.ptr 0 0 0), .one (iv .i64 I)] (rtL [p0, p1, p2, p3, p4, p5] prim sil al) k := by
 rcases ic6 I with rfl | rfl | rfl | rfl | rfl | rfl | ⟨m, rfl⟩ | ⟨m, rfl⟩
 · rw [t_mi6_0]
   exact h
 · rw [t_mi6_1]
   exact h
 · rw [t_mi6_2]
   exact h
 · rw [t_mi6_3]
   exact h
 · rw [t_mi6_4]
   exact h
 · rw [t_mi6_5]
   exact h
 · rw [t_mi6_n]
   exact brt (Int.negSucc_lt_zero _) (miss_no (ps := [p0, p1, p2, p3, p4, p5]) (Or.inl (Int.negSucc_lt_zero _)) prim sil al h)
 · rw [t_mi6_p]
   exact brt (by omega) (miss_no (ps := [p0, p1, p2, p3, p4, p5]) (Or.inr (by show _ ≥ ((6 : Nat) : Int); omega)) prim sil al h)
theorem he_6 (p0 p1 p2 p3 p4 p5 : Pa) (prim sil al I : Int) (k : KT) (h : k (.sa (.one (bv (hearT I [p0, p1, p2, p3, p4, p5] 0)))) (rtL (hearP I [p0, p1, p2, p3, p4, p5] 0) prim (thI I 6 0 sil) al)) : evCall cxRk (ev cxRk 60) 11 [.one (.ptr 0 0 0), .one (iv .i64 I)] (rtL [p0, p1, p2, p3, p4, p5] prim sil al) k := by
 rcases ic6 I with rfl | rfl | rfl | rfl | rfl | rfl | ⟨m, rfl⟩ | ⟨m, rfl⟩
 · rw [t_he6_0]
   exact h
 · rw [t_he6_1]
   exact h
 · rw [t_he6_2]
   exact h
 · rw [t_he6_3]
   exact h
 · rw [t_he6_4]
   exact h
 · rw [t_he6_5]
   exact h
 · rw [t_he6_n]
   exact brt (Int.negSucc_lt_zero _) (hear_no (ps := [p0, p1, p2, p3, p4, p5]) (Or.inl (Int.negSucc_lt_zero _)) prim sil al h)
 · rw [t_he6_p]
   exact brt (by omega) (hear_no (ps := [p0, p1, p2, p3, p4, p5]) (Or.inr (by show _ ≥ ((6 : Nat) : Int); omega)) prim sil al h)
theorem pr_6 (p0 p1 p2 p3 p4 p5 : Pa) (prim sil al I : Int) (k : KT) (h : k (.sa (.one (iv .i64 (thI I 6 0 4)))) (rtL [p0, p1, p2, p3, p4, p5] (thI I 6 I prim) sil al)) : evCall cxRk (ev cxRk 60) 21 [.one (.ptr 0 0 0), .one (iv .i64 I)] (rtL [p0, p1, p2, p3, p4, p5] prim sil al) k := by
 rcases ic6 I with rfl | rfl | rfl | rfl | rfl | rfl | ⟨m, rfl⟩ | ⟨m, rfl⟩
 · rw [t_pr6_0]
   exact h
 · rw [t_pr6_1]
   exact h
 · rw [t_pr6_2]
   exact h
 · rw [t_pr6_3]
   exact h
 · rw [t_pr6_4]
   exact h
 · rw [t_pr6_5]
   exact h
 · rw [t_pr6_n]
   exact brt (Int.negSucc_lt_zero _) (prim_no (ps := [p0, p1, p2, p3, p4, p5]) (Or.inl (Int.negSucc_lt_zero _)) prim sil al h)
 · rw [t_pr6_p]
   exact brt (by omega) (prim_no (ps := [p0, p1, p2, p3, p4, p5]) (Or.inr (by show _ ≥ ((6 : Nat) : Int); omega)) prim sil al h)
theorem nx_6 (p0 p1 p2 p3 p4 p5 : Pa) (prim sil al I : Int) (k : KT) (h : k (.sa (.one (iv .i64 (nextS (downs [p0, p1, p2, p3, p4, p5]) I)))) (rtL [p0, p1, p2, p3, p4, p5] prim sil al)) : evCall cxRk (ev cxRk 60) 16 [.one (.ptr 0 0 0), .one (iv .i64 I)] (rtL [p0, p1, p2, p3, p4, p5] prim sil al) k := by
 rcases ic6 I with rfl | rfl | rfl | rfl | rfl | rfl | ⟨m, rfl⟩ | ⟨m, rfl⟩
 · rw [t_nx6_0]
   show branch _ _ _
   rw [nextS_eq] at h
   have e : nextI (downs [p0, p1, p2, p3, p4, p5]) 0 = ((firstU [(1, p1.d), (2, p2.d), (3, p3.d), (4, p4.d), (5, p5.d)] 1 : Nat) : Int) := by kernel_rfl
   rw [e] at h
   iterate 5 refine fu_nx h (fun h => ?_)
   exact h
 · rw [t_nx6_1]
   show branch _ _ _
   rw [nextS_eq] at h
   have e : nextI (downs [p0, p1, p2, p3, p4, p5]) 1 = ((firstU [(2, p2.d), (3, p3.d), (4, p4.d), (5, p5.d), (0, p0.d)] 2 : Nat) : Int) := by kernel_rfl
   rw [e] at h
   iterate 5 refine fu_nx h (fun h => ?_)
   exact h
 · rw [t_nx6_2]
   show branch _ _ _
   rw [nextS_eq] at h
   have e : nextI (downs [p0, p1, p2, p3, p4, p5]) 2 = ((firstU [(3, p3.d), (4, p4.d), (5, p5.d), (0, p0.d), (1, p1.d)] 3 : Nat) : Int) := by kernel_rfl
   rw [e] at h
   iterate 5 refine fu_nx h (fun h => ?_)
   exact h
 · rw [t_nx6_3]
   show branch _ _ _
   rw [nextS_eq] at h
   have e : nextI (downs [p0, p1, p2, p3, p4, p5]) 3 = ((firstU [(4, p4.d), (5, p5.d), (0, p0.d), (1, p1.d), (2, p2.d)] 4 : Nat) : Int) := by kernel_rfl
   rw [e] at h
   iterate 5 refine fu_nx h (fun h => ?_)
   exact h
 · rw [t_nx6_4]
   show branch _ _ _
   rw [nextS_eq] at h
   have e : nextI (downs [p0, p1, p2, p3, p4, p5]) 4 = ((firstU [(5, p5.d), (0, p0.d), (1, p1.d), (2, p2.d), (3, p3.d)] 5 : Nat) : Int) := by kernel_rfl
   rw [e] at h
   iterate 5 refine fu_nx h (fun h => ?_)
   exact h
 · rw [t_nx6_5]
   show branch _ _ _
   rw [nextS_eq] at h
   have e : nextI (downs [p0, p1, p2, p3, p4, p5]) 5 = ((firstU [(0, p0.d), (1, p1.d), (2, p2.d), (3, p3.d), (4, p4.d)] 0 : Nat) : Int) := by kernel_rfl
   rw [e] at h
   iterate 5 refine fu_nx h (fun h => ?_)
   exact h
 · rw [t_nx6_n]
   exact brt (Int.negSucc_lt_zero _) (next_no (ps := [p0, p1, p2, p3, p4, p5]) (Or.inl (Int.negSucc_lt_zero _)) prim sil al h)
 · rw [t_nx6_p]
   exact brt (by omega) (next_no (ps := [p0, p1, p2, p3, p4, p5]) (Or.inr (by show _ ≥ ((6 : Nat) : Int); omega)) prim sil al h)
theorem mr_6 (p0 p1 p2 p3 p4 p5 : Ra) (prim sil al I : Int) (k : KT) (h : k (.tup [.one (bv (missRT I [p0, p1, p2, p3, p4, p5] 0)), .one (bv (lostB I 6 sil al))]) (rfL 0 (missR I [p0, p1, p2, p3, p4, p5] 0) prim (thI I 6 (addK .i64 sil 1) sil) al)) : evCall cxRk (ev cxRk 60) 39 [.one (.ptr 0 0 0), .one (iv .i64 I)] (rfL 0 [p0, p1, p2, p3, p4, p5] prim sil al) k := by
 rcases ic6 I with rfl | rfl | rfl | rfl | rfl | rfl | ⟨m, rfl⟩ | ⟨m, rfl⟩
 · rw [t_mr6_0]
   have h : k (.tup [.one (bv (Bool.not (p0.a == offB (gtB (addK .i64 p0.m 1) p0.tr) p0.a))), .one (bv (gtB (addK .i64 sil 1) al))]) (rfL 0 [(raW p0 (addK .i64 p0.m 1) (offB (gtB (addK .i64 p0.m 1) p0.tr) p0.a)), p1, p2, p3, p4, p5] prim (addK .i64 sil 1) al) := h
   unfold gtB at h
   refine br (fun e => ?_) (fun e => ?_)
   · rw [e] at h; exact h
   · rw [e] at h; exact h
 · rw [t_mr6_1]
   have h : k (.tup [.one (bv (Bool.not (p1.a == offB (gtB (addK .i64 p1.m 1) p1.tr) p1.a))), .one (bv (gtB (addK .i64 sil 1) al))]) (rfL 0 [p0, (raW p1 (addK .i64 p1.m 1) (offB (gtB (addK .i64 p1.m 1) p1.tr) p1.a)), p2, p3, p4, p5] prim (addK .i64 sil 1) al) := h
   unfold gtB at h
   refine br (fun e => ?_) (fun e => ?_)
   · rw [e] at h; exact h
   · rw [e] at h; exact h
 · rw [t_mr6_2]
   have h : k (.tup [.one (bv (Bool.not (p2.a == offB (gtB (addK .i64 p2.m 1) p2.tr) p2.a))), .one (bv (gtB (addK .i64 sil 1) al))]) (rfL 0 [p0, p1, (raW p2 (addK .i64 p2.m 1) (offB (gtB (addK .i64 p2.m 1) p2.tr) p2.a)), p3, p4, p5] prim (addK .i64 sil 1) al) := h
   unfold gtB at h
   refine br (fun e => ?_) (fun e => ?_)
   · rw [e] at h; exact h
   · rw [e] at h; exact h
 · rw [t_mr6_3]
   have h : k (.tup [.one (bv (Bool.not (p3.a == offB (gtB (addK .i64 p3.m 1) p3.tr) p3.a))), .one (bv (gtB (addK .i64 sil 1) al))]) (rfL 0 [p0, p1, p2, (raW p3 (addK .i64 p3.m 1) (offB (gtB (addK .i64 p3.m 1) p3.tr) p3.a)), p4, p5] prim (addK .i64 sil 1) al) := h
   unfold gtB at h
   refine br (fun e => ?_) (fun e => ?_)
   · rw [e] at h; exact h
   · rw [e] at h; exact h
 · rw [t_mr6_4]
   have h : k (.tup [.one (bv (Bool.not (p4.a == offB (gtB (addK .i64 p4.m 1) p4.tr) p4.a))), .one (bv (gtB (addK .i64 sil 1) al))]) (rfL 0 [p0, p1, p2, p3, (raW p4 (addK .i64 p4.m 1) (offB (gtB (addK .i64 p4.m 1) p4.tr) p4.a)), p5] prim (addK .i64 sil 1) al) := h
   unfold gtB at h
   refine br (fun e => ?_) (fun e => ?_)
   · rw [e] at h; exact h
   · rw [e] at h; exact h
 · rw [t_mr6_5]
   have h : k (.tup [.one (bv (Bool.not (p5.a == offB (gtB (addK .i64 p5.m 1) p5.tr) p5.a))), .one (bv (gtB (addK .i64 sil 1) al))]) (rfL 0 [p0, p1, p2, p3, p4, (raW p5 (addK .i64 p5.m 1) (offB (gtB (addK .i64 p5.m 1) p5.tr) p5.a))] prim (addK .i64 sil 1) al) := h
   unfold gtB at h
   refine br (fun e => ?_) (fun e => ?_)
   · rw [e] at h; exact h
   · rw [e] at h; exact h
 · rw [t_mr6_n]
   exact (miss_noR (ps := [p0, p1, p2, p3, p4, p5]) (Or.inl (Int.negSucc_lt_zero _)) prim sil al h)
 · rw [t_mr6_p]
   exact (miss_noR (ps := [p0, p1, p2, p3, p4, p5]) (Or.inr (by show _ ≥ ((6 : Nat) : Int); omega)) prim sil al h)
theorem hr_6 (p0 p1 p2 p3 p4 p5 : Ra) (prim sil al I : Int) (k : KT) (h : k (.sa (.one (bv (hearRT I [p0, p1, p2, p3, p4, p5] 0)))) (rfL 0 (hearR I [p0, p1, p2, p3, p4, p5] 0) prim (thI I 6 0 sil) al)) : evCall cxRk (ev cxRk 60) 40 [.one (.ptr 0 0 0), .one (iv .i64 I)] (rfL 0 [p0, p1, p2, p3, p4, p5] prim sil al) k := by
 rcases ic6 I with rfl | rfl | rfl | rfl | rfl | rfl | ⟨m, rfl⟩ | ⟨m, rfl⟩
 · rw [t_hr6_0]
   exact h
 · rw [t_hr6_1]
   exact h
 · rw [t_hr6_2]
   exact h
 · rw [t_hr6_3]
   exact h
 · rw [t_hr6_4]
   exact h
 · rw [t_hr6_5]
   exact h
 · rw [t_hr6_n]
   exact (hear_noR (ps := [p0, p1, p2, p3, p4, p5]) (Or.inl (Int.negSucc_lt_zero _)) prim sil al h)
 · rw [t_hr6_p]
   exact (hear_noR (ps := [p0, p1, p2, p3, p4, p5]) (Or.inr (by show _ ≥ ((6 : Nat) : Int); omega)) prim sil al h)
theorem nr_6 (p0 p1 p2 p3 p4 p5 : Ra) (prim sil al I : Int) (k : KT) (h : k (.sa (.one (iv .i64 (nextS (downR [p0, p1, p2, p3, p4, p5]) I)))) (rfL 0 [p0, p1, p2, p3, p4, p5] prim sil al)) : evCall cxRk (ev cxRk 60) 27 [.one (.ptr 0 0 0), .one (iv .i64 I)] (rfL 0 [p0, p1, p2, p3, p4, p5] prim sil al) k := by
 rcases ic6 I with rfl | rfl | rfl | rfl | rfl | rfl | ⟨m, rfl⟩ | ⟨m, rfl⟩
 · rw [t_nr6_0]
   show branch _ _ _
   rw [nextS_eq] at h
   have e : nextI (downR [p0, p1, p2, p3, p4, p5]) 0 = ((firstU [(1, Bool.not p1.a), (2, Bool.not p2.a), (3, Bool.not p3.a), (4, Bool.not p4.a), (5, Bool.not p5.a)] 1 : Nat) : Int) := by kernel_rfl
   rw [e] at h
   iterate 5 refine fu_nr h (fun h => ?_)
   exact h
 · rw [t_nr6_1]
   show branch _ _ _
   rw [nextS_eq] at h
   have e : nextI (downR [p0, p1, p2, p3, p4, p5]) 1 = ((firstU [(2, Bool.not p2.a), (3, Bool.not p3.a), (4, Bool.not p4.a), (5, Bool.not p5.a), (0, Bool.not p0.a)] 2 : Nat) : Int) := by kernel_rfl
   rw [e] at h
   iterate 5 refine fu_nr h (fun h => ?_)
   exact h
 · rw [t_nr6_2]
   show branch _ _ _
   rw [nextS_eq] at h
   have e : nextI (downR [p0, p1, p2, p3, p4, p5]) 2 = ((firstU [(3, Bool.not p3.a), (4, Bool.not p4.a), (5, Bool.not p5.a), (0, Bool.not p0.a), (1, Bool.not p1.a)] 3 : Nat) : Int) := by kernel_rfl
   rw [e] at h
   iterate 5 refine fu_nr h (fun h => ?_)
   exact h
 · rw [t_nr6_3]
   show branch _ _ _
   rw [nextS_eq] at h
   have e : nextI (downR [p0, p1, p2, p3, p4, p5]) 3 = ((firstU [(4, Bool.not p4.a), (5, Bool.not p5.a), (0, Bool.not p0.a), (1, Bool.not p1.a), (2, Bool.not p2.a)] 4 : Nat) : Int) := by kernel_rfl
   rw [e] at h
   iterate 5 refine fu_nr h (fun h => ?_)
   exact h
 · rw [t_nr6_4]
   show branch _ _ _
   rw [nextS_eq] at h
   have e : nextI (downR [p0, p1, p2, p3, p4, p5]) 4 = ((firstU [(5, Bool.not p5.a), (0, Bool.not p0.a), (1, Bool.not p1.a), (2, Bool.not p2.a), (3, Bool.not p3.a)] 5 : Nat) : Int) := by kernel_rfl
   rw [e] at h
   iterate 5 refine fu_nr h (fun h => ?_)
   exact h
 · rw [t_nr6_5]
   show branch _ _ _
   rw [nextS_eq] at h
   have e : nextI (downR [p0, p1, p2, p3, p4, p5]) 5 = ((firstU [(0, Bool.not p0.a), (1, Bool.not p1.a), (2, Bool.not p2.a), (3, Bool.not p3.a), (4, Bool.not p4.a)] 0 : Nat) : Int) := by kernel_rfl
   rw [e] at h
   iterate 5 refine fu_nr h (fun h => ?_)
   exact h
 · rw [t_nr6_n]
   exact (next_noR (ps := [p0, p1, p2, p3, p4, p5]) (Or.inl (Int.negSucc_lt_zero _)) prim sil al h)
 · rw [t_nr6_p]
   exact (next_noR (ps := [p0, p1, p2, p3, p4, p5]) (Or.inr (by show _ ≥ ((6 : Nat) : Int); omega)) prim sil al h)
theorem ch_6 (p0 p1 p2 p3 p4 p5 : Pa) (prim sil al : Int) (hp : 0 ≤ prim ∧ prim < 6) (k : KT) (h : k (.sa (.one (iv .i64 (chooseS (downs [p0, p1, p2, p3, p4, p5]) prim)))) (rtL [p0, p1, p2, p3, p4, p5] prim sil al)) : evCall cxRk (ev cxRk 60) 18 [.one (.ptr 0 0 0)] (rtL [p0, p1, p2, p3, p4, p5] prim sil al) k := by
 rw [chooseS_eq] at h
 have hc : prim = 0 ∨ prim = 1 ∨ prim = 2 ∨ prim = 3 ∨ prim = 4 ∨ prim = 5 := by omega
 rcases hc with rfl | rfl | rfl | rfl | rfl | rfl
 · rw [t_ch6_0]
   show branch _ _ _
   have e : chooseI (downs [p0, p1, p2, p3, p4, p5]) 0 = if p0.d = true then ((firstU [(1, p1.d), (2, p2.d), (3, p3.d), (4, p4.d), (5, p5.d)] 1 : Nat) : Int) else 0 := by kernel_rfl
   rw [e] at h
   cases hd : p0.d with
   | false =>
     rw [hd] at h
     exact bT h
   | true =>
     rw [pick_t (b := p0.d) hd] at h
     refine bF ?_
     iterate 5 refine fu_nx h (fun h => ?_)
     exact h
 · rw [t_ch6_1]
   show branch _ _ _
   have e : chooseI (downs [p0, p1, p2, p3, p4, p5]) 1 = if p1.d = true then ((firstU [(2, p2.d), (3, p3.d), (4, p4.d), (5, p5.d), (0, p0.d)] 2 : Nat) : Int) else 1 := by kernel_rfl
   rw [e] at h
   cases hd : p1.d with
   | false =>
     rw [hd] at h
     exact bT h
   | true =>
     rw [pick_t (b := p1.d) hd] at h
     refine bF ?_
     iterate 5 refine fu_nx h (fun h => ?_)
     exact h
 · rw [t_ch6_2]
   show branch _ _ _
   have e : chooseI (downs [p0, p1, p2, p3, p4, p5]) 2 = if p2.d = true then ((firstU [(3, p3.d), (4, p4.d), (5, p5.d), (0, p0.d), (1, p1.d)] 3 : Nat) : Int) else 2 := by kernel_rfl
   rw [e] at h
   cases hd : p2.d with
   | false =>
     rw [hd] at h
     exact bT h
   | true =>
     rw [pick_t (b := p2.d) hd] at h
     refine bF ?_
     iterate 5 refine fu_nx h (fun h => ?_)
     exact h
 · rw [t_ch6_3]
   show branch _ _ _
   have e : chooseI (downs [p0, p1, p2, p3, p4, p5]) 3 = if p3.d = true then ((firstU [(4, p4.d), (5, p5.d), (0, p0.d), (1, p1.d), (2, p2.d)] 4 : Nat) : Int) else 3 := by kernel_rfl
   rw [e] at h
   cases hd : p3.d with
   | false =>
     rw [hd] at h
     exact bT h
   | true =>
     rw [pick_t (b := p3.d) hd] at h
     refine bF ?_
     iterate 5 refine fu_nx h (fun h => ?_)
     exact h
 · rw [t_ch6_4]
   show branch _ _ _
   have e : chooseI (downs [p0, p1, p2, p3, p4, p5]) 4 = if p4.d = true then ((firstU [(5, p5.d), (0, p0.d), (1, p1.d), (2, p2.d), (3, p3.d)] 5 : Nat) : Int) else 4 := by kernel_rfl
   rw [e] at h
   cases hd : p4.d with
   | false =>
     rw [hd] at h
     exact bT h
   | true =>
     rw [pick_t (b := p4.d) hd] at h
     refine bF ?_
     iterate 5 refine fu_nx h (fun h => ?_)
     exact h
 · rw [t_ch6_5]
   show branch _ _ _
   have e : chooseI (downs [p0, p1, p2, p3, p4, p5]) 5 = if p5.d = true then ((firstU [(0, p0.d), (1, p1.d), (2, p2.d), (3, p3.d), (4, p4.d)] 0 : Nat) : Int) else 5 := by kernel_rfl
   rw [e] at h
   cases hd : p5.d with
   | false =>
     rw [hd] at h
     exact bT h
   | true =>
     rw [pick_t (b := p5.d) hd] at h
     refine bF ?_
     iterate 5 refine fu_nx h (fun h => ?_)
     exact h
theorem cr_6 (p0 p1 p2 p3 p4 p5 : Ra) (prim sil al : Int) (hp : 0 ≤ prim ∧ prim < 6) (k : KT) (h : k (.sa (.one (iv .i64 (chooseS (downR [p0, p1, p2, p3, p4, p5]) prim)))) (rfL 0 [p0, p1, p2, p3, p4, p5] prim sil al)) : evCall cxRk (ev cxRk 60) 26 [.one (.ptr 0 0 0)] (rfL 0 [p0, p1, p2, p3, p4, p5] prim sil al) k := by
 rw [chooseS_eq] at h
 have hc : prim = 0 ∨ prim = 1 ∨ prim = 2 ∨ prim = 3 ∨ prim = 4 ∨ prim = 5 := by omega
 rcases hc with rfl | rfl | rfl | rfl | rfl | rfl
 · rw [t_cr6_0]
   show branch _ _ _
   have e : chooseI (downR [p0, p1, p2, p3, p4, p5]) 0 = if (Bool.not p0.a) = true then ((firstU [(1, (Bool.not p1.a)), (2, (Bool.not p2.a)), (3, (Bool.not p3.a)), (4, (Bool.not p4.a)), (5, (Bool.not p5.a))] 1 : Nat) : Int) else 0 := by kernel_rfl
   rw [e] at h
   cases hd : p0.a with
   | true =>
     rw [hd] at h
     exact bT h
   | false =>
     rw [pick_t (b := (Bool.not p0.a)) (by rw [hd]; rfl)] at h
     refine bF ?_
     iterate 5 refine fu_nr h (fun h => ?_)
     exact h
 · rw [t_cr6_1]
   show branch _ _ _
   have e : chooseI (downR [p0, p1, p2, p3, p4, p5]) 1 = if (Bool.not p1.a) = true then ((firstU [(2, (Bool.not p2.a)), (3, (Bool.not p3.a)), (4, (Bool.not p4.a)), (5, (Bool.not p5.a)), (0, (Bool.not p0.a))] 2 : Nat) : Int) else 1 := by kernel_rfl
   rw [e] at h
   cases hd : p1.a with
   | true =>
     rw [hd] at h
     exact bT h
   | false =>
     rw [pick_t (b := (Bool.not p1.a)) (by rw [hd]; rfl)] at h
     refine bF ?_
     iterate 5 refine fu_nr h (fun h => ?_)
     exact h
 · rw [t_cr6_2]
   show branch _ _ _
   have e : chooseI (downR [p0, p1, p2, p3, p4, p5]) 2 = if (Bool.not p2.a) = true then ((firstU [(3, (Bool.not p3.a)), (4, (Bool.not p4.a)), (5, (Bool.not p5.a)), (0, (Bool.not p0.a)), (1, (Bool.not p1.a))] 3 : Nat) : Int) else 2 := by kernel_rfl
   rw [e] at h
   cases hd : p2.a with
   | true =>
     rw [hd] at h
     exact bT h
   | false =>
     rw [pick_t (b := (Bool.not p2.a)) (by rw [hd]; rfl)] at h
     refine bF ?_
     iterate 5 refine fu_nr h (fun h => ?_)
     exact h
 · rw [t_cr6_3]
   show branch _ _ _
   have e : chooseI (downR [p0, p1, p2, p3, p4, p5]) 3 = if (Bool.not p3.a) = true then ((firstU [(4, (Bool.not p4.a)), (5, (Bool.not p5.a)), (0, (Bool.not p0.a)), (1, (Bool.not p1.a)), (2, (Bool.not p2.a))] 4 : Nat) : Int) else 3 := by kernel_rfl
   rw [e] at h
   cases hd : p3.a with
   | true =>
     rw [hd] at h
     exact bT h
   | false =>
     rw [pick_t (b := (Bool.not p3.a)) (by rw [hd]; rfl)] at h
     refine bF ?_
     iterate 5 refine fu_nr h (fun h => ?_)
     exact h
 · rw [t_cr6_4]
   show branch _ _ _
   have e : chooseI (downR [p0, p1, p2, p3, p4, p5]) 4 = if (Bool.not p4.a) = true then ((firstU [(5, (Bool.not p5.a)), (0, (Bool.not p0.a)), (1, (Bool.not p1.a)), (2, (Bool.not p2.a)), (3, (Bool.not p3.a))] 5 : Nat) : Int) else 4 := by kernel_rfl
   rw [e] at h
   cases hd : p4.a with
   | true =>
     rw [hd] at h
     exact bT h
   | false =>
     rw [pick_t (b := (Bool.not p4.a)) (by rw [hd]; rfl)] at h
     refine bF ?_
     iterate 5 refine fu_nr h (fun h => ?_)
     exact h
 · rw [t_cr6_5]
   show branch _ _ _
   have e : chooseI (downR [p0, p1, p2, p3, p4, p5]) 5 = if (Bool.not p5.a) = true then ((firstU [(0, (Bool.not p0.a)), (1, (Bool.not p1.a)), (2, (Bool.not p2.a)), (3, (Bool.not p3.a)), (4, (Bool.not p4.a))] 0 : Nat) : Int) else 5 := by kernel_rfl
   rw [e] at h
   cases hd : p5.a with
   | true =>
     rw [hd] at h
     exact bT h
   | false =>
     rw [pick_t (b := (Bool.not p5.a)) (by rw [hd]; rfl)] at h
     refine bF ?_
     iterate 5 refine fu_nr h (fun h => ?_)
     exact h
end Go.Ev
set_option linter.unusedVariables false
set_option linter.unusedSimpArgs false
set_option maxRecDepth 100000
namespace Go.Ev
open Go Go.Proofs Go.Spec
attribute [local irreducible] ev evCall branch need again
theorem ic9 (I : Int) : I = 0 ∨ I = 1 ∨ I = 2 ∨ I = 3 ∨ I = 4 ∨ I = 5 ∨ I = 6 ∨ I = 7 ∨ I = 8 ∨ (∃ m : Nat, I = Int.negSucc m) ∨ (∃ m : Nat, I = ((m + 9 : Nat) : Int)) := by
 by_cases h : I < 0
 · exact Or.inr (Or.inr (Or.inr (Or.inr (Or.inr (Or.inr (Or.inr (Or.inr (Or.inr (Or.inl ⟨(-I - 1).toNat, by rw [Int.negSucc_eq]; omega⟩)))))))))
 · by_cases h2 : I ≥ 9
   · exact Or.inr (Or.inr (Or.inr (Or.inr (Or.inr (Or.inr (Or.inr (Or.inr (Or.inr (Or.inr (⟨(I - 9).toNat, by omega⟩))))))))))
   · omega
theorem mi_9 (p0 p1 p2 p3 p4 p5 p6 p7 p8 : Pa) (prim sil al I : Int) (k : KT) (h : k (.tup [.one (bv (missT I [p0, p1, p2, p3, p4, p5, p6, p7, p8] 0)), .one (bv (lostB I 9 sil al))]) (rtL (missP I [p0, p1, p2, p3, p4, p5, p6, p7, p8] 0) prim (thI I 9 (addK .i64 sil 1) sil) al)) : evCall cxRk (ev cxRk 60) 10 [.one (.ptr 0 0 0), .one (iv .i64 I)] (rtL [p0, p1, p2, p3, p4, p5, p6, p7, p8] prim sil al) k := by
 rcases ic9 I with rfl | rfl | rfl | rfl | rfl | rfl | rfl | rfl | rfl | ⟨m, rfl⟩ | ⟨m, rfl⟩
 · rw [t_mi9_0]
   exact h
 · rw [t_mi9_1]
   exact h
 · rw [t_mi9_2]
   exact h
 · rw [t_mi9_3]
   exact h
 · rw [t_mi9_4]
   exact h
 · rw [t_mi9_5]
   exact h
 · rw [t_mi9_6]
   exact h
 · rw [t_mi9_7]
   exact h
 · rw [t_mi9_8]
   exact h
 · rw [t_mi9_n]
   exact brt (Int.negSucc_lt_zero _) (miss_no (ps := [p0, p1, p2, p3, p4, p5, p6, p7, p8]) (Or.inl (Int.negSucc_lt_zero _)) prim sil al h)
 · rw [t_mi9_p]
   exact brt (by omega) (miss_no (ps := [p0, p1, p2, p3, p4, p5, p6, p7, p8]) (Or.inr (by show _ ≥ ((9 : Nat) : Int); omega)) prim sil al h)
theorem he_9 (p0 p1 p2 p3 p4 p5 p6 p7 p8 : Pa) (prim sil al I : Int) (k : KT) (h : k (.sa (.one (bv (hearT I [p0, p1, p2, p3, p4, p5, p6, p7, p8] 0)))) (rtL (hearP I [p0, p1, p2, p3, p4, p5, p6, p7, p8] 0) prim (thI I 9 0 sil) al)) : evCall cxRk (ev cxRk 60) 11 [.one (.ptr 0 0 0), .one (iv .i64 I)] (rtL [p0, p1, p2, p3, p4, p5, p6, p7, p8] prim sil al) k := by
 rcases ic9 I with rfl | rfl | rfl | rfl | rfl | rfl | rfl | rfl | rfl | ⟨m, rfl⟩ | ⟨m, rfl⟩
 · rw [t_he9_0]
   exact h
 · rw [t_he9_1]
   exact h
 · rw [t_he9_2]
   exact h
 · rw [t_he9_3]
   exact h
 · rw [t_he9_4]
   exact h
 · rw [t_he9_5]
   exact h
 · rw [t_he9_6]
   exact h
 · rw [t_he9_7]
   exact h
 · rw [t_he9_8]
   exact h
 · rw [t_he9_n]
   exact brt (Int.negSucc_lt_zero _) (hear_no (ps := [p0, p1, p2, p3, p4, p5, p6, p7, p8]) (Or.inl (Int.negSucc_lt_zero _)) prim sil al h)
 · rw [t_he9_p]
   exact brt (by omega) (hear_no (ps := [p0, p1, p2, p3, p4, p5, p6, p7, p8]) (Or.inr (by show _ ≥ ((9 : Nat) : Int); omega)) prim sil al h)
theorem pr_9 (p0 p1 p2 p3 p4 p5 p6 p7 p8 : Pa) (prim sil al I : Int) (k : KT) (h : k (.sa (.one (iv .i64 (thI I 9 0 4)))) (rtL [p0, p1, p2, p3, p4, p5, p6, p7, p8] (thI I 9 I prim) sil al)) : evCall cxRk (ev cxRk 60) 21 [.one (.ptr 0 0 0), .one (iv .i64 I)] (rtL [p0, p1, p2, p3, p4, p5, p6, p7, p8] prim sil al) k := by
 rcases ic9 I with rfl | rfl | rfl | rfl | rfl | rfl | rfl | rfl | rfl | ⟨m, rfl⟩ | ⟨m, rfl⟩
 · rw [t_pr9_0]
   exact h
 · rw [t_pr9_1]
   exact h
 · rw [t_pr9_2]
   exact h
 · rw [t_pr9_3]
   exact h
 · rw [t_pr9_4]
   exact h
 · rw [t_pr9_5]
   exact h
 · rw [t_pr9_6]
   exact h
 · rw [t_pr9_7]
   exact h
 · rw [t_pr9_8]
   exact h
 · rw [t_pr9_n]
   exact brt (Int.negSucc_lt_zero _) (prim_no (ps := [p0, p1, p2, p3, p4, p5, p6, p7, p8]) (Or.inl (Int.negSucc_lt_zero _)) prim sil al h)
 · rw [t_pr9_p]
   exact brt (by omega) (prim_no (ps := [p0, p1, p2, p3, p4, p5, p6, p7, p8]) (Or.inr (by show _ ≥ ((9 : Nat) : Int); omega)) prim sil al h)
theorem nx_9 (p0 p1 p2 p3 p4 p5 p6 p7 p8 : Pa) (prim sil al I : Int) (k : KT) (h : k (.sa (.one (iv .i64 (nextS (downs [p0, p1, p2, p3, p4, p5, p6, p7, p8]) I)))) (rtL [p0, p1, p2, p3, p4, p5, p6, p7, p8] prim sil al)) : evCall cxRk (ev cxRk 60) 16 [.one (.ptr 0 0 0), .one (iv .i64 I)] (rtL [p0, p1, p2, p3, p4, p5, p6, p7, p8] prim sil al) k := by
 rcases ic9 I with rfl | rfl | rfl | rfl | rfl | rfl | rfl | rfl | rfl | ⟨m, rfl⟩ | ⟨m, rfl⟩
 · rw [t_nx9_0]
   show branch _ _ _
   rw [nextS_eq] at h
   have e : nextI (downs [p0, p1, p2, p3, p4, p5, p6, p7, p8]) 0 = ((firstU [(1, p1.d), (2, p2.d), (3, p3.d), (4, p4.d), (5, p5.d), (6, p6.d), (7, p7.d), (8, p8.d)] 1 : Nat) : Int) := by kernel_rfl
   rw [e] at h
   iterate 8 refine fu_nx h (fun h => ?_)
   exact h
 · rw [t_nx9_1]
   show branch _ _ _
   rw [nextS_eq] at h
   have e : nextI (downs [p0, p1, p2, p3, p4, p5, p6, p7, p8]) 1 = ((firstU [(2, p2.d), (3, p3.d), (4, p4.d), (5, p5.d), (6, p6.d), (7, p7.d), (8, p8.d), (0, p0.d)] 2 : Nat) : Int) := by kernel_rfl
   rw [e] at h
   iterate 8 refine fu_nx h (fun h => ?_)
   exact h
 · rw [t_nx9_2]
   show branch _ _ _
   rw [nextS_eq] at h
   have e : nextI (downs [p0, p1, p2, p3, p4, p5, p6, p7, p8]) 2 = ((firstU [(3, p3.d), (4, p4.d), (5, p5.d), (6, p6.d), (7, p7.d), (8, p8.d), (0, p0.d), (1, p1.d)] 3 : Nat) : Int) := by kernel_rfl
   rw [e] at h
   iterate 8 refine fu_nx h (fun h => ?_)
   exact h
 · rw [t_nx9_3]
   show branch _ _ _
   rw [nextS_eq] at h
   have e : nextI (downs [p0, p1, p2, p3, p4, p5, p6, p7, p8]) 3 = ((firstU [(4, p4.d), (5, p5.d), (6, p6.d), (7, p7.d), (8, p8.d), (0, p0.d), (1, p1.d), (2, p2.d)] 4 : Nat) : Int) := by kernel_rfl
   rw [e] at h
   iterate 8 refine fu_nx h (fun h => ?_)
   exact h
 · rw [t_nx9_4]
   show branch _ _ _
   rw [nextS_eq] at h
   have e : nextI (downs [p0, p1, p2, p3, p4, p5, p6, p7, p8]) 4 = ((firstU [(5, p5.d), (6, p6.d), (7, p7.d), (8, p8.d), (0, p0.d), (1, p1.d), (2, p2.d), (3, p3.d)] 5 : Nat) : Int) := by kernel_rfl
   rw [e] at h
   iterate 8 refine fu_nx h (fun h => ?_)
   exact h
 · rw [t_nx9_5]
   show branch _ _ _
   rw [nextS_eq] at h
   have e : nextI (downs [p0, p1, p2, p3, p4, p5, p6, p7, p8]) 5 = ((firstU [(6, p6.d), (7, p7.d), (8, p8.d), (0, p0.d), (1, p1.d), (2, p2.d), (3, p3.d), (4, p4.d)] 6 : Nat) : Int) := by kernel_rfl
   rw [e] at h
   iterate 8 refine fu_nx h (fun h => ?_)
   exact h
 · rw [t_nx9_6]
   show branch _ _ _
   rw [nextS_eq] at h
   have e : nextI (downs [p0, p1, p2, p3, p4, p5, p6, p7, p8]) 6 = ((firstU [(7, p7.d), (8, p8.d), (0, p0.d), (1, p1.d), (2, p2.d), (3, p3.d), (4, p4.d), (5, p5.d)] 7 : Nat) : Int) := by kernel_rfl
   rw [e] at h
   iterate 8 refine fu_nx h (fun h => ?_)
   exact h
 · rw [t_nx9_7]
   show branch _ _ _
   rw [nextS_eq] at h
   have e : nextI (downs [p0, p1, p2, p3, p4, p5, p6, p7, p8]) 7 = ((firstU [(8, p8.d), (0, p0.d), (1, p1.d), (2, p2.d), (3, p3.d), (4, p4.d), (5, p5.d), (6, p6.d)] 8 : Nat) : Int) := by kernel_rfl
   rw [e] at h
   iterate 8 refine fu_nx h (fun h => ?_)
   exact h
 · rw [t_nx9_8]
   show branch _ _ _
   rw [nextS_eq] at h
   have e : nextI (downs [p0, p1, p2, p3, p4, p5, p6, p7, p8]) 8 = ((firstU [(0, p0.d), (1, p1.d), (2, p2.d), (3, p3.d), (4, p4.d), (5, p5.d), (6, p6.d), (7, p7.d)] 0 : Nat) : Int) := by kernel_rfl
   rw [e] at h
   iterate 8 refine fu_nx h (fun h => ?_)
   exact h
 · rw [t_nx9_n]
   exact brt (Int.negSucc_lt_zero _) (next_no (ps := [p0, p1, p2, p3, p4, p5, p6, p7, p8]) (Or.inl (Int.negSucc_lt_zero _)) prim sil al h)
 · rw [t_nx9_p]
   exact brt (by omega) (next_no (ps := [p0, p1, p2, p3, p4, p5, p6, p7, p8]) (Or.inr (by show _ ≥ ((9 : Nat) : Int); omega)) prim sil al h)
theorem mr_9 (p0 p1 p2 p3 p4 p5 p6 p7 p8 : Ra) (prim sil al I : Int) (k : KT) (h : k (.tup [.one (bv (missRT I [p0, p1, p2, p3, p4, p5, p6, p7, p8] 0)), .one (bv (lostB I 9 sil al))]) (rfL 0 (missR I [p0, p1, p2, p3, p4, p5, p6, p7, p8] 0) prim (thI I 9 (addK .i64 sil 1) sil) al)) : evCall cxRk (ev cxRk 60) 39 [.one (.ptr 0 0 0), .one (iv .i64 I)] (rfL 0 [p0, p1, p2, p3, p4, p5, p6, p7, p8] prim sil al) k := by
 rcases ic9 I with rfl | rfl | rfl | rfl | rfl | rfl | rfl | rfl | rfl | ⟨m, rfl⟩ | ⟨m, rfl⟩
 · rw [t_mr9_0]
   have h : k (.tup [.one (bv (Bool.not (p0.a == offB (gtB (addK .i64 p0.m 1) p0.tr) p0.a))), .one (bv (gtB (addK .i64 sil 1) al))]) (rfL 0 [(raW p0 (addK .i64 p0.m 1) (offB (gtB (addK .i64 p0.m 1) p0.tr) p0.a)), p1, p2, p3, p4, p5, p6, p7, p8] prim (addK .i64 sil 1) al) := h
   unfold gtB at h
   refine br (fun e => ?_) (fun e => ?_)
   · rw [e] at h; exact h
   · rw [e] at h; exact h
 · rw [t_mr9_1]
   have h : k (.tup [.one (bv (Bool.not (p1.a == offB (gtB (addK .i64 p1.m 1) p1.tr) p1.a))), .one (bv (gtB (addK .i64 sil 1) al))]) (rfL 0 [p0, (raW p1 (addK .i64 p1.m 1) (offB (gtB (addK .i64 p1.m 1) p1.tr) p1.a)), p2, p3, p4, p5, p6, p7, p8] prim (addK .i64 sil 1) al) := h
   unfold gtB at h
   refine br (fun e => ?_) (fun e => ?_)
   · rw [e] at h; exact h
   · rw [e] at h; exact h
 · rw [t_mr9_2]
   have h : k (.tup [.one (bv (Bool.not (p2.a == offB (gtB (addK .i64 p2.m 1) p2.tr) p2.a))), .one (bv (gtB (addK .i64 sil 1) al))]) (rfL 0 [p0, p1, (raW p2 (addK .i64 p2.m 1) (offB (gtB (addK .i64 p2.m 1) p2.tr) p2.a)), p3, p4, p5, p6, p7, p8] prim (addK .i64 sil 1) al) := h
   unfold gtB at h
   refine br (fun e => ?_) (fun e => ?_)
   · rw [e] at h; exact h
   · rw [e] at h; exact h
 · rw [t_mr9_3]
   have h : k (.tup [.one (bv (Bool.not (p3.a == offB (gtB (addK .i64 p3.m 1) p3.tr) p3.a))), .one (bv (gtB (addK .i64 sil 1) al))]) (rfL 0 [p0, p1, p2, (raW p3 (addK .i64 p3.m 1) (offB (gtB (addK .i64 p3.m 1) p3.tr) p3.a)), p4, p5, p6, p7, p8] prim (addK .i64 sil 1) al) := h
   unfold gtB at h
   refine br (fun e => ?_) (fun e => ?_)
   · rw [e] at h; exact h
   · rw [e] at h; exact h
 · rw [t_mr9_4]
   have h : k (.tup [.one (bv (Bool.not (p4.a == offB (gtB (addK .i64 p4.m 1) p4.tr) p4.a))), .one (bv (gtB (addK .i64 sil 1) al))]) (rfL 0 [p0, p1, p2, p3, (raW p4 (addK .i64 p4.m 1) (offB (gtB (addK .i64 p4.m 1) p4.tr) p4.a)), p5, p6, p7, p8] prim (addK .i64 sil 1) al) := h
   unfold gtB at h
   refine br (fun e => ?_) (fun e => ?_)
   · rw [e] at h; exact h
   · rw [e] at h; exact h
 · rw [t_mr9_5]
   have h : k (.tup [.one (bv (Bool.not (p5.a == offB (gtB (addK .i64 p5.m 1) p5.tr) p5.a))), .one (bv (gtB (addK .i64 sil 1) al))]) (rfL 0 [p0, p1, p2, p3, p4, (raW p5 (addK .i64 p5.m 1) (offB (gtB (addK .i64 p5.m 1) p5.tr) p5.a)), p6, p7, p8] prim (addK .i64 sil 1) al) := h
   unfold gtB at h
   refine br (fun e => ?_) (fun e => ?_)
   · rw [e] at h; exact h
   · rw [e] at h; exact h
 · rw [t_mr9_6]
   have h : k (.tup [.one (bv (Bool.not (p6.a == offB (gtB (addK .i64 p6.m 1) p6.tr) p6.a))), .one (bv (gtB (addK .i64 sil 1) al))]) (rfL 0 [p0, p1, p2, p3, p4, p5, (raW p6 (addK .i64 p6.m 1) (offB (gtB (addK .i64 p6.m 1) p6.tr) p6.a)), p7, p8] prim (addK .i64 sil 1) al) := h
   unfold gtB at h
   refine br (fun e => ?_) (fun e => ?_)
   · rw [e] at h; exact h
   · rw [e] at h; exact h
 · rw [t_mr9_7]
   have h : k (.tup [.one (bv (Bool.not (p7.a == offB (gtB (addK .i64 p7.m 1) p7.tr) p7.a))), .one (bv (gtB (addK .i64 sil 1) al))]) (rfL 0 [p0, p1, p2, p3, p4, p5, p6, (raW p7 (addK .i64 p7.m 1) (offB (gtB (addK .i64 p7.m 1) p7.tr) p7.a)), p8] prim (addK .i64 sil 1) al) := h
   unfold gtB at h
   refine br (fun e => ?_) (fun e => ?_)
   · rw [e] at h; exact h
   · rw [e] at h; exact h
 · rw [t_mr9_8]
   have h : k (.tup [.one (bv (Bool.not (p8.a == offB (gtB (addK .i64 p8.m 1) p8.tr) p8.a))), .one (bv (gtB (addK .i64 sil 1) al))]) (rfL 0 [p0, p1, p2, p3, p4, p5, p6, p7, (raW p8 (addK .i64 p8.m 1) (offB (gtB (addK .i64 p8.m 1) p8.tr) p8.a))] prim (addK .i64 sil 1) al) := h
   unfold gtB at h
   refine br (fun e => ?_) (fun e => ?_)
   · rw [e] at h; exact h
   · rw [e] at h; exact h
 · rw [t_mr9_n]
   exact (miss_noR (ps := [p0, p1, p2, p3, p4, p5, p6, p7, p8]) (Or.inl (Int.negSucc_lt_zero _)) prim sil al h)
 · rw [t_mr9_p]
   exact (miss_noR (ps := [p0, p1, p2, p3, p4, p5, p6, p7, p8]) (Or.inr (by show _ ≥ ((9 : Nat) : Int); omega)) prim sil al h)
theorem hr_9 (p0 p1 p2 p3 p4 p5 p6 p7 p8 : Ra) (prim sil al I : Int) (k : KT) (h : k (.sa (.one (bv (hearRT I [p0, p1, p2, p3, p4, p5, p6, p7, p8] 0)))) (rfL 0 (hearR I [p0, p1, p2, p3, p4, p5, p6, p7, p8] 0) prim (thI I 9 0 sil) al)) : evCall cxRk (ev cxRk 60) 40 [.one (.ptr 0 0 0), .one (iv .i64 I)] (rfL 0 [p0, p1, p2, p3, p4, p5, p6, p7, p8] prim sil al) k := by
 rcases ic9 I with rfl | rfl | rfl | rfl | rfl | rfl | rfl | rfl | rfl | ⟨m, rfl⟩ | ⟨m, rfl⟩
 · rw [t_hr9_0]
   exact h
 · rw [t_hr9_1]
   exact h
 · rw [t_hr9_2]
   exact h
 · rw [t_hr9_3]
   exact h
 · rw [t_hr9_4]
   exact h
 · rw [t_hr9_5]
   exact h
 · rw [t_hr9_6]
   exact h
 · rw [t_hr9_7]
   exact h
 · rw [t_hr9_8]
   exact h
 · rw [t_hr9_n]
   exact (hear_noR (ps := [p0, p1, p2, p3, p4, p5, p6, p7, p8]) (Or.inl (Int.negSucc_lt_zero _)) prim sil al h)
 · rw [t_hr9_p]
   exact (hear_noR (ps := [p0, p1, p2, p3, p4, p5, p6, p7, p8]) (Or.inr (by show _ ≥ ((9 : Nat) : Int); omega)) prim sil al h)
theorem nr_9 (p0 p1 p2 p3 p4 p5 p6 p7 p8 : Ra) (prim sil al I : Int) (k : KT) (h : k (.sa (.one (iv .i64 (nextS (downR [p0, p1, p2, p3, p4, p5, p6, p7, p8]) I)))) (rfL 0 [p0, p1, p2, p3, p4, p5, p6, p7, p8] prim sil al)) : evCall cxRk (ev cxRk 60) 27 [.one (.ptr 0 0 0), .one (iv .i64 I)] (rfL 0 [p0, p1, p2, p3, p4, p5, p6, p7, p8] prim sil al) k := by
 rcases ic9 I with rfl | rfl | rfl | rfl | rfl | rfl | rfl | rfl | rfl | ⟨m, rfl⟩ | ⟨m, rfl⟩
 · rw [t_nr9_0]
   show branch _ _ _
   rw [nextS_eq] at h
   have e : nextI (downR [p0, p1, p2, p3, p4, p5, p6, p7, p8]) 0 = ((firstU [(1, Bool.not p1.a), (2, Bool.not p2.a), (3, Bool.not p3.a), (4, Bool.not p4.a), (5, Bool.not p5.a), (6, Bool.not p6.a), (7, Bool.not p7.a), (8, Bool.not p8.a)] 1 : Nat) : Int) := by kernel_rfl
   rw [e] at h
   iterate 8 refine fu_nr h (fun h => ?_)
   exact h
 · rw [t_nr9_1]
   show branch _ _ _
   rw [nextS_eq] at h
   have e : nextI (downR [p0, p1, p2, p3, p4, p5, p6, p7, p8]) 1 = ((firstU [(2, Bool.not p2.a), (3, Bool.not p3.a), (4, Bool.not p4.a), (5, Bool.not p5.a), (6, Bool.not p6.a), (7, Bool.not p7.a), (8, Bool.not p8.a), (0, Bool.not p0.a)] 2 : Nat) : Int) := by kernel_rfl
   rw [e] at h
   iterate 8 refine fu_nr h (fun h => ?_)
   exact h
 · rw [t_nr9_2]
   show branch _ _ _
   rw [nextS_eq] at h
   have e : nextI (downR [p0, p1, p2, p3, p4, p5, p6, p7, p8]) 2 = ((firstU [(3, Bool.not p3.a), (4, Bool.not p4.a), (5, Bool.not p5.a), (6, Bool.not p6.a), (7, Bool.not p7.a), (8, Bool.not p8.a), (0, Bool.not p0.a), (1, Bool.not p1.a)] 3 : Nat) : Int) := by kernel_rfl
   rw [e] at h
   iterate 8 refine fu_nr h (fun h => ?_)
   exact h
 · rw [t_nr9_3]
   show branch _ _ _
   rw [nextS_eq] at h
   have e : nextI (downR [p0, p1, p2, p3, p4, p5, p6, p7, p8]) 3 = ((firstU [(4, Bool.not p4.a), (5, Bool.not p5.a), (6, Bool.not p6.a), (7, Bool.not p7.a), (8, Bool.not p8.a), (0, Bool.not p0.a), (1, Bool.not p1.a), (2, Bool.not p2.a)] 4 : Nat) : Int) := by kernel_rfl
   rw [e] at h
   iterate 8 refine fu_nr h (fun h => ?_)
   exact h
 · rw [t_nr9_4]
   show branch _ _ _
   rw [nextS_eq] at h
   have e : nextI (downR [p0, p1, p2, p3, p4, p5, p6, p7, p8]) 4 = ((firstU [(5, Bool.not p5.a), (6, Bool.not p6.a), (7, Bool.not p7.a), (8, Bool.not p8.a), (0, Bool.not p0.a), (1, Bool.not p1.a), (2, Bool.not p2.a), (3, Bool.not p3.a)] 5 : Nat) : Int) := by kernel_rfl
   rw [e] at h
   iterate 8 refine fu_nr h (fun h => ?_)
   exact h
 · rw [t_nr9_5]
   show branch _ _ _
   rw [nextS_eq] at h
   have e : nextI (downR [p0, p1, p2, p3, p4, p5, p6, p7, p8]) 5 = ((firstU [(6, Bool.not p6.a), (7, Bool.not p7.a), (8, Bool.not p8.a), (0, Bool.not p0.a), (1, Bool.not p1.a), (2, Bool.not p2.a), (3, Bool.not p3.a), (4, Bool.not p4.a)] 6 : Nat) : Int) := by kernel_rfl
   rw [e] at h
   iterate 8 refine fu_nr h (fun h => ?_)
   exact h
 · rw [t_nr9_6]
   show branch _ _ _
   rw [nextS_eq] at h
   have e : nextI (downR [p0, p1, p2, p3, p4, p5, p6, p7, p8]) 6 = ((firstU [(7, Bool.not p7.a), (8, Bool.not p8.a), (0, Bool.not p0.a), (1, Bool.not p1.a), (2, Bool.not p2.a), (3, Bool.not p3.a), (4, Bool.not p4.a), (5, Bool.not p5.a)] 7 : Nat) : Int) := by kernel_rfl
   rw [e] at h
   iterate 8 refine fu_nr h (fun h => ?_)
   exact h
 · rw [t_nr9_7]
   show branch _ _ _
   rw [nextS_eq] at h
   have e : nextI (downR [p0, p1, p2, p3, p4, p5, p6, p7, p8]) 7 = ((firstU [(8, Bool.not p8.a), (0, Bool.not p0.a), (1, Bool.not p1.a), (2, Bool.not p2.a), (3, Bool.not p3.a), (4, Bool.not p4.a), (5, Bool.not p5.a), (6, Bool.not p6.a)] 8 : Nat) : Int) := by kernel_rfl
   rw [e] at h
   iterate 8 refine fu_nr h (fun h => ?_)
   exact h
 · rw [t_nr9_8]
   show branch _ _ _
   rw [nextS_eq] at h
   have e : nextI (downR [p0, p1, p2, p3, p4, p5, p6, p7, p8]) 8 = ((firstU [(0, Bool.not p0.a), (1, Bool.not p1.a), (2, Bool.not p2.a), (3, Bool.not p3.a), (4, Bool.not p4.a), (5, Bool.not p5.a), (6, Bool.not p6.a), (7, Bool.not p7.a)] 0 : Nat) : Int) := by kernel_rfl
   rw [e] at h
   iterate 8 refine fu_nr h (fun h => ?_)
   exact h
 · rw [t_nr9_n]
   exact (next_noR (ps := [p0, p1, p2, p3, p4, p5, p6, p7, p8]) (Or.inl (Int.negSucc_lt_zero _)) prim sil al h)
 · rw [t_nr9_p]
   exact (next_noR (ps := [p0, p1, p2, p3, p4, p5, p6, p7, p8]) (Or.inr (by show _ ≥ ((9 : Nat) : Int); omega)) prim sil al h)
theorem ch_9 (p0 p1 p2 p3 p4 p5 p6 p7 p8 : Pa) (prim sil al : Int) (hp : 0 ≤ prim ∧ prim < 9) (k : KT) (h : k (.sa (.one (iv .i64 (chooseS (downs [p0, p1, p2, p3, p4, p5, p6, p7, p8]) prim)))) (rtL [p0, p1, p2, p3, p4, p5, p6, p7, p8] prim sil al)) : evCall cxRk (ev cxRk 60) 18 [.one (.ptr 0 0 0)] (rtL [p0, p1, p2, p3, p4, p5, p6, p7, p8] prim sil al) k := by
 rw [chooseS_eq] at h
 have hc : prim = 0 ∨ prim = 1 ∨ prim = 2 ∨ prim = 3 ∨ prim = 4 ∨ prim = 5 ∨ prim = 6 ∨ prim = 7 ∨ prim = 8 := by omega
 rcases hc with rfl | rfl | rfl | rfl | rfl | rfl | rfl | rfl | rfl
 · rw [t_ch9_0]
   show branch _ _ _
   have e : chooseI (downs [p0, p1, p2, p3, p4, p5, p6, p7, p8]) 0 = if p0.d = true then ((firstU [(1, p1.d), (2, p2.d), (3, p3.d), (4, p4.d), (5, p5.d), (6, p6.d), (7, p7.d), (8, p8.d)] 1 : Nat) : Int) else 0 := by kernel_rfl
   rw [e] at h
   cases hd : p0.d with
   | false =>
     rw [hd] at h
     exact bT h
   | true =>
     rw [pick_t (b := p0.d) hd] at h
     refine bF ?_
     iterate 8 refine fu_nx h (fun h => ?_)
     exact h
 · rw [t_ch9_1]
   show branch _ _ _
   have e : chooseI (downs [p0, p1, p2, p3, p4, p5, p6, p7, p8]) 1 = if p1.d = true then ((firstU [(2, p2.d), (3, p3.d), (4, p4.d), (5, p5.d), (6, p6.d), (7, p7.d), (8, p8.d), (0, p0.d)] 2 : Nat) : Int) else 1 := by kernel_rfl
   rw [e] at h
   cases hd : p1.d with
   | false =>
     rw [hd] at h
     exact bT h
   | true =>
     rw [pick_t (b := p1.d) hd] at h
     refine bF ?_
     iterate 8 refine fu_nx h (fun h => ?_)
     exact h
 · rw [t_ch9_2]
   show branch _ _ _
   have e : chooseI (downs [p0, p1, p2, p3, p4, p5, p6, p7, p8]) 2 = if p2.d = true then ((firstU [(3, p3.d), (4, p4.d), (5, p5.d), (6, p6.d), (7, p7.d), (8, p8.d), (0, p0.d), (1, p1.d)] 3 : Nat) : Int) else 2 := by kernel_rfl
   rw [e] at h
   cases hd : p2.d with
   | false =>
     rw [hd] at h
     exact bT h
   | true =>
     rw [pick_t (b := p2.d) hd] at h
     refine bF ?_
     iterate 8 refine fu_nx h (fun h => ?_)
     exact h
 · rw [t_ch9_3]
   show branch _ _ _
   have e : chooseI (downs [p0, p1, p2, p3, p4, p5, p6, p7, p8]) 3 = if p3.d = true then ((firstU [(4, p4.d), (5, p5.d), (6, p6.d), (7, p7.d), (8, p8.d), (0, p0.d), (1, p1.d), (2, p2.d)] 4 : Nat) : Int) else 3 := by kernel_rfl
   rw [e] at h
   cases hd : p3.d with
   | false =>
     rw [hd] at h
     exact bT h
   | true =>
     rw [pick_t (b := p3.d) hd] at h
     refine bF ?_
     iterate 8 refine fu_nx h (fun h => ?_)
     exact h
 · rw [t_ch9_4]
   show branch _ _ _
   have e : chooseI (downs [p0, p1, p2, p3, p4, p5, p6, p7, p8]) 4 = if p4.d = true then ((firstU [(5, p5.d), (6, p6.d), (7, p7.d), (8, p8.d), (0, p0.d), (1, p1.d), (2, p2.d), (3, p3.d)] 5 : Nat) : Int) else 4 := by kernel_rfl
   rw [e] at h
   cases hd : p4.d with
   | false =>
     rw [hd] at h
     exact bT h
   | true =>
     rw [pick_t (b := p4.d) hd] at h
     refine bF ?_
     iterate 8 refine fu_nx h (fun h => ?_)
     exact h
 · rw [t_ch9_5]
   show branch _ _ _
   have e : chooseI (downs [p0, p1, p2, p3, p4, p5, p6, p7, p8]) 5 = if p5.d = true then ((firstU [(6, p6.d), (7, p7.d), (8, p8.d), (0, p0.d), (1, p1.d), (2, p2.d), (3, p3.d), (4, p4.d)] 6 : Nat) : Int) else 5 := by kernel_rfl
   rw [e] at h
   cases hd : p5.d with
   | false =>
     rw [hd] at h
     exact bT h
   | true =>
     rw [pick_t (b := p5.d) hd] at h
     refine bF ?_
     iterate 8 refine fu_nx h (fun h => ?_)
     exact h
 · rw [t_ch9_6]
   show branch _ _ _
   have e : chooseI (downs [p0, p1, p2, p3, p4, p5, p6, p7, p8]) 6 = if p6.d = true then ((firstU [(7, p7.d), (8, p8.d), (0, p0.d), (1, p1.d), (2, p2.d), (3, p3.d), (4, p4.d), (5, p5.d)] 7 : Nat) : Int) else 6 := by kernel_rfl
   rw [e] at h
   cases hd : p6.d with
   | false =>
     rw [hd] at h
     exact bT h
   | true =>
     rw [pick_t (b := p6.d) hd] at h
     refine bF ?_
     iterate 8 refine fu_nx h (fun h => ?_)
     exact h
 · rw [t_ch9_7]
   show branch _ _ _
   have e : chooseI (downs [p0, p1, p2, p3, p4, p5, p6, p7, p8]) 7 = if p7.d = true then ((firstU [(8, p8.d), (0, p0.d), (1, p1.d), (2, p2.d), (3, p3.d), (4, p4.d), (5, p5.d), (6, p6.d)] 8 : Nat) : Int) else 7 := by kernel_rfl
   rw [e] at h
   cases hd : p7.d with
   | false =>
     rw [hd] at h
     exact bT h
   | true =>
     rw [pick_t (b := p7.d) hd] at h
     refine bF ?_
     iterate 8 refine fu_nx h (fun h => ?_)
     exact h
 · rw [t_ch9_8]
   show branch _ _ _
   have e : chooseI (downs [p0, p1, p2, p3, p4, p5, p6, p7, p8]) 8 = if p8.d = true then ((firstU [(0, p0.d), (1, p1.d), (2, p2.d), (3, p3.d), (4, p4.d), (5, p5.d), (6, p6.d), (7, p7.d)] 0 : Nat) : Int) else 8 := by kernel_rfl
   rw [e] at h
   cases hd : p8.d with
   | false =>
     rw [hd] at h
     exact bT h
   | true =>
     rw [pick_t (b := p8.d) hd] at h
     refine bF ?_
     iterate 8 refine fu_nx h (fun h => ?_)
     exact h
theorem cr_9 (p0 p1 p2 p3 p4 p5 p6 p7 p8 : Ra) (prim sil al : Int) (hp : 0 ≤ prim ∧ prim < 9) (k : KT) (h : k (.sa (.one (iv .i64 (chooseS (downR [p0, p1, p2, p3, p4, p5, p6, p7, p8]) prim)))) (rfL 0 [p0, p1, p2, p3, p4, p5, p6, p7, p8] prim sil al)) : evCall cxRk (ev cxRk 60) 26 [.one (.ptr 0 0 0)] (rfL 0 [p0, p1, p2, p3, p4, p5, p6, p7, p8] prim sil al) k := by
 rw [chooseS_eq] at h
 have hc : prim = 0 ∨ prim = 1 ∨ prim = 2 ∨ prim = 3 ∨ prim = 4 ∨ prim = 5 ∨ prim = 6 ∨ prim = 7 ∨ prim = 8 := by omega
 rcases hc with rfl | rfl | rfl | rfl | rfl | rfl | rfl | rfl | rfl
 · rw [t_cr9_0]
   show branch _ _ _
   have e : chooseI (downR [p0, p1, p2, p3, p4, p5, p6, p7, p8]) 0 = if (Bool.not p0.a) = true then ((firstU [(1, (Bool.not p1.a)), (2, (Bool.not p2.a)), (3, (Bool.not p3.a)), (4, (Bool.not p4.a)), (5, (Bool.not p5.a)), (6, (Bool.not p6.a)), (7, (Bool.not p7.a)), (8, (Bool.not p8.a))] 1 : Nat) : Int) else 0 := by kernel_rfl
   rw [e] at h
   cases hd : p0.a with
   | true =>
     rw [hd] at h
     exact bT h
   | false =>
     rw [pick_t (b := (Bool.not p0.a)) (by rw [hd]; rfl)] at h
     refine bF ?_
     iterate 8 refine fu_nr h (fun h => ?_)
     exact h
 · rw [t_cr9_1]
   show branch _ _ _
   have e : chooseI (downR [p0, p1, p2, p3, p4, p5, p6, p7, p8]) 1 = if (Bool.not p1.a) = true then ((firstU [(2, (Bool.not p2.a)), (3, (Bool.not p3.a)), (4, (Bool.not p4.a)), (5, (Bool.not p5.a)), (6, (Bool.not p6.a)), (7, (Bool.not p7.a)), (8, (Bool.not p8.a)), (0, (Bool.not p0.a))] 2 : Nat) : Int) else 1 := by kernel_rfl
   rw [e] at h
   cases hd : p1.a with
   | true =>
     rw [hd] at h
     exact bT h
   | false =>
     rw [pick_t (b := (Bool.not p1.a)) (by rw [hd]; rfl)] at h
     refine bF ?_
     iterate 8 refine fu_nr h (fun h => ?_)
     exact h
 · rw [t_cr9_2]
   show branch _ _ _
   have e : chooseI (downR [p0, p1, p2, p3, p4, p5, p6, p7, p8]) 2 = if (Bool.not p2.a) = true then ((firstU [(3, (Bool.not p3.a)), (4, (Bool.not p4.a)), (5, (Bool.not p5.a)), (6, (Bool.not p6.a)), (7, (Bool.not p7.a)), (8, (Bool.not p8.a)), (0, (Bool.not p0.a)), (1, (Bool.not p1.a))] 3 : Nat) : Int) else 2 := by kernel_rfl
   rw [e] at h
   cases hd : p2.a with
   | true =>
     rw [hd] at h
     exact bT h
   | false =>
     rw [pick_t (b := (Bool.not p2.a)) (by rw [hd]; rfl)] at h
     refine bF ?_
     iterate 8 refine fu_nr h (fun h => ?_)
     exact h
 · rw [t_cr9_3]
   show branch _ _ _
   have e : chooseI (downR [p0, p1, p2, p3, p4, p5, p6, p7, p8]) 3 = if (Bool.not p3.a) = true then ((firstU [(4, (Bool.not p4.a)), (5, (Bool.not p5.a)), (6, (Bool.not p6.a)), (7, (Bool.not p7.a)), (8, (Bool.not p8.a)), (0, (Bool.not p0.a)), (1, (Bool.not p1.a)), (2, (Bool.not p2.a))] 4 : Nat) : Int) else 3 := by kernel_rfl
   rw [e] at h
   cases hd : p3.a with
   | true =>
     rw [hd] at h
     exact bT h
   | false =>
     rw [pick_t (b := (Bool.not p3.a)) (by rw [hd]; rfl)] at h
     refine bF ?_
     iterate 8 refine fu_nr h (fun h => ?_)
     exact h
 · rw [t_cr9_4]
   show branch _ _ _
   have e : chooseI (downR [p0, p1, p2, p3, p4, p5, p6, p7, p8]) 4 = if (Bool.not p4.a) = true then ((firstU [(5, (Bool.not p5.a)), (6, (Bool.not p6.a)), (7, (Bool.not p7.a)), (8, (Bool.not p8.a)), (0, (Bool.not p0.a)), (1, (Bool.not p1.a)), (2, (Bool.not p2.a)), (3, (Bool.not p3.a))] 5 : Nat) : Int) else 4 := by kernel_rfl
   rw [e] at h
   cases hd : p4.a with
   | true =>
     rw [hd] at h
     exact bT h
   | false =>
     rw [pick_t (b := (Bool.not p4.a)) (by rw [hd]; rfl)] at h
     refine bF ?_
     iterate 8 refine fu_nr h (fun h => ?_)
     exact h
 · rw [t_cr9_5]
   show branch _ _ _
   have e : chooseI (downR [p0, p1, p2, p3, p4, p5, p6, p7, p8]) 5 = if (Bool.not p5.a) = true then ((firstU [(6, (Bool.not p6.a)), (7, (Bool.not p7.a)), (8, (Bool.not p8.a)), (0, (Bool.not p0.a)), (1, (Bool.not p1.a)), (2, (Bool.not p2.a)), (3, (Bool.not p3.a)), (4, (Bool.not p4.a))] 6 : Nat) : Int) else 5 := by kernel_rfl
   rw [e] at h
   cases hd : p5.a with
   | true =>
     rw [hd] at h
     exact bT h
   | false =>
     rw [pick_t (b := (Bool.not p5.a)) (by rw [hd]; rfl)] at h
     refine bF ?_
     iterate 8 refine fu_nr h (fun h => ?_)
     exact h
 · rw [t_cr9_6]
   show branch _ _ _
   have e : chooseI (downR [p0, p1, p2, p3, p4, p5, p6, p7, p8]) 6 = if (Bool.not p6.a) = true then ((firstU [(7, (Bool.not p7.a)), (8, (Bool.not p8.a)), (0, (Bool.not p0.a)), (1, (Bool.not p1.a)), (2, (Bool.not p2.a)), (3, (Bool.not p3.a)), (4, (Bool.not p4.a)), (5, (Bool.not p5.a))] 7 : Nat) : Int) else 6 := by kernel_rfl
   rw [e] at h
   cases hd : p6.a with
   | true =>
     rw [hd] at h
     exact bT h
   | false =>
     rw [pick_t (b := (Bool.not p6.a)) (by rw [hd]; rfl)] at h
     refine bF ?_
     iterate 8 refine fu_nr h (fun h => ?_)
     exact h
 · rw [t_cr9_7]
   show branch _ _ _
   have e : chooseI (downR [p0, p1, p2, p3, p4, p5, p6, p7, p8]) 7 = if (Bool.not p7.a) = true then ((firstU [(8, (Bool.not p8.a)), (0, (Bool.not p0.a)), (1, (Bool.not p1.a)), (2, (Bool.not p2.a)), (3, (Bool.not p3.a)), (4, (Bool.not p4.a)), (5, (Bool.not p5.a)), (6, (Bool.not p6.a))] 8 : Nat) : Int) else 7 := by kernel_rfl
   rw [e] at h
   cases hd : p7.a with
   | true =>
     rw [hd] at h
     exact bT h
   | false =>
     rw [pick_t (b := (Bool.not p7.a)) (by rw [hd]; rfl)] at h
     refine bF ?_
     iterate 8 refine fu_nr h (fun h => ?_)
     exact h
 · rw [t_cr9_8]
   show branch _ _ _
   have e : chooseI (downR [p0, p1, p2, p3, p4, p5, p6, p7, p8]) 8 = if (Bool.not p8.a) = true then ((firstU [(0, (Bool.not p0.a)), (1, (Bool.not p1.a)), (2, (Bool.not p2.a)), (3, (Bool.not p3.a)), (4, (Bool.not p4.a)), (5, (Bool.not p5.a)), (6, (Bool.not p6.a)), (7, (Bool.not p7.a))] 0 : Nat) : Int) else 8 := by kernel_rfl
   rw [e] at h
   cases hd : p8.a with
   | true =>
     rw [hd] at h
     exact bT h
   | false =>
     rw [pick_t (b := (Bool.not p8.a)) (by rw [hd]; rfl)] at h
     refine bF ?_
     iterate 8 refine fu_nr h (fun h => ?_)
     exact h
end Go.Ev
