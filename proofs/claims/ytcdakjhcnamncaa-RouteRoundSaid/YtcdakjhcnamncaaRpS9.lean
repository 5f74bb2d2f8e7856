/- Routes with 9 paths: what the methods do. No conditions. -/
import Derived.Test.YtcdakjhcnamncaaRpT9
import Derived.Test.YtcdakjhcnamncaaRpU9
import Derived.Test.YtcdakjhcnamncaaRpR
set_option linter.unusedVariables false
set_option linter.unusedSimpArgs false
set_option maxRecDepth 100000
namespace Go.Ev
open Go Go.Proofs Go.Spec
attribute [local irreducible] ev evCall branch need again
theorem ic9 (I : Int) : I = 0 ∨ I = 1 ∨ I = 2 ∨ I = 3 ∨ I = 4 ∨ I = 5 ∨ I = 6 ∨ I = 7 ∨ I = 8 ∨ (∃ m : Nat, I = Int.negSucc m) ∨ (∃ m : Nat, I = ((m + 9 : Nat) : Int)) := by
  by_cases h : I < 0
  · exact Or.inr (Or.inr (Or.inr (Or.inr (Or.inr (Or.inr (Or.inr (Or.inr (Or.inr (Or.inl ⟨(-I - 1).toNat, by rw [Int.negSucc_eq]; omega⟩)))))))))
  · by_cases h2 : I ≥ 9
    · exact Or.inr (Or.inr (Or.inr (Or.inr (Or.inr (Or.inr (Or.inr (Or.inr (Or.inr (Or.inr (⟨(I - 9).toNat, by omega⟩))))))))))
    · omega
theorem mi_9 (p0 p1 p2 p3 p4 p5 p6 p7 p8 : Pa) (prim sil al I : Int) (k : SV → St → Prop) (h : k (.tup [.one (bv (missT I [p0, p1, p2, p3, p4, p5, p6, p7, p8] 0)), .one (bv (lostB I 9 sil al))]) (rtL (missP I [p0, p1, p2, p3, p4, p5, p6, p7, p8] 0) prim (thI I 9 (addK .i64 sil 1) sil) al)) : evCall cxRp (ev cxRp 60) 10 [.one (.ptr 0 0 0), .one (iv .i64 I)] (rtL [p0, p1, p2, p3, p4, p5, p6, p7, p8] prim sil al) k := by
  rcases ic9 I with rfl | rfl | rfl | rfl | rfl | rfl | rfl | rfl | rfl | ⟨m, rfl⟩ | ⟨m, rfl⟩
  · rw [t_mi9_0]
    exact h
  · rw [t_mi9_1]
    exact h
  · rw [t_mi9_2]
    exact h
  · rw [t_mi9_3]
    exact h
  · rw [t_mi9_4]
    exact h
  · rw [t_mi9_5]
    exact h
  · rw [t_mi9_6]
    exact h
  · rw [t_mi9_7]
    exact h
  · rw [t_mi9_8]
    exact h
  · rw [t_mi9_n]
    exact brt (Int.negSucc_lt_zero _) (miss_no (ps := [p0, p1, p2, p3, p4, p5, p6, p7, p8]) (Or.inl (Int.negSucc_lt_zero _)) prim sil al h)
  · rw [t_mi9_p]
    exact brt (by omega) (miss_no (ps := [p0, p1, p2, p3, p4, p5, p6, p7, p8]) (Or.inr (by show _ ≥ ((9 : Nat) : Int); omega)) prim sil al h)
theorem he_9 (p0 p1 p2 p3 p4 p5 p6 p7 p8 : Pa) (prim sil al I : Int) (k : SV → St → Prop) (h : k (.sa (.one (bv (hearT I [p0, p1, p2, p3, p4, p5, p6, p7, p8] 0)))) (rtL (hearP I [p0, p1, p2, p3, p4, p5, p6, p7, p8] 0) prim (thI I 9 0 sil) al)) : evCall cxRp (ev cxRp 60) 11 [.one (.ptr 0 0 0), .one (iv .i64 I)] (rtL [p0, p1, p2, p3, p4, p5, p6, p7, p8] prim sil al) k := by
  rcases ic9 I with rfl | rfl | rfl | rfl | rfl | rfl | rfl | rfl | rfl | ⟨m, rfl⟩ | ⟨m, rfl⟩
  · rw [t_he9_0]
    exact h
  · rw [t_he9_1]
    exact h
  · rw [t_he9_2]
    exact h
  · rw [t_he9_3]
    exact h
  · rw [t_he9_4]
    exact h
  · rw [t_he9_5]
    exact h
  · rw [t_he9_6]
    exact h
  · rw [t_he9_7]
    exact h
  · rw [t_he9_8]
    exact h
  · rw [t_he9_n]
    exact brt (Int.negSucc_lt_zero _) (hear_no (ps := [p0, p1, p2, p3, p4, p5, p6, p7, p8]) (Or.inl (Int.negSucc_lt_zero _)) prim sil al h)
  · rw [t_he9_p]
    exact brt (by omega) (hear_no (ps := [p0, p1, p2, p3, p4, p5, p6, p7, p8]) (Or.inr (by show _ ≥ ((9 : Nat) : Int); omega)) prim sil al h)
theorem pr_9 (p0 p1 p2 p3 p4 p5 p6 p7 p8 : Pa) (prim sil al I : Int) (k : SV → St → Prop) (h : k (.sa (.one (iv .i64 (thI I 9 0 4)))) (rtL [p0, p1, p2, p3, p4, p5, p6, p7, p8] (thI I 9 I prim) sil al)) : evCall cxRp (ev cxRp 60) 21 [.one (.ptr 0 0 0), .one (iv .i64 I)] (rtL [p0, p1, p2, p3, p4, p5, p6, p7, p8] prim sil al) k := by
  rcases ic9 I with rfl | rfl | rfl | rfl | rfl | rfl | rfl | rfl | rfl | ⟨m, rfl⟩ | ⟨m, rfl⟩
  · rw [t_pr9_0]
    exact h
  · rw [t_pr9_1]
    exact h
  · rw [t_pr9_2]
    exact h
  · rw [t_pr9_3]
    exact h
  · rw [t_pr9_4]
    exact h
  · rw [t_pr9_5]
    exact h
  · rw [t_pr9_6]
    exact h
  · rw [t_pr9_7]
    exact h
  · rw [t_pr9_8]
    exact h
  · rw [t_pr9_n]
    exact brt (Int.negSucc_lt_zero _) (prim_no (ps := [p0, p1, p2, p3, p4, p5, p6, p7, p8]) (Or.inl (Int.negSucc_lt_zero _)) prim sil al h)
  · rw [t_pr9_p]
    exact brt (by omega) (prim_no (ps := [p0, p1, p2, p3, p4, p5, p6, p7, p8]) (Or.inr (by show _ ≥ ((9 : Nat) : Int); omega)) prim sil al h)
theorem nx_9 (p0 p1 p2 p3 p4 p5 p6 p7 p8 : Pa) (prim sil al I : Int) (k : SV → St → Prop) (h : k (.sa (.one (iv .i64 (nextI (downs [p0, p1, p2, p3, p4, p5, p6, p7, p8]) I)))) (rtL [p0, p1, p2, p3, p4, p5, p6, p7, p8] prim sil al)) : evCall cxRp (ev cxRp 60) 16 [.one (.ptr 0 0 0), .one (iv .i64 I)] (rtL [p0, p1, p2, p3, p4, p5, p6, p7, p8] prim sil al) k := by
  rcases ic9 I with rfl | rfl | rfl | rfl | rfl | rfl | rfl | rfl | rfl | ⟨m, rfl⟩ | ⟨m, rfl⟩
  · rw [t_nx9_0]
    have e : nextI (downs [p0, p1, p2, p3, p4, p5, p6, p7, p8]) 0 = ((firstU [(1, p1.d), (2, p2.d), (3, p3.d), (4, p4.d), (5, p5.d), (6, p6.d), (7, p7.d), (8, p8.d)] 1 : Nat) : Int) := by kernel_rfl
    rw [e] at h
    iterate 8 refine fu_br (K := fun n => k (.sa (.one (iv .i64 ((n : Nat) : Int)))) (rtL [p0, p1, p2, p3, p4, p5, p6, p7, p8] prim sil al)) h (fun h => ?_)
    exact h
  · rw [t_nx9_1]
    have e : nextI (downs [p0, p1, p2, p3, p4, p5, p6, p7, p8]) 1 = ((firstU [(2, p2.d), (3, p3.d), (4, p4.d), (5, p5.d), (6, p6.d), (7, p7.d), (8, p8.d), (0, p0.d)] 2 : Nat) : Int) := by kernel_rfl
    rw [e] at h
    iterate 8 refine fu_br (K := fun n => k (.sa (.one (iv .i64 ((n : Nat) : Int)))) (rtL [p0, p1, p2, p3, p4, p5, p6, p7, p8] prim sil al)) h (fun h => ?_)
    exact h
  · rw [t_nx9_2]
    have e : nextI (downs [p0, p1, p2, p3, p4, p5, p6, p7, p8]) 2 = ((firstU [(3, p3.d), (4, p4.d), (5, p5.d), (6, p6.d), (7, p7.d), (8, p8.d), (0, p0.d), (1, p1.d)] 3 : Nat) : Int) := by kernel_rfl
    rw [e] at h
    iterate 8 refine fu_br (K := fun n => k (.sa (.one (iv .i64 ((n : Nat) : Int)))) (rtL [p0, p1, p2, p3, p4, p5, p6, p7, p8] prim sil al)) h (fun h => ?_)
    exact h
  · rw [t_nx9_3]
    have e : nextI (downs [p0, p1, p2, p3, p4, p5, p6, p7, p8]) 3 = ((firstU [(4, p4.d), (5, p5.d), (6, p6.d), (7, p7.d), (8, p8.d), (0, p0.d), (1, p1.d), (2, p2.d)] 4 : Nat) : Int) := by kernel_rfl
    rw [e] at h
    iterate 8 refine fu_br (K := fun n => k (.sa (.one (iv .i64 ((n : Nat) : Int)))) (rtL [p0, p1, p2, p3, p4, p5, p6, p7, p8] prim sil al)) h (fun h => ?_)
    exact h
  · rw [t_nx9_4]
    have e : nextI (downs [p0, p1, p2, p3, p4, p5, p6, p7, p8]) 4 = ((firstU [(5, p5.d), (6, p6.d), (7, p7.d), (8, p8.d), (0, p0.d), (1, p1.d), (2, p2.d), (3, p3.d)] 5 : Nat) : Int) := by kernel_rfl
    rw [e] at h
    iterate 8 refine fu_br (K := fun n => k (.sa (.one (iv .i64 ((n : Nat) : Int)))) (rtL [p0, p1, p2, p3, p4, p5, p6, p7, p8] prim sil al)) h (fun h => ?_)
    exact h
  · rw [t_nx9_5]
    have e : nextI (downs [p0, p1, p2, p3, p4, p5, p6, p7, p8]) 5 = ((firstU [(6, p6.d), (7, p7.d), (8, p8.d), (0, p0.d), (1, p1.d), (2, p2.d), (3, p3.d), (4, p4.d)] 6 : Nat) : Int) := by kernel_rfl
    rw [e] at h
    iterate 8 refine fu_br (K := fun n => k (.sa (.one (iv .i64 ((n : Nat) : Int)))) (rtL [p0, p1, p2, p3, p4, p5, p6, p7, p8] prim sil al)) h (fun h => ?_)
    exact h
  · rw [t_nx9_6]
    have e : nextI (downs [p0, p1, p2, p3, p4, p5, p6, p7, p8]) 6 = ((firstU [(7, p7.d), (8, p8.d), (0, p0.d), (1, p1.d), (2, p2.d), (3, p3.d), (4, p4.d), (5, p5.d)] 7 : Nat) : Int) := by kernel_rfl
    rw [e] at h
    iterate 8 refine fu_br (K := fun n => k (.sa (.one (iv .i64 ((n : Nat) : Int)))) (rtL [p0, p1, p2, p3, p4, p5, p6, p7, p8] prim sil al)) h (fun h => ?_)
    exact h
  · rw [t_nx9_7]
    have e : nextI (downs [p0, p1, p2, p3, p4, p5, p6, p7, p8]) 7 = ((firstU [(8, p8.d), (0, p0.d), (1, p1.d), (2, p2.d), (3, p3.d), (4, p4.d), (5, p5.d), (6, p6.d)] 8 : Nat) : Int) := by kernel_rfl
    rw [e] at h
    iterate 8 refine fu_br (K := fun n => k (.sa (.one (iv .i64 ((n : Nat) : Int)))) (rtL [p0, p1, p2, p3, p4, p5, p6, p7, p8] prim sil al)) h (fun h => ?_)
    exact h
  · rw [t_nx9_8]
    have e : nextI (downs [p0, p1, p2, p3, p4, p5, p6, p7, p8]) 8 = ((firstU [(0, p0.d), (1, p1.d), (2, p2.d), (3, p3.d), (4, p4.d), (5, p5.d), (6, p6.d), (7, p7.d)] 0 : Nat) : Int) := by kernel_rfl
    rw [e] at h
    iterate 8 refine fu_br (K := fun n => k (.sa (.one (iv .i64 ((n : Nat) : Int)))) (rtL [p0, p1, p2, p3, p4, p5, p6, p7, p8] prim sil al)) h (fun h => ?_)
    exact h
  · rw [t_nx9_n]
    exact brt (Int.negSucc_lt_zero _) (next_no (ps := [p0, p1, p2, p3, p4, p5, p6, p7, p8]) (Or.inl (Int.negSucc_lt_zero _)) prim sil al h)
  · rw [t_nx9_p]
    exact brt (by omega) (next_no (ps := [p0, p1, p2, p3, p4, p5, p6, p7, p8]) (Or.inr (by show _ ≥ ((9 : Nat) : Int); omega)) prim sil al h)
theorem ch_9 (p0 p1 p2 p3 p4 p5 p6 p7 p8 : Pa) (prim sil al : Int) (hp : 0 ≤ prim ∧ prim < 9) (k : SV → St → Prop) (h : k (.sa (.one (iv .i64 (chooseI (downs [p0, p1, p2, p3, p4, p5, p6, p7, p8]) prim)))) (rtL [p0, p1, p2, p3, p4, p5, p6, p7, p8] prim sil al)) : evCall cxRp (ev cxRp 60) 18 [.one (.ptr 0 0 0)] (rtL [p0, p1, p2, p3, p4, p5, p6, p7, p8] prim sil al) k := by
  have hc : prim = 0 ∨ prim = 1 ∨ prim = 2 ∨ prim = 3 ∨ prim = 4 ∨ prim = 5 ∨ prim = 6 ∨ prim = 7 ∨ prim = 8 := by omega
  rcases hc with rfl | rfl | rfl | rfl | rfl | rfl | rfl | rfl | rfl
  · rw [t_ch9_0]
    have e : chooseI (downs [p0, p1, p2, p3, p4, p5, p6, p7, p8]) 0 = if p0.d = true then ((firstU [(1, p1.d), (2, p2.d), (3, p3.d), (4, p4.d), (5, p5.d), (6, p6.d), (7, p7.d), (8, p8.d)] 1 : Nat) : Int) else 0 := by kernel_rfl
    rw [e] at h
    cases hd : p0.d with
    | false =>
      rw [hd] at h
      exact br (fun _ => h) (fun e => by cases e)
    | true =>
      rw [hd] at h
      have h : k (.sa (.one (iv .i64 ((firstU [(1, p1.d), (2, p2.d), (3, p3.d), (4, p4.d), (5, p5.d), (6, p6.d), (7, p7.d), (8, p8.d)] 1 : Nat) : Int)))) (rtL [p0, p1, p2, p3, p4, p5, p6, p7, p8] 0 sil al) := h
      refine br (fun e => by cases e) (fun _ => ?_)
      iterate 8 refine fu_br (K := fun n => k (.sa (.one (iv .i64 ((n : Nat) : Int)))) (rtL [p0, p1, p2, p3, p4, p5, p6, p7, p8] 0 sil al)) h (fun h => ?_)
      exact h
  · rw [t_ch9_1]
    have e : chooseI (downs [p0, p1, p2, p3, p4, p5, p6, p7, p8]) 1 = if p1.d = true then ((firstU [(2, p2.d), (3, p3.d), (4, p4.d), (5, p5.d), (6, p6.d), (7, p7.d), (8, p8.d), (0, p0.d)] 2 : Nat) : Int) else 1 := by kernel_rfl
    rw [e] at h
    cases hd : p1.d with
    | false =>
      rw [hd] at h
      exact br (fun _ => h) (fun e => by cases e)
    | true =>
      rw [hd] at h
      have h : k (.sa (.one (iv .i64 ((firstU [(2, p2.d), (3, p3.d), (4, p4.d), (5, p5.d), (6, p6.d), (7, p7.d), (8, p8.d), (0, p0.d)] 2 : Nat) : Int)))) (rtL [p0, p1, p2, p3, p4, p5, p6, p7, p8] 1 sil al) := h
      refine br (fun e => by cases e) (fun _ => ?_)
      iterate 8 refine fu_br (K := fun n => k (.sa (.one (iv .i64 ((n : Nat) : Int)))) (rtL [p0, p1, p2, p3, p4, p5, p6, p7, p8] 1 sil al)) h (fun h => ?_)
      exact h
  · rw [t_ch9_2]
    have e : chooseI (downs [p0, p1, p2, p3, p4, p5, p6, p7, p8]) 2 = if p2.d = true then ((firstU [(3, p3.d), (4, p4.d), (5, p5.d), (6, p6.d), (7, p7.d), (8, p8.d), (0, p0.d), (1, p1.d)] 3 : Nat) : Int) else 2 := by kernel_rfl
    rw [e] at h
    cases hd : p2.d with
    | false =>
      rw [hd] at h
      exact br (fun _ => h) (fun e => by cases e)
    | true =>
      rw [hd] at h
      have h : k (.sa (.one (iv .i64 ((firstU [(3, p3.d), (4, p4.d), (5, p5.d), (6, p6.d), (7, p7.d), (8, p8.d), (0, p0.d), (1, p1.d)] 3 : Nat) : Int)))) (rtL [p0, p1, p2, p3, p4, p5, p6, p7, p8] 2 sil al) := h
      refine br (fun e => by cases e) (fun _ => ?_)
      iterate 8 refine fu_br (K := fun n => k (.sa (.one (iv .i64 ((n : Nat) : Int)))) (rtL [p0, p1, p2, p3, p4, p5, p6, p7, p8] 2 sil al)) h (fun h => ?_)
      exact h
  · rw [t_ch9_3]
    have e : chooseI (downs [p0, p1, p2, p3, p4, p5, p6, p7, p8]) 3 = if p3.d = true then ((firstU [(4, p4.d), (5, p5.d), (6, p6.d), (7, p7.d), (8, p8.d), (0, p0.d), (1, p1.d), (2, p2.d)] 4 : Nat) : Int) else 3 := by kernel_rfl
    rw [e] at h
    cases hd : p3.d with
    | false =>
      rw [hd] at h
      exact br (fun _ => h) (fun e => by cases e)
    | true =>
      rw [hd] at h
      have h : k (.sa (.one (iv .i64 ((firstU [(4, p4.d), (5, p5.d), (6, p6.d), (7, p7.d), (8, p8.d), (0, p0.d), (1, p1.d), (2, p2.d)] 4 : Nat) : Int)))) (rtL [p0, p1, p2, p3, p4, p5, p6, p7, p8] 3 sil al) := h
      refine br (fun e => by cases e) (fun _ => ?_)
      iterate 8 refine fu_br (K := fun n => k (.sa (.one (iv .i64 ((n : Nat) : Int)))) (rtL [p0, p1, p2, p3, p4, p5, p6, p7, p8] 3 sil al)) h (fun h => ?_)
      exact h
  · rw [t_ch9_4]
    have e : chooseI (downs [p0, p1, p2, p3, p4, p5, p6, p7, p8]) 4 = if p4.d = true then ((firstU [(5, p5.d), (6, p6.d), (7, p7.d), (8, p8.d), (0, p0.d), (1, p1.d), (2, p2.d), (3, p3.d)] 5 : Nat) : Int) else 4 := by kernel_rfl
    rw [e] at h
    cases hd : p4.d with
    | false =>
      rw [hd] at h
      exact br (fun _ => h) (fun e => by cases e)
    | true =>
      rw [hd] at h
      have h : k (.sa (.one (iv .i64 ((firstU [(5, p5.d), (6, p6.d), (7, p7.d), (8, p8.d), (0, p0.d), (1, p1.d), (2, p2.d), (3, p3.d)] 5 : Nat) : Int)))) (rtL [p0, p1, p2, p3, p4, p5, p6, p7, p8] 4 sil al) := h
      refine br (fun e => by cases e) (fun _ => ?_)
      iterate 8 refine fu_br (K := fun n => k (.sa (.one (iv .i64 ((n : Nat) : Int)))) (rtL [p0, p1, p2, p3, p4, p5, p6, p7, p8] 4 sil al)) h (fun h => ?_)
      exact h
  · rw [t_ch9_5]
    have e : chooseI (downs [p0, p1, p2, p3, p4, p5, p6, p7, p8]) 5 = if p5.d = true then ((firstU [(6, p6.d), (7, p7.d), (8, p8.d), (0, p0.d), (1, p1.d), (2, p2.d), (3, p3.d), (4, p4.d)] 6 : Nat) : Int) else 5 := by kernel_rfl
    rw [e] at h
    cases hd : p5.d with
    | false =>
      rw [hd] at h
      exact br (fun _ => h) (fun e => by cases e)
    | true =>
      rw [hd] at h
      have h : k (.sa (.one (iv .i64 ((firstU [(6, p6.d), (7, p7.d), (8, p8.d), (0, p0.d), (1, p1.d), (2, p2.d), (3, p3.d), (4, p4.d)] 6 : Nat) : Int)))) (rtL [p0, p1, p2, p3, p4, p5, p6, p7, p8] 5 sil al) := h
      refine br (fun e => by cases e) (fun _ => ?_)
      iterate 8 refine fu_br (K := fun n => k (.sa (.one (iv .i64 ((n : Nat) : Int)))) (rtL [p0, p1, p2, p3, p4, p5, p6, p7, p8] 5 sil al)) h (fun h => ?_)
      exact h
  · rw [t_ch9_6]
    have e : chooseI (downs [p0, p1, p2, p3, p4, p5, p6, p7, p8]) 6 = if p6.d = true then ((firstU [(7, p7.d), (8, p8.d), (0, p0.d), (1, p1.d), (2, p2.d), (3, p3.d), (4, p4.d), (5, p5.d)] 7 : Nat) : Int) else 6 := by kernel_rfl
    rw [e] at h
    cases hd : p6.d with
    | false =>
      rw [hd] at h
      exact br (fun _ => h) (fun e => by cases e)
    | true =>
      rw [hd] at h
      have h : k (.sa (.one (iv .i64 ((firstU [(7, p7.d), (8, p8.d), (0, p0.d), (1, p1.d), (2, p2.d), (3, p3.d), (4, p4.d), (5, p5.d)] 7 : Nat) : Int)))) (rtL [p0, p1, p2, p3, p4, p5, p6, p7, p8] 6 sil al) := h
      refine br (fun e => by cases e) (fun _ => ?_)
      iterate 8 refine fu_br (K := fun n => k (.sa (.one (iv .i64 ((n : Nat) : Int)))) (rtL [p0, p1, p2, p3, p4, p5, p6, p7, p8] 6 sil al)) h (fun h => ?_)
      exact h
  · rw [t_ch9_7]
    have e : chooseI (downs [p0, p1, p2, p3, p4, p5, p6, p7, p8]) 7 = if p7.d = true then ((firstU [(8, p8.d), (0, p0.d), (1, p1.d), (2, p2.d), (3, p3.d), (4, p4.d), (5, p5.d), (6, p6.d)] 8 : Nat) : Int) else 7 := by kernel_rfl
    rw [e] at h
    cases hd : p7.d with
    | false =>
      rw [hd] at h
      exact br (fun _ => h) (fun e => by cases e)
    | true =>
      rw [hd] at h
      have h : k (.sa (.one (iv .i64 ((firstU [(8, p8.d), (0, p0.d), (1, p1.d), (2, p2.d), (3, p3.d), (4, p4.d), (5, p5.d), (6, p6.d)] 8 : Nat) : Int)))) (rtL [p0, p1, p2, p3, p4, p5, p6, p7, p8] 7 sil al) := h
      refine br (fun e => by cases e) (fun _ => ?_)
      iterate 8 refine fu_br (K := fun n => k (.sa (.one (iv .i64 ((n : Nat) : Int)))) (rtL [p0, p1, p2, p3, p4, p5, p6, p7, p8] 7 sil al)) h (fun h => ?_)
      exact h
  · rw [t_ch9_8]
    have e : chooseI (downs [p0, p1, p2, p3, p4, p5, p6, p7, p8]) 8 = if p8.d = true then ((firstU [(0, p0.d), (1, p1.d), (2, p2.d), (3, p3.d), (4, p4.d), (5, p5.d), (6, p6.d), (7, p7.d)] 0 : Nat) : Int) else 8 := by kernel_rfl
    rw [e] at h
    cases hd : p8.d with
    | false =>
      rw [hd] at h
      exact br (fun _ => h) (fun e => by cases e)
    | true =>
      rw [hd] at h
      have h : k (.sa (.one (iv .i64 ((firstU [(0, p0.d), (1, p1.d), (2, p2.d), (3, p3.d), (4, p4.d), (5, p5.d), (6, p6.d), (7, p7.d)] 0 : Nat) : Int)))) (rtL [p0, p1, p2, p3, p4, p5, p6, p7, p8] 8 sil al) := h
      refine br (fun e => by cases e) (fun _ => ?_)
      iterate 8 refine fu_br (K := fun n => k (.sa (.one (iv .i64 ((n : Nat) : Int)))) (rtL [p0, p1, p2, p3, p4, p5, p6, p7, p8] 8 sil al)) h (fun h => ?_)
      exact h
end Go.Ev
