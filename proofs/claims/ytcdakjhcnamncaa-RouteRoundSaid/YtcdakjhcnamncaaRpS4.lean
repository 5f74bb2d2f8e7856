/- Routes with 4 paths: what the methods do. No conditions. -/
import Derived.Test.YtcdakjhcnamncaaRpT4
import Derived.Test.YtcdakjhcnamncaaRpU4
import Derived.Test.YtcdakjhcnamncaaRpR
set_option linter.unusedVariables false
set_option linter.unusedSimpArgs false
set_option maxRecDepth 100000
namespace Go.Ev
open Go Go.Proofs Go.Spec
attribute [local irreducible] ev evCall branch need again
theorem ic4 (I : Int) : I = 0 ∨ I = 1 ∨ I = 2 ∨ I = 3 ∨ (∃ m : Nat, I = Int.negSucc m) ∨ (∃ m : Nat, I = ((m + 4 : Nat) : Int)) := by
  by_cases h : I < 0
  · exact Or.inr (Or.inr (Or.inr (Or.inr (Or.inl ⟨(-I - 1).toNat, by rw [Int.negSucc_eq]; omega⟩))))
  · by_cases h2 : I ≥ 4
    · exact Or.inr (Or.inr (Or.inr (Or.inr (Or.inr (⟨(I - 4).toNat, by omega⟩)))))
    · omega
theorem mi_4 (p0 p1 p2 p3 : Pa) (prim sil al I : Int) (k : SV → St → Prop) (h : k (.tup [.one (bv (missT I [p0, p1, p2, p3] 0)), .one (bv (lostB I 4 sil al))]) (rtL (missP I [p0, p1, p2, p3] 0) prim (thI I 4 (addK .i64 sil 1) sil) al)) : evCall cxRp (ev cxRp 60) 10 [.one (.ptr 0 0 0), .one (iv .i64 I)] (rtL [p0, p1, p2, p3] prim sil al) k := by
  rcases ic4 I with rfl | rfl | rfl | rfl | ⟨m, rfl⟩ | ⟨m, rfl⟩
  · rw [t_mi4_0]
    exact h
  · rw [t_mi4_1]
    exact h
  · rw [t_mi4_2]
    exact h
  · rw [t_mi4_3]
    exact h
  · rw [t_mi4_n]
    exact brt (Int.negSucc_lt_zero _) (miss_no (ps := [p0, p1, p2, p3]) (Or.inl (Int.negSucc_lt_zero _)) prim sil al h)
  · rw [t_mi4_p]
    exact brt (by omega) (miss_no (ps := [p0, p1, p2, p3]) (Or.inr (by show _ ≥ ((4 : Nat) : Int); omega)) prim sil al h)
theorem he_4 (p0 p1 p2 p3 : Pa) (prim sil al I : Int) (k : SV → St → Prop) (h : k (.sa (.one (bv (hearT I [p0, p1, p2, p3] 0)))) (rtL (hearP I [p0, p1, p2, p3] 0) prim (thI I 4 0 sil) al)) : evCall cxRp (ev cxRp 60) 11 [.one (.ptr 0 0 0), .one (iv .i64 I)] (rtL [p0, p1, p2, p3] prim sil al) k := by
  rcases ic4 I with rfl | rfl | rfl | rfl | ⟨m, rfl⟩ | ⟨m, rfl⟩
  · rw [t_he4_0]
    exact h
  · rw [t_he4_1]
    exact h
  · rw [t_he4_2]
    exact h
  · rw [t_he4_3]
    exact h
  · rw [t_he4_n]
    exact brt (Int.negSucc_lt_zero _) (hear_no (ps := [p0, p1, p2, p3]) (Or.inl (Int.negSucc_lt_zero _)) prim sil al h)
  · rw [t_he4_p]
    exact brt (by omega) (hear_no (ps := [p0, p1, p2, p3]) (Or.inr (by show _ ≥ ((4 : Nat) : Int); omega)) prim sil al h)
theorem pr_4 (p0 p1 p2 p3 : Pa) (prim sil al I : Int) (k : SV → St → Prop) (h : k (.sa (.one (iv .i64 (thI I 4 0 4)))) (rtL [p0, p1, p2, p3] (thI I 4 I prim) sil al)) : evCall cxRp (ev cxRp 60) 21 [.one (.ptr 0 0 0), .one (iv .i64 I)] (rtL [p0, p1, p2, p3] prim sil al) k := by
  rcases ic4 I with rfl | rfl | rfl | rfl | ⟨m, rfl⟩ | ⟨m, rfl⟩
  · rw [t_pr4_0]
    exact h
  · rw [t_pr4_1]
    exact h
  · rw [t_pr4_2]
    exact h
  · rw [t_pr4_3]
    exact h
  · rw [t_pr4_n]
    exact brt (Int.negSucc_lt_zero _) (prim_no (ps := [p0, p1, p2, p3]) (Or.inl (Int.negSucc_lt_zero _)) prim sil al h)
  · rw [t_pr4_p]
    exact brt (by omega) (prim_no (ps := [p0, p1, p2, p3]) (Or.inr (by show _ ≥ ((4 : Nat) : Int); omega)) prim sil al h)
theorem nx_4 (p0 p1 p2 p3 : Pa) (prim sil al I : Int) (k : SV → St → Prop) (h : k (.sa (.one (iv .i64 (nextI (downs [p0, p1, p2, p3]) I)))) (rtL [p0, p1, p2, p3] prim sil al)) : evCall cxRp (ev cxRp 60) 16 [.one (.ptr 0 0 0), .one (iv .i64 I)] (rtL [p0, p1, p2, p3] prim sil al) k := by
  rcases ic4 I with rfl | rfl | rfl | rfl | ⟨m, rfl⟩ | ⟨m, rfl⟩
  · rw [t_nx4_0]
    have e : nextI (downs [p0, p1, p2, p3]) 0 = ((firstU [(1, p1.d), (2, p2.d), (3, p3.d)] 1 : Nat) : Int) := by kernel_rfl
    rw [e] at h
    iterate 3 refine fu_br (K := fun n => k (.sa (.one (iv .i64 ((n : Nat) : Int)))) (rtL [p0, p1, p2, p3] prim sil al)) h (fun h => ?_)
    exact h
  · rw [t_nx4_1]
    have e : nextI (downs [p0, p1, p2, p3]) 1 = ((firstU [(2, p2.d), (3, p3.d), (0, p0.d)] 2 : Nat) : Int) := by kernel_rfl
    rw [e] at h
    iterate 3 refine fu_br (K := fun n => k (.sa (.one (iv .i64 ((n : Nat) : Int)))) (rtL [p0, p1, p2, p3] prim sil al)) h (fun h => ?_)
    exact h
  · rw [t_nx4_2]
    have e : nextI (downs [p0, p1, p2, p3]) 2 = ((firstU [(3, p3.d), (0, p0.d), (1, p1.d)] 3 : Nat) : Int) := by kernel_rfl
    rw [e] at h
    iterate 3 refine fu_br (K := fun n => k (.sa (.one (iv .i64 ((n : Nat) : Int)))) (rtL [p0, p1, p2, p3] prim sil al)) h (fun h => ?_)
    exact h
  · rw [t_nx4_3]
    have e : nextI (downs [p0, p1, p2, p3]) 3 = ((firstU [(0, p0.d), (1, p1.d), (2, p2.d)] 0 : Nat) : Int) := by kernel_rfl
    rw [e] at h
    iterate 3 refine fu_br (K := fun n => k (.sa (.one (iv .i64 ((n : Nat) : Int)))) (rtL [p0, p1, p2, p3] prim sil al)) h (fun h => ?_)
    exact h
  · rw [t_nx4_n]
    exact brt (Int.negSucc_lt_zero _) (next_no (ps := [p0, p1, p2, p3]) (Or.inl (Int.negSucc_lt_zero _)) prim sil al h)
  · rw [t_nx4_p]
    exact brt (by omega) (next_no (ps := [p0, p1, p2, p3]) (Or.inr (by show _ ≥ ((4 : Nat) : Int); omega)) prim sil al h)
theorem ch_4 (p0 p1 p2 p3 : Pa) (prim sil al : Int) (hp : 0 ≤ prim ∧ prim < 4) (k : SV → St → Prop) (h : k (.sa (.one (iv .i64 (chooseI (downs [p0, p1, p2, p3]) prim)))) (rtL [p0, p1, p2, p3] prim sil al)) : evCall cxRp (ev cxRp 60) 18 [.one (.ptr 0 0 0)] (rtL [p0, p1, p2, p3] prim sil al) k := by
  have hc : prim = 0 ∨ prim = 1 ∨ prim = 2 ∨ prim = 3 := by omega
  rcases hc with rfl | rfl | rfl | rfl
  · rw [t_ch4_0]
    have e : chooseI (downs [p0, p1, p2, p3]) 0 = if p0.d = true then ((firstU [(1, p1.d), (2, p2.d), (3, p3.d)] 1 : Nat) : Int) else 0 := by kernel_rfl
    rw [e] at h
    cases hd : p0.d with
    | false =>
      rw [hd] at h
      exact br (fun _ => h) (fun e => by cases e)
    | true =>
      rw [hd] at h
      have h : k (.sa (.one (iv .i64 ((firstU [(1, p1.d), (2, p2.d), (3, p3.d)] 1 : Nat) : Int)))) (rtL [p0, p1, p2, p3] 0 sil al) := h
      refine br (fun e => by cases e) (fun _ => ?_)
      iterate 3 refine fu_br (K := fun n => k (.sa (.one (iv .i64 ((n : Nat) : Int)))) (rtL [p0, p1, p2, p3] 0 sil al)) h (fun h => ?_)
      exact h
  · rw [t_ch4_1]
    have e : chooseI (downs [p0, p1, p2, p3]) 1 = if p1.d = true then ((firstU [(2, p2.d), (3, p3.d), (0, p0.d)] 2 : Nat) : Int) else 1 := by kernel_rfl
    rw [e] at h
    cases hd : p1.d with
    | false =>
      rw [hd] at h
      exact br (fun _ => h) (fun e => by cases e)
    | true =>
      rw [hd] at h
      have h : k (.sa (.one (iv .i64 ((firstU [(2, p2.d), (3, p3.d), (0, p0.d)] 2 : Nat) : Int)))) (rtL [p0, p1, p2, p3] 1 sil al) := h
      refine br (fun e => by cases e) (fun _ => ?_)
      iterate 3 refine fu_br (K := fun n => k (.sa (.one (iv .i64 ((n : Nat) : Int)))) (rtL [p0, p1, p2, p3] 1 sil al)) h (fun h => ?_)
      exact h
  · rw [t_ch4_2]
    have e : chooseI (downs [p0, p1, p2, p3]) 2 = if p2.d = true then ((firstU [(3, p3.d), (0, p0.d), (1, p1.d)] 3 : Nat) : Int) else 2 := by kernel_rfl
    rw [e] at h
    cases hd : p2.d with
    | false =>
      rw [hd] at h
      exact br (fun _ => h) (fun e => by cases e)
    | true =>
      rw [hd] at h
      have h : k (.sa (.one (iv .i64 ((firstU [(3, p3.d), (0, p0.d), (1, p1.d)] 3 : Nat) : Int)))) (rtL [p0, p1, p2, p3] 2 sil al) := h
      refine br (fun e => by cases e) (fun _ => ?_)
      iterate 3 refine fu_br (K := fun n => k (.sa (.one (iv .i64 ((n : Nat) : Int)))) (rtL [p0, p1, p2, p3] 2 sil al)) h (fun h => ?_)
      exact h
  · rw [t_ch4_3]
    have e : chooseI (downs [p0, p1, p2, p3]) 3 = if p3.d = true then ((firstU [(0, p0.d), (1, p1.d), (2, p2.d)] 0 : Nat) : Int) else 3 := by kernel_rfl
    rw [e] at h
    cases hd : p3.d with
    | false =>
      rw [hd] at h
      exact br (fun _ => h) (fun e => by cases e)
    | true =>
      rw [hd] at h
      have h : k (.sa (.one (iv .i64 ((firstU [(0, p0.d), (1, p1.d), (2, p2.d)] 0 : Nat) : Int)))) (rtL [p0, p1, p2, p3] 3 sil al) := h
      refine br (fun e => by cases e) (fun _ => ?_)
      iterate 3 refine fu_br (K := fun n => k (.sa (.one (iv .i64 ((n : Nat) : Int)))) (rtL [p0, p1, p2, p3] 3 sil al)) h (fun h => ?_)
      exact h
end Go.Ev
