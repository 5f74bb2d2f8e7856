/- Routes with 2 paths: what the methods do. No conditions. -/
import Derived.Test.YtcdakjhcnamncaaRpT2
import Derived.Test.YtcdakjhcnamncaaRpU2
import Derived.Test.YtcdakjhcnamncaaRpR
set_option linter.unusedVariables false
set_option linter.unusedSimpArgs false
set_option maxRecDepth 100000
namespace Go.Ev
open Go Go.Proofs Go.Spec
attribute [local irreducible] ev evCall branch need again
theorem ic2 (I : Int) : I = 0 ∨ I = 1 ∨ (∃ m : Nat, I = Int.negSucc m) ∨ (∃ m : Nat, I = ((m + 2 : Nat) : Int)) := by
  by_cases h : I < 0
  · exact Or.inr (Or.inr (Or.inl ⟨(-I - 1).toNat, by rw [Int.negSucc_eq]; omega⟩))
  · by_cases h2 : I ≥ 2
    · exact Or.inr (Or.inr (Or.inr (⟨(I - 2).toNat, by omega⟩)))
    · omega
theorem mi_2 (p0 p1 : Pa) (prim sil al I : Int) (k : SV → St → Prop) (h : k (.tup [.one (bv (missT I [p0, p1] 0)), .one (bv (lostB I 2 sil al))]) (rtL (missP I [p0, p1] 0) prim (thI I 2 (addK .i64 sil 1) sil) al)) : evCall cxRp (ev cxRp 60) 10 [.one (.ptr 0 0 0), .one (iv .i64 I)] (rtL [p0, p1] prim sil al) k := by
  rcases ic2 I with rfl | rfl | ⟨m, rfl⟩ | ⟨m, rfl⟩
  · rw [t_mi2_0]
    exact h
  · rw [t_mi2_1]
    exact h
  · rw [t_mi2_n]
    exact brt (Int.negSucc_lt_zero _) (miss_no (ps := [p0, p1]) (Or.inl (Int.negSucc_lt_zero _)) prim sil al h)
  · rw [t_mi2_p]
    exact brt (by omega) (miss_no (ps := [p0, p1]) (Or.inr (by show _ ≥ ((2 : Nat) : Int); omega)) prim sil al h)
theorem he_2 (p0 p1 : Pa) (prim sil al I : Int) (k : SV → St → Prop) (h : k (.sa (.one (bv (hearT I [p0, p1] 0)))) (rtL (hearP I [p0, p1] 0) prim (thI I 2 0 sil) al)) : evCall cxRp (ev cxRp 60) 11 [.one (.ptr 0 0 0), .one (iv .i64 I)] (rtL [p0, p1] prim sil al) k := by
  rcases ic2 I with rfl | rfl | ⟨m, rfl⟩ | ⟨m, rfl⟩
  · rw [t_he2_0]
    exact h
  · rw [t_he2_1]
    exact h
  · rw [t_he2_n]
    exact brt (Int.negSucc_lt_zero _) (hear_no (ps := [p0, p1]) (Or.inl (Int.negSucc_lt_zero _)) prim sil al h)
  · rw [t_he2_p]
    exact brt (by omega) (hear_no (ps := [p0, p1]) (Or.inr (by show _ ≥ ((2 : Nat) : Int); omega)) prim sil al h)
theorem pr_2 (p0 p1 : Pa) (prim sil al I : Int) (k : SV → St → Prop) (h : k (.sa (.one (iv .i64 (thI I 2 0 4)))) (rtL [p0, p1] (thI I 2 I prim) sil al)) : evCall cxRp (ev cxRp 60) 21 [.one (.ptr 0 0 0), .one (iv .i64 I)] (rtL [p0, p1] prim sil al) k := by
  rcases ic2 I with rfl | rfl | ⟨m, rfl⟩ | ⟨m, rfl⟩
  · rw [t_pr2_0]
    exact h
  · rw [t_pr2_1]
    exact h
  · rw [t_pr2_n]
    exact brt (Int.negSucc_lt_zero _) (prim_no (ps := [p0, p1]) (Or.inl (Int.negSucc_lt_zero _)) prim sil al h)
  · rw [t_pr2_p]
    exact brt (by omega) (prim_no (ps := [p0, p1]) (Or.inr (by show _ ≥ ((2 : Nat) : Int); omega)) prim sil al h)
theorem nx_2 (p0 p1 : Pa) (prim sil al I : Int) (k : SV → St → Prop) (h : k (.sa (.one (iv .i64 (nextI (downs [p0, p1]) I)))) (rtL [p0, p1] prim sil al)) : evCall cxRp (ev cxRp 60) 16 [.one (.ptr 0 0 0), .one (iv .i64 I)] (rtL [p0, p1] prim sil al) k := by
  rcases ic2 I with rfl | rfl | ⟨m, rfl⟩ | ⟨m, rfl⟩
  · rw [t_nx2_0]
    have e : nextI (downs [p0, p1]) 0 = ((firstU [(1, p1.d)] 1 : Nat) : Int) := by kernel_rfl
    rw [e] at h
    iterate 1 refine fu_br (K := fun n => k (.sa (.one (iv .i64 ((n : Nat) : Int)))) (rtL [p0, p1] prim sil al)) h (fun h => ?_)
    exact h
  · rw [t_nx2_1]
    have e : nextI (downs [p0, p1]) 1 = ((firstU [(0, p0.d)] 0 : Nat) : Int) := by kernel_rfl
    rw [e] at h
    iterate 1 refine fu_br (K := fun n => k (.sa (.one (iv .i64 ((n : Nat) : Int)))) (rtL [p0, p1] prim sil al)) h (fun h => ?_)
    exact h
  · rw [t_nx2_n]
    exact brt (Int.negSucc_lt_zero _) (next_no (ps := [p0, p1]) (Or.inl (Int.negSucc_lt_zero _)) prim sil al h)
  · rw [t_nx2_p]
    exact brt (by omega) (next_no (ps := [p0, p1]) (Or.inr (by show _ ≥ ((2 : Nat) : Int); omega)) prim sil al h)
theorem ch_2 (p0 p1 : Pa) (prim sil al : Int) (hp : 0 ≤ prim ∧ prim < 2) (k : SV → St → Prop) (h : k (.sa (.one (iv .i64 (chooseI (downs [p0, p1]) prim)))) (rtL [p0, p1] prim sil al)) : evCall cxRp (ev cxRp 60) 18 [.one (.ptr 0 0 0)] (rtL [p0, p1] prim sil al) k := by
  have hc : prim = 0 ∨ prim = 1 := by omega
  rcases hc with rfl | rfl
  · rw [t_ch2_0]
    have e : chooseI (downs [p0, p1]) 0 = if p0.d = true then ((firstU [(1, p1.d)] 1 : Nat) : Int) else 0 := by kernel_rfl
    rw [e] at h
    cases hd : p0.d with
    | false =>
      rw [hd] at h
      exact br (fun _ => h) (fun e => by cases e)
    | true =>
      rw [hd] at h
      have h : k (.sa (.one (iv .i64 ((firstU [(1, p1.d)] 1 : Nat) : Int)))) (rtL [p0, p1] 0 sil al) := h
      refine br (fun e => by cases e) (fun _ => ?_)
      iterate 1 refine fu_br (K := fun n => k (.sa (.one (iv .i64 ((n : Nat) : Int)))) (rtL [p0, p1] 0 sil al)) h (fun h => ?_)
      exact h
  · rw [t_ch2_1]
    have e : chooseI (downs [p0, p1]) 1 = if p1.d = true then ((firstU [(0, p0.d)] 0 : Nat) : Int) else 1 := by kernel_rfl
    rw [e] at h
    cases hd : p1.d with
    | false =>
      rw [hd] at h
      exact br (fun _ => h) (fun e => by cases e)
    | true =>
      rw [hd] at h
      have h : k (.sa (.one (iv .i64 ((firstU [(0, p0.d)] 0 : Nat) : Int)))) (rtL [p0, p1] 1 sil al) := h
      refine br (fun e => by cases e) (fun _ => ?_)
      iterate 1 refine fu_br (K := fun n => k (.sa (.one (iv .i64 ((n : Nat) : Int)))) (rtL [p0, p1] 1 sil al)) h (fun h => ?_)
      exact h
end Go.Ev
