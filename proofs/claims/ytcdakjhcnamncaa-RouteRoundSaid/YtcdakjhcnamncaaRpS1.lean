/- Routes with 1 paths: what the methods do. No conditions. -/
import Derived.Test.YtcdakjhcnamncaaRpT1
import Derived.Test.YtcdakjhcnamncaaRpU1
import Derived.Test.YtcdakjhcnamncaaRpR
set_option linter.unusedVariables false
set_option linter.unusedSimpArgs false
set_option maxRecDepth 100000
namespace Go.Ev
open Go Go.Proofs Go.Spec
attribute [local irreducible] ev evCall branch need again
theorem ic1 (I : Int) : I = 0 ∨ (∃ m : Nat, I = Int.negSucc m) ∨ (∃ m : Nat, I = ((m + 1 : Nat) : Int)) := by
  by_cases h : I < 0
  · exact Or.inr (Or.inl ⟨(-I - 1).toNat, by rw [Int.negSucc_eq]; omega⟩)
  · by_cases h2 : I ≥ 1
    · exact Or.inr (Or.inr (⟨(I - 1).toNat, by omega⟩))
    · omega
theorem mi_1 (p0 : Pa) (prim sil al I : Int) (k : SV → St → Prop) (h : k (.tup [.one (bv (missT I [p0] 0)), .one (bv (lostB I 1 sil al))]) (rtL (missP I [p0] 0) prim (thI I 1 (addK .i64 sil 1) sil) al)) : evCall cxRp (ev cxRp 60) 10 [.one (.ptr 0 0 0), .one (iv .i64 I)] (rtL [p0] prim sil al) k := by
  rcases ic1 I with rfl | ⟨m, rfl⟩ | ⟨m, rfl⟩
  · rw [t_mi1_0]
    exact h
  · rw [t_mi1_n]
    exact brt (Int.negSucc_lt_zero _) (miss_no (ps := [p0]) (Or.inl (Int.negSucc_lt_zero _)) prim sil al h)
  · rw [t_mi1_p]
    exact brt (by omega) (miss_no (ps := [p0]) (Or.inr (by show _ ≥ ((1 : Nat) : Int); omega)) prim sil al h)
theorem he_1 (p0 : Pa) (prim sil al I : Int) (k : SV → St → Prop) (h : k (.sa (.one (bv (hearT I [p0] 0)))) (rtL (hearP I [p0] 0) prim (thI I 1 0 sil) al)) : evCall cxRp (ev cxRp 60) 11 [.one (.ptr 0 0 0), .one (iv .i64 I)] (rtL [p0] prim sil al) k := by
  rcases ic1 I with rfl | ⟨m, rfl⟩ | ⟨m, rfl⟩
  · rw [t_he1_0]
    exact h
  · rw [t_he1_n]
    exact brt (Int.negSucc_lt_zero _) (hear_no (ps := [p0]) (Or.inl (Int.negSucc_lt_zero _)) prim sil al h)
  · rw [t_he1_p]
    exact brt (by omega) (hear_no (ps := [p0]) (Or.inr (by show _ ≥ ((1 : Nat) : Int); omega)) prim sil al h)
theorem pr_1 (p0 : Pa) (prim sil al I : Int) (k : SV → St → Prop) (h : k (.sa (.one (iv .i64 (thI I 1 0 4)))) (rtL [p0] (thI I 1 I prim) sil al)) : evCall cxRp (ev cxRp 60) 21 [.one (.ptr 0 0 0), .one (iv .i64 I)] (rtL [p0] prim sil al) k := by
  rcases ic1 I with rfl | ⟨m, rfl⟩ | ⟨m, rfl⟩
  · rw [t_pr1_0]
    exact h
  · rw [t_pr1_n]
    exact brt (Int.negSucc_lt_zero _) (prim_no (ps := [p0]) (Or.inl (Int.negSucc_lt_zero _)) prim sil al h)
  · rw [t_pr1_p]
    exact brt (by omega) (prim_no (ps := [p0]) (Or.inr (by show _ ≥ ((1 : Nat) : Int); omega)) prim sil al h)
theorem nx_1 (p0 : Pa) (prim sil al I : Int) (k : SV → St → Prop) (h : k (.sa (.one (iv .i64 (nextI (downs [p0]) I)))) (rtL [p0] prim sil al)) : evCall cxRp (ev cxRp 60) 16 [.one (.ptr 0 0 0), .one (iv .i64 I)] (rtL [p0] prim sil al) k := by
  rcases ic1 I with rfl | ⟨m, rfl⟩ | ⟨m, rfl⟩
  · rw [t_nx1_0]
    have e : nextI (downs [p0]) 0 = ((firstU [] 0 : Nat) : Int) := by kernel_rfl
    rw [e] at h
    exact h
  · rw [t_nx1_n]
    exact brt (Int.negSucc_lt_zero _) (next_no (ps := [p0]) (Or.inl (Int.negSucc_lt_zero _)) prim sil al h)
  · rw [t_nx1_p]
    exact brt (by omega) (next_no (ps := [p0]) (Or.inr (by show _ ≥ ((1 : Nat) : Int); omega)) prim sil al h)
theorem ch_1 (p0 : Pa) (prim sil al : Int) (hp : 0 ≤ prim ∧ prim < 1) (k : SV → St → Prop) (h : k (.sa (.one (iv .i64 (chooseI (downs [p0]) prim)))) (rtL [p0] prim sil al)) : evCall cxRp (ev cxRp 60) 18 [.one (.ptr 0 0 0)] (rtL [p0] prim sil al) k := by
  have hc : prim = 0 := by omega
  subst hc
  · rw [t_ch1_0]
    have e : chooseI (downs [p0]) 0 = if p0.d = true then ((firstU [] 0 : Nat) : Int) else 0 := by kernel_rfl
    rw [e] at h
    cases hd : p0.d with
    | false =>
      rw [hd] at h
      exact br (fun _ => h) (fun e => by cases e)
    | true =>
      rw [hd] at h
      have h : k (.sa (.one (iv .i64 ((firstU [] 0 : Nat) : Int)))) (rtL [p0] 0 sil al) := h
      refine br (fun e => by cases e) (fun _ => ?_)
      exact h
end Go.Ev
