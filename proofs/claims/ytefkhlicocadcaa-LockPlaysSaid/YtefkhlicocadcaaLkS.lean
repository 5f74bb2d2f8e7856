/- Is a lock among these; is one of a class not below; without one. No conditions. -/
import Derived.Test.YtefkhlicocadcaaLkT0
import Derived.Test.YtefkhlicocadcaaLkT1
import Derived.Test.YtefkhlicocadcaaEvD
set_option linter.unusedVariables false
set_option linter.unusedSimpArgs false
namespace Go.Ev
open Go Go.Proofs Go.Spec
attribute [local irreducible] ev evCall branch need again
theorem namesL : namesB Try.prog = true := by kernel_rfl
theorem mixedL : Try.prog.follows .mixedOrders = true := by kernel_rfl
theorem cxL0_ok : CxOk Try.prog cxL0 := mkCx_ok namesL mixedL (by simp)
theorem few_iff {k : Nat} {cs ns : List Int} : few k cs ns = true ↔ k ≤ 3 ∧ cs.length = k ∧ ns.length = k := by simp [few]
theorem few_cases {k : Nat} {cs ns : List Int} (h : few k cs ns = true) : (k = 0 ∧ cs = [] ∧ ns = []) ∨ (∃ c1 n1, k = 1 ∧ cs = [c1] ∧ ns = [n1]) ∨ (∃ c1 n1 c2 n2, k = 2 ∧ cs = [c1, c2] ∧ ns = [n1, n2]) ∨ ∃ c1 n1 c2 n2 c3 n3, k = 3 ∧ cs = [c1, c2, c3] ∧ ns = [n1, n2, n3] := by
  obtain ⟨h1, h2, h3⟩ := few_iff.1 h
  match cs, ns with
  | [], [] => exact .inl ⟨h2.symm, rfl, rfl⟩
  | [a], [b] => exact .inr (.inl ⟨a, b, h2.symm, rfl, rfl⟩)
  | [a, c], [b, d] => exact .inr (.inr (.inl ⟨a, b, c, d, h2.symm, rfl, rfl⟩))
  | [a, c, e], [b, d, f] => exact .inr (.inr (.inr ⟨a, b, c, d, e, f, h2.symm, rfl, rfl⟩))
  | a :: b :: c :: d :: r, _ => simp at h2; omega
  | [], _ :: _ => simp at h2 h3; omega
  | [_], [] => simp at h2 h3; omega
  | [_], _ :: _ :: _ => simp at h2 h3; omega
  | [_, _], [] => simp at h2 h3; omega
  | [_, _], [_] => simp at h2 h3; omega
  | [_, _], _ :: _ :: _ :: _ => simp at h2 h3; omega
  | [_, _, _], [] => simp at h2 h3; omega
  | [_, _, _], [_] => simp at h2 h3; omega
  | [_, _, _], [_, _] => simp at h2 h3; omega
  | [_, _, _], _ :: _ :: _ :: _ :: _ => simp at h2 h3; omega
theorem eqK_comm (a b : Int) : eqK a b = eqK b a := by rw [eqK_eq, eqK_eq, Bool.beq_comm]
theorem isL_comm (a b c n : Int) : (eqK c a && (eqK n b && true)) = isL a b c n := by rw [eqK_comm c a, eqK_comm n b]; rfl
theorem lin_need {b : Bool} {v : SV} {s : St} : Lin (fun k => need b (k v s)) := fun k h => by
  obtain ⟨h1, h2⟩ := need_iff.1 h
  exact ⟨v, s, h2, fun k2 hk => need_iff.2 ⟨h1, hk⟩⟩
theorem lin_ret {v : SV} {s : St} : Lin (fun k => k v s) := fun k h => ⟨v, s, h, fun _ hk => hk⟩

theorem con_sum : SumOk Try.prog 25 sCon := by
  refine sumOk_of cxL0_ok (fun args st k h => ?_) (fun args st k h => ?_)
  · unfold sCon at h ⊢
    split at h
    · exact lin_need k h
    · exact lin_ret k h
    · exact h.elim
  · unfold sCon at h
    split at h
    · rename_i c n w m cs ns
      obtain ⟨h1, h⟩ := need_iff.1 h
      refine ⟨100, ?_⟩
      rcases few_cases h1 with ⟨rfl, rfl, rfl⟩ | ⟨c1, n1, rfl, rfl, rfl⟩ | ⟨c1, n1, c2, n2, rfl, rfl, rfl⟩ | ⟨c1, n1, c2, n2, c3, n3, rfl, rfl, rfl⟩
      · refine Eq.mpr (t_con0 ..) ?_
        exact h
      · refine Eq.mpr (t_con1 ..) ?_
        rw [isL_comm]
        refine br (fun e => ?_) (fun e => ?_) <;> simp only [inC, e, Bool.true_or, Bool.false_or] at h <;> exact h
      · refine Eq.mpr (t_con2 ..) ?_
        rw [isL_comm, isL_comm]
        refine br (fun e => ?_) (fun e => br (fun e2 => ?_) (fun e2 => ?_)) <;> simp only [inC, e, Bool.true_or, Bool.false_or] at h <;> first | exact h | (simp only [e2, Bool.true_or, Bool.false_or] at h; exact h)
      · refine Eq.mpr (t_con3 ..) ?_
        rw [isL_comm, isL_comm, isL_comm]
        refine br (fun e => ?_) (fun e => br (fun e2 => ?_) (fun e2 => br (fun e3 => ?_) (fun e3 => ?_))) <;> simp only [inC, e, Bool.true_or, Bool.false_or] at h <;> first | exact h | (simp only [e2, Bool.true_or, Bool.false_or] at h; first | exact h | (simp only [e3, Bool.true_or, Bool.false_or] at h; exact h))
    · exact ⟨100, Eq.mpr (t_conN ..) h⟩
    · exact h.elim
theorem conF_sum : SumOk Try.prog 26 sConF := by
  refine sumOk_of cxL0_ok (fun args st k h => ?_) (fun args st k h => ?_)
  · unfold sConF at h ⊢
    split at h
    · exact lin_need k h
    · exact lin_ret k h
    · exact h.elim
  · unfold sConF at h
    split at h
    · rename_i w m cs ns w2 c n
      obtain ⟨h1, h⟩ := need_iff.1 h
      refine ⟨100, ?_⟩
      rcases few_cases h1 with ⟨rfl, rfl, rfl⟩ | ⟨c1, n1, rfl, rfl, rfl⟩ | ⟨c1, n1, c2, n2, rfl, rfl, rfl⟩ | ⟨c1, n1, c2, n2, c3, n3, rfl, rfl, rfl⟩
      · refine Eq.mpr (t_cf0 ..) ?_
        exact h
      · refine Eq.mpr (t_cf1 ..) ?_
        refine br (fun e => ?_) (fun e => ?_) <;> simp only [geC, e, Bool.true_or, Bool.false_or] at h <;> exact h
      · refine Eq.mpr (t_cf2 ..) ?_
        refine br (fun e => ?_) (fun e => br (fun e2 => ?_) (fun e2 => ?_)) <;> simp only [geC, e, Bool.true_or, Bool.false_or] at h <;> first | exact h | (simp only [e2, Bool.true_or, Bool.false_or] at h; exact h)
      · refine Eq.mpr (t_cf3 ..) ?_
        refine br (fun e => ?_) (fun e => br (fun e2 => ?_) (fun e2 => br (fun e3 => ?_) (fun e3 => ?_))) <;> simp only [geC, e, Bool.true_or, Bool.false_or] at h <;> first | exact h | (simp only [e2, Bool.true_or, Bool.false_or] at h; first | exact h | (simp only [e3, Bool.true_or, Bool.false_or] at h; exact h))
    · exact ⟨100, Eq.mpr (t_cfN ..) h⟩
    · exact h.elim
theorem delF_sum : SumOk Try.prog 29 sDelF := by
  refine sumOk_of cxL0_ok (fun args st k h => ?_) (fun args st k h => ?_)
  · unfold sDelF at h ⊢
    split at h
    · exact lin_need k h
    · exact h.elim
  · unfold sDelF at h
    split at h
    · rename_i m cs ns w2 c n
      obtain ⟨h1, h⟩ := need_iff.1 h
      rw [Bool.and_eq_true] at h1
      obtain ⟨h1, h2⟩ := h1
      refine ⟨200, ?_⟩
      rcases few_cases h1 with ⟨rfl, rfl, rfl⟩ | ⟨c1, n1, rfl, rfl, rfl⟩ | ⟨c1, n1, c2, n2, rfl, rfl, rfl⟩ | ⟨c1, n1, c2, n2, c3, n3, rfl, rfl, rfl⟩
      · cases h2
      · refine Eq.mpr (t_df1 ..) ?_
        simp only [inC, Bool.or_false, keep1, keep2] at h2 h
        refine br (fun e => ?_) (fun e => ?_)
        · rw [if_pos h2, if_pos h2] at h; exact h
        · have e : isL c1 n1 c n = false := e
          rw [h2] at e; cases e
      · refine Eq.mpr (t_df2 ..) ?_
        simp only [inC, Bool.or_false, keep1, keep2] at h2 h
        have q1 : (eqK c1 c && (eqK n1 n && true)) = isL c1 n1 c n := rfl
        have q2 : (eqK c2 c && (eqK n2 n && true)) = isL c2 n2 c n := rfl
        rw [q1, q2]
        cases e1 : isL c1 n1 c n <;> cases e2 : isL c2 n2 c n <;> simp only [e1, e2, if_true, if_false, Bool.false_eq_true, Bool.or_false, Bool.or_true] at h h2 <;> first
          | (cases h2; done)
          | (refine br (fun e => ?_) (fun e => ?_) <;> first | (cases e; done) | (refine br (fun e => ?_) (fun e => ?_) <;> first | (cases e; done) | exact h))
      · refine Eq.mpr (t_df3 ..) ?_
        simp only [inC, Bool.or_false, keep1, keep2] at h2 h
        have q1 : (eqK c1 c && (eqK n1 n && true)) = isL c1 n1 c n := rfl
        have q2 : (eqK c2 c && (eqK n2 n && true)) = isL c2 n2 c n := rfl
        have q3 : (eqK c3 c && (eqK n3 n && true)) = isL c3 n3 c n := rfl
        have q4 : (eqK (List.getD (List.set [c1, c2, c3] 0 c2) 2 (0)) c && (eqK (List.getD (List.set [n1, n2, n3] 0 n2) 2 (0)) n && true)) = isL c3 n3 c n := rfl
        rw [q1, q2, q3, q4]
        cases e1 : isL c1 n1 c n <;> cases e2 : isL c2 n2 c n <;> cases e3 : isL c3 n3 c n <;> simp only [e1, e2, e3, if_true, if_false, Bool.false_eq_true, Bool.or_false, Bool.or_true] at h h2 <;> first
          | (cases h2; done)
          | (refine br (fun e => ?_) (fun e => ?_) <;> first | (cases e; done) | (refine br (fun e => ?_) (fun e => ?_) <;> first | (cases e; done) | (refine br (fun e => ?_) (fun e => ?_) <;> first | (cases e; done) | exact h)))
    · exact h.elim
end Go.Ev
