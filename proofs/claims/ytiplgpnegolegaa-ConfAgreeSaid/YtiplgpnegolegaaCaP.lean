/- ConfAgree: plain facts of changes. No conditions. -/
import Derived.Test.YtiplgpnegolegaaDoS
set_option linter.unusedVariables false
set_option linter.unusedSimpArgs false
namespace Go.Spec
open Go Go.Ev
theorem has_of {f : Int} {xs : List Int} (h : f ∈ xs) : hasL xs f = true := by unfold hasL; rw [List.contains_iff_mem]; exact h
theorem may1 {f a : Int} (h1 : a ≠ 0) (h : f = a) : mayB f [a] = true := by
  unfold mayB
  rw [has_of (f := f) (by simp [h]), riseF_cons, eqK_f.2 h1]; rfl
theorem may2 {f a b : Int} (h1 : a ≠ 0) (h2 : b ≠ 0) (h3 : a < b) (h : f = a ∨ f = b) : mayB f [a, b] = true := by
  unfold mayB
  rw [has_of (f := f) (by simpa using h), riseF_cons, eqK_f.2 h1]
  show (riseF false a [b] && _) = true
  rw [riseF_cons, eqK_f.2 h2, decide_eq_false (by omega)]; rfl
theorem may3 {f a b c : Int} (h1 : a ≠ 0) (h2 : b ≠ 0) (h4 : c ≠ 0) (h3 : a < b) (h5 : b < c) (h : f = a ∨ f = b ∨ f = c) : mayB f [a, b, c] = true := by
  unfold mayB
  rw [has_of (f := f) (by simpa using h), riseF_cons, eqK_f.2 h1]
  show (riseF false a [b, c] && _) = true
  rw [riseF_cons, eqK_f.2 h2, decide_eq_false (by omega)]
  show (riseF false b [c] && _) = true
  rw [riseF_cons, eqK_f.2 h4, decide_eq_false (by omega)]; rfl
/-- What a change that is done makes is what may be. -/
theorem may_do {f kd ad : Int} {xs : List Int} (h : mayB f xs = true) (h0 : doE f xs kd ad = 0) : mayB (doA f xs kd ad) (doL f xs kd ad) = true := by
  unfold doE at h0
  unfold doA doL
  by_cases hk : 1 ≤ kd ∧ kd ≤ 3
  · obtain ⟨k1, k3⟩ := hk
    have hk : kd = 1 ∨ kd = 2 ∨ kd = 3 := by omega
    rcases hk with rfl | rfl | rfl
    · rw [doF1 h] at h0 ⊢
      split at h0
      · simp at h0
      · rename_i a0
        rw [if_neg a0]
        split at h0
        · simp at h0
        · rename_i a1
          rw [if_neg a1]
          split at h0
          · simp at h0
          · rename_i a2
            rw [if_neg a2]
            rcases mayB_len h with ⟨a, rfl, h1, rfl⟩ | ⟨a, b, rfl, h1, h2, h3, hf⟩ | ⟨a, b, c, rfl, _⟩
            · simp only [List.mem_cons, List.not_mem_nil, or_false] at a1
              by_cases c1 : f < ad
              · simp only [posL, if_pos c1, insL]; exact may2 h1 a0 c1 (.inl rfl)
              · simp only [posL, if_neg c1, insL]; exact may2 a0 h1 (by omega) (.inr rfl)
            · simp only [List.mem_cons, List.not_mem_nil, or_false, not_or] at a1
              by_cases c1 : a < ad
              · by_cases c2 : b < ad
                · simp only [posL, if_pos c1, if_pos c2, insL]; exact may3 h1 h2 a0 h3 c2 (by rcases hf with e | e <;> simp [e])
                · simp only [posL, if_pos c1, if_neg c2, insL]; exact may3 h1 a0 h2 c1 (by omega) (by rcases hf with e | e <;> simp [e])
              · simp only [posL, if_neg c1, insL]; exact may3 a0 h1 h2 (by omega) h3 (by rcases hf with e | e <;> simp [e])
            · simp at a2
    · rw [doF2 h] at h0 ⊢
      split at h0
      · rename_i a1
        rw [if_pos a1]
        split at h0
        · simp at h0
        · rename_i a2
          rw [if_neg a2]
          rcases mayB_len h with ⟨a, rfl, h1, rfl⟩ | ⟨a, b, rfl, h1, h2, h3, hf⟩ | ⟨a, b, c, rfl, h1, h2, h4, h3, h5, hf⟩
          · simp at a1; exact absurd a1 a2
          · simp only [List.mem_cons, List.not_mem_nil, or_false] at a1
            rcases a1 with rfl | rfl
            · simp only [posL, if_neg (Int.lt_irrefl _), delL]; exact may1 h2 (by rcases hf with e | e; exact absurd e.symm a2; exact e)
            · simp only [posL, if_pos h3, if_neg (Int.lt_irrefl _), delL]; exact may1 h1 (by rcases hf with e | e; exact e; exact absurd e.symm a2)
          · simp only [List.mem_cons, List.not_mem_nil, or_false] at a1
            rcases a1 with rfl | rfl | rfl
            · simp only [posL, if_neg (Int.lt_irrefl _), delL]; exact may2 h2 h4 h5 (by rcases hf with e | e | e; exact absurd e.symm a2; exact .inl e; exact .inr e)
            · simp only [posL, if_pos h3, if_neg (Int.lt_irrefl _), delL]; exact may2 h1 h4 (by omega) (by rcases hf with e | e | e; exact .inl e; exact absurd e.symm a2; exact .inr e)
            · simp only [posL, if_pos h5, if_pos (show _ < _ from Int.lt_trans h3 h5), if_neg (Int.lt_irrefl _), delL]; exact may2 h1 h2 h3 (by rcases hf with e | e | e; exact .inl e; exact .inr e; exact absurd e.symm a2)
      · simp at h0
    · rw [doF3 h] at h0 ⊢
      split at h0
      · rename_i a1
        rw [if_pos a1]
        rcases mayB_len h with ⟨a, rfl, h1, rfl⟩ | ⟨a, b, rfl, h1, h2, h3, hf⟩ | ⟨a, b, c, rfl, h1, h2, h4, h3, h5, hf⟩
        · exact may1 h1 (by simpa using a1)
        · exact may2 h1 h2 h3 (by simpa using a1)
        · exact may3 h1 h2 h4 h3 h5 (by simpa using a1)
      · simp at h0
  · rw [doFe (fun c => hk c.2)] at h0
    simp at h0
theorem okUs_iff {xs : List Int} : okUs xs = true ↔ ∀ x ∈ xs, 0 ≤ x := by
  unfold okUs okU
  rw [List.all_eq_true]
  exact ⟨fun h x hx => of_decide_eq_true (h x hx), fun h x hx => decide_eq_true (h x hx)⟩
theorem okUs_doL {f : Int} {xs : List Int} {kd ad : Int} (h : okUs xs = true) (ha : 0 ≤ ad) : okUs (doL f xs kd ad) = true := by
  rw [okUs_iff] at h ⊢
  intro x hx
  unfold doL doF at hx
  repeat' split at hx
  all_goals simp only [List.not_mem_nil, insL, delL, List.mem_append, List.mem_cons] at hx
  all_goals first
    | exact h x hx
    | (rcases hx with hx | rfl | hx
       · exact h x (List.mem_of_mem_take hx)
       · exact ha
       · exact h x (List.mem_of_mem_drop hx))
    | (rcases hx with hx | hx
       · exact h x (List.mem_of_mem_take hx)
       · exact h x (List.mem_of_mem_drop hx))
end Go.Spec
