/- A heap of timers: what going up and down does; what is told. Plain facts. No conditions. -/
import Derived.Test.YtoikhfkfihejmaaWhD
import Derived.Test.YtoikhfkfihejmaaEvD
set_option linter.unusedVariables false
namespace Go.Spec
open Go Go.Ev
theorem tlt_iff {a b : Tm} : tlt a b = true ↔ a.1 < b.1 ∨ (a.1 = b.1 ∧ a.2 < b.2) := by
  unfold tlt; simp
theorem tlt_no {a b : Tm} : tlt a b = false ↔ b.1 < a.1 ∨ (b.1 = a.1 ∧ b.2 ≤ a.2) := by
  rw [← Bool.not_eq_true, tlt_iff]
  constructor
  · intro h; omega
  · intro h; omega
theorem hatE (H : List Tm) (i : Nat) : hat H i = (H[i]?).getD tz := List.getD_eq_getElem?_getD ..
theorem swH_len (H : List Tm) (i k : Nat) : (swH H i k).length = H.length := by unfold swH; rw [List.length_set, List.length_set]
theorem swH_at {H : List Tm} {i k : Nat} (hi : i < H.length) (hk : k < H.length) (j : Nat) : hat (swH H i k) j = if j = k then hat H i else if j = i then hat H k else hat H j := by
  rw [hatE]
  unfold swH
  rw [List.getElem?_set, List.length_set]
  by_cases h1 : k = j
  · rw [if_pos h1, if_pos hk, if_pos h1.symm]; rfl
  · rw [if_neg h1, List.getElem?_set, if_neg (fun e : j = k => h1 e.symm)]
    by_cases h2 : i = j
    · rw [if_pos h2, if_pos hi, if_pos h2.symm]; rfl
    · rw [if_neg h2, if_neg (fun e : j = i => h2 e.symm), hatE]
theorem swH_perm {H : List Tm} {i k : Nat} (hi : i < H.length) (hk : k < H.length) : (swH H i k).Perm H := by
  unfold swH hat
  rw [List.getD_eq_getElem?_getD, List.getD_eq_getElem?_getD, List.getElem?_eq_getElem hi, List.getElem?_eq_getElem hk]
  exact List.set_set_perm hi hk
def HeapH (H : List Tm) : Prop := ∀ j, 0 < j → j < H.length → tlt (hat H j) (hat H (par j)) = false
def UpOk (H : List Tm) (i : Nat) : Prop := (∀ j, 0 < j → j < H.length → j ≠ i → tlt (hat H j) (hat H (par j)) = false) ∧ (∀ j, 0 < j → j < H.length → par j = i → 0 < i → tlt (hat H j) (hat H (par i)) = false)
theorem up_ok : ∀ (f i : Nat) (H : List Tm), i ≤ f → i < H.length → UpOk H i → HeapH (upH f H i) ∧ (upH f H i).Perm H
  | 0, i, H, hf, hi, h => by
    unfold upH
    exact ⟨fun j h1 h2 => h.1 j h1 h2 (by omega), List.Perm.refl _⟩
  | f + 1, i, H, hf, hi, h => by
    unfold upH
    by_cases hc : 0 < i ∧ tlt (hat H i) (hat H (par i)) = true
    · rw [if_pos hc]
      have hp : par i < i := by unfold par; omega
      have hpl : par i < H.length := by omega
      have hlt := hc.2
      obtain ⟨a, b⟩ := up_ok f (par i) (swH H i (par i)) (by omega) (by rw [swH_len]; omega) (by
        refine ⟨fun j h1 h2 h3 => ?_, fun j h1 h2 h3 h4 => ?_⟩
        · rw [swH_len] at h2
          rw [swH_at hi hpl, swH_at hi hpl, if_neg h3]
          by_cases e : j = i
          · subst e
            rw [if_pos rfl, if_pos rfl]
            rw [tlt_no]; rw [tlt_iff] at hlt; omega
          · rw [if_neg e]
            by_cases e2 : par j = par i
            · rw [if_pos e2]
              have h5 := h.1 j h1 h2 e
              rw [e2] at h5
              rw [tlt_no] at h5 ⊢; rw [tlt_iff] at hlt; omega
            · rw [if_neg e2]
              by_cases e3 : par j = i
              · rw [if_pos e3]
                exact h.2 j h1 h2 e3 hc.1
              · rw [if_neg e3]
                exact h.1 j h1 h2 e
        · rw [swH_len] at h2
          have hpp : par (par i) < par i := by unfold par at h4 ⊢; omega
          rw [swH_at hi hpl, swH_at hi hpl, if_neg (show ¬ par (par i) = par i by omega), if_neg (show ¬ par (par i) = i by omega)]
          have h5 := h.1 (par i) h4 hpl (by omega)
          have hj : j ≠ par i := by
            intro e; subst e; omega
          rw [if_neg hj]
          by_cases e : j = i
          · subst e; rw [if_pos rfl]; exact h5
          · rw [if_neg e]
            have h6 := h.1 j h1 h2 e
            rw [h3] at h6
            rw [tlt_no] at h5 h6 ⊢; omega)
      exact ⟨a, b.trans (swH_perm hi hpl)⟩
    · rw [if_neg hc]
      refine ⟨fun j h1 h2 => ?_, List.Perm.refl _⟩
      by_cases e : j = i
      · subst e
        cases ht : tlt (hat H j) (hat H (par j)) with
        | false => rfl
        | true => exact absurd ⟨h1, ht⟩ hc
      · exact h.1 j h1 h2 e
theorem kid_in (H : List Tm) (i : Nat) : (kid H i = 2 * i + 1 ∨ kid H i = 2 * i + 2) ∧ par (kid H i) = i ∧ i < kid H i := by
  unfold kid
  split
  · refine ⟨.inr rfl, ?_, by omega⟩; unfold par; omega
  · refine ⟨.inl rfl, ?_, by omega⟩; unfold par; omega
/-- No child of i is less than the one that is chosen. -/
theorem kid_least (H : List Tm) {i j : Nat} (h1 : 0 < j) (h2 : j < H.length) (h3 : par j = i) : tlt (hat H j) (hat H (kid H i)) = false := by
  have hj : j = 2 * i + 1 ∨ j = 2 * i + 2 := by unfold par at h3; omega
  unfold kid
  by_cases hc : 2 * i + 2 < H.length ∧ tlt (hat H (2 * i + 2)) (hat H (2 * i + 1)) = true
  · rw [if_pos hc]
    have ht := hc.2
    rcases hj with rfl | rfl
    · rw [tlt_iff] at ht; rw [tlt_no]; omega
    · rw [tlt_no]; omega
  · rw [if_neg hc]
    rcases hj with rfl | rfl
    · rw [tlt_no]; omega
    · cases ht : tlt (hat H (2 * i + 2)) (hat H (2 * i + 1)) with
      | false => rfl
      | true => exact absurd ⟨h2, ht⟩ hc
def DownOk (H : List Tm) (i : Nat) : Prop := (∀ j, 0 < j → j < H.length → par j ≠ i → tlt (hat H j) (hat H (par j)) = false) ∧ (∀ j, 0 < j → j < H.length → par j = i → 0 < i → tlt (hat H j) (hat H (par i)) = false)
theorem down_ok : ∀ (f i : Nat) (H : List Tm), H.length ≤ i + f → i < H.length → DownOk H i → HeapH (downH f H i) ∧ (downH f H i).Perm H
  | 0, i, H, hf, hi, h => by omega
  | f + 1, i, H, hf, hi, h => by
    unfold downH
    obtain ⟨k1, k2, k3⟩ := kid_in H i
    by_cases hc : kid H i < H.length ∧ tlt (hat H (kid H i)) (hat H i) = true
    · rw [if_pos hc]
      have hk := hc.1
      have hlt := hc.2
      have hm := fun (j : Nat) (h1 : 0 < j) (h2 : j < H.length) (h3 : par j = i) => kid_least H h1 h2 h3
      generalize kid H i = c at k1 k2 k3 hk hlt hm ⊢
      obtain ⟨a, b⟩ := down_ok f c (swH H i c) (by rw [swH_len]; omega) (by rw [swH_len]; omega) (by
        refine ⟨fun j h1 h2 h3 => ?_, fun j h1 h2 h3 h4 => ?_⟩
        · rw [swH_len] at h2
          have hpj : par j < j := by unfold par; omega
          rw [swH_at hi hk, swH_at hi hk, if_neg h3]
          by_cases e : j = c
          · subst e
            rw [if_pos rfl, k2, if_pos rfl]
            rw [tlt_no]; rw [tlt_iff] at hlt; omega
          · rw [if_neg e]
            by_cases e2 : par j = i
            · rw [if_pos e2, if_neg (show j ≠ i by omega)]
              exact hm j h1 h2 e2
            · rw [if_neg e2]
              have h5 := h.1 j h1 h2 e2
              by_cases e3 : j = i
              · subst e3
                rw [if_pos rfl]
                exact h.2 c (by omega) hk k2 h1
              · rw [if_neg e3]; exact h5
        · rw [swH_len] at h2
          have hpj : par j < j := by unfold par; omega
          rw [swH_at hi hk, swH_at hi hk, k2, if_neg (show i ≠ c by omega), if_pos rfl, if_neg (show j ≠ c by omega), if_neg (show j ≠ i by omega)]
          have h5 := h.1 j h1 h2 (by omega)
          rw [h3] at h5
          exact h5)
      exact ⟨a, b.trans (swH_perm hi hk)⟩
    · rw [if_neg hc]
      refine ⟨fun j h1 h2 => ?_, List.Perm.refl _⟩
      by_cases e : par j = i
      · have h5 := kid_least H h1 h2 e
        rw [e]
        by_cases hk : kid H i < H.length
        · cases ht : tlt (hat H (kid H i)) (hat H i) with
          | false => rw [tlt_no] at h5 ht ⊢; omega
          | true => exact absurd ⟨hk, ht⟩ hc
        · exfalso
          unfold par at e
          unfold kid at hk
          split at hk
          · rename_i hh
            exact hk hh.1
          · omega
      · exact h.1 j h1 h2 e
theorem heap_min {H : List Tm} (h : HeapH H) : ∀ (n j : Nat), j ≤ n → j < H.length → tlt (hat H j) (hat H 0) = false
  | 0, j, h1, h2 => by
    rw [show j = 0 by omega, tlt_no]; omega
  | n + 1, j, h1, h2 => by
    by_cases e : j = 0
    · subst e; rw [tlt_no]; omega
    · have hp : par j < j := by unfold par; omega
      have h3 := heap_min h n (par j) (by omega) (by omega)
      have h4 := h j (by omega) h2
      rw [tlt_no] at h3 h4 ⊢
      omega
theorem cutH_len {H : List Tm} {i : Nat} : (cutH H i).length = H.length - 1 := by
  unfold cutH; rw [List.length_take, swH_len]; omega
theorem cutH_at {H : List Tm} {i : Nat} (hi : i < H.length) {j : Nat} (hj : j < H.length - 1) : hat (cutH H i) j = if j = i then hat H (H.length - 1) else hat H j := by
  have h := swH_at hi (show H.length - 1 < H.length by omega) j
  rw [if_neg (show j ≠ H.length - 1 by omega)] at h
  rw [← h]
  unfold cutH hat
  rw [List.getD_eq_getElem?_getD, List.getD_eq_getElem?_getD, List.getElem?_take, if_pos hj]
theorem cutH_perm {H : List Tm} {i : Nat} (hi : i < H.length) : (hat H i :: cutH H i).Perm H := by
  have h := swH_perm hi (show H.length - 1 < H.length by omega)
  have e : swH H i (H.length - 1) = cutH H i ++ [hat H i] := by
    have hl := swH_len H i (H.length - 1)
    refine List.ext_getElem (by rw [List.length_append, cutH_len, hl]; simp; omega) fun j h1 h2 => ?_
    by_cases hj : j < H.length - 1
    · rw [List.getElem_append_left (by rw [cutH_len]; exact hj)]
      unfold cutH
      rw [List.getElem_take]
    · have hj : j = H.length - 1 := by rw [hl] at h1; omega
      rw [List.getElem_append_right (by rw [cutH_len]; omega)]
      have h3 := swH_at hi (show H.length - 1 < H.length by omega) j
      rw [if_pos hj] at h3
      unfold hat at h3
      rw [List.getD_eq_getElem?_getD, List.getElem?_eq_getElem h1] at h3
      simp only [Option.getD_some] at h3
      rw [h3]
      simp [hat]
  rw [e] at h
  exact (List.perm_append_comm (l₁ := [hat H i]) (l₂ := cutH H i)).trans h
theorem down_same {f i : Nat} {H : List Tm} (h : HeapH H) : downH f H i = H := by
  cases f with
  | zero => rfl
  | succ f =>
    unfold downH
    obtain ⟨k1, k2, k3⟩ := kid_in H i
    rw [if_neg]
    intro hc
    have := h (kid H i) (by omega) hc.1
    rw [k2, hc.2] at this
    cases this
theorem stop_ok {H : List Tm} (h : HeapH H) {i : Nat} (hi : i < H.length) : HeapH (stopH H i) ∧ (hat H i :: stopH H i).Perm H := by
  unfold stopH
  have hp := cutH_perm hi
  have hl := cutH_len (H := H) (i := i)
  by_cases hc : i < H.length - 1
  · rw [if_pos hc]
    have at_ := fun (j : Nat) (hj : j < H.length - 1) => cutH_at hi hj
    by_cases hu : 0 < i ∧ tlt (hat (cutH H i) i) (hat (cutH H i) (par i)) = true
    · -- it goes up
      have hpi : par i < i := by unfold par; omega
      have hlt := hu.2
      obtain ⟨a, b⟩ := up_ok H.length i (cutH H i) (by omega) (by omega) (by
        refine ⟨fun j h1 h2 h3 => ?_, fun j h1 h2 h3 h4 => ?_⟩
        · rw [hl] at h2
          have hpj : par j < j := by unfold par; omega
          have h5 := h j h1 (by omega)
          rw [at_ j h2, if_neg h3]
          by_cases e : par j = i
          · rw [e]
            have h6 := h i hu.1 hi
            rw [at_ (par i) (by omega), if_neg (by omega)] at hlt
            rw [e] at h5
            rw [tlt_iff] at hlt; rw [tlt_no] at h5 h6 ⊢; omega
          · rw [at_ (par j) (by omega), if_neg e]; exact h5
        · rw [hl] at h2
          have hpj : par j < j := by unfold par; omega
          have h5 := h j h1 (by omega)
          have h6 := h i hu.1 hi
          rw [at_ j h2, if_neg (by omega), at_ (par i) (by omega), if_neg (by omega)]
          rw [h3] at h5
          rw [tlt_no] at h5 h6 ⊢; omega)
      rw [down_same a]
      exact ⟨a, (List.Perm.cons _ b).trans hp⟩
    · have hs : upH H.length (cutH H i) i = cutH H i := by
        cases hn : H.length with
        | zero => rfl
        | succ n => unfold upH; rw [if_neg hu]
      rw [hs]
      obtain ⟨a, b⟩ := down_ok H.length i (cutH H i) (by omega) (by omega) (by
        refine ⟨fun j h1 h2 h3 => ?_, fun j h1 h2 h3 h4 => ?_⟩
        · rw [hl] at h2
          have hpj : par j < j := by unfold par; omega
          by_cases e : j = i
          · subst e
            cases ht : tlt (hat (cutH H j) j) (hat (cutH H j) (par j)) with
            | false => rfl
            | true => exact absurd ⟨h1, ht⟩ hu
          · rw [at_ j h2, if_neg e, at_ (par j) (by omega), if_neg h3]
            exact h j h1 (by omega)
        · rw [hl] at h2
          have hpj : par j < j := by unfold par; omega
          have hpi : par i < i := by unfold par; omega
          have h5 := h j h1 (by omega)
          have h6 := h i h4 hi
          rw [at_ j h2, if_neg (by omega), at_ (par i) (by omega), if_neg (by omega)]
          rw [h3] at h5
          rw [tlt_no] at h5 h6 ⊢; omega)
      exact ⟨a, (List.Perm.cons _ b).trans hp⟩
  · rw [if_neg hc]
    refine ⟨fun j h1 h2 => ?_, hp⟩
    rw [hl] at h2
    have hpj : par j < j := by unfold par; omega
    rw [cutH_at hi h2, if_neg (by omega), cutH_at hi (by omega), if_neg (by omega)]
    exact h j h1 (by omega)
theorem hat_app {H : List Tm} {t : Tm} {j : Nat} (h : j < H.length) : hat (H ++ [t]) j = hat H j := by
  unfold hat
  rw [List.getD_eq_getElem?_getD, List.getElem?_append_left h]; rfl
theorem push_ok {H : List Tm} (h : HeapH H) (t : Tm) : HeapH (pushH H t) ∧ (pushH H t).Perm (t :: H) := by
  obtain ⟨a, b⟩ := up_ok (H.length + 1) H.length (H ++ [t]) (by omega) (by simp) (by
    refine ⟨fun j h1 h2 h3 => ?_, fun j h1 h2 h3 h4 => ?_⟩
    · simp only [List.length_append, List.length_cons, List.length_nil] at h2
      have hpj : par j < j := by unfold par; omega
      rw [hat_app (by omega), hat_app (by omega)]
      exact h j h1 (by omega)
    · simp only [List.length_append, List.length_cons, List.length_nil] at h2
      unfold par at h3
      omega)
  exact ⟨a, b.trans (List.perm_append_comm (l₁ := H) (l₂ := [t]))⟩
theorem hat_mem {H : List Tm} {i : Nat} (h : i < H.length) : hat H i ∈ H := by
  unfold hat
  rw [List.getD_eq_getElem?_getD, List.getElem?_eq_getElem h]
  exact List.getElem_mem h
theorem mem_hat {H : List Tm} {t : Tm} (h : t ∈ H) : ∃ i, i < H.length ∧ hat H i = t := by
  obtain ⟨i, h1, h2⟩ := List.getElem_of_mem h
  refine ⟨i, h1, ?_⟩
  unfold hat
  rw [List.getD_eq_getElem?_getD, List.getElem?_eq_getElem h1]
  exact h2
theorem heap_top {H K : List Tm} (h : HeapH H) (k : HeapH K) (p : H.Perm K) (hl : 0 < H.length) : hat H 0 = hat K 0 := by
  have hk : 0 < K.length := by rw [← p.length_eq]; exact hl
  obtain ⟨i, i1, i2⟩ := mem_hat (p.mem_iff.1 (hat_mem hl))
  obtain ⟨j, j1, j2⟩ := mem_hat (p.mem_iff.2 (hat_mem hk))
  have h1 := heap_min h j j (Nat.le_refl _) j1
  have h2 := heap_min k i i (Nat.le_refl _) i1
  rw [j2] at h1
  rw [i2] at h2
  rw [tlt_no] at h1 h2
  exact Prod.ext (by omega) (by omega)
/-- How a heap came to be makes no difference to what is told. -/
theorem told_same (now : Int) : ∀ (f : Nat) (H K : List Tm), HeapH H → HeapH K → H.Perm K → (toldH now f H).1 = (toldH now f K).1 ∧ (toldH now f H).2.Perm (toldH now f K).2
  | 0, H, K, h, k, p => ⟨rfl, p⟩
  | f + 1, H, K, h, k, p => by
    unfold toldH
    have hl := p.length_eq
    by_cases hn : 0 < H.length
    · have ht := heap_top h k p hn
      rw [← ht, ← hl]
      by_cases hc : 0 < H.length ∧ (hat H 0).1 ≤ now
      · rw [if_pos hc, if_pos hc]
        obtain ⟨a1, a2⟩ := stop_ok h hn
        obtain ⟨b1, b2⟩ := stop_ok k (show 0 < K.length by omega)
        have hp : (stopH H 0).Perm (stopH K 0) := by
          have := (a2.trans p).trans b2.symm
          rw [← ht] at this
          exact (List.perm_cons _).1 this
        obtain ⟨c1, c2⟩ := told_same now f _ _ a1 b1 hp
        exact ⟨by rw [c1], c2⟩
      · rw [if_neg hc, if_neg hc]
        exact ⟨rfl, p⟩
    · rw [if_neg (fun hc => hn hc.1), if_neg (fun hc => by omega)]
      exact ⟨rfl, p⟩
end Go.Spec
