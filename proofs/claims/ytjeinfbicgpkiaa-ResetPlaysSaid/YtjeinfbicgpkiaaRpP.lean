/- ResetPlays, in plain words: what is meant by a wish's streams, told in two ways. No conditions. -/
import Derived.Test.YtjeinfbicgpkiaaGpD
import Derived.Test.YtjeinfbicgpkiaaMaS
set_option linter.unusedVariables false
set_option linter.unusedSimpArgs false
namespace Go.Ev
open Go Go.Proofs Go.Spec
theorem inR_mem {v : Int} : ∀ {xs : List Int}, inR v xs = true ↔ v ∈ xs
  | [] => by simp [inR]
  | x :: r => by
    rw [inR]
    cases e : eqK x v with
    | true => rw [eqK_t] at e; simp [e]
    | false =>
      rw [eqK_f] at e
      simp only [List.mem_cons]
      rw [inR_mem]
      constructor
      · exact Or.inr
      · rintro (h | h)
        · exact absurd h.symm e
        · exact h
theorem inB_iff {xs : List Int} {v : Int} : inB xs v = true ↔ v ∈ xs ∨ xs = [] := by
  unfold inB
  cases e : inR v xs with
  | true => simp [inR_mem.1 e]
  | false =>
    have h : ¬ v ∈ xs := fun h => by rw [inR_mem.2 h] at e; cases e
    simp only [h, false_or]
    rw [eqK_t]
    constructor
    · intro h; exact List.eq_nil_of_length_eq_zero (by omega)
    · intro h; subst h; rfl
theorem mem_upI : ∀ {c : Nat} {i x : Int}, x ∈ upI i c ↔ i ≤ x ∧ x < i + c
  | 0, i, x => by simp [upI]
  | c + 1, i, x => by
    simp only [upI, List.mem_cons]
    rw [mem_upI]
    omega
theorem mem_allOf {xs : List Int} {n : Nat} {v : Int} (h : 0 ≤ v ∧ v < n) : v ∈ allOf xs n ↔ inB xs v = true := by
  rw [inB_iff]
  unfold allOf
  cases xs with
  | nil => simp; rw [mem_upI]; omega
  | cons x r => simp
theorem hasAll {xs : List Int} {n : Nat} {v : Int} (h : 0 ≤ v ∧ v < n) : hasL (allOf xs n) v = inB xs v := by
  rw [Bool.eq_iff_iff]
  unfold hasL
  rw [List.contains_iff_mem, mem_allOf h]
theorem allOf_lt {xs : List Int} {n : Nat} (h : allLt n xs = true) : ∀ x ∈ allOf xs n, 0 ≤ x ∧ x < (n : Int) := by
  intro x hx
  unfold allOf at hx
  split at hx
  · exact of_decide_eq_true (List.all_eq_true.1 h x hx)
  · have := mem_upI.1 hx; omega
theorem idxOp_iff {ps : List Int} : ∀ {ys : List Int} {i : Int}, 0 ≤ i → (idxOp ps ys i ≥ 0 ↔ ∃ x ∈ ys, ps.getD x.toNat 0 > 0)
  | [], i, _ => by simp [idxOp]
  | y :: r, i, h => by
    rw [idxOp]
    by_cases e : ps.getD y.toNat 0 > 0
    · rw [decide_eq_true e]
      simp only [List.mem_cons]
      exact ⟨fun _ => ⟨y, Or.inl rfl, e⟩, fun _ => h⟩
    · rw [decide_eq_false e]
      dsimp only
      rw [idxOp_iff (by omega)]
      constructor
      · rintro ⟨x, hx, hp⟩; exact ⟨x, List.mem_cons_of_mem _ hx, hp⟩
      · rintro ⟨x, hx, hp⟩
        rcases List.mem_cons.1 hx with rfl | hx
        · exact absurd hp e
        · exact ⟨x, hx, hp⟩
theorem opR_iff {xs ps : List Int} : ∀ {m i : Nat}, opR xs ps m i = true ↔ ∃ j : Nat, i ≤ j ∧ j < i + m ∧ inB xs j = true ∧ ps.getD j 0 > 0
  | 0, i => by simp [opR]; intro x h1 h2; omega
  | m + 1, i => by
    rw [opR]
    cases e : (inB xs i && decide (ps.getD i 0 > 0)) with
    | true =>
      rw [Bool.and_eq_true_iff] at e
      exact ⟨fun _ => ⟨i, by omega, by omega, e.1, of_decide_eq_true e.2⟩, fun _ => rfl⟩
    | false =>
      dsimp only
      rw [opR_iff]
      constructor
      · rintro ⟨j, h1, h2, h3⟩; exact ⟨j, by omega, by omega, h3⟩
      · rintro ⟨j, h1, h2, h3, h4⟩
        by_cases hj : j = i
        · subst hj; rw [h3, decide_eq_true h4] at e; cases e
        · exact ⟨j, by omega, by omega, h3, h4⟩
theorem open_eq {xs ps : List Int} {n : Nat} (h : allLt n xs = true) : decide (idxOp ps (allOf xs n) 0 ≥ 0) = opR xs ps n 0 := by
  rw [Bool.eq_iff_iff, decide_eq_true_iff, idxOp_iff (by omega), opR_iff]
  constructor
  · rintro ⟨x, hx, hp⟩
    have hb := allOf_lt h x hx
    refine ⟨x.toNat, by omega, by omega, ?_, hp⟩
    have e : ((x.toNat : Nat) : Int) = x := by omega
    rw [e]; exact (mem_allOf hb).1 hx
  · rintro ⟨j, h1, h2, h3, h4⟩
    refine ⟨(j : Int), (mem_allOf (by omega)).2 h3, ?_⟩
    have e : ((j : Nat) : Int).toNat = j := by omega
    rw [e]; exact h4
theorem may_eq {s : Sr} {d : Dr} {wk wm : Int} {xs : List Int} (hu : okU16 xs = true) (h1 : d.os = s.os) (h2 : d.ps = s.ps) : mayD d wk xs wm = (match decide (mayR s wk xs wm = 0) && d.is with
    | true => 6
    | false => mayR s wk xs wm) := by
  unfold mayD mayR
  rw [h1, h2]
  cases argB wk wm xs.length
  rotate_left
  · rfl
  dsimp only
  cases decide ((s.os.length : Int) + wm > 16)
  rotate_left
  · rfl
  dsimp only
  cases e : thereB ((s.os.length : Nat) : Int) xs
  · rfl
  dsimp only
  rw [open_eq (allLt_of hu e)]
  cases (eqK wk 1 && opR xs s.ps s.os.length 0)
  rotate_left
  · rfl
  dsimp only
  cases d.is <;> rfl
theorem getD_set' (qs : List Int) (i j : Nat) (hi : i < qs.length) : (qs.set i 0).getD j 0 = if i = j then 0 else qs.getD j 0 := by
  rw [List.getD_eq_getElem?_getD, List.getElem?_set]
  split
  · rename_i e; subst e; simp [hi]
  · rw [List.getD_eq_getElem?_getD]
theorem resetL_len : ∀ (xs qs : List Int), (resetL xs qs).length = qs.length
  | [], _ => rfl
  | x :: r, qs => by rw [resetL, resetL_len r, List.length_set]
theorem clrR_len (xs : List Int) : ∀ (m i : Nat) (qs : List Int), (clrR xs m i qs).length = qs.length
  | 0, _, _ => rfl
  | m + 1, i, qs => by
    rw [clrR]
    split
    · rw [clrR_len xs m, List.length_set]
    · exact clrR_len xs m _ _
theorem resetL_get : ∀ (ys qs : List Int) (j : Nat), (∀ y ∈ ys, 0 ≤ y ∧ y < (qs.length : Int)) → (resetL ys qs).getD j 0 = if (j : Int) ∈ ys then 0 else qs.getD j 0
  | [], qs, j, _ => by simp [resetL]
  | y :: r, qs, j, h => by
    have hy := h y (List.mem_cons_self ..)
    rw [resetL, resetL_get r _ j (fun z hz => by rw [List.length_set]; exact h z (List.mem_cons_of_mem _ hz)), getD_set' _ _ _ (by omega)]
    by_cases e : y.toNat = j
    · have : (j : Int) = y := by omega
      simp [e, this]
    · have : ¬ (j : Int) = y := by omega
      simp [e, this]
theorem clrR_get (xs : List Int) : ∀ (m i : Nat) (qs : List Int) (j : Nat), i + m ≤ qs.length → (clrR xs m i qs).getD j 0 = if i ≤ j ∧ j < i + m ∧ inB xs j = true then 0 else qs.getD j 0
  | 0, i, qs, j, _ => by
    rw [clrR, if_neg (by omega)]
  | m + 1, i, qs, j, h => by
    rw [clrR]
    cases e : inB xs i with
    | true =>
      dsimp only
      rw [clrR_get xs m (i + 1) _ j (by rw [List.length_set]; omega), getD_set' _ _ _ (by omega)]
      by_cases hj : i = j
      · subst hj
        rw [if_neg (by omega), if_pos rfl, if_pos ⟨by omega, by omega, e⟩]
      · rw [if_neg hj]
        by_cases hc : i + 1 ≤ j ∧ j < i + 1 + m ∧ inB xs j = true
        · rw [if_pos hc, if_pos ⟨by omega, by omega, hc.2.2⟩]
        · rw [if_neg hc, if_neg (fun hh => hc ⟨by omega, by omega, hh.2.2⟩)]
    | false =>
      dsimp only
      rw [clrR_get xs m (i + 1) qs j (by omega)]
      by_cases hc : i + 1 ≤ j ∧ j < i + 1 + m ∧ inB xs j = true
      · rw [if_pos hc, if_pos ⟨by omega, by omega, hc.2.2⟩]
      · rw [if_neg hc, if_neg]
        rintro ⟨h1, h2, h3⟩
        by_cases hj : i = j
        · subst hj; rw [e] at h3; cases h3
        · exact hc ⟨by omega, by omega, h3⟩
theorem ext_getD {a b : List Int} (hl : a.length = b.length) (h : ∀ j, j < a.length → a.getD j 0 = b.getD j 0) : a = b := by
  apply List.ext_getElem hl
  intro i h1 h2
  have := h i h1
  rw [List.getD_eq_getElem?_getD, List.getD_eq_getElem?_getD, List.getElem?_eq_getElem h1, List.getElem?_eq_getElem h2] at this
  exact this
theorem reset_clr {xs qs : List Int} (h : allLt qs.length xs = true) : resetL (allOf xs qs.length) qs = clrR xs qs.length 0 qs := by
  apply ext_getD
  · rw [resetL_len, clrR_len]
  · intro j hj
    rw [resetL_len] at hj
    rw [resetL_get _ _ _ (allOf_lt h), clrR_get _ _ _ _ _ (by omega)]
    have hm := mem_allOf (xs := xs) (n := qs.length) (v := (j : Int)) (by omega)
    by_cases e : inB xs j = true
    · rw [if_pos (hm.2 e), if_pos ⟨by omega, by omega, e⟩]
    · rw [if_neg (fun hh => e (hm.1 hh)), if_neg (fun hh => e hh.2.2)]
end Go.Ev
