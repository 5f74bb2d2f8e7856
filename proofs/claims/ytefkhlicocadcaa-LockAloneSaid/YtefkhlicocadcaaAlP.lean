/- LockAlone: one lock alone: its row is who holds it and who waits. Plain; no program. No conditions. -/
import Derived.Test.YtefkhlicocadcaaLkP
set_option linter.unusedVariables false
set_option linter.unusedSimpArgs false
namespace Go.Spec
open Go Go.Ev
structure Alone (D : LkD) (C n : Int) (row : List Int) : Prop where
  ho : D.ho (C, n) = row.head?
  qu : D.qu (C, n) = row.tail
  wa : ∀ t, D.wa t = if t ∈ row.tail then some (C, n) else none
  hs : ∀ t, D.hs t = if row.head? = some t then [(C, n)] else []
  nd : row.Nodup
theorem Alone.new (C n : Int) : Alone newD C n [] := ⟨rfl, rfl, fun _ => rfl, fun _ => rfl, List.nodup_nil⟩
theorem Alone.takeE0 {D : LkD} {C n t : Int} {row : List Int} (h : Alone D C n row) (hC : 1 ≤ C ∧ C ≤ 3) (ht : t ∉ row) : takeE D t C n = 0 := by
  have w : D.wa t = none := by rw [h.wa, if_neg fun hm => ht (List.mem_of_mem_tail hm)]
  have s : D.hs t = [] := (h.hs t).trans (if_neg fun hm => ht (List.mem_of_mem_head? hm))
  have g : ¬ (C < 1 ∨ C > 3) := by omega
  simp only [takeE, g, w, s, inH, geH, List.map_nil, inC, geC]
  simp
theorem Alone.takeE6 {D : LkD} {C n t : Int} {row : List Int} (h : Alone D C n row) (hC : 1 ≤ C ∧ C ≤ 3) (ht : t ∈ row) : takeE D t C n = 6 := by
  have g : ¬ (C < 1 ∨ C > 3) := by omega
  have u : (D.wa t).isSome = true ∨ inH (D.hs t) C n = true := by
    match row, ht, h with
    | x :: r, ht, h =>
      rcases List.mem_cons.1 ht with rfl | hr
      · exact Or.inr (inH_iff.2 (by rw [(h.hs t).trans (if_pos (by rfl))]; exact List.mem_cons_self))
      · exact Or.inl (by rw [h.wa, if_pos (show t ∈ (x :: r).tail from hr)]; rfl)
  unfold takeE
  rw [if_neg g, if_pos u]
theorem Alone.takeB {D : LkD} {C n t : Int} {row : List Int} (h : Alone D C n row) (ht : takeE D t C n = 0) : takeB D t C n = decide (row = []) := by
  unfold Go.Spec.takeB
  rw [ht, h.ho]
  cases row <;> simp
theorem Alone.take {D : LkD} {C n t : Int} {row : List Int} (h : Alone D C n row) (hC : 1 ≤ C ∧ C ≤ 3) (ht : t ∉ row) : Alone (takeD D t C n) C n (row ++ [t]) := by
  have e := h.takeE0 hC ht
  have w : D.wa t = none := by rw [h.wa, if_neg fun hm => ht (List.mem_of_mem_tail hm)]
  have s : D.hs t = [] := (h.hs t).trans (if_neg fun hm => ht (List.mem_of_mem_head? hm))
  unfold takeD
  rw [if_pos e]
  match row, h, ht with
  | [], h, ht =>
    have o : D.ho (C, n) = none := h.ho
    rw [o]
    refine ⟨?_, ?_, fun x => ?_, fun x => ?_, ?_⟩
    · simp [getsD, u_same]
    · simpa [getsD] using h.qu
    · simpa [getsD] using h.wa x
    · show upd D.hs t (D.hs t ++ [(C, n)]) x = _
      by_cases hx : x = t
      · subst hx; rw [u_same, s]; simp
      · rw [u_other hx, h.hs]
        simp [Ne.symm hx]
    · simp
  | r0 :: r, h, ht =>
    have o : D.ho (C, n) = some r0 := h.ho
    have q : D.qu (C, n) = r := h.qu
    rw [o]
    refine ⟨?_, ?_, fun x => ?_, fun x => ?_, ?_⟩
    · simpa using o
    · show upd D.qu (C, n) (D.qu (C, n) ++ [t]) (C, n) = _
      rw [u_same, q]; rfl
    · show upd D.wa t (some (C, n)) x = _
      by_cases hx : x = t
      · subst hx; rw [u_same]; simp
      · rw [u_other hx, h.wa]; by_cases hr : x ∈ r <;> simp [hx, hr]
    · show D.hs x = _
      rw [h.hs]; rfl
    · refine List.nodup_append.2 ⟨h.nd, by simp, ?_⟩
      intro a ha b hb he
      rw [List.mem_singleton] at hb
      exact ht (hb ▸ he ▸ ha)
theorem Alone.takeSame {D : LkD} {C n t : Int} {row : List Int} (h : Alone D C n row) (hC : 1 ≤ C ∧ C ≤ 3) (ht : t ∈ row) : takeD D t C n = D := by
  unfold takeD
  rw [h.takeE6 hC ht]; rfl
theorem Alone.giveE {D : LkD} {C n t : Int} {row : List Int} (h : Alone D C n row) : giveE D t C n = if row.head? = some t then 0 else 4 := by
  unfold Go.Spec.giveE; rw [h.ho]
theorem Alone.giveSame {D : LkD} {C n t : Int} {row : List Int} (h : Alone D C n row) (ht : ¬ row.head? = some t) : giveD D t C n = D := by
  unfold giveD; rw [h.ho, if_neg ht]
theorem Alone.give {D : LkD} {C n t : Int} {row : List Int} (h : Alone D C n row) (ht : row.head? = some t) : Alone (giveD D t C n) C n row.tail := by
  unfold giveD
  rw [h.ho, if_pos ht]
  match row, h, ht with
  | x :: q, h, ht =>
    obtain rfl : x = t := by simpa using ht
    have nd := List.nodup_cons.1 h.nd
    have hs : D.hs x = [(C, n)] := (h.hs x).trans (if_pos rfl)
    have less : ∀ y, (lessD D x C n).hs y = [] := by
      intro y
      show upd D.hs x _ y = []
      by_cases hy : y = x
      · subst hy; rw [u_same, hs]; simp
      · rw [u_other hy, h.hs, if_neg]; simpa using Ne.symm hy
    have qu : D.qu (C, n) = q := h.qu
    show Alone (nextD (lessD D x C n) C n) C n q
    unfold nextD
    rw [show (lessD D x C n).qu (C, n) = q from qu]
    match q, h, nd, qu with
    | [], h, nd, qu =>
      refine ⟨?_, qu, fun y => ?_, fun y => ?_, List.nodup_nil⟩
      · simp [lessD, u_same]
      · show D.wa y = _
        rw [h.wa]; rfl
      · rw [less]; rfl
    | z :: r, h, nd, qu =>
      have nz := List.nodup_cons.1 nd.2
      refine ⟨?_, ?_, fun y => ?_, fun y => ?_, nd.2⟩
      · simp [getsD, u_same]
      · simp [getsD, u_same]
      · show upd D.wa z none y = _
        by_cases hy : y = z
        · subst hy; rw [u_same]; exact (if_neg nz.1).symm
        · rw [u_other hy, h.wa]; by_cases hr : y ∈ r <;> simp [hy, hr]
      · show upd (lessD D x C n).hs z ((lessD D x C n).hs z ++ [(C, n)]) y = _
        by_cases hy : y = z
        · subst hy; rw [u_same, less]; simp
        · rw [u_other hy, less, if_neg]; simpa using Ne.symm hy
end Go.Spec
