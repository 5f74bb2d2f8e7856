/- LockServes: what a call does to a lock's queue. Plain; no program. No conditions. -/
import Derived.Test.YtefkhlicocadcaaLkP
set_option linter.unusedVariables false
set_option linter.unusedSimpArgs false
namespace Go.Spec
open Go Go.Ev
theorem take_no {D : LkD} {t c n : Int} (h : takeE D t c n ≠ 0) : takeB D t c n = false ∧ takeD D t c n = D := by
  refine ⟨?_, ?_⟩
  · unfold takeB; rw [decide_eq_false h]; rfl
  · unfold takeD; rw [if_neg h]
theorem take_free {D : LkD} {m : Nat} (wf : WF D m) {t c n : Int} (h : takeE D t c n = 0) (ho : D.ho (c, n) = none) : takeB D t c n = true ∧ hoB D c n = false ∧ quL D c n = [] := by
  refine ⟨?_, ?_, wf.idle _ ho⟩
  · unfold takeB; rw [decide_eq_true h, ho]; rfl
  · unfold hoB; rw [ho]; rfl
theorem take_wait {D : LkD} {t c n h : Int} (e : takeE D t c n = 0) (ho : D.ho (c, n) = some h) : takeB D t c n = false ∧ quL (takeD D t c n) c n = quL D c n ++ [t] := by
  refine ⟨?_, ?_⟩
  · unfold takeB; rw [ho]; simp
  · unfold takeD quL; rw [if_pos e, ho]; exact u_same
theorem giveE_no {D : LkD} {t c n : Int} (h : giveE D t c n ≠ 0) : giveD D t c n = D := by
  unfold giveE at h; unfold giveD
  by_cases e : D.ho (c, n) = some t
  · rw [if_pos e] at h; exact (h rfl).elim
  · rw [if_neg e]
theorem give_yes {D : LkD} {t c n : Int} (h : giveE D t c n = 0) : D.ho (c, n) = some t := by
  unfold giveE at h
  by_cases e : D.ho (c, n) = some t
  · exact e
  · rw [if_neg e] at h; cases h
theorem give_ho {D : LkD} {t c n : Int} (h : giveE D t c n = 0) : (giveD D t c n).ho (c, n) = (D.qu (c, n)).head? ∧ (giveD D t c n).qu (c, n) = (D.qu (c, n)).tail := by
  unfold giveD
  rw [if_pos (give_yes h)]
  unfold nextD
  rw [show (lessD D t c n).qu (c, n) = D.qu (c, n) from rfl]
  cases e : D.qu (c, n) with
  | nil => exact ⟨by simp [lessD, u_same], by simpa [lessD] using e⟩
  | cons q r => exact ⟨by simp [getsD, u_same], by simp [getsD, u_same]⟩
theorem hs_at {D : LkD} {m : Nat} (wf : WF D m) {t : Int} {j : Nat} (hj : j < (D.hs t).length) : hoB D ((hsC D t).getD j 0) ((hsN D t).getD j 0) = true ∧ hoV D ((hsC D t).getD j 0) ((hsN D t).getD j 0) = t := by
  have e1 : (hsC D t).getD j 0 = (D.hs t)[j].1 := by rw [List.getD_eq_getElem?_getD, List.getElem?_eq_getElem (by simpa [hsC] using hj)]; simp [hsC]
  have e2 : (hsN D t).getD j 0 = (D.hs t)[j].2 := by rw [List.getD_eq_getElem?_getD, List.getElem?_eq_getElem (by simpa [hsN] using hj)]; simp [hsN]
  have h : D.ho ((D.hs t)[j].1, (D.hs t)[j].2) = some t := (wf.held _ _).2 (List.getElem_mem hj)
  rw [e1, e2]
  unfold hoB hoV
  rw [h]
  exact ⟨rfl, rfl⟩
/-- The class of the one before. -/
def lastC (D : LkD) (t : Int) (j : Nat) : Int := match j with
  | 0 => 0
  | j + 1 => (hsC D t).getD j 0
theorem hs_up {D : LkD} {m : Nat} (wf : WF D m) {t : Int} {j : Nat} (hj : j < (D.hs t).length) : lastC D t j < (hsC D t).getD j 0 := by
  have e : ∀ j, (h : j < (D.hs t).length) → (hsC D t).getD j 0 = (D.hs t)[j].1 := fun j hj => by rw [List.getD_eq_getElem?_getD, List.getElem?_eq_getElem (by simpa [hsC] using hj)]; simp [hsC]
  rw [e j hj]
  cases j with
  | zero =>
    have := (wf.cls t _ (List.getElem_mem hj)).1
    show (0 : Int) < _
    omega
  | succ j => 
    show (hsC D t).getD j 0 < _
    rw [e j (by omega)]
    exact List.pairwise_iff_getElem.1 (wf.sort t) j (j + 1) (by omega) hj (by omega)
end Go.Spec
