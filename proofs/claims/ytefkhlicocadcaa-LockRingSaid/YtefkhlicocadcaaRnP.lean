/- LockRing: nobody waits in a ring, and what is given ends. Plain; no program. No conditions. -/
import Derived.Test.YtefkhlicocadcaaLkP
set_option linter.unusedVariables false
set_option linter.unusedSimpArgs false
namespace Go.Spec
open Go Go.Ev
/-- Who holds or waits, is a task from 0 to 50. -/
def In50 (D : LkD) : Prop := ∀ t, (D.hs t ≠ [] ∨ D.wa t ≠ none) → 0 ≤ t ∧ t ≤ 50
theorem In50.new : In50 newD := fun t h => by rcases h with h | h <;> exact (h rfl).elim
theorem In50.take {D : LkD} (h : In50 D) {t : Int} (ht : 0 ≤ t ∧ t ≤ 50) (c n : Int) : In50 (takeD D t c n) := by
  intro x hx
  by_cases e : x = t
  · subst e; exact ht
  · refine h x ?_
    unfold takeD at hx
    by_cases hE : takeE D t c n = 0
    · rw [if_pos hE] at hx
      cases ho : D.ho (c, n) with
      | none =>
        rw [ho] at hx
        simpa [getsD, u_other e] using hx
      | some y =>
        rw [ho] at hx
        simpa [u_other e] using hx
    · rw [if_neg hE] at hx; exact hx
theorem less_hs {D : LkD} {t c n x : Int} : (lessD D t c n).hs x = if x = t then (D.hs t).filter (fun l => !decide (l = (c, n))) else D.hs x := rfl
theorem In50.give {D : LkD} {m : Nat} (wf : WF D m) (h : In50 D) (t c n : Int) : In50 (giveD D t c n) := by
  intro x hx
  unfold giveD at hx
  by_cases e : D.ho (c, n) = some t
  · rw [if_pos e] at hx
    have less : ∀ y, (lessD D t c n).hs y ≠ [] → D.hs y ≠ [] := by
      intro y hy hn
      rw [less_hs] at hy
      by_cases ey : y = t
      · rw [if_pos ey] at hy; subst ey; rw [hn] at hy; exact hy rfl
      · rw [if_neg ey] at hy; exact hy hn
    unfold nextD at hx
    rw [show (lessD D t c n).qu (c, n) = D.qu (c, n) from rfl] at hx
    cases hq : D.qu (c, n) with
    | nil => rw [hq] at hx; exact h x (hx.imp (less x) id)
    | cons q r =>
      rw [hq] at hx
      obtain ⟨_, hw, _⟩ := wf.next e hq
      by_cases ex : x = q
      · subst ex; exact h x (Or.inr (by rw [hw]; simp))
      · refine h x ?_
        rcases hx with hx | hx
        · left
          apply less x
          simpa [getsD, u_other ex] using hx
        · right
          simpa [getsD, u_other ex, lessD] using hx
  · rw [if_neg e] at hx; exact h x hx
/-! how many claims there are -/
def sumW (f : Nat → Nat) : Nat → Nat
  | 0 => 0
  | n + 1 => sumW f n + f n
theorem sumW_same {f g : Nat → Nat} : ∀ {n : Nat}, (∀ j, j < n → f j = g j) → sumW f n = sumW g n
  | 0, _ => rfl
  | n + 1, h => by unfold sumW; rw [sumW_same fun j hj => h j (by omega), h n (by omega)]
theorem sumW_one {f g : Nat → Nat} {j0 : Nat} (h : ∀ j, j ≠ j0 → f j = g j) : ∀ {n : Nat}, j0 < n → sumW f n + g j0 = sumW g n + f j0
  | 0, hj => by omega
  | n + 1, hj => by
    unfold sumW
    by_cases e : j0 = n
    · subst e
      rw [sumW_same (n := j0) fun j hj => h j (by omega)]; omega
    · have := sumW_one h (n := n) (by omega)
      rw [h n (by omega)]; omega
def wt (D : LkD) (t : Int) : Nat := (D.hs t).length + (D.wa t).isSome.toNat
def Mz (D : LkD) : Nat := sumW (fun j => wt D j) 51
theorem Mz.new : Mz newD = 0 := by decide
theorem Mz.at {D D' : LkD} {t : Int} (ht : 0 ≤ t ∧ t ≤ 50) (h : ∀ x, x ≠ t → wt D x = wt D' x) : Mz D + wt D' t = Mz D' + wt D t := by
  have := sumW_one (f := fun j => wt D (j : Int)) (g := fun j => wt D' (j : Int)) (j0 := t.toNat) (fun j hj => h j (by omega)) (n := 51) (by omega)
  have e : ((t.toNat : Nat) : Int) = t := by omega
  simp only [e] at this
  exact this
theorem Mz.take {D : LkD} {t : Int} (ht : 0 ≤ t ∧ t ≤ 50) (c n : Int) : Mz (takeD D t c n) ≤ Mz D + 1 := by
  unfold takeD
  by_cases hE : takeE D t c n = 0
  · rw [if_pos hE]
    cases ho : D.ho (c, n) with
    | none =>
      have a := Mz.at (D := getsD D t c n) (D' := D) ht (fun x hx => by simp [wt, getsD, u_other hx])
      have b : wt (getsD D t c n) t = wt D t + 1 := by simp [wt, getsD, u_same]; omega
      show Mz (getsD D t c n) ≤ _
      omega
    | some y =>
      have a := Mz.at (D := { D with qu := upd D.qu (c, n) (D.qu (c, n) ++ [t]), wa := upd D.wa t (some (c, n)) }) (D' := D) ht (fun x hx => by simp [wt, u_other hx])
      have b : wt { D with qu := upd D.qu (c, n) (D.qu (c, n) ++ [t]), wa := upd D.wa t (some (c, n)) } t ≤ wt D t + 1 := by simp [wt, u_same]
      show Mz { D with qu := upd D.qu (c, n) (D.qu (c, n) ++ [t]), wa := upd D.wa t (some (c, n)) } ≤ _
      omega
  · rw [if_neg hE]; omega
theorem Mz.give {D : LkD} {m : Nat} (wf : WF D m) (h5 : In50 D) {t c n : Int} (e : D.ho (c, n) = some t) : Mz (giveD D t c n) + 1 ≤ Mz D := by
  have hm : (c, n) ∈ D.hs t := (wf.held _ _).1 e
  have ht := h5 t (Or.inl fun h => by rw [h] at hm; cases hm)
  have lt : ((D.hs t).filter (fun l => !decide (l = (c, n)))).length < (D.hs t).length := List.length_filter_lt_length_iff_exists.2 ⟨(c, n), hm, by simp⟩
  have a := Mz.at (D := lessD D t c n) (D' := D) ht (fun x hx => by simp [wt, lessD, u_other hx])
  have b : wt (lessD D t c n) t + 1 ≤ wt D t := by
    simp only [wt, less_hs, if_true]
    show _ + (D.wa t).isSome.toNat + 1 ≤ _
    omega
  have l1 : Mz (lessD D t c n) + 1 ≤ Mz D := by omega
  unfold giveD
  rw [if_pos e]
  unfold nextD
  rw [show (lessD D t c n).qu (c, n) = D.qu (c, n) from rfl]
  cases hq : D.qu (c, n) with
  | nil => exact l1
  | cons q r =>
    obtain ⟨hne, hw, _⟩ := wf.next e hq
    have hq5 := h5 q (Or.inr (by rw [hw]; simp))
    have a2 := Mz.at (D := getsD { lessD D t c n with wa := upd (lessD D t c n).wa q none, qu := upd (lessD D t c n).qu (c, n) r } q c n) (D' := lessD D t c n) hq5 (fun x hx => by simp [wt, getsD, u_other hx])
    have b2 : wt (getsD { lessD D t c n with wa := upd (lessD D t c n).wa q none, qu := upd (lessD D t c n).qu (c, n) r } q c n) q = wt (lessD D t c n) q := by
      have : (lessD D t c n).wa q = some (c, n) := hw
      simp [wt, getsD, u_same, this]
    show Mz (getsD { lessD D t c n with wa := upd (lessD D t c n).wa q none, qu := upd (lessD D t c n).qu (c, n) r } q c n) + 1 ≤ _
    omega
/-- If all that do not wait hold nothing, nobody holds anything. -/
theorem none_held {D : LkD} {m : Nat} (wf : WF D m) (h5 : In50 D) (h : ∀ t, 0 ≤ t → t < 51 → D.wa t = none → D.hs t = []) : ∀ l, D.ho l = none := by
  have key : ∀ (k : Nat) (l : Lk) (t : Int), D.ho l = some t → 3 - l.1 ≤ k → False := by
    intro k
    induction k with
    | zero =>
      intro l t e hk
      have hm := (wf.held _ _).1 e
      have ht := h5 t (Or.inl fun h => by rw [h] at hm; cases hm)
      cases hw : D.wa t with
      | none => rw [h t ht.1 (by omega) hw] at hm; cases hm
      | some l' =>
        have := (wf.up t l' hw).2 l hm
        have := (wf.up t l' hw).1.2
        omega
    | succ k ih =>
      intro l t e hk
      have hm := (wf.held _ _).1 e
      have ht := h5 t (Or.inl fun h => by rw [h] at hm; cases hm)
      cases hw : D.wa t with
      | none => rw [h t ht.1 (by omega) hw] at hm; cases hm
      | some l' =>
        have h1 := (wf.up t l' hw).2 l hm
        obtain ⟨_, y, hy, _⟩ := wf.rise t l' hw
        exact ih l' y hy (by omega)
  intro l
  cases e : D.ho l with
  | none => rfl
  | some t =>
    have := (wf.cls t l ((wf.held _ _).1 e)).1
    exact (key 3 l t e (by omega)).elim
theorem give_keep {D : LkD} {t t' c n : Int} {l : Lk} (hl : l ∈ D.hs t) (hne : l ≠ (c, n)) : l ∈ (giveD D t' c n).hs t := by
  unfold giveD
  by_cases e : D.ho (c, n) = some t'
  · rw [if_pos e]
    have less : l ∈ (lessD D t' c n).hs t := by
      rw [less_hs]
      by_cases et : t = t'
      · subst et; rw [if_pos rfl]; exact mem_less.2 ⟨hl, hne⟩
      · rw [if_neg et]; exact hl
    unfold nextD
    rw [show (lessD D t' c n).qu (c, n) = D.qu (c, n) from rfl]
    cases hq : D.qu (c, n) with
    | nil => exact less
    | cons q r =>
      show l ∈ upd (lessD D t' c n).hs q ((lessD D t' c n).hs q ++ [(c, n)]) t
      by_cases et : t = q
      · subst et; rw [u_same]; exact List.mem_append_left _ less
      · rw [u_other et]; exact less
  · rw [if_neg e]; exact hl
theorem hs_get {D : LkD} {t : Int} {j : Nat} (hj : j < (D.hs t).length) : ((hsC D t).getD j 0, (hsN D t).getD j 0) = (D.hs t)[j] := by
  have e1 : (hsC D t).getD j 0 = (D.hs t)[j].1 := by rw [List.getD_eq_getElem?_getD, List.getElem?_eq_getElem (by simpa [hsC] using hj)]; simp [hsC]
  have e2 : (hsN D t).getD j 0 = (D.hs t)[j].2 := by rw [List.getD_eq_getElem?_getD, List.getElem?_eq_getElem (by simpa [hsN] using hj)]; simp [hsN]
  rw [e1, e2]
/-- In a round: what stands ahead of task j. -/
structure Rd (M0 m : Nat) (j : Int) (g : Bool) (D : LkD) : Prop where
  wf : WF D m
  h5 : In50 D
  mz : Mz D + g.toNat ≤ M0
  no : g = false → ∀ t, 0 ≤ t → t < j → D.wa t = none → D.hs t = []
theorem Rd.skip {M0 m : Nat} {j : Int} {g : Bool} {D : LkD} (h : Rd M0 m j g D) (hw : D.wa j ≠ none) : Rd M0 m (j + 1) g D := by
  refine ⟨h.wf, h.h5, h.mz, fun e t h0 h1 hn => ?_⟩
  by_cases et : t = j
  · subst et; exact (hw hn).elim
  · exact h.no e t h0 (by omega) hn
theorem Rd.end {M0 m : Nat} {j : Int} {g : Bool} {D : LkD} (h : Rd M0 m j g D) (hn : g = false → D.hs j = []) : Rd M0 m (j + 1) g D := by
  refine ⟨h.wf, h.h5, h.mz, fun e t h0 h1 hw => ?_⟩
  by_cases et : t = j
  · subst et; exact hn e
  · exact h.no e t h0 (by omega) hw
theorem Rd.give {M0 m : Nat} {j : Int} {g : Bool} {D : LkD} (h : Rd M0 m j g D) {c n : Int} (e : D.ho (c, n) = some j) : Rd M0 m j true (giveD D j c n) :=
  ⟨h.wf.give j c n, h.h5.give h.wf j c n, by have := Mz.give h.wf h.h5 e; have := h.mz; show _ + 1 ≤ _; omega, fun e => by cases e⟩
end Go.Spec
