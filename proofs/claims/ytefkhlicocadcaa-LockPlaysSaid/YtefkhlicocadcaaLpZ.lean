/- Claims as rows and as a list. Plain; no program. No conditions. -/
import Derived.Test.YtefkhlicocadcaaLpD
import Derived.Test.YtefkhlicocadcaaEvD
set_option linter.unusedVariables false
set_option linter.unusedSimpArgs false
namespace Go.Spec
open Go Go.Ev
theorem zip_q : ∀ L : List Cm, zipL (qT L) (qC L) (qN L) (qS L) = L
  | [] => rfl
  | x :: r => by
    have := zip_q r
    simp only [qT, qC, qN, qS] at this
    simp only [qT, qC, qN, qS, List.map_cons, zipL, this]
theorem zip_ex : ∀ (m : Nat) (ts cs ns ss : List Int), ts.length = m → cs.length = m → ns.length = m → ss.length = m → ∃ L, ts = qT L ∧ cs = qC L ∧ ns = qN L ∧ ss = qS L ∧ L.length = m
  | 0, [], [], [], [], _, _, _, _ => ⟨[], rfl, rfl, rfl, rfl, rfl⟩
  | m + 1, t :: ts, c :: cs, n :: ns, s :: ss, h1, h2, h3, h4 => by
    obtain ⟨L, rfl, rfl, rfl, rfl, hl⟩ := zip_ex m ts cs ns ss (by simpa using h1) (by simpa using h2) (by simpa using h3) (by simpa using h4)
    exact ⟨⟨t, c, n, s⟩ :: L, rfl, rfl, rfl, rfl, by simp [hl]⟩
theorem even_ex {m : Nat} {ts cs ns ss : List Int} (h : even m ts cs ns ss = true) : ∃ L, ts = qT L ∧ cs = qC L ∧ ns = qN L ∧ ss = qS L ∧ L.length = m ∧ m ≤ 1000000 := by
  obtain ⟨h0, h1, h2, h3, h4⟩ := of_decide_eq_true h
  obtain ⟨L, a, b, c, d, e⟩ := zip_ex m ts cs ns ss h1 h2 h3 h4
  exact ⟨L, a, b, c, d, e, h0⟩
theorem even_q {L : List Cm} (h : L.length ≤ 1000000) : even L.length (qT L) (qC L) (qN L) (qS L) = true := decide_eq_true ⟨h, by simp [qT], by simp [qC], by simp [qN], by simp [qS]⟩
theorem atT {pre r : List Cm} {x : Cm} : (qT (pre ++ x :: r)).getD pre.length 0 = x.t := by simp [qT, List.getD_eq_getElem?_getD]
theorem atC {pre r : List Cm} {x : Cm} : (qC (pre ++ x :: r)).getD pre.length 0 = x.c := by simp [qC, List.getD_eq_getElem?_getD]
theorem atN {pre r : List Cm} {x : Cm} : (qN (pre ++ x :: r)).getD pre.length 0 = x.n := by simp [qN, List.getD_eq_getElem?_getD]
theorem atS {pre r : List Cm} {x : Cm} : (qS (pre ++ x :: r)).getD pre.length 0 = x.s := by simp [qS, List.getD_eq_getElem?_getD]
theorem fstI_range : ∀ (L : List Cm) (i c n : Int), fstI L i c n = -1 ∨ (i ≤ fstI L i c n ∧ fstI L i c n < i + L.length)
  | [], i, c, n => Or.inl rfl
  | x :: r, i, c, n => by
    unfold fstI
    by_cases h : x.c = c ∧ x.n = n
    · rw [if_pos h]; right; simp; omega
    · rw [if_neg h]
      rcases fstI_range r (i + 1) c n with h | h
      · exact Or.inl h
      · right; simp only [List.length_cons]; omega
theorem firstI_range (L : List Cm) (c n : Int) : firstI L c n = -1 ∨ (0 ≤ firstI L c n ∧ firstI L c n < L.length) := by
  have := fstI_range L 0 c n
  unfold firstI
  omega
theorem qT_at {L : List Cm} {i : Int} : (qT L).getD i.toNat 0 = (atI L i).t := by
  unfold qT atI
  by_cases h : i.toNat < L.length
  · simp [List.getD_eq_getElem?_getD, List.getElem?_eq_getElem h]
  · simp [List.getD_eq_getElem?_getD, List.getElem?_eq_none (show L.length ≤ i.toNat by omega)]
end Go.Spec
