/- Things one behind the other in bytes: plain facts. No conditions. -/
import Derived.Test.YtmgdjbppmndlnaaPcD
import Derived.Test.YtmgdjbppmndlnaaEvD
set_option linter.unusedVariables false
namespace Go.Spec
open Go Go.Ev
theorem oneB_len {ys : List Int} (h : oneB ys = true) : 4 ≤ ys.length ∧ 4 ≤ lenT ys ∧ up4 (lenT ys) ≤ ys.length ∧ lenT ys ≤ up4 (lenT ys) ∧ up4 (lenT ys) < lenT ys + 4 ∧ up4 (lenT ys) % 4 = 0 := by
  unfold oneB at h
  obtain ⟨h, _⟩ := Bool.and_eq_true_iff.1 h
  obtain ⟨h1, h2, h3⟩ := of_decide_eq_true h
  refine ⟨h1, h2, h3, ?_, ?_, ?_⟩ <;> unfold up4 <;> omega
theorem parse_enough : ∀ (f g : Nat) (ys : List Int), ys.length < f → ys.length < g → parse f ys = parse g ys
  | 0, _, ys, h, _ => absurd h (Nat.not_lt_zero _)
  | _, 0, ys, _, h => absurd h (Nat.not_lt_zero _)
  | f + 1, g + 1, ys, h1, h2 => by
    unfold parse
    split
    · rfl
    · split
      · rename_i h0 h
        obtain ⟨a1, a2, a3, a4, a5, a6⟩ := oneB_len h
        rw [parse_enough f g (ys.drop (up4 (lenT ys))) (by rw [List.length_drop]; omega) (by rw [List.length_drop]; omega)]
      · rfl
theorem thsB_nil : thsB [] = [] ∧ endsB [] = true := ⟨rfl, rfl⟩
theorem thsB_one {ys : List Int} (h : oneB ys = true) : thsB ys = thT ys :: thsB (ys.drop (up4 (lenT ys))) ∧ endsB ys = endsB (ys.drop (up4 (lenT ys))) := by
  obtain ⟨a1, a2, a3, a4, a5, a6⟩ := oneB_len h
  unfold thsB endsB
  rw [show parse (ys.length + 1) ys = (thT ys :: (parse ys.length (ys.drop (up4 (lenT ys)))).1, (parse ys.length (ys.drop (up4 (lenT ys)))).2) by
    rw [parse, if_neg (by omega), if_pos h]]
  rw [parse_enough ys.length ((ys.drop (up4 (lenT ys))).length + 1) (ys.drop (up4 (lenT ys))) (by rw [List.length_drop]; omega) (by omega)]
  exact ⟨rfl, rfl⟩
theorem thsB_bad {ys : List Int} (h0 : ys.length ≠ 0) (h : oneB ys = false) : thsB ys = [] ∧ endsB ys = false := by
  unfold thsB endsB
  rw [show parse (ys.length + 1) ys = ([], false) by rw [parse, if_neg h0, if_neg (by rw [h]; decide)]]
  exact ⟨rfl, rfl⟩
theorem byB_of {xs : List Int} (h : byB xs = true) : xs.length ≤ 100000 ∧ ∀ x ∈ xs, 0 ≤ x ∧ x ≤ 255 := of_decide_eq_true h
theorem by_getD {xs : List Int} (h : ∀ x ∈ xs, 0 ≤ x ∧ x ≤ 255) (i : Nat) : 0 ≤ xs.getD i 0 ∧ xs.getD i 0 ≤ 255 := by
  by_cases hi : i < xs.length
  · rw [List.getD_eq_getElem?_getD, List.getElem?_eq_getElem hi]; exact h _ (List.getElem_mem hi)
  · rw [List.getD_eq_getElem?_getD, List.getElem?_eq_none (by omega)]; exact ⟨by decide, by decide⟩
theorem by_drop {xs : List Int} (h : ∀ x ∈ xs, 0 ≤ x ∧ x ≤ 255) (n : Nat) : ∀ x ∈ xs.drop n, 0 ≤ x ∧ x ≤ 255 := fun x hx => h x (List.mem_of_mem_drop hx)
theorem lenT_eq {ys : List Int} (h : ∀ x ∈ ys, 0 ≤ x ∧ x ≤ 255) : ((lenT ys : Nat) : Int) = 256 * ys.getD 2 0 + ys.getD 3 0 ∧ lenT ys ≤ 65535 := by
  have h2 := by_getD h 2
  have h3 := by_getD h 3
  unfold lenT
  omega
end Go.Spec
