/- Pieces in any order, step by step: plain facts. No conditions. -/
import Derived.Test.YtipmphkcbhjinaaFbG
set_option linter.unusedVariables false
namespace Go.Spec
open Go Go.Ev
/-- Behind the pieces T: what is still kept. -/
def Inp.PP (x : Inp) (T : List Nat) (g : Nat) : Prop := g ∈ T ∧ ∃ y, x.st (x.O g) ≤ y ∧ y < x.st (x.O g + 1) ∧ y ∉ T
theorem step_whole (x : Inp) (hm : x.st x.n ≤ 1000000) {T : List Nat} (hT : ∀ y ∈ T, y < x.st x.n) {l : List Pc} (h : Kp x.G l (x.PP T)) {g : Nat} (hg : g < x.st x.n) (hn : g ∉ T) {p : Pc} (ep : nb p = x.G g) (ha : ∀ y, x.st (x.O g) ≤ y → y < x.st (x.O g + 1) → y ∈ T ∨ y = g) : ∃ a l' M, putJ (l ++ [p]) p = some (a, l', M) ∧ nb a = x.G (x.S g) ∧ M = datG x.G (x.S g) (x.E g - x.S g) ∧ Kp x.G l' (x.PP (T ++ [g])) := by
  obtain ⟨a, b, c⟩ := x.O_in hg
  have hsame : ∀ r, x.st (x.O g) ≤ r → r < x.st (x.O g + 1) → x.O r = x.O g := fun r h1 h2 => x.O_eq a h1 h2
  obtain ⟨a1, l1, M1, e1, e2, e3, e4⟩ := put_whole (x.lay hm) h (fun y hy => hT y hy.1) hg (fun hc => hn hc.1) ep (fun r h1 h2 h3 => by
    have hr : x.O r = x.O g := hsame r h1 h2
    refine ⟨(ha r h1 h2).resolve_right h3, g, ?_, ?_, hn⟩
    · rw [hr]; exact b
    · rw [hr]; exact c)
  refine ⟨a1, l1, M1, e1, e2, e3, e4.congr fun y => ?_⟩
  constructor
  · rintro ⟨⟨h1, z, h2, h3, h4⟩, h5⟩
    refine ⟨List.mem_append_left _ h1, z, h2, h3, fun hz => ?_⟩
    rcases List.mem_append.1 hz with hz | hz
    · exact h4 hz
    · rw [List.mem_singleton.1 hz] at h2 h3
      obtain ⟨b1, b2, b3⟩ := x.O_in (hT y h1)
      have := x.O_eq b1 h2 h3
      exact h5 (by unfold Inp.S Inp.E; rw [this]; exact ⟨b2, b3⟩)
  · rintro ⟨h1, z, h2, h3, h4⟩
    have hz : z ∉ T := fun hz => h4 (List.mem_append_left _ hz)
    have hzg : z ≠ g := fun e => h4 (List.mem_append_right _ (List.mem_singleton.2 e))
    have hout : ¬ (x.S g ≤ y ∧ y < x.E g) := fun hc => by
      have hy : x.O y = x.O g := hsame y hc.1 hc.2
      rw [hy] at h2 h3
      rcases ha z h2 h3 with hc | hc
      · exact hz hc
      · exact hzg hc
    rcases List.mem_append.1 h1 with h1 | h1
    · exact ⟨⟨h1, z, h2, h3, hz⟩, hout⟩
    · exact absurd (by rw [List.mem_singleton.1 h1]; exact ⟨b, c⟩) hout
theorem step_part (x : Inp) (hm : x.st x.n ≤ 1000000) {T : List Nat} (hT : ∀ y ∈ T, y < x.st x.n) {l : List Pc} (h : Kp x.G l (x.PP T)) {g : Nat} (hg : g < x.st x.n) (hn : g ∉ T) {p : Pc} (ep : nb p = x.G g) {y0 : Nat} (h1 : x.st (x.O g) ≤ y0) (h2 : y0 < x.st (x.O g + 1)) (h3 : y0 ∉ T) (h4 : y0 ≠ g) : putJ (l ++ [p]) p = none ∧ Kp x.G (l ++ [p]) (x.PP (T ++ [g])) := by
  obtain ⟨a, b, c⟩ := x.O_in hg
  refine ⟨put_part (x.lay hm) h (fun y hy => hT y hy.1) hg (fun hc => hn hc.1) ep ⟨y0, h1, h2, h4, fun hc => h3 hc.1⟩, (h.push (fun hc => hn hc.1) ep).congr fun y => ?_⟩
  have h5 : y0 ∉ T ++ [g] := fun hc => by
    rcases List.mem_append.1 hc with hc | hc
    · exact h3 hc
    · exact h4 (List.mem_singleton.1 hc)
  constructor
  · rintro (⟨h6, z, h7, h8, h9⟩ | h6)
    · refine ⟨List.mem_append_left _ h6, ?_⟩
      by_cases e : z = g
      · rw [e] at h7 h8
        obtain ⟨b1, b2, b3⟩ := x.O_in (hT y h6)
        have := x.O_eq b1 h7 h8
        rw [this] at h1 h2
        exact ⟨y0, h1, h2, h5⟩
      · refine ⟨z, h7, h8, fun hc => ?_⟩
        rcases List.mem_append.1 hc with hc | hc
        · exact h9 hc
        · exact e (List.mem_singleton.1 hc)
    · rw [h6]
      exact ⟨List.mem_append_right _ (List.mem_singleton.2 rfl), y0, h1, h2, h5⟩
  · rintro ⟨h6, z, h7, h8, h9⟩
    rcases List.mem_append.1 h6 with h6 | h6
    · exact .inl ⟨h6, z, h7, h8, fun hc => h9 (List.mem_append_left _ hc)⟩
    · exact .inr (List.mem_singleton.1 h6)
/-- Two things change their places. -/
def swapL {α : Type} (d : α) (l : List α) (i k : Nat) : List α := (l.set i (l.getD k d)).set k (l.getD i d)
theorem swap_perm {l : List Nat} {i k : Nat} (hi : i < l.length) (hk : k < l.length) : (swapL 0 l i k).Perm l := by
  unfold swapL
  rw [List.getD_eq_getElem?_getD, List.getD_eq_getElem?_getD, List.getElem?_eq_getElem hi, List.getElem?_eq_getElem hk]
  exact List.set_set_perm hi hk
theorem swap_map {α β : Type} (f : α → β) (d : α) (l : List α) (i k : Nat) : ((l.map f).set i ((l.map f).getD k (f d))).set k ((l.map f).getD i (f d)) = (swapL d l i k).map f := by
  unfold swapL
  rw [List.map_set, List.map_set, getD_map', getD_map']
theorem swap_map' {α β : Type} (f : α → β) (d : α) (d' : β) (l : List α) {i k : Nat} (hi : i < l.length) (hk : k < l.length) : ((l.map f).set i ((l.map f).getD k d')).set k ((l.map f).getD i d') = (swapL d l i k).map f := by
  rw [← swap_map]
  have e : ∀ j, j < l.length → (l.map f).getD j d' = (l.map f).getD j (f d) := fun j hj => by
    simp only [List.getD_eq_getElem?_getD]
    rw [List.getElem?_eq_getElem (by simpa using hj)]; rfl
  rw [e i hi, e k hk]
end Go.Spec
