/- ResetPlays: what came, told in two ways. No conditions. -/
import Derived.Test.YtjeinfbicgpkiaaRpP
set_option linter.unusedVariables false
set_option linter.unusedSimpArgs false
namespace Go.Ev
open Go Go.Proofs Go.Spec
theorem idxI_mem {x : Int} : ∀ {xs : List Int}, idxI x xs < xs.length ↔ x ∈ xs
  | [] => by simp [idxI]
  | y :: r => by
    rw [idxI]
    cases e : eqK x y with
    | true => rw [eqK_t] at e; simp [e]
    | false =>
      rw [eqK_f] at e
      simp only [List.length_cons, List.mem_cons, e, false_or]
      rw [← idxI_mem (xs := r)]
      omega
theorem erase_mem {x y : Int} : ∀ {xs : List Int}, y ≠ x → (y ∈ xs.eraseIdx (idxI x xs) ↔ y ∈ xs)
  | [], _ => by simp [idxI]
  | z :: r, h => by
    rw [idxI]
    cases e : eqK x z with
    | true =>
      rw [eqK_t] at e
      subst e
      simp [h]
    | false =>
      simp only [List.eraseIdx_cons_succ, List.mem_cons]
      rw [erase_mem h]
theorem erase_sub {x : Int} : ∀ {xs : List Int} {y : Int}, y ∈ xs.eraseIdx (idxI x xs) → y ∈ xs := fun h => List.mem_of_mem_eraseIdx h
/-- The k-th number behind c. -/
def tn (c : Int) (k : Nat) : Int := (c + k) % 4294967296
theorem tn_add (c : Int) (k j : Nat) : addK .u32 (tn c k) j = tn c (k + j) := by rw [addK_eq, IntKind.wrap_u32]; unfold tn; omega
theorem tn_inj {c : Int} {i j : Nat} (hi : i ≤ 100000) (hj : j ≤ 100000) (h : tn c i = tn c j) : i = j := by unfold tn at h; omega
theorem tn_sub {c : Int} {i j : Nat} (hi : i ≤ 100000) (hj : j ≤ 100000) : subK .u32 (tn c i) (tn c j) = (if j ≤ i then ((i - j : Nat) : Int) else 4294967296 - ((j - i : Nat) : Int)) := by
  rw [subK_eq, IntKind.wrap_u32]
  unfold tn
  split <;> omega
theorem tn_zero {c : Int} (h : 0 ≤ c ∧ c ≤ 4294967295) : tn c 0 = c := by unfold tn; omega
/-- What came: up to the m-th all, and those of xs; cs holds the same. -/
structure GI (c : Int) (m : Nat) (cum : Int) (xs cs : List Int) : Prop where
  hm : m ≤ 999
  hc : cum = tn c m
  hx : ∀ x ∈ xs, ∃ k : Nat, 1 ≤ k ∧ k ≤ 999 ∧ x = tn c k
  hs : ∀ k : Nat, 1 ≤ k → k ≤ 999 → (tn c k ∈ cs ↔ (k ≤ m ∨ tn c k ∈ xs))
theorem GI.has {c : Int} {m : Nat} {cum : Int} {xs cs : List Int} (g : GI c m cum xs cs) (h : 0 ≤ c ∧ c ≤ 4294967295) {k : Nat} (hk : k ≤ 999) : hasB cum xs (tn c k) = cameB cs (tn c k) c := by
  have hm := g.hm
  unfold hasB cameB
  rw [g.hc]
  have e1 := tn_sub (c := c) (i := m) (j := k) (by omega) (by omega)
  have e2 := tn_sub (c := c) (i := 0) (j := k) (by omega) (by omega)
  rw [tn_zero h] at e2
  rw [e1, e2]
  by_cases k0 : k = 0
  · subst k0
    rw [if_pos (Nat.zero_le _), if_pos (Nat.le_refl _)]
    rw [show decide (((0 - 0 : Nat) : Int) < 2147483648) = true from rfl]
    dsimp only
    split
    · rfl
    · split
      · rfl
      · rename_i e3
        rw [eqK_f] at e3
        have : m ≠ 0 := fun e => e3 (by rw [e])
        rw [eqK_f.2 (by omega)]
        exact decide_eq_true (by omega)
  · rw [if_neg (by omega : ¬ k ≤ 0), decide_eq_false (by omega : ¬ (4294967296 - ((k - 0 : Nat) : Int) < 2147483648))]
    dsimp only
    have hs := g.hs k (by omega) hk
    by_cases hx : tn c k ∈ xs
    · rw [decide_eq_true (idxI_mem.2 hx)]
      exact (inR_mem.2 (hs.2 (Or.inr hx))).symm
    · rw [decide_eq_false (fun e => hx (idxI_mem.1 e))]
      dsimp only
      by_cases km : k ≤ m
      · rw [inR_mem.2 (hs.2 (Or.inl km))]
        split
        · rfl
        · rename_i e3
          rw [eqK_f] at e3
          have : k ≠ m := fun e => e3 (by rw [e])
          rw [if_pos km, eqK_f.2 (by omega)]
          exact decide_eq_true (by omega)
      · have : inR (tn c k) cs = false := by
          cases e : inR (tn c k) cs
          · rfl
          · rcases hs.1 (inR_mem.1 e) with h | h
            · exact absurd h km
            · exact absurd h hx
        rw [this, if_neg km]
        rw [eqK_f.2 (fun e => km (by have := tn_inj (by omega) (by omega) e; omega)), eqK_f.2 (by omega)]
        exact decide_eq_false (by omega)
theorem GI.adv {c : Int} {cs : List Int} : ∀ (f : Nat) {m : Nat} {cum : Int} {xs bs : List Int}, GI c m cum xs cs → ∃ m', GI c m' (adv f cum xs bs).1 (adv f cum xs bs).2.1 cs ∧ (adv f cum xs bs).2.1.length ≤ xs.length
  | 0, m, cum, xs, bs, g => ⟨m, g, Nat.le_refl _⟩
  | f + 1, m, cum, xs, bs, g => by
    have hm := g.hm
    have e1 : addK .u32 cum 1 = tn c (m + 1) := by rw [g.hc]; exact tn_add c m 1
    rw [Go.Spec.adv, e1]
    by_cases e : idxI (tn c (m + 1)) xs < xs.length
    · rw [decide_eq_true e]
      dsimp only
      obtain ⟨k, k1, k2, k3⟩ := g.hx _ (idxI_mem.1 e)
      have := tn_inj (by omega) (by omega) k3
      have g' : GI c (m + 1) (tn c (m + 1)) (xs.eraseIdx (idxI (tn c (m + 1)) xs)) cs := by
        refine ⟨by omega, rfl, fun x hx => g.hx x (erase_sub hx), fun j j1 j2 => ?_⟩
        rw [g.hs j j1 j2]
        by_cases hj : j = m + 1
        · subst hj
          exact ⟨fun _ => Or.inl (Nat.le_refl _), fun _ => Or.inr (idxI_mem.1 e)⟩
        · rw [erase_mem (fun h => hj (tn_inj (by omega) (by omega) h))]
          constructor
          · rintro (h | h)
            · exact Or.inl (by omega)
            · exact Or.inr h
          · rintro (h | h)
            · exact Or.inl (by omega)
            · exact Or.inr h
      obtain ⟨m', h1, h2⟩ := GI.adv f (bs := bs.eraseIdx (idxI (tn c (m + 1)) xs)) g'
      refine ⟨m', h1, Nat.le_trans h2 ?_⟩
      rw [List.length_eraseIdx]; split <;> omega
    · rw [decide_eq_false e]
      exact ⟨m, g, Nat.le_refl _⟩
theorem GI.add {c : Int} {m : Nat} {cum : Int} {xs cs bs : List Int} {cl : Nat} (g : GI c m cum xs cs) {k : Nat} (h1 : 1 ≤ k) (hk : k ≤ 999) : ∃ m', GI c m' (advA (tn c k) cum xs bs cl).1 (advA (tn c k) cum xs bs cl).2.1 (cs ++ [tn c k]) ∧ (advA (tn c k) cum xs bs cl).2.1.length ≤ xs.length + 1 := by
  unfold advA
  have hm := g.hm
  have g' : GI c m cum (xs ++ [tn c k]) (cs ++ [tn c k]) := by
    refine ⟨g.hm, g.hc, fun x hx => ?_, fun j j1 j2 => ?_⟩
    · rcases List.mem_append.1 hx with hx | hx
      · exact g.hx x hx
      · rw [List.mem_singleton] at hx; exact ⟨k, h1, hk, hx⟩
    · rw [List.mem_append, List.mem_append, g.hs j j1 j2, or_assoc]
  obtain ⟨m', h2, h3⟩ := GI.adv (xs.length + 1) (bs := bs ++ [(cl : Int)]) g'
  exact ⟨m', h2, by rw [List.length_append] at h3; exact h3⟩
end Go.Ev
