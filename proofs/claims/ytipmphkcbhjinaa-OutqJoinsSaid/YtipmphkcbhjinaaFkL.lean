/- Pieces that a joiner keeps: plain facts about lists of pieces. No conditions. -/
import Derived.Test.YtipmphkcbhjinaaFkD
import Derived.Test.YtipmphkcbhjinaaEvD
set_option linter.unusedVariables false
namespace Go.Spec
open Go Go.Ev
theorem getD_map' {α β : Type} (f : α → β) (d : α) (l : List α) (i : Nat) : (l.map f).getD i (f d) = f (l.getD i d) := by
  simp only [List.getD_eq_getElem?_getD, List.getElem?_map]
  cases l[i]? <;> rfl
theorem map_t (l : List Pc) (i : Nat) : (l.map Pc.t).getD i 0 = (l.getD i pz).t := getD_map' Pc.t pz l i
theorem map_f (l : List Pc) (i : Nat) : (l.map Pc.f).getD i 0 = (l.getD i pz).f := getD_map' Pc.f pz l i
theorem map_s (l : List Pc) (i : Nat) : (l.map Pc.s).getD i 0 = (l.getD i pz).s := getD_map' Pc.s pz l i
theorem map_n (l : List Pc) (i : Nat) : (l.map Pc.n).getD i 0 = (l.getD i pz).n := getD_map' Pc.n pz l i
theorem map_p (l : List Pc) (i : Nat) : (l.map Pc.p).getD i 0 = (l.getD i pz).p := getD_map' Pc.p pz l i
theorem map_b (l : List Pc) (i : Nat) : (l.map Pc.b).getD i 0 = (l.getD i pz).b := getD_map' Pc.b pz l i
theorem map_d (l : List Pc) (i : Nat) : (l.map Pc.d).getD i [] = (l.getD i pz).d := getD_map' Pc.d pz l i
theorem toP_map (l : List Pc) : toP (l.map Pc.t) (l.map Pc.f) (l.map Pc.s) (l.map Pc.n) (l.map Pc.p) (l.map Pc.b) (l.map Pc.d) = l := by
  unfold toP
  refine List.ext_getElem (by simp) fun i h1 h2 => ?_
  simp only [List.getElem_map, List.getElem_range, map_t, map_f, map_s, map_n, map_p, map_b, map_d]
  rw [List.getD_eq_getElem?_getD, List.getElem?_eq_getElem h2]
  rfl
theorem idxI_le (x : Int) (l : List Int) : idxI x l ≤ l.length := (idxI_spec (x := x) (xs := l)).2
theorem idxI_mem {x : Int} : ∀ {l : List Int}, idxI x l < l.length ↔ x ∈ l
  | [] => by simp [idxI]
  | y :: r => by
    unfold idxI
    cases h : eqK x y with
    | true => simp [eqK_t.1 h]
    | false =>
      have := eqK_f.1 h
      simp only [List.length_cons, List.mem_cons, this, false_or]
      rw [← idxI_mem (l := r)]
      omega
theorem look_some {l : List Pc} {t : Int} {q : Pc} (h : lookP l t = some q) : q.t = t ∧ q ∈ l ∧ idxI t (keysP l) < l.length ∧ q = l.getD (idxI t (keysP l)) pz := by
  unfold lookP at h
  split at h
  · rename_i hl
    cases h
    have hl2 : idxI t (keysP l) < (keysP l).length := by unfold keysP; rw [List.length_map]; exact hl
    refine ⟨by rw [← map_t]; exact (idxI_spec.1 hl2), ?_, hl, rfl⟩
    rw [List.getD_eq_getElem?_getD, List.getElem?_eq_getElem hl]
    exact List.getElem_mem hl
  · cases h
theorem look_none {l : List Pc} {t : Int} (h : lookP l t = none) : ¬ idxI t (keysP l) < l.length := by
  unfold lookP at h
  split at h
  · cases h
  · assumption
theorem nodup_le : ∀ (a b : List Int), a.Nodup → (∀ x ∈ a, x ∈ b) → a.length ≤ b.length
  | [], _, _, _ => Nat.zero_le _
  | x :: a, b, hn, hs => by
    have hx := hs x (by simp)
    rw [List.nodup_cons] at hn
    have := nodup_le a (b.erase x) hn.2 fun y hy => (List.mem_erase_of_ne (fun (e : y = x) => hn.1 (by rw [← e]; exact hy))).2 (hs y (by simp [hy]))
    rw [List.length_erase_of_mem hx] at this
    have : 0 < b.length := List.length_pos_of_mem hx
    simp only [List.length_cons]
    omega
theorem sub32 (x y : Int) : subK .u32 x y = (x - y) % 4294967296 := by rw [subK_eq]; rfl
theorem add32 (x y : Int) : addK .u32 x y = (x + y) % 4294967296 := by rw [addK_eq]; rfl
/-- Going back comes to its end within so many steps. -/
def bOk (l : List Pc) (p : Pc) : Nat → Pc → Prop
  | 0, _ => False
  | c + 1, a => hasF a.f 2 = true ∨ ∀ q, lookP l (subK .u32 a.t 1) = some q → alikeB p q = true → hasF q.f 1 = false → bOk l p c q
def fOk (l : List Pc) (p : Pc) : Nat → Pc → Prop
  | 0, _ => False
  | c + 1, a => hasF a.f 1 = true ∨ ∀ q, lookP l (addK .u32 a.t 1) = some q → alikeB p q = true → hasF q.f 2 = false → fOk l p c q
theorem pigeon {ks : List Int} {m : Nat} {g : Nat → Int} (hi : ∀ i j, i < m → j < m → g i = g j → i = j) (hm : ∀ i, i < m → g i ∈ ks) : m ≤ ks.length := by
  have h := nodup_le ((List.range m).map g) ks ?_ ?_
  · simpa using h
  · rw [List.nodup_iff_pairwise_ne, List.pairwise_map]
    refine List.Pairwise.imp_of_mem ?_ (List.nodup_iff_pairwise_ne.1 List.nodup_range)
    intro i j h1 h2 hne e
    exact hne (hi i j (List.mem_range.1 h1) (List.mem_range.1 h2) e)
  · intro x hx
    obtain ⟨i, h1, rfl⟩ := List.mem_map.1 hx
    exact hm i (List.mem_range.1 h1)
theorem bOk_of (l : List Pc) (p : Pc) (hl : l.length ≤ 1000000) (a0 : Int) : ∀ (c j : Nat) (a : Pc), a.t = (a0 - (j : Int)) % 4294967296 → (∀ i, i < j → (a0 - ((i + 1 : Nat) : Int)) % 4294967296 ∈ keysP l) → l.length + 1 = j + c → bOk l p c a
  | 0, j, a, _, hm, hj => by
    exfalso
    have := pigeon (ks := keysP l) (m := j) (g := fun i => (a0 - ((i + 1 : Nat) : Int)) % 4294967296) (fun i k h1 h2 e => by omega) hm
    unfold keysP at this
    rw [List.length_map] at this
    omega
  | c + 1, j, a, ht, hm, hj => by
    refine .inr fun q hq _ _ => ?_
    obtain ⟨h1, h2, _⟩ := look_some hq
    have h3 : q.t = (a0 - ((j + 1 : Nat) : Int)) % 4294967296 := by rw [h1, sub32, ht]; omega
    refine bOk_of l p hl a0 c (j + 1) q h3 (fun i hi => ?_) (by omega)
    by_cases e : i < j
    · exact hm i e
    · have : i = j := by omega
      subst this
      rw [← h3]
      exact List.mem_map.2 ⟨q, h2, rfl⟩
theorem fOk_of (l : List Pc) (p : Pc) (hl : l.length ≤ 1000000) (a0 : Int) : ∀ (c j : Nat) (a : Pc), a.t = (a0 + (j : Int)) % 4294967296 → (∀ i, i < j → (a0 + ((i + 1 : Nat) : Int)) % 4294967296 ∈ keysP l) → l.length + 1 = j + c → fOk l p c a
  | 0, j, a, _, hm, hj => by
    exfalso
    have := pigeon (ks := keysP l) (m := j) (g := fun i => (a0 + ((i + 1 : Nat) : Int)) % 4294967296) (fun i k h1 h2 e => by omega) hm
    unfold keysP at this
    rw [List.length_map] at this
    omega
  | c + 1, j, a, ht, hm, hj => by
    refine .inr fun q hq _ _ => ?_
    obtain ⟨h1, h2, _⟩ := look_some hq
    have h3 : q.t = (a0 + ((j + 1 : Nat) : Int)) % 4294967296 := by rw [h1, add32, ht]; omega
    refine fOk_of l p hl a0 c (j + 1) q h3 (fun i hi => ?_) (by omega)
    by_cases e : i < j
    · exact hm i e
    · have : i = j := by omega
      subst this
      rw [← h3]
      exact List.mem_map.2 ⟨q, h2, rfl⟩
theorem back_t {l : List Pc} {p : Pc} : ∀ {c : Nat} {a r : Pc} {i : Nat}, backP l p c a = some (r, i) → 0 ≤ a.t → a.t < 4294967296 → a.t = (r.t + (i : Int)) % 4294967296 ∧ i < c ∧ 0 ≤ r.t ∧ r.t < 4294967296
  | 0, _, _, _, h, _, _ => by cases h
  | c + 1, a, r, i, h, h1, h2 => by
    unfold backP at h
    split at h
    · cases h; exact ⟨by simp only [Int.natCast_zero]; omega, by omega, h1, h2⟩
    · split at h
      · cases h
      · rename_i q hq
        split at h
        · obtain ⟨e1, _⟩ := look_some hq
          rw [sub32] at e1
          simp only [Option.map_eq_some_iff] at h
          obtain ⟨⟨r', i'⟩, g1, g2⟩ := h
          simp only [Prod.mk.injEq] at g2
          obtain ⟨rfl, rfl⟩ := g2
          obtain ⟨k1, k2, k3⟩ := back_t g1 (by omega) (by omega)
          exact ⟨by omega, by omega, k3⟩
        · cases h
theorem forw_t {l : List Pc} {p : Pc} : ∀ {c : Nat} {a r : Pc} {i : Nat}, forwP l p c a = some (r, i) → 0 ≤ a.t → a.t < 4294967296 → r.t = (a.t + (i : Int)) % 4294967296 ∧ i < c
  | 0, _, _, _, h, _, _ => by cases h
  | c + 1, a, r, i, h, h1, h2 => by
    unfold forwP at h
    split at h
    · cases h; exact ⟨by simp only [Int.natCast_zero]; omega, by omega⟩
    · split at h
      · cases h
      · rename_i q hq
        split at h
        · obtain ⟨e1, _⟩ := look_some hq
          rw [add32] at e1
          simp only [Option.map_eq_some_iff] at h
          obtain ⟨⟨r', i'⟩, g1, g2⟩ := h
          simp only [Prod.mk.injEq] at g2
          obtain ⟨rfl, rfl⟩ := g2
          obtain ⟨k1, k2⟩ := forw_t g1 (by omega) (by omega)
          exact ⟨by omega, by omega⟩
        · cases h
theorem lenD_cons (x : Pc) (l : List Pc) : lenD (x :: l) = x.d.length + lenD l := by simp [lenD]
theorem lenD_append (l r : List Pc) : lenD (l ++ r) = lenD l + lenD r := by simp [lenD]
theorem lenD_erase : ∀ {l : List Pc} {i : Nat}, i < l.length → lenD (l.eraseIdx i) + (l.getD i pz).d.length = lenD l
  | x :: l, 0, _ => by simp [lenD_cons]; omega
  | x :: l, i + 1, h => by
    have := lenD_erase (l := l) (i := i) (by simpa using h)
    simp only [List.eraseIdx_cons_succ, lenD_cons, List.getD_cons_succ]
    omega
theorem drop_len (l : List Pc) (t : Int) : lenD (dropP l t) + (dataP l t).length = lenD l := by
  unfold dropP dataP lookP
  split
  · rename_i h; simp only; exact lenD_erase h
  · simp
theorem drop_length (l : List Pc) (t : Int) : (dropP l t).length ≤ l.length := by
  unfold dropP
  split
  · rename_i h; rw [List.length_eraseIdx, if_pos h]; omega
  · exact Nat.le_refl _
theorem join_len (e : Int) : ∀ (k : Nat) (l : List Pc) (c : Int) (m : List Int), lenD (joinP e k l c m).1 + (joinP e k l c m).2.length = lenD l + m.length ∧ (joinP e k l c m).1.length ≤ l.length
  | 0, l, c, m => ⟨rfl, Nat.le_refl _⟩
  | k + 1, l, c, m => by
    have h := drop_len l c
    have h2 := drop_length l c
    unfold joinP
    split
    · simp only [List.length_append]; exact ⟨by omega, h2⟩
    · obtain ⟨a, b⟩ := join_len e k (dropP l c) (addK .u32 c 1) (m ++ dataP l c)
      rw [a, List.length_append]
      exact ⟨by omega, by omega⟩
theorem erase_sub {α : Type} (l : List α) (i : Nat) : (l.eraseIdx i).Sublist l := List.eraseIdx_sublist l i
theorem drop_sub (l : List Pc) (t : Int) : (dropP l t).Sublist l := by
  unfold dropP
  split
  · exact List.eraseIdx_sublist _ _
  · exact List.Sublist.refl _
theorem join_sub (e : Int) : ∀ (k : Nat) (l : List Pc) (c : Int) (m : List Int), (joinP e k l c m).1.Sublist l
  | 0, l, c, m => List.Sublist.refl _
  | k + 1, l, c, m => by
    unfold joinP
    split
    · exact drop_sub l c
    · exact (join_sub e k _ _ _).trans (drop_sub l c)
end Go.Spec
