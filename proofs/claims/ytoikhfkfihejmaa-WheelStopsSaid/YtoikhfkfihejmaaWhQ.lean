/- A heap of timers and the map of where each is. Plain facts. No conditions. -/
import Derived.Test.YtoikhfkfihejmaaWhP
import Derived.Test.YtoikhfkfihejmaaEvD
set_option linter.unusedVariables false
namespace Go.Spec
open Go Go.Ev
theorem up_fuel : ∀ (f i : Nat) (H : List Tm), i ≤ f → upH f H i = upH i H i
  | 0, i, H, h => by rw [show i = 0 by omega]
  | f + 1, 0, H, h => by
    unfold upH
    rw [if_neg (fun hc => by omega)]
  | f + 1, i + 1, H, h => by
    have hp : par (i + 1) < i + 1 := by unfold par; omega
    unfold upH
    by_cases hc : 0 < i + 1 ∧ tlt (hat H (i + 1)) (hat H (par (i + 1))) = true
    · rw [if_pos hc, if_pos hc, up_fuel f _ _ (by omega), up_fuel i _ _ (by omega)]
    · rw [if_neg hc, if_neg hc]
theorem upH_len : ∀ (f : Nat) (H : List Tm) (i : Nat), (upH f H i).length = H.length
  | 0, H, i => rfl
  | f + 1, H, i => by
    unfold upH
    split
    · rw [upH_len f, swH_len]
    · rfl
theorem downH_len : ∀ (f : Nat) (H : List Tm) (i : Nat), (downH f H i).length = H.length
  | 0, H, i => rfl
  | f + 1, H, i => by
    unfold downH
    split
    · rw [downH_len f, swH_len]
    · rfl
theorem down_fuel : ∀ (f g i : Nat) (H : List Tm), H.length ≤ i + f → H.length ≤ i + g → downH f H i = downH g H i
  | 0, 0, i, H, _, _ => rfl
  | 0, g + 1, i, H, h, _ => by
    obtain ⟨k1, k2, k3⟩ := kid_in H i
    unfold downH
    rw [if_neg (fun hc => by have := hc.1; omega)]
  | f + 1, 0, i, H, _, h => by
    obtain ⟨k1, k2, k3⟩ := kid_in H i
    unfold downH
    rw [if_neg (fun hc => by have := hc.1; omega)]
  | f + 1, g + 1, i, H, h1, h2 => by
    obtain ⟨k1, k2, k3⟩ := kid_in H i
    unfold downH
    by_cases hc : kid H i < H.length ∧ tlt (hat H (kid H i)) (hat H i) = true
    · rw [if_pos hc, if_pos hc, down_fuel f g _ _ (by rw [swH_len]; omega) (by rw [swH_len]; omega)]
    · rw [if_neg hc, if_neg hc]
theorem idxI_le' (x : Int) : ∀ l : List Int, idxI x l ≤ l.length
  | [] => Nat.le_refl _
  | a :: r => by
    have := idxI_le' x r
    unfold idxI
    split
    · exact Nat.zero_le _
    · show _ + 1 ≤ r.length + 1; omega
theorem idxI_get {x : Int} : ∀ {l : List Int}, idxI x l < l.length → l.getD (idxI x l) 0 = x
  | [], h => absurd h (Nat.not_lt_zero _)
  | a :: r, h => by
    unfold idxI at h ⊢
    split at h
    · rename_i e
      exact (eqK_t.1 e).symm
    · have h : idxI x r + 1 < r.length + 1 := h
      exact idxI_get (l := r) (by omega)
theorem idxI_in {x : Int} : ∀ {l : List Int}, idxI x l < l.length ↔ x ∈ l
  | [] => ⟨fun h => absurd h (Nat.not_lt_zero _), fun h => by cases h⟩
  | a :: r => by
    unfold idxI
    split
    · rename_i e
      exact ⟨fun _ => by rw [eqK_t.1 e]; exact List.mem_cons_self, fun _ => Nat.succ_pos _⟩
    · rename_i e
      have ih := idxI_in (x := x) (l := r)
      have hne := eqK_f.1 e
      constructor
      · intro h
        have h : idxI x r + 1 < r.length + 1 := h
        exact List.mem_cons_of_mem _ (ih.1 (by omega))
      · intro h
        rcases List.mem_cons.1 h with h | h
        · exact absurd h hne
        · have := ih.2 h
          show idxI x r + 1 < r.length + 1
          omega
theorem idxI_no {x : Int} {l : List Int} (h : x ∉ l) : idxI x l = l.length := by
  have h1 := idxI_le' x l
  by_cases e : idxI x l < l.length
  · exact absurd (idxI_in.1 e) h
  · omega
theorem nodup_at' : ∀ {l : List Int} {i j : Nat}, l.Nodup → i < l.length → j < l.length → l.getD i 0 = l.getD j 0 → i = j := by
  intro l i j hn hi hj e
  rw [List.getD_eq_getElem?_getD, List.getD_eq_getElem?_getD, List.getElem?_eq_getElem hi, List.getElem?_eq_getElem hj] at e
  have e : l[i] = l[j] := e
  have hp := List.pairwise_iff_getElem.1 (List.nodup_iff_pairwise_ne.1 hn)
  rcases Nat.lt_trichotomy i j with h | h | h
  · exact absurd e (hp i j hi hj h)
  · exact h
  · exact absurd e.symm (hp j i hj hi h)
theorem idxI_uni {l : List Int} {i : Nat} {x : Int} (hn : l.Nodup) (hi : i < l.length) (e : l.getD i 0 = x) : idxI x l = i := by
  have hm : x ∈ l := by
    rw [← e, List.getD_eq_getElem?_getD, List.getElem?_eq_getElem hi]
    exact List.getElem_mem hi
  have h1 := idxI_in.2 hm
  exact nodup_at' hn h1 hi (by rw [idxI_get h1, e])
theorem ids_len (H : List Tm) : (idsH H).length = H.length := by unfold idsH; rw [List.length_map]
theorem ids_at (H : List Tm) (i : Nat) : (idsH H).getD i 0 = (hat H i).2 := by
  unfold idsH
  rw [hatE, List.getD_eq_getElem?_getD, List.getElem?_map]
  cases H[i]? <;> rfl
theorem posL_len (H : List Tm) (ks : List Int) : (posL H ks).length = ks.length := by unfold posL; rw [List.length_map]
theorem posL_at (H : List Tm) {ks : List Int} {m : Nat} (hm : m < ks.length) : (posL H ks).getD m 0 = ((idxI (ks.getD m 0) (idsH H) : Nat) : Int) := by
  unfold posL
  rw [List.getD_eq_getElem?_getD, List.getD_eq_getElem?_getD, List.getElem?_map, List.getElem?_eq_getElem hm]; rfl
theorem posL_get {H : List Tm} {ks : List Int} {m : Nat} (h : m < (posL H ks).length) (h2 : m < ks.length) : (posL H ks)[m] = ((idxI ks[m] (idsH H) : Nat) : Int) := by simp [posL]
/-- Where one is, the others' places as they are. -/
theorem pos_sw {H : List Tm} (hn : (idsH H).Nodup) {i k : Nat} (hi : i < H.length) (hk : k < H.length) (x : Int) : idxI x (idsH (swH H i k)) = if x = (hat H i).2 then k else if x = (hat H k).2 then i else idxI x (idsH H) := by
  have hp := swH_perm hi hk
  have hn2 : (idsH (swH H i k)).Nodup := (hp.map Prod.snd).nodup_iff.2 hn
  have hl := swH_len H i k
  by_cases h1 : x = (hat H i).2
  · rw [if_pos h1]
    exact idxI_uni hn2 (by rw [ids_len, hl]; exact hk) (by rw [ids_at, swH_at hi hk, if_pos rfl, h1])
  · rw [if_neg h1]
    by_cases h2 : x = (hat H k).2
    · rw [if_pos h2]
      refine idxI_uni hn2 (by rw [ids_len, hl]; exact hi) ?_
      rw [ids_at, swH_at hi hk]
      by_cases e : i = k
      · subst e; exact absurd h2 h1
      · rw [if_neg e, if_pos rfl, h2]
    · rw [if_neg h2]
      by_cases hm : x ∈ idsH H
      · have h3 := idxI_in.2 hm
        have h4 := idxI_get h3
        rw [ids_len] at h3
        rw [ids_at] at h4
        refine idxI_uni hn2 (by rw [ids_len, hl]; exact h3) ?_
        rw [ids_at, swH_at hi hk, if_neg (fun e => h2 (by rw [← h4, e])), if_neg (fun e => h1 (by rw [← h4, e])), h4]
      · have hno : x ∉ idsH (swH H i k) := fun hc => hm ((hp.map Prod.snd).mem_iff.1 hc)
        rw [idxI_no hm, idxI_no hno, ids_len, ids_len, hl]
theorem posL_sw {H : List Tm} {ks : List Int} (hn : (idsH H).Nodup) (hks : ks.Nodup) (hsub : ∀ x ∈ idsH H, x ∈ ks) {i k : Nat} (hi : i < H.length) (hk : k < H.length) :
    ((posL H ks).set (idxI (hat (swH H i k) i).2 ks) ((i : Nat) : Int)).set (idxI (hat (swH H i k) k).2 ks) ((k : Nat) : Int) = posL (swH H i k) ks := by
  have e1 : (hat (swH H i k) k).2 = (hat H i).2 := by rw [swH_at hi hk, if_pos rfl]
  have e2 : (hat (swH H i k) i).2 = (hat H k).2 := by
    rw [swH_at hi hk]
    by_cases e : i = k
    · rw [if_pos e, e]
    · rw [if_neg e, if_pos rfl]
  have m1 : (hat H i).2 ∈ ks := hsub _ (List.mem_map.2 ⟨_, hat_mem hi, rfl⟩)
  have m2 : (hat H k).2 ∈ ks := hsub _ (List.mem_map.2 ⟨_, hat_mem hk, rfl⟩)
  rw [e1, e2]
  refine List.ext_getElem (by rw [List.length_set, List.length_set, posL_len, posL_len]) fun m h1 h2 => ?_
  rw [List.length_set, List.length_set, posL_len] at h1
  rw [List.getElem_set, List.getElem_set, posL_get _ h1, posL_get _ h1, pos_sw hn hi hk]
  have hx : ∀ y, y ∈ ks → (idxI y ks = m ↔ ks[m] = y) := fun y hy => by
    have h3 := idxI_in.2 hy
    constructor
    · intro e
      have := idxI_get h3
      rw [e, List.getD_eq_getElem?_getD, List.getElem?_eq_getElem h1] at this
      exact this
    · intro e
      exact idxI_uni hks h1 (by rw [List.getD_eq_getElem?_getD, List.getElem?_eq_getElem h1]; exact e)
  by_cases c1 : idxI (hat H i).2 ks = m
  · rw [if_pos c1, if_pos ((hx _ m1).1 c1)]
  · rw [if_neg c1, if_neg (fun e => c1 ((hx _ m1).2 e))]
    by_cases c2 : idxI (hat H k).2 ks = m
    · rw [if_pos c2, if_pos ((hx _ m2).1 c2)]
    · rw [if_neg c2, if_neg (fun e => c2 ((hx _ m2).2 e))]
theorem idxI_app {x : Int} : ∀ {l r : List Int}, x ∈ l → idxI x (l ++ r) = idxI x l
  | [], r, h => by cases h
  | a :: l, r, h => by
    show idxI x (a :: (l ++ r)) = idxI x (a :: l)
    unfold idxI
    split
    · rfl
    · rename_i e
      rcases List.mem_cons.1 h with h | h
      · exact absurd h (eqK_f.1 e)
      · rw [idxI_app h]
theorem posL_app {H : List Tm} {ks : List Int} {t : Tm} (hsub : ∀ x ∈ ks, x ∈ idsH H) (ht : t.2 ∉ idsH H) : posL (H ++ [t]) (ks ++ [t.2]) = posL H ks ++ [((H.length : Nat) : Int)] := by
  unfold posL
  rw [List.map_append]
  have e : idsH (H ++ [t]) = idsH H ++ [t.2] := by unfold idsH; rw [List.map_append]; rfl
  congr 1
  · refine List.map_congr_left fun x hx => ?_
    rw [e, idxI_app (hsub x hx)]
  · have : idxI t.2 (idsH H ++ [t.2]) = H.length := by
      have hm : t.2 ∈ idsH H ++ [t.2] := by simp
      have h1 := idxI_in.2 hm
      have h2 := idxI_get h1
      simp only [List.length_append, List.length_cons, List.length_nil, ids_len] at h1
      by_cases c : idxI t.2 (idsH H ++ [t.2]) < H.length
      · exfalso
        rw [List.getD_eq_getElem?_getD, List.getElem?_append_left (by rw [ids_len]; exact c), List.getElem?_eq_getElem (by rw [ids_len]; exact c)] at h2
        exact ht (by rw [← h2]; exact List.getElem_mem _)
      · omega
    rw [e]
    simp only [List.map_cons, List.map_nil, this]
theorem map_erase' {α β : Type} (f : α → β) : ∀ (l : List α) (i : Nat), (l.map f).eraseIdx i = (l.eraseIdx i).map f
  | [], i => by simp
  | a :: l, 0 => rfl
  | a :: l, i + 1 => by
    show f a :: (l.map f).eraseIdx i = f a :: (l.eraseIdx i).map f
    rw [map_erase' f l i]
/-- Without the last one. -/
theorem posL_cut {H : List Tm} {ks : List Int} (hn : (idsH H).Nodup) (hks : ks.Nodup) (hsub : ∀ x ∈ ks, x ∈ idsH H) {y : Int} (hy : (hat H (H.length - 1)).2 = y) (hl : 0 < H.length) : posL (H.take (H.length - 1)) (ks.eraseIdx (idxI y ks)) = (posL H ks).eraseIdx (idxI y ks) := by
  unfold posL
  rw [map_erase']
  refine List.map_congr_left fun x hx => ?_
  have hx1 : x ∈ ks := List.mem_of_mem_eraseIdx hx
  have hne : x ≠ y := by
    intro e
    subst e
    have h1 := idxI_in.2 hx1
    obtain ⟨m, hm1, hm2⟩ := List.mem_eraseIdx_iff_getElem.1 hx
    obtain ⟨hm3, hm4⟩ := hm2
    have hm5 : m < ks.length := by first | exact hm1 | omega
    exact hm3 (idxI_uni hks hm5 (by rw [List.getD_eq_getElem?_getD, List.getElem?_eq_getElem hm5]; exact hm4)).symm
  have h3 := idxI_in.2 (hsub x hx1)
  have h4 := idxI_get h3
  rw [ids_len] at h3
  rw [ids_at] at h4
  have h5 : idxI x (idsH H) < H.length - 1 := by
    by_cases c : idxI x (idsH H) = H.length - 1
    · rw [c, hy] at h4; exact absurd h4.symm hne
    · omega
  have e : idsH (H.take (H.length - 1)) = (idsH H).take (H.length - 1) := by unfold idsH; rw [List.map_take]
  rw [e]
  congr 1
  have hn2 : ((idsH H).take (H.length - 1)).Nodup := hn.sublist (List.take_sublist _ _)
  refine idxI_uni hn2 (by rw [List.length_take, ids_len]; omega) ?_
  rw [List.getD_eq_getElem?_getD, List.getElem?_take, if_pos h5, ← List.getD_eq_getElem?_getD, ids_at, h4]
end Go.Spec
