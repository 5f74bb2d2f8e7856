/- A wheel: its heap and its numbers; stopping, setting. Plain facts. No conditions. -/
import Derived.Test.YtoikhfkfihejmaaWhQ
set_option linter.unusedVariables false
namespace Go.Spec
open Go Go.Ev
structure WOk (H : List Tm) (ks : List Int) : Prop where
  heap : HeapH H
  hn : (idsH H).Nodup
  kn : ks.Nodup
  s1 : ∀ x ∈ idsH H, x ∈ ks
  s2 : ∀ x ∈ ks, x ∈ idsH H
theorem erase_mem {ks : List Int} {x y : Int} (hx : x ∈ ks) (hne : x ≠ y) : x ∈ ks.eraseIdx (idxI y ks) := by
  induction ks with
  | nil => cases hx
  | cons a r ih =>
    unfold idxI
    split
    · rename_i e
      rcases List.mem_cons.1 hx with h | h
      · exact absurd (h.trans (eqK_t.1 e).symm) hne
      · exact h
    · rcases List.mem_cons.1 hx with h | h
      · rw [h]; exact List.mem_cons_self
      · exact List.mem_cons_of_mem _ (ih h)
theorem erase_sub {ks : List Int} {x y : Int} (h : x ∈ ks.eraseIdx (idxI y ks)) : x ∈ ks := List.mem_of_mem_eraseIdx h
theorem erase_ne {ks : List Int} {x y : Int} (hn : ks.Nodup) (h : x ∈ ks.eraseIdx (idxI y ks)) : x ≠ y := by
  induction ks with
  | nil => simp at h
  | cons a r ih =>
    obtain ⟨h1, h2⟩ := List.nodup_cons.1 hn
    unfold idxI at h
    split at h
    · rename_i e
      have h : x ∈ r := h
      intro c
      rw [c, eqK_t.1 e] at h
      exact h1 h
    · rename_i e
      have h : x ∈ a :: r.eraseIdx (idxI y r) := h
      rcases List.mem_cons.1 h with h | h
      · intro c
        exact eqK_f.1 e (by rw [← c, h])
      · exact ih h2 h
theorem WOk.nil : WOk [] [] := ⟨(fun j h1 h2 => absurd h2 (Nat.not_lt_zero _)), List.nodup_nil, List.nodup_nil, (fun x h => by cases h), (fun x h => by cases h)⟩
theorem WOk.len {H : List Tm} {ks : List Int} (w : WOk H ks) : ks.length = H.length := by
  have h1 : (idsH H).Perm ks := (List.perm_ext_iff_of_nodup w.hn w.kn).2 fun x => ⟨w.s1 x, w.s2 x⟩
  have := h1.length_eq
  rw [ids_len] at this
  exact this.symm
theorem WOk.stop {H : List Tm} {ks : List Int} (w : WOk H ks) {i : Nat} (hi : i < H.length) : WOk (stopH H i) (ks.eraseIdx (idxI (hat H i).2 ks)) := by
  obtain ⟨a, b⟩ := stop_ok w.heap hi
  have hp : ((hat H i).2 :: idsH (stopH H i)).Perm (idsH H) := b.map Prod.snd
  have hn := hp.nodup_iff.2 w.hn
  obtain ⟨n1, n2⟩ := List.nodup_cons.1 hn
  refine ⟨a, n2, w.kn.sublist (List.eraseIdx_sublist ..), fun x hx => ?_, fun x hx => ?_⟩
  · exact erase_mem (w.s1 x (hp.mem_iff.1 (List.mem_cons_of_mem _ hx))) (fun e => n1 (by rw [← e]; exact hx))
  · have h1 := erase_ne w.kn hx
    rcases List.mem_cons.1 (hp.mem_iff.2 (w.s2 x (erase_sub hx))) with h | h
    · exact absurd h h1
    · exact h
theorem WOk.push {H : List Tm} {ks : List Int} (w : WOk H ks) {t : Tm} (ht : t.2 ∉ ks) : WOk (pushH H t) (ks ++ [t.2]) := by
  obtain ⟨a, b⟩ := push_ok w.heap t
  have hp : (idsH (pushH H t)).Perm (t.2 :: idsH H) := b.map Prod.snd
  have hni : t.2 ∉ idsH H := fun h => ht (w.s1 _ h)
  refine ⟨a, hp.nodup_iff.2 (List.nodup_cons.2 ⟨hni, w.hn⟩), List.nodup_append.2 ⟨w.kn, by simp, fun x hx y hy => ?_⟩, fun x hx => ?_, fun x hx => ?_⟩
  · intro e
    rw [List.mem_singleton.1 hy] at e
    exact ht (by rw [← e]; exact hx)
  · rcases List.mem_cons.1 (hp.mem_iff.1 hx) with h | h
    · exact List.mem_append_right _ (List.mem_singleton.2 h)
    · exact List.mem_append_left _ (w.s1 x h)
  · rcases List.mem_append.1 hx with h | h
    · exact hp.mem_iff.2 (List.mem_cons_of_mem _ (w.s2 x h))
    · rw [List.mem_singleton.1 h]; exact hp.mem_iff.2 List.mem_cons_self
/-- Where a number's timer is. -/
theorem WOk.pos {H : List Tm} {ks : List Int} (w : WOk H ks) {x : Int} (hx : x ∈ ks) : idxI x (idsH H) < H.length ∧ (hat H (idxI x (idsH H))).2 = x := by
  have h1 := idxI_in.2 (w.s2 x hx)
  have h2 := idxI_get h1
  rw [ids_len] at h1
  rw [ids_at] at h2
  exact ⟨h1, h2⟩
theorem WOk.stopW {H : List Tm} {ks : List Int} (w : WOk H ks) (x : Int) : WOk (stopW H ks x).1 (stopW H ks x).2 ∧ x ∉ (Spec.stopW H ks x).2 ∧ (idxI x ks < ks.length → ∃ a, (((a, x) : Tm) :: (Spec.stopW H ks x).1).Perm H) := by
  unfold Spec.stopW
  by_cases h : idxI x ks < ks.length
  · rw [if_pos h]
    obtain ⟨h1, h2⟩ := w.pos (idxI_in.1 h)
    have h3 := w.stop h1
    rw [h2] at h3
    refine ⟨h3, fun hc => erase_ne w.kn hc rfl, fun _ => ⟨(hat H (idxI x (idsH H))).1, ?_⟩⟩
    have h4 := (stop_ok w.heap h1).2
    rw [show hat H (idxI x (idsH H)) = ((hat H (idxI x (idsH H))).1, x) from Prod.ext rfl h2] at h4
    exact h4
  · rw [if_neg h]
    exact ⟨w, fun hc => h (idxI_in.2 hc), fun hc => absurd hc h⟩
theorem WOk.setW {H : List Tm} {ks : List Int} (w : WOk H ks) (x a : Int) : WOk (setW H ks x a).1 (setW H ks x a).2 ∧ ((Spec.setW H ks x a).1).Perm ((a, x) :: (Spec.stopW H ks x).1) := by
  obtain ⟨h1, h2, _⟩ := WOk.stopW w x
  exact ⟨h1.push (t := (a, x)) h2, (push_ok h1.heap (a, x)).2⟩
end Go.Spec
