/- A wheel's columns and its heap: plain facts. No conditions. -/
import Derived.Test.YtoikhfkfihejmaaWhW
import Derived.Test.YtoikhfkfihejmaaEvD
set_option linter.unusedVariables false
namespace Go.Spec
open Go Go.Ev
theorem toH_len {n : Nat} {ts xs : List Int} (h1 : ts.length = n) (h2 : xs.length = n) : (toH ts xs).length = n := by
  unfold toH; rw [List.length_zip, h1, h2, Nat.min_self]
theorem toH_ats {n : Nat} {ts xs : List Int} (h1 : ts.length = n) (h2 : xs.length = n) : atsH (toH ts xs) = ts := by
  unfold toH atsH; exact List.map_fst_zip (by omega)
theorem toH_ids {n : Nat} {ts xs : List Int} (h1 : ts.length = n) (h2 : xs.length = n) : idsH (toH ts xs) = xs := by
  unfold toH idsH; exact List.map_snd_zip (by omega)
theorem toH_self : ∀ H : List Tm, toH (atsH H) (idsH H) = H
  | [] => rfl
  | a :: r => by
    have := toH_self r
    unfold toH atsH idsH at this ⊢
    rw [List.map_cons, List.map_cons, List.zip_cons_cons, this]
theorem ats_len (H : List Tm) : (atsH H).length = H.length := by unfold atsH; rw [List.length_map]
theorem getD_map2 {α β : Type} (f : α → β) (d : α) (l : List α) (i : Nat) : (l.map f).getD i (f d) = f (l.getD i d) := by
  simp only [List.getD_eq_getElem?_getD, List.getElem?_map]
  cases l[i]? <;> rfl
theorem ats_at (H : List Tm) (i : Nat) : (atsH H).getD i 0 = (hat H i).1 := getD_map2 Prod.fst tz H i
theorem ats_sw (H : List Tm) (i k : Nat) : ((atsH H).set i ((atsH H).getD k 0)).set k ((atsH H).getD i 0) = atsH (swH H i k) := by
  rw [ats_at, ats_at]
  unfold swH atsH
  rw [List.map_set, List.map_set]
theorem ids_sw (H : List Tm) (i k : Nat) : ((idsH H).set i ((idsH H).getD k 0)).set k ((idsH H).getD i 0) = idsH (swH H i k) := by
  rw [ids_at, ids_at]
  unfold swH idsH
  rw [List.map_set, List.map_set]
theorem fit_sw (H : List Tm) (i k n : Nat) (h : H.length = n) : List.set (fitL 0 n (List.set (fitL 0 n (atsH H)) i ((atsH H).getD k 0))) k ((atsH H).getD i 0) = atsH (swH H i k) := by
  rw [fitL_same 0 n (atsH H) (by rw [ats_len, h]), fitL_same 0 n _ (by rw [List.length_set, ats_len, h]), ats_sw]
theorem fit_swI (H : List Tm) (i k n : Nat) (h : H.length = n) : List.set (fitL 0 n (List.set (fitL 0 n (idsH H)) i ((idsH H).getD k 0))) k ((idsH H).getD i 0) = idsH (swH H i k) := by
  rw [fitL_same 0 n (idsH H) (by rw [ids_len, h]), fitL_same 0 n _ (by rw [List.length_set, ids_len, h]), ids_sw]
theorem fitL_cut {α : Type} (d : α) : ∀ (n : Nat) (l : List α), n ≤ l.length → fitL d n l = l.take n
  | 0, l, _ => by simp [fitL]
  | n + 1, [], h => by simp at h
  | n + 1, x :: r, h => by rw [fitL, fitL_cut d n r (by simpa using h)]; rfl
theorem ats_take (H : List Tm) (n : Nat) : (atsH H).take n = atsH (H.take n) := by unfold atsH; rw [List.map_take]
theorem ids_take (H : List Tm) (n : Nat) : (idsH H).take n = idsH (H.take n) := by unfold idsH; rw [List.map_take]
theorem ats_app (H : List Tm) (a x : Int) : atsH H ++ [a] = atsH (H ++ [(a, x)]) := by unfold atsH; simp
theorem ids_app (H : List Tm) (a x : Int) : idsH H ++ [x] = idsH (H ++ [(a, x)]) := by unfold idsH; simp
/-- A wheel's numbers fit together. -/
structure WF (H : List Tm) (ks bs : List Int) (cl : Nat) : Prop where
  hn : (idsH H).Nodup
  kn : ks.Nodup
  s1 : ∀ x ∈ idsH H, x ∈ ks
  s2 : ∀ x ∈ ks, x ∈ idsH H
  bl : bs.length = ks.length
  bn : bs.Nodup
  bc : ∀ b ∈ bs, b < (cl : Nat)
  le : H.length ≤ 1000
theorem wf_of {n : Nat} {ts xs ks vs bs : List Int} {cl : Nat} (h : wfB n ts xs ks vs bs cl = true) : ∃ H, ts = atsH H ∧ xs = idsH H ∧ n = H.length ∧ vs = posL H ks ∧ WF H ks bs cl := by
  obtain ⟨h1, h2, h3, h4, h5, h6, h7, h8, h9, h10, h11⟩ := of_decide_eq_true h
  refine ⟨toH ts xs, (toH_ats h1 h2).symm, (toH_ids h1 h2).symm, (toH_len h1 h2).symm, h10, ?_⟩
  refine ⟨?_, h7, ?_, ?_, h3, h4, h5, ?_⟩
  · rw [toH_ids h1 h2]; exact h6
  · rw [toH_ids h1 h2]; exact h8
  · rw [toH_ids h1 h2]; exact h9
  · rw [toH_len h1 h2]; exact h11
theorem WF.to {H : List Tm} {ks bs : List Int} {cl : Nat} (w : WF H ks bs cl) : wfB H.length (atsH H) (idsH H) ks (posL H ks) bs cl = true := by
  unfold wfB
  refine decide_eq_true ⟨ats_len H, ids_len H, w.bl, w.bn, w.bc, w.hn, w.kn, w.s1, w.s2, ?_, w.le⟩
  rw [toH_self]
theorem swS_eq (H : List Tm) (i k : Int) : swS (atsH H) (idsH H) i k = swH H i.toNat k.toNat := by unfold swS; rw [toH_self]
theorem upS_eq (H : List Tm) (i : Int) : upS (atsH H) (idsH H) i = upH i.toNat H i.toNat := by unfold upS; rw [toH_self]
theorem downS_eq (H : List Tm) (i : Int) : downS (atsH H) (idsH H) i = downH H.length H i.toNat := by unfold downS; rw [toH_self, ats_len]
theorem stopS_eq (H : List Tm) (x : Int) : stopS (atsH H) (idsH H) x = stopH H (idxI x (idsH H)) := by unfold stopS; rw [toH_self]
theorem setS_eq (H : List Tm) (ks : List Int) (x a : Int) : setS (atsH H) (idsH H) ks x a = (setW H ks x a).1 := by unfold setS; rw [toH_self]
theorem inB_nat {i n : Nat} (h : i < n) : inB (i : Int) n = true := decide_eq_true ⟨by omega, by omega⟩
theorem inB_of {i : Int} {n : Nat} (h : inB i n = true) : ∃ j : Nat, i = (j : Int) ∧ j < n := by
  obtain ⟨h1, h2⟩ := of_decide_eq_true h
  exact ⟨i.toNat, by omega, by omega⟩
theorem tltB_eq (H : List Tm) (i k : Nat) : tltB ((atsH H).getD i 0) ((idsH H).getD i 0) ((atsH H).getD k 0) ((idsH H).getD k 0) = tlt (hat H i) (hat H k) := by
  rw [ats_at, ats_at, ids_at, ids_at]; rfl
theorem sw_ids {H : List Tm} {i k : Nat} (hi : i < H.length) (hk : k < H.length) : (idsH (swH H i k)).Perm (idsH H) := (swH_perm hi hk).map Prod.snd
theorem WF.perm {H H' : List Tm} {ks bs : List Int} {cl : Nat} (w : WF H ks bs cl) (p : H'.Perm H) : WF H' ks bs cl := by
  have q : (idsH H').Perm (idsH H) := p.map Prod.snd
  exact ⟨q.nodup_iff.2 w.hn, w.kn, fun x h => w.s1 x (q.mem_iff.1 h), fun x h => q.mem_iff.2 (w.s2 x h), w.bl, w.bn, w.bc, by rw [p.length_eq]; exact w.le⟩
theorem WF.sw {H : List Tm} {ks bs : List Int} {cl : Nat} (w : WF H ks bs cl) {i k : Nat} (hi : i < H.length) (hk : k < H.length) : WF (swH H i k) ks bs cl := w.perm (swH_perm hi hk)
theorem upH_perm : ∀ (f i : Nat) (H : List Tm), i < H.length → (upH f H i).Perm H
  | 0, i, H, h => List.Perm.refl _
  | f + 1, i, H, h => by
    unfold upH
    split
    · have hp : par i < H.length := by unfold par; omega
      exact (upH_perm f (par i) _ (by rw [swH_len]; exact hp)).trans (swH_perm h hp)
    · exact List.Perm.refl _
theorem downH_perm : ∀ (f i : Nat) (H : List Tm), i < H.length → (downH f H i).Perm H
  | 0, i, H, h => List.Perm.refl _
  | f + 1, i, H, h => by
    unfold downH
    split
    · rename_i c
      exact (downH_perm f (kid H i) _ (by rw [swH_len]; exact c.1)).trans (swH_perm h c.1)
    · exact List.Perm.refl _
end Go.Spec
