/- Timers that were set, kept, taken away: plain facts. No conditions. -/
import Derived.Test.YtoikhfkfihejmaaWhV
set_option linter.unusedVariables false
namespace Go.Spec
open Go Go.Ev
/-- Without the timers of a number. -/
def rmv (x : Int) (H : List Tm) : List Tm := H.filter fun t => !(t.2 == x)
theorem rmv_out {x : Int} {H : List Tm} (h : x ∉ idsH H) : rmv x H = H := by
  unfold rmv
  refine List.filter_eq_self.2 fun t ht => ?_
  have : t.2 ≠ x := fun e => h (List.mem_map.2 ⟨t, ht, e⟩)
  simpa using this
theorem rmv_cons (a x : Int) (H : List Tm) : rmv x ((a, x) :: H) = rmv x H := by unfold rmv; simp
theorem rmv_perm {x : Int} {H K : List Tm} (p : H.Perm K) : (rmv x H).Perm (rmv x K) := p.filter _
theorem rmv_erase {x : Int} : ∀ {M : List Tm}, (idsH M).Nodup → rmv x M = M.eraseIdx (idxI x (idsH M))
  | [], _ => rfl
  | t :: r, hn => by
    have hn' : (t.2 :: idsH r).Nodup := hn
    obtain ⟨h1, h2⟩ := List.nodup_cons.1 hn'
    have e : idsH (t :: r) = t.2 :: idsH r := rfl
    rw [e]
    unfold idxI
    split
    · rename_i h
      have hx := eqK_t.1 h
      rw [List.eraseIdx_zero, List.tail_cons]
      have : rmv x (t :: r) = rmv x r := by unfold rmv; simp [hx]
      rw [this, rmv_out (by rw [hx]; exact h1)]
    · rename_i h
      have hx := eqK_f.1 h
      rw [List.eraseIdx_cons_succ, ← rmv_erase h2]
      unfold rmv
      have : (!(t.2 == x)) = true := by simpa using fun e => hx (by rw [e])
      rw [List.filter_cons_of_pos (by simpa using this)]
theorem WF.ok {H : List Tm} {ks bs : List Int} {cl : Nat} (w : WF H ks bs cl) (h : HeapH H) : WOk H ks := ⟨h, w.hn, w.kn, w.s1, w.s2⟩
theorem wok_rm {H : List Tm} {ks : List Int} (w : WOk H ks) (x : Int) : ((stopW H ks x).1).Perm (rmv x H) := by
  obtain ⟨h1, h2, h3⟩ := w.stopW x
  have hn : x ∉ idsH (stopW H ks x).1 := fun h => h2 (h1.s1 x h)
  by_cases h : idxI x ks < ks.length
  · obtain ⟨a, p⟩ := h3 h
    have := rmv_perm (x := x) p
    rw [rmv_cons, rmv_out hn] at this
    exact this
  · have e : (stopW H ks x).1 = H := by unfold stopW; rw [if_neg h]
    rw [e] at hn ⊢
    rw [rmv_out hn]
theorem WF.set {H : List Tm} {ks bs : List Int} {cl : Nat} (w : WF H ks bs cl) (x a : Int) (hl : H.length ≤ 999) : WF (setW H ks x a).1 (setK ks x) (setBs bs ks x cl) (cl + 1) := by
  unfold setW setK setBs
  dsimp only
  unfold stopW
  by_cases h : idxI x ks < ks.length
  · rw [if_pos h]
    have ws := w.stop h
    obtain ⟨p1, p2, p3⟩ := w.pos h
    have hsl : (stopH H (idxI x (idsH H))).length ≤ 999 := by rw [stopH_cut.length_eq, cutH_len]; omega
    refine (ws.app a (stopK_no w.kn) hsl).perm ?_
    exact upH_perm _ _ _ (by rw [List.length_append]; simp)
  · rw [if_neg h, stopK_out h, stopBs_out w.bl h]
    refine (w.app a (fun hx => h (idxI_in.2 hx)) hl).perm ?_
    exact upH_perm _ _ _ (by rw [List.length_append]; simp)
theorem set_heap {H : List Tm} {ks : List Int} (w : WOk H ks) (x a : Int) : HeapH (setW H ks x a).1 ∧ ((setW H ks x a).1).Perm ((a, x) :: rmv x H) :=
  ⟨(w.setW x a).1.heap, (w.setW x a).2.trans ((wok_rm w x).cons _)⟩
theorem erase_perm : ∀ {M : List Tm} {i : Nat} (h : i < M.length), (M[i] :: M.eraseIdx i).Perm M
  | [], i, h => absurd h (Nat.not_lt_zero _)
  | t :: r, 0, h => List.Perm.refl _
  | t :: r, i + 1, h => by
    have h' : i < r.length := by simpa using h
    rw [List.eraseIdx_cons_succ, List.getElem_cons_succ]
    exact (List.Perm.swap t (r[i]) (r.eraseIdx i)).trans ((erase_perm h').cons t)
theorem set_permE : ∀ {M : List Tm} {i : Nat} (h : i < M.length) (t : Tm), (M.set i t).Perm (t :: M.eraseIdx i)
  | [], i, h, t => absurd h (Nat.not_lt_zero _)
  | s :: r, 0, h, t => List.Perm.refl _
  | s :: r, i + 1, h, t => by
    have h' : i < r.length := by simpa using h
    rw [List.eraseIdx_cons_succ, List.set_cons_succ]
    exact ((set_permE h' t).cons s).trans (List.Perm.swap t s (r.eraseIdx i))
/-- Among those kept by their numbers: one set anew. -/
def putM (M : List Tm) (x a : Int) : List Tm := if idxI x (idsH M) < M.length then M.set (idxI x (idsH M)) (a, x) else M ++ [(a, x)]
theorem putM_perm {M : List Tm} (hn : (idsH M).Nodup) (x a : Int) : (putM M x a).Perm ((a, x) :: rmv x M) := by
  unfold putM
  rw [rmv_erase hn]
  split
  · rename_i h
    exact set_permE h (a, x)
  · rename_i h
    rw [List.eraseIdx_of_length_le (by omega)]
    exact List.perm_append_comm (l₁ := M) (l₂ := [(a, x)])
theorem putM_cols {M : List Tm} {x a : Int} (h : idxI x (idsH M) < (idsH M).length) : idsH (putM M x a) = idsH M ∧ atsH (putM M x a) = (atsH M).set (idxI x (idsH M)) a := by
  unfold putM
  rw [if_pos (by rw [ids_len] at h; exact h)]
  unfold idsH atsH
  rw [List.map_set, List.map_set]
  refine ⟨?_, rfl⟩
  have e : (idsH M).getD (idxI x (idsH M)) 0 = x := idxI_get h
  have := set_getD_same 0 (idsH M) (idxI x (idsH M))
  rw [e] at this
  exact this
theorem putM_cols2 {M : List Tm} {x a : Int} (h : ¬ idxI x (idsH M) < (idsH M).length) : idsH (putM M x a) = idsH M ++ [x] ∧ atsH (putM M x a) = atsH M ++ [a] := by
  unfold putM
  rw [if_neg (by rw [ids_len] at h; exact h)]
  exact ⟨(ids_app M a x).symm, (ats_app M a x).symm⟩
theorem ids_erase (M : List Tm) (i : Nat) : (idsH M).eraseIdx i = idsH (M.eraseIdx i) := map_erase' Prod.snd M i
theorem ats_erase (M : List Tm) (i : Nat) : (atsH M).eraseIdx i = atsH (M.eraseIdx i) := map_erase' Prod.fst M i
theorem ids_mem {H : List Tm} {t : Tm} (h : t ∈ H) : t.2 ∈ idsH H := List.mem_map.2 ⟨t, h, rfl⟩
/-- The first loop: behind i timers. -/
structure In1 (ids : List Int) (i : Nat) (H : List Tm) (ks bs : List Int) (cl : Nat) (M : List Tm) : Prop where
  w : WF H ks bs cl
  h : HeapH H
  p : H.Perm M
  le : H.length ≤ i
  src : ∀ x ∈ idsH M, ∃ j, j < i ∧ ids.getD j 0 = x
theorem In1.nil (ids : List Int) : In1 ids 0 [] [] [] 0 [] :=
  ⟨⟨List.nodup_nil, List.nodup_nil, (fun x h => by cases h), (fun x h => by cases h), rfl, List.nodup_nil, (fun x h => by cases h), by simp⟩, (fun j h1 h2 => absurd h2 (Nat.not_lt_zero _)), List.Perm.refl _, Nat.le_refl _, (fun x h => by cases h)⟩
theorem In1.step {ids : List Int} {i : Nat} {H : List Tm} {ks bs : List Int} {cl : Nat} {M : List Tm} (s : In1 ids i H ks bs cl M) (hi : i < 300) (a : Int) :
    In1 ids (i + 1) (setW H ks (ids.getD i 0) a).1 (setK ks (ids.getD i 0)) (setBs bs ks (ids.getD i 0) cl) (cl + 1) (putM M (ids.getD i 0) a) := by
  have hle := s.le
  obtain ⟨h1, h2⟩ := set_heap (s.w.ok s.h) (ids.getD i 0) a
  have hnM : (idsH M).Nodup := (s.p.map Prod.snd).nodup_iff.1 s.w.hn
  have hp := putM_perm hnM (ids.getD i 0) a
  refine ⟨s.w.set _ a (by omega), h1, h2.trans (((rmv_perm s.p).cons _).trans hp.symm), ?_, fun x hx => ?_⟩
  · rw [h2.length_eq, List.length_cons]
    have := List.length_filter_le (fun t : Tm => !(t.2 == ids.getD i 0)) H
    unfold rmv
    omega
  · have := (hp.map Prod.snd).mem_iff.1 hx
    rw [List.map_cons] at this
    rcases List.mem_cons.1 this with e | e
    · exact ⟨i, by omega, e.symm⟩
    · obtain ⟨t, ht, rfl⟩ := List.mem_map.1 e
      obtain ⟨j, j1, j2⟩ := s.src t.2 (ids_mem (List.mem_filter.1 ht).1)
      exact ⟨j, by omega, j2⟩
/-- The second loop: from i on. -/
structure In2 (ids : List Int) (n i : Nat) (H P M : List Tm) : Prop where
  p : (P ++ M).Perm H
  hn : (idsH H).Nodup
  src : ∀ x ∈ idsH M, ∃ j, i ≤ j ∧ j < n ∧ ids.getD j 0 = x
theorem In2.mn {ids : List Int} {n i : Nat} {H P M : List Tm} (s : In2 ids n i H P M) : (idsH M).Nodup := by
  have h := (s.p.map Prod.snd).nodup_iff.2 s.hn
  rw [List.map_append] at h
  exact (List.nodup_append.1 h).2.1
theorem In2.take {ids : List Int} {n i : Nat} {H P M : List Tm} (s : In2 ids n i H P M) (h : idxI (ids.getD i 0) (idsH M) < (idsH M).length) :
    In2 ids n (i + 1) H (P ++ [((atsH M).getD (idxI (ids.getD i 0) (idsH M)) 0, ids.getD i 0)]) (M.eraseIdx (idxI (ids.getD i 0) (idsH M))) := by
  have hl : idxI (ids.getD i 0) (idsH M) < M.length := by rw [ids_len] at h; exact h
  have et : ((atsH M).getD (idxI (ids.getD i 0) (idsH M)) 0, ids.getD i 0) = M[idxI (ids.getD i 0) (idsH M)] := by
    have e1 := idxI_get h
    rw [ids_at, hatE, List.getElem?_eq_getElem hl] at e1
    rw [ats_at, hatE, List.getElem?_eq_getElem hl]
    exact Prod.ext rfl e1.symm
  have q : (M[idxI (ids.getD i 0) (idsH M)] :: M.eraseIdx (idxI (ids.getD i 0) (idsH M))).Perm M := erase_perm hl
  refine ⟨?_, s.hn, fun x hx => ?_⟩
  · rw [et, List.append_assoc]
    exact (q.append_left P).trans s.p
  · rw [← ids_erase] at hx
    have hne := erase_ne s.mn hx
    obtain ⟨j, j1, j2, j3⟩ := s.src x (List.mem_of_mem_eraseIdx hx)
    refine ⟨j, ?_, j2, j3⟩
    by_cases e : j = i
    · subst e; exact absurd j3.symm hne
    · omega
theorem In2.skip {ids : List Int} {n i : Nat} {H P M : List Tm} (s : In2 ids n i H P M) (h : ¬ idxI (ids.getD i 0) (idsH M) < (idsH M).length) : In2 ids n (i + 1) H P M := by
  refine ⟨s.p, s.hn, fun x hx => ?_⟩
  obtain ⟨j, j1, j2, j3⟩ := s.src x hx
  refine ⟨j, ?_, j2, j3⟩
  by_cases e : j = i
  · subst e; exact absurd (idxI_in.2 (by rw [j3]; exact hx)) h
  · omega
theorem In2.fin {ids : List Int} {n : Nat} {H P M : List Tm} (s : In2 ids n n H P M) : P.Perm H := by
  have e : M = [] := by
    cases M with
    | nil => rfl
    | cons t r =>
      obtain ⟨j, j1, j2, _⟩ := s.src t.2 (ids_mem List.mem_cons_self)
      omega
  have := s.p
  rw [e, List.append_nil] at this
  exact this
/-- The third loop and on: what is left is what is in the wheel. -/
structure In3 (H : List Tm) (ks bs : List Int) (cl : Nat) (P : List Tm) : Prop where
  w : WF H ks bs cl
  h : HeapH H
  p : P.Perm H
  le : H.length ≤ 300
theorem In3.has {H : List Tm} {ks bs : List Int} {cl : Nat} {P : List Tm} (s : In3 H ks bs cl P) (x : Int) : idxI x ks < ks.length ↔ idxI x (idsH P) < (idsH P).length := by
  rw [idxI_in, idxI_in]
  have q := s.p.map Prod.snd
  exact ⟨fun h => q.mem_iff.2 (s.w.s2 x h), fun h => s.w.s1 x (q.mem_iff.1 h)⟩
theorem In3.pn {H : List Tm} {ks bs : List Int} {cl : Nat} {P : List Tm} (s : In3 H ks bs cl P) : (idsH P).Nodup := (s.p.map Prod.snd).nodup_iff.2 s.w.hn
theorem In3.stop {H : List Tm} {ks bs : List Int} {cl : Nat} {P : List Tm} (s : In3 H ks bs cl P) {x : Int} (h : idxI x ks < ks.length) :
    In3 (stopH H (idxI x (idsH H))) (stopK ks x) (stopBs bs ks x) cl (P.eraseIdx (idxI x (idsH P))) := by
  have e : (stopW H ks x).1 = stopH H (idxI x (idsH H)) := by unfold stopW; rw [if_pos h]
  have h1 := wok_rm (s.w.ok s.h) x
  have h2 := ((s.w.ok s.h).stopW x).1.heap
  rw [e] at h1 h2
  refine ⟨s.w.stop h, h2, ?_, ?_⟩
  · rw [← rmv_erase s.pn]
    exact (rmv_perm s.p).trans h1.symm
  · rw [h1.length_eq]
    have := List.length_filter_le (fun t : Tm => !(t.2 == x)) H
    have := s.le
    unfold rmv
    omega
theorem In3.len {H : List Tm} {ks bs : List Int} {cl : Nat} {P : List Tm} (s : In3 H ks bs cl P) : P.length ≤ 300 := by rw [s.p.length_eq]; exact s.le
/-- The last loop: the other wheel, behind i of what is left. -/
structure In5 (P : List Tm) (i : Nat) (H : List Tm) (ks bs : List Int) (cl : Nat) : Prop where
  w : WF H ks bs cl
  h : HeapH H
  p : H.Perm (P.take i)
theorem In5.step {P : List Tm} {i : Nat} {H : List Tm} {ks bs : List Int} {cl : Nat} (s : In5 P i H ks bs cl) (hn : (idsH P).Nodup) (hi : i < P.length) (hl : P.length ≤ 300) :
    In5 P (i + 1) (setW H ks (hat P i).2 (hat P i).1).1 (setK ks (hat P i).2) (setBs bs ks (hat P i).2 cl) (cl + 1) := by
  have hle : H.length ≤ 300 := by rw [s.p.length_eq, List.length_take]; omega
  obtain ⟨h1, h2⟩ := set_heap (s.w.ok s.h) (hat P i).2 (hat P i).1
  refine ⟨s.w.set _ _ (by omega), h1, h2.trans ?_⟩
  have eh : hat P i = P[i] := by rw [hatE, List.getElem?_eq_getElem hi]; rfl
  have hx : (hat P i).2 ∉ idsH H := by
    intro hc
    have hc2 := (s.p.map Prod.snd).mem_iff.1 hc
    have : idsH P = idsH (P.take i) ++ idsH (P.drop i) := by unfold idsH; rw [← List.map_append, List.take_append_drop]
    rw [this] at hn
    refine (List.nodup_append.1 hn).2.2 _ hc2 (hat P i).2 ?_ rfl
    rw [eh, List.drop_eq_getElem_cons hi]
    exact List.mem_cons_self
  rw [rmv_out hx, List.take_add_one, List.getElem?_eq_getElem hi]
  have : ((hat P i).1, (hat P i).2) = P[i] := eh
  rw [this]
  exact ((s.p.cons P[i])).trans (List.perm_append_comm (l₁ := [P[i]]) (l₂ := P.take i))
theorem tdA_len (now : Int) : ∀ (f : Nat) (H : List Tm) (ks bs : List Int), (tdA now f H ks bs).1.length ≤ f
  | 0, H, ks, bs => Nat.le_refl _
  | f + 1, H, ks, bs => by
    rw [tdA]
    split
    · rw [List.length_cons]; have := tdA_len now f (stopH H 0) (stopK ks (hat H 0).2) (stopBs bs ks (hat H 0).2); omega
    · exact Nat.zero_le _
end Go.Spec
