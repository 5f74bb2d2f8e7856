/- Stopping and setting a timer in a wheel: the summaries. No conditions. -/
import Derived.Test.YtoikhfkfihejmaaWhS
import Derived.Test.YtoikhfkfihejmaaWhT3
import Derived.Test.YtoikhfkfihejmaaWhT4
set_option linter.unusedVariables false
namespace Go.Spec
open Go Go.Ev
theorem WF.pos {H : List Tm} {ks bs : List Int} {cl : Nat} (w : WF H ks bs cl) {x : Int} (h : idxI x ks < ks.length) : idxI x (idsH H) < H.length ∧ (hat H (idxI x (idsH H))).2 = x ∧ (posL H ks).getD (idxI x ks) 0 = ((idxI x (idsH H) : Nat) : Int) := by
  have hx : x ∈ ks := idxI_in.1 h
  have h1 := idxI_in.2 (w.s2 x hx)
  have h2 := idxI_get h1
  rw [ids_len] at h1
  rw [ids_at] at h2
  refine ⟨h1, h2, ?_⟩
  rw [posL_at H h, idxI_get h]
theorem WF.cut {H : List Tm} {ks bs : List Int} {cl : Nat} (w : WF H ks bs cl) {x : Int} (h : idxI x ks < ks.length) : WF (cutH H (idxI x (idsH H))) (stopK ks x) (stopBs bs ks x) cl := by
  obtain ⟨h1, h2, _⟩ := w.pos h
  have b := cutH_perm h1
  have hp : (x :: idsH (cutH H (idxI x (idsH H)))).Perm (idsH H) := by
    have := b.map Prod.snd
    rw [List.map_cons, h2] at this
    exact this
  obtain ⟨n1, n2⟩ := List.nodup_cons.1 (hp.nodup_iff.2 w.hn)
  unfold stopK stopBs
  refine ⟨n2, w.kn.sublist (List.eraseIdx_sublist ..), fun y hy => ?_, fun y hy => ?_, ?_, w.bn.sublist (List.eraseIdx_sublist ..), fun y hy => w.bc y (List.mem_of_mem_eraseIdx hy), ?_⟩
  · exact erase_mem (w.s1 y (hp.mem_iff.1 (List.mem_cons_of_mem _ hy))) (fun e => n1 (by rw [e] at hy; exact hy))
  · have h1 := erase_ne w.kn hy
    rcases List.mem_cons.1 (hp.mem_iff.2 (w.s2 y (erase_sub hy))) with h | h
    · exact absurd h h1
    · exact h
  · rw [List.length_eraseIdx_of_lt (by rw [w.bl]; exact h), List.length_eraseIdx_of_lt h, w.bl]
  · rw [cutH_len]; have := w.le; omega
theorem WF.cutpos {H : List Tm} {ks bs : List Int} {cl : Nat} (w : WF H ks bs cl) {x : Int} (h : idxI x ks < ks.length) : (posL (swH H (idxI x (idsH H)) (H.length - 1)) ks).eraseIdx (idxI x ks) = posL (cutH H (idxI x (idsH H))) (stopK ks x) := by
  obtain ⟨h1, h2, _⟩ := w.pos h
  have hl : H.length - 1 < H.length := by omega
  have w' := w.sw h1 hl
  unfold cutH stopK
  have e := posL_cut (H := swH H (idxI x (idsH H)) (H.length - 1)) (ks := ks) w'.hn w'.kn w'.s2 (y := x) (by rw [swH_len, swH_at h1 hl, if_pos rfl]; exact h2) (by rw [swH_len]; omega)
  rw [swH_len] at e
  exact e.symm
theorem upH_len2 (f : Nat) (H : List Tm) (i : Nat) : (upH f H i).length = H.length := upH_len f H i
theorem stop_eq {H : List Tm} {i : Nat} (h : i < H.length - 1) : downH (upH i (cutH H i) i).length (upH i (cutH H i) i) i = stopH H i := by
  unfold stopH
  rw [if_pos h, up_fuel H.length i (cutH H i) (by omega)]
  refine down_fuel _ _ i _ (by omega) ?_
  rw [upH_len, cutH_len]; omega
theorem stopH_cut {H : List Tm} {i : Nat} : (stopH H i).Perm (cutH H i) := by
  unfold stopH
  split
  · rename_i h
    have h1 : i < (cutH H i).length := by rw [cutH_len]; exact h
    exact (downH_perm _ _ _ (by rw [upH_len]; exact h1)).trans (upH_perm _ _ _ h1)
  · exact List.Perm.refl _
theorem WF.stop {H : List Tm} {ks bs : List Int} {cl : Nat} (w : WF H ks bs cl) {x : Int} (h : idxI x ks < ks.length) : WF (stopH H (idxI x (idsH H))) (stopK ks x) (stopBs bs ks x) cl := (w.cut h).perm stopH_cut
theorem stopK_no {ks : List Int} {x : Int} (hn : ks.Nodup) : x ∉ stopK ks x := fun h => erase_ne hn h rfl
theorem stopK_out {ks : List Int} {x : Int} (h : ¬ idxI x ks < ks.length) : stopK ks x = ks := by unfold stopK; rw [List.eraseIdx_of_length_le (by omega)]
theorem stopBs_out {bs ks : List Int} {x : Int} (hl : bs.length = ks.length) (h : ¬ idxI x ks < ks.length) : stopBs bs ks x = bs := by unfold stopBs; rw [List.eraseIdx_of_length_le (by omega)]
theorem WF.app {S : List Tm} {K B : List Int} {cl : Nat} (w : WF S K B cl) {x : Int} (a : Int) (hx : x ∉ K) (hl : S.length ≤ 999) : WF (S ++ [(a, x)]) (K ++ [x]) (B ++ [(cl : Int)]) (cl + 1) := by
  have hxi : x ∉ idsH S := fun h => hx (w.s1 x h)
  have ei : idsH (S ++ [(a, x)]) = idsH S ++ [x] := (ids_app S a x).symm
  refine ⟨?_, ?_, fun y hy => ?_, fun y hy => ?_, by rw [List.length_append, List.length_append, w.bl]; rfl, ?_, fun y hy => ?_, by rw [List.length_append]; simp; omega⟩
  · rw [ei]
    exact List.nodup_append.2 ⟨w.hn, by simp, fun y hy z hz e => by rw [List.mem_singleton.1 hz] at e; rw [e] at hy; exact hxi hy⟩
  · exact List.nodup_append.2 ⟨w.kn, by simp, fun y hy z hz e => by rw [List.mem_singleton.1 hz] at e; rw [e] at hy; exact hx hy⟩
  · rw [ei] at hy
    rcases List.mem_append.1 hy with h | h
    · exact List.mem_append_left _ (w.s1 y h)
    · exact List.mem_append_right _ h
  · rw [ei]
    rcases List.mem_append.1 hy with h | h
    · exact List.mem_append_left _ (w.s2 y h)
    · exact List.mem_append_right _ h
  · exact List.nodup_append.2 ⟨w.bn, by simp, fun y hy z hz e => by rw [List.mem_singleton.1 hz] at e; have := w.bc y hy; omega⟩
  · rcases List.mem_append.1 hy with h | h
    · have := w.bc y h; omega
    · rw [List.mem_singleton.1 h]; omega
theorem pushH_eq (S : List Tm) (t : Tm) : upH S.length (S ++ [t]) S.length = pushH S t := by
  unfold pushH
  exact (up_fuel (S.length + 1) S.length (S ++ [t]) (by omega)).symm
end Go.Spec
namespace Go.Ev
open Go Go.Proofs Go.Spec
attribute [local irreducible] ev evCall branch need again
theorem cxSt_ok : CxOk Try.prog cxSt := mkCx_ok namesW mixedW (by
  intro x h
  simp only [List.mem_cons, List.not_mem_nil, or_false] at h
  rcases h with rfl | rfl | rfl
  · exact up_sum
  · exact swap_sum
  · exact down_sum)
theorem sStop_lin (args : List SA) (st : St) : Lin (sStop args st) := by
  intro k h
  unfold sStop at h ⊢
  split at h
  · exact (Lin.need (Lin.branch (Lin.ret _ _) (Lin.ret _ _))) k h
  · exact h.elim
theorem st_run {H : List Tm} {ks bs : List Int} {cl : Nat} (w : WF H ks bs cl) (x : Int) (N : Nat) (k : SV → St → Prop)
    (hT : idxI x ks < ks.length → k (.sa (.one (bv true))) [wO 3 2, none, wM (stopH H (idxI x (idsH H))) (stopK ks x) (stopBs bs ks x) cl, wT (stopH H (idxI x (idsH H)))])
    (hF : ¬ idxI x ks < ks.length → k (.sa (.one (bv false))) [wO 1 2, wT H, wM H ks bs cl]) :
    evCall cxSt (ev cxSt (N + 50)) 7 [.one (.ptr 0 0 0), .one (iv .i64 x)] [wO 1 2, wT H, wM H ks bs cl] k := by
  unfold wT wM
  rw [t_st]
  refine brd (fun h => ?_) hF
  obtain ⟨p1, p2, p3⟩ := w.pos h
  have hle := w.le
  have e1 : subK .i64 ((H.length : Nat) : Int) 1 = ((H.length - 1 : Nat) : Int) := by rw [sub64 (by omega)]; omega
  rw [p3, e1]
  simp only [swS_eq, Int.toNat_natCast, Nat.sub_zero]
  rw [swH_len]
  have hl : H.length - 1 < H.length := by omega
  rw [w.to, inB_nat p1, inB_nat hl]
  refine need_t (ndd (by omega) (ndd (by omega) (ndd (by omega) (ndd (by omega) ⟨brt h ?_⟩))))
  rw [fitL_cut 0 (H.length - 1) (atsH (swH H (idxI x (idsH H)) (H.length - 1))) (by rw [ats_len, swH_len]; omega), fitL_cut 0 (H.length - 1) (idsH (swH H (idxI x (idsH H)) (H.length - 1))) (by rw [ids_len, swH_len]; omega), ats_take, ids_take]
  have ec : (swH H (idxI x (idsH H)) (H.length - 1)).take (H.length - 1) = cutH H (idxI x (idsH H)) := rfl
  rw [ec, w.cutpos h]
  have wc := w.cut h
  have hK := hT h
  clear hT hF
  have ecl : H.length - 1 = (cutH H (idxI x (idsH H))).length := cutH_len.symm
  have eK : List.eraseIdx ks (idxI x ks) = stopK ks x := rfl
  have eB : List.eraseIdx bs (idxI x ks) = stopBs bs ks x := rfl
  rw [eK, eB]
  refine brd (fun hlt => ?_) (fun hnl => ?_)
  · have hlt' : idxI x (idsH H) < H.length - 1 := by omega
    have hst := stop_eq hlt'
    rw [ecl, upS_eq, Int.toNat_natCast]
    rw [wc.to, inB_nat (show idxI x (idsH H) < (cutH H (idxI x (idsH H))).length by rw [cutH_len]; exact hlt')]
    refine need_t2 ?_
    have wu : WF (upH (idxI x (idsH H)) (cutH H (idxI x (idsH H))) (idxI x (idsH H))) (stopK ks x) (stopBs bs ks x) cl := wc.perm (upH_perm _ _ _ (by rw [cutH_len]; exact hlt'))
    rw [wu.to, inB_nat (show idxI x (idsH H) < (upH (idxI x (idsH H)) (cutH H (idxI x (idsH H))) (idxI x (idsH H))).length by rw [upH_len, cutH_len]; exact hlt')]
    refine need_t2 ?_
    rw [downS_eq, Int.toNat_natCast, hst]
    exact hK
  · have e : stopH H (idxI x (idsH H)) = cutH H (idxI x (idsH H)) := by unfold stopH; rw [if_neg (by omega)]
    rw [e] at hK
    rw [ecl]
    exact hK
theorem stop_sum : SumOk Try.prog 7 sStop := by
  refine sumOk_of cxSt_ok sStop_lin fun args st k h => ?_
  unfold sStop at h
  split at h
  · rename_i x n ts xs ks vs bs cl
    obtain ⟨h1, hK⟩ := need_iff.1 h
    clear h
    obtain ⟨H, rfl, rfl, rfl, rfl, w⟩ := wf_of h1
    rw [stopS_eq] at hK
    refine ⟨0 + 50, st_run w x 0 k (fun hx => ?_) (fun hx => ?_)⟩
    · rcases branch_or hK with ⟨e, h⟩ | ⟨e, h⟩
      · exact h
      · exact absurd hx (of_decide_eq_false e)
    · rcases branch_or hK with ⟨e, h⟩ | ⟨e, h⟩
      · exact absurd (of_decide_eq_true e) hx
      · exact h
  · exact h.elim
theorem cxSe_ok : CxOk Try.prog cxSe := mkCx_ok namesW mixedW (by
  intro x h
  simp only [List.mem_cons, List.not_mem_nil, or_false] at h
  rcases h with rfl | rfl
  · exact stop_sum
  · exact up_sum)
theorem sSet_lin (args : List SA) (st : St) : Lin (sSet args st) := by
  intro k h
  unfold sSet at h ⊢
  split at h
  · exact (Lin.need (Lin.ret _ _)) k h
  · exact h.elim
/-- Behind the stopping: the new timer goes to the end, and up. -/
theorem se_tail {S : List Tm} {K B : List Int} {cl : Nat} (w : WF S K B cl) {x : Int} (a : Int) (hx : x ∉ K) (hl : S.length ≤ 999) {Z : Prop} {R : List Tm → Prop}
    (hR : R (pushH S (a, x))) :
    need (decide (((S.length + 1) * 16) ≤ 140737488355328)) (branch (decide (idxI x K < K.length)) Z
      (need ((wfB (S.length + 1) (fitL 0 S.length (atsH S) ++ [a]) (fitL 0 S.length (idsH S) ++ [x]) (K ++ [x]) (fitL 0 K.length (posL S K) ++ [subK .i64 ((S.length + 1 : Nat) : Int) 1]) (B ++ [((cl : Nat) : Int)]) (cl + 1)) && (inB (subK .i64 ((S.length + 1 : Nat) : Int) 1) (S.length + 1)))
        (R (upS (fitL 0 S.length (atsH S) ++ [a]) (fitL 0 S.length (idsH S) ++ [x]) (subK .i64 ((S.length + 1 : Nat) : Int) 1))))) := by
  refine ndd (by omega) (brf (fun h => hx (idxI_in.1 h)) ?_)
  have e1 : subK .i64 ((S.length + 1 : Nat) : Int) 1 = ((S.length : Nat) : Int) := by rw [sub64 (by omega)]; omega
  have ep : posL S K ++ [((S.length : Nat) : Int)] = posL (S ++ [(a, x)]) (K ++ [x]) := (posL_app w.s2 (t := (a, x)) (fun h => hx (w.s1 x h))).symm
  have el : S.length + 1 = (S ++ [(a, x)]).length := by rw [List.length_append]; rfl
  rw [e1, fitL_same 0 S.length (atsH S) (ats_len S), fitL_same 0 S.length (idsH S) (ids_len S), fitL_same 0 K.length (posL S K) (posL_len S K), ep, ats_app S a x, ids_app S a x, el]
  rw [(w.app a hx hl).to, inB_nat (show S.length < (S ++ [(a, x)]).length by omega)]
  refine need_t2 ?_
  rw [upS_eq, Int.toNat_natCast, pushH_eq]
  exact hR
theorem se_run {H : List Tm} {ks bs : List Int} {cl : Nat} (w : WF H ks bs cl) (x a : Int) (hl : H.length ≤ 999) (N : Nat) (k : SV → St → Prop)
    (hK : k (.tup []) [wO 3 2, none, wM (setW H ks x a).1 (setK ks x) (setBs bs ks x cl) (cl + 1), wT (setW H ks x a).1]) :
    evCall cxSe (ev cxSe (N + 50)) 6 [.one (.ptr 0 0 0), .one (iv .i64 x), .one (iv .u64 a)] [wO 1 2, wT H, wM H ks bs cl] k := by
  unfold wT wM
  rw [t_se, w.to]
  refine need_t1 ?_
  unfold setW at hK
  dsimp only at hK
  unfold stopW at hK
  unfold setK setBs at hK
  refine brd (fun h => ?_) (fun h => ?_)
  · rw [if_pos h] at hK
    have ws := w.stop h
    obtain ⟨p1, p2, p3⟩ := w.pos h
    have hsl : (stopH H (idxI x (idsH H))).length ≤ 999 := by rw [stopH_cut.length_eq, cutH_len]; omega
    rw [stopS_eq]
    exact se_tail ws a (stopK_no w.kn) hsl (R := fun P => k (.tup []) [wO 3 2, none, wM P (stopK ks x ++ [x]) (stopBs bs ks x ++ [((cl : Nat) : Int)]) (cl + 1), wT P]) hK
  · rw [if_neg h] at hK
    rw [stopK_out h, stopBs_out w.bl h] at hK
    exact se_tail w a (fun hx => h (idxI_in.2 hx)) hl (R := fun P => k (.tup []) [wO 3 2, none, wM P (ks ++ [x]) (bs ++ [((cl : Nat) : Int)]) (cl + 1), wT P]) hK
theorem set_sum : SumOk Try.prog 6 sSet := by
  refine sumOk_of cxSe_ok sSet_lin fun args st k h => ?_
  unfold sSet at h
  split at h
  · rename_i x a n ts xs ks vs bs cl
    obtain ⟨h1, hK⟩ := need_iff.1 h
    clear h
    obtain ⟨h1, h2⟩ := Bool.and_eq_true_iff.1 h1
    obtain ⟨H, rfl, rfl, rfl, rfl, w⟩ := wf_of h1
    rw [setS_eq] at hK
    exact ⟨0 + 50, se_run w x a (of_decide_eq_true h2) 0 k hK⟩
  · exact h.elim
end Go.Ev
