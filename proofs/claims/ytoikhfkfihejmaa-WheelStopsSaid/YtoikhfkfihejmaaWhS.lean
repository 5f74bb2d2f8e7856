/- Changing places, going up, going down in a wheel: the summaries. No conditions. -/
import Derived.Test.YtoikhfkfihejmaaWhL
import Derived.Test.YtoikhfkfihejmaaWhT0
import Derived.Test.YtoikhfkfihejmaaWhT1
import Derived.Test.YtoikhfkfihejmaaWhT2
set_option linter.unusedVariables false
namespace Go.Ev
open Go Go.Proofs Go.Spec
attribute [local irreducible] ev evCall branch need again
theorem namesW : namesB Try.prog = true := by kernel_rfl
theorem mixedW : Try.prog.follows .mixedOrders = true := by kernel_rfl
theorem cxA_ok : CxOk Try.prog cxA := mkCx_ok namesW mixedW (by intro x h; cases h)
theorem cxSw_ok : CxOk Try.prog cxSw := mkCx_ok namesW mixedW (by intro x h; cases h)
theorem branch_t {p q : Prop} (h : p) : branch true p q := by unfold branch; exact h
theorem branch_f {p q : Prop} (h : q) : branch false p q := by unfold branch; exact h
theorem need_t {p : Prop} (h : p) : need (true && true && true) p := by unfold need; exact h
theorem need_t2 {p : Prop} (h : p) : need (true && true) p := by unfold need; exact h
theorem need_t1 {p : Prop} (h : p) : need true p := by unfold need; exact h
theorem ah_sum : SumOk Try.prog 20 sAh := by
  refine sumOk_of cxA_ok ?_ ?_
  · intro args st k h
    unfold sAh at h ⊢
    split at h
    · exact Lin.ret _ _ k h
    · exact h.elim
  · intro args st k h
    unfold sAh at h
    split at h
    · rename_i a i b j
      refine ⟨20 + 20, ?_⟩
      have hh := t_ah a i b j [] 20 k
      unfold iv at hh
      rw [hh]
      have e : tltB a i b j = (decide (a < b) || (decide (a = b) && decide (i < j))) := rfl
      rw [e] at h
      refine brd (fun h1 => ?_) (fun h1 => ?_)
      · rw [decide_eq_true h1] at h; exact h
      · rw [decide_eq_false h1] at h
        refine bre (fun h2 => ?_) (fun h2 => ?_)
        · rw [decide_eq_true h2] at h; exact h
        · rw [decide_eq_false h2] at h; exact h
    · exact h.elim
theorem bs_at {bs : List Int} (hn : bs.Nodup) {m : Nat} (hm : m < bs.length) : idxI (bs.getD m 0) bs = m := idxI_uni hn hm rfl
theorem sw_run {H : List Tm} {ks bs : List Int} {cl : Nat} (w : WF H ks bs cl) {i j : Nat} (hi : i < H.length) (hj : j < H.length) (N : Nat) (k : SV → St → Prop)
    (hk : k (.tup []) [wO 1 2, wT (swH H i j), wM (swH H i j) ks bs cl]) :
    evCall cxSw (ev cxSw (N + 30)) 15 [.one (.ptr 0 0 0), .one (iv .i64 (i : Nat)), .one (iv .i64 (j : Nat))] [wO 1 2, wT H, wM H ks bs cl] k := by
  unfold wT wM
  rw [t_sw]
  iterate 18 refine ndd (by omega) ?_
  have z : ∀ m : Nat, 0 + Int.toNat (m : Int) = m := fun m => by omega
  simp only [z]
  rw [fit_swI H i j _ rfl, fit_sw H i j _ rfl]
  have w' := w.sw hi hj
  have q1 : idxI ((idsH (swH H i j)).getD i 0) ks < ks.length := by
    rw [ids_at]; exact idxI_in.2 (w'.s1 _ (List.mem_map.2 ⟨_, hat_mem (by rw [swH_len]; exact hi), rfl⟩))
  have q2 : idxI ((idsH (swH H i j)).getD j 0) ks < ks.length := by
    rw [ids_at]; exact idxI_in.2 (w'.s1 _ (List.mem_map.2 ⟨_, hat_mem (by rw [swH_len]; exact hj), rfl⟩))
  rw [bs_at w.bn (by rw [w.bl]; exact q1), bs_at w.bn (by rw [w.bl]; exact q2)]
  refine brt q1 (ndd q1 (brt q2 (ndd q2 ?_)))
  rw [fitL_same 0 ks.length (posL H ks) (posL_len H ks), fitL_same 0 ks.length _ (by rw [List.length_set, posL_len]), ids_at, ids_at, posL_sw w.hn w.kn w.s1 hi hj]
  have hl := swH_len H i j
  unfold wT wM at hk
  rw [hl] at hk
  exact hk
theorem sSwap_lin (args : List SA) (st : St) : Lin (sSwap args st) := by
  intro k h
  unfold sSwap at h ⊢
  split at h
  · exact (Lin.need (Lin.ret _ _)) k h
  · exact h.elim
theorem swap_sum : SumOk Try.prog 15 sSwap := by
  refine sumOk_of cxSw_ok sSwap_lin fun args st k h => ?_
  unfold sSwap at h
  split at h
  · rename_i i j n ts xs ks vs bs cl
    obtain ⟨h1, hK⟩ := need_iff.1 h
    clear h
    obtain ⟨h1, h3⟩ := Bool.and_eq_true_iff.1 h1
    obtain ⟨h1, h2⟩ := Bool.and_eq_true_iff.1 h1
    obtain ⟨H, rfl, rfl, rfl, rfl, w⟩ := wf_of h1
    obtain ⟨i, rfl, hi⟩ := inB_of h2
    obtain ⟨j, rfl, hj⟩ := inB_of h3
    rw [swS_eq, Int.toNat_natCast, Int.toNat_natCast] at hK
    exact ⟨30, sw_run w hi hj 0 k hK⟩
  · exact h.elim
theorem cxUp_ok : CxOk Try.prog cxUp := mkCx_ok namesW mixedW (by
  intro x h
  simp only [List.mem_cons, List.not_mem_nil, or_false] at h
  rcases h with rfl | rfl
  · exact ah_sum
  · exact swap_sum)
theorem cxDn_ok : CxOk Try.prog cxDn := mkCx_ok namesW mixedW (by
  intro x h
  simp only [List.mem_cons, List.not_mem_nil, or_false] at h
  rcases h with rfl | rfl
  · exact ah_sum
  · exact swap_sum)
theorem par_i {i : Nat} (h : 0 < i) (hi : i ≤ 1000) : quoK .i64 (subK .i64 (i : Int) 1) 2 = ((par i : Nat) : Int) := by
  rw [sub64 (by omega), quoK_eq, Int.tdiv_eq_ediv_of_nonneg (by omega), Go.IntWalk.i64_in _ (by omega)]
  unfold par; omega
theorem up_loop (ks bs : List Int) (cl : Nat) (k : SV → St → Prop) : ∀ (A i : Nat) (H : List Tm), WF H ks bs cl → i < H.length → i ≤ A → k (.tup []) [wO 1 2, wT (upH A H i), wM (upH A H i) ks bs cl] →
    ev cxUp (A + 30) 3 14 (codeAt Try.prog 14 [0]) (frm 34 [(0, (.sa (.one (SC.ptr 0 0 0)))), (1, (.sa (.one (iv .i64 (i : Nat)))))]) [wO 1 2, wT H, wM H ks bs cl] (kBlock 0 (kRet (Cx.P cxUp) [] 3 k))
  | A, i, H, w, hi, hA, hk => by
    have hle := w.le
    have hh := t_up1 (i : Int) H.length (atsH H) (idsH H) ks (posL H ks) bs cl (A + 1) k
    unfold wT wM
    refine Eq.mpr hh ⟨?_⟩
    clear hh
    by_cases h0 : 0 < i
    · obtain ⟨A, rfl⟩ : ∃ B, A = B + 1 := ⟨A - 1, by omega⟩
      refine brt (by omega) ?_
      rw [par_i h0 (by omega)]
      have hp : par i < i := by unfold par; omega
      iterate 6 refine ndd (by omega) ?_
      have z : ∀ m : Nat, 0 + Int.toNat (m : Int) = m := fun m => by omega
      rw [z, z, tltB_eq]
      unfold upH at hk
      by_cases hc : tlt (hat H i) (hat H (par i)) = true
      · rw [hc]
        rw [if_pos ⟨h0, hc⟩] at hk
        refine branch_t ?_
        rw [w.to, inB_nat hi, inB_nat (show par i < H.length by omega)]
        refine need_t ?_
        rw [swS_eq, Int.toNat_natCast, Int.toNat_natCast]
        exact up_loop ks bs cl k A (par i) (swH H i (par i)) (w.sw hi (by omega)) (by rw [swH_len]; omega) (by omega) hk
      · rw [if_neg (fun c => hc c.2)] at hk
        rw [Bool.not_eq_true] at hc
        rw [hc]
        exact branch_f hk
    · obtain rfl : i = 0 := by omega
      refine brf (by omega) ?_
      have e : upH A H 0 = H := by
        cases A with
        | zero => rfl
        | succ A => unfold upH; rw [if_neg (fun c => h0 c.1)]
      rw [e] at hk
      exact hk
  termination_by A => A
theorem sUp_lin (args : List SA) (st : St) : Lin (sUp args st) := by
  intro k h
  unfold sUp at h ⊢
  split at h
  · exact (Lin.need (Lin.ret _ _)) k h
  · exact h.elim
theorem up_sum : SumOk Try.prog 14 sUp := by
  refine sumOk_of cxUp_ok sUp_lin fun args st k h => ?_
  unfold sUp at h
  split at h
  · rename_i i n ts xs ks vs bs cl
    obtain ⟨h1, hK⟩ := need_iff.1 h
    clear h
    obtain ⟨h1, h2⟩ := Bool.and_eq_true_iff.1 h1
    obtain ⟨H, rfl, rfl, rfl, rfl, w⟩ := wf_of h1
    obtain ⟨i, rfl, hi⟩ := inB_of h2
    rw [upS_eq, Int.toNat_natCast] at hK
    refine ⟨(i + 1) + 30, ?_⟩
    have hh := t_up (i : Int) H.length (atsH H) (idsH H) ks (posL H ks) bs cl (i + 1) k
    refine Eq.mpr hh ?_
    exact up_loop ks bs cl k i i H w hi (Nat.le_refl _) hK
  · exact h.elim
theorem dn_tail {H : List Tm} {i c : Nat} {R S : Prop} {b : Bool} (hc : c = kid H i) (hi : i < H.length) (hb : c < H.length → b = true) (hR : c < H.length → tlt (hat H c) (hat H i) = true → R)
    (hS : ¬ (kid H i < H.length ∧ tlt (hat H (kid H i)) (hat H i) = true) → S) :
    branch (decide (((c : Nat) : Int) ≥ ((H.length : Nat) : Int))) S (need (decide ((0 : Int) ≤ ((c : Nat) : Int))) (need (decide (((c : Nat) : Int) < ((H.length : Nat) : Int))) (need (decide (0 + Int.toNat ((c : Nat) : Int) < H.length))
      (need (decide ((0 : Int) ≤ ((i : Nat) : Int))) (need (decide (((i : Nat) : Int) < ((H.length : Nat) : Int))) (need (decide (0 + Int.toNat ((i : Nat) : Int) < H.length))
      (branch (Bool.not (tltB ((atsH H).getD (0 + Int.toNat ((c : Nat) : Int)) 0) ((idsH H).getD (0 + Int.toNat ((c : Nat) : Int)) 0) ((atsH H).getD (0 + Int.toNat ((i : Nat) : Int)) 0) ((idsH H).getD (0 + Int.toNat ((i : Nat) : Int)) 0))) S (need b R)))))))) := by
  subst hc
  refine brd (fun h => hS (fun c => by omega)) (fun h => ?_)
  iterate 6 refine ndd (by omega) ?_
  have z : ∀ m : Nat, 0 + Int.toNat (m : Int) = m := fun m => by omega
  rw [z, z, tltB_eq, hb (by omega)]
  cases ht : tlt (hat H (kid H i)) (hat H i) with
  | true => exact branch_f (need_t1 (hR (by omega) ht))
  | false => exact branch_t (hS (fun c => by rw [ht] at c; cases c.2))
theorem dn_loop (ks bs : List Int) (cl : Nat) (k : SV → St → Prop) : ∀ (A i : Nat) (H : List Tm), WF H ks bs cl → i < H.length → H.length ≤ i + A → k (.tup []) [wO 1 2, wT (downH A H i), wM (downH A H i) ks bs cl] →
    ev cxDn (A + 30) 3 16 (codeAt Try.prog 16 [0]) (frm 66 [(0, (.sa (.one (SC.ptr 0 0 0)))), (1, (.sa (.one (iv .i64 (i : Nat)))))]) [wO 1 2, wT H, wM H ks bs cl] (kBlock 0 (kRet (Cx.P cxDn) [] 3 k))
  | 0, i, H, w, hi, hA, hk => by omega
  | A + 1, i, H, w, hi, hA, hk => by
    have hle := w.le
    have hh := t_dn1 (i : Int) H.length (atsH H) (idsH H) ks (posL H ks) bs cl (A + 2) k
    unfold wT wM
    refine Eq.mpr hh ⟨?_⟩
    clear hh
    have e1 : addK .i64 (mulK .i64 2 (i : Int)) 1 = ((2 * i + 1 : Nat) : Int) := by
      rw [mulK_eq, Go.IntWalk.i64_in _ (by omega), add64 (by omega)]; omega
    have e2 : addK .i64 ((2 * i + 1 : Nat) : Int) 1 = ((2 * i + 2 : Nat) : Int) := by
      rw [add64 (by omega)]; omega
    rw [e1, e2]
    have z : ∀ m : Nat, 0 + Int.toNat (m : Int) = m := fun m => by omega
    have rcn : ∀ c : Nat, c = kid H i → c < H.length → tlt (hat H c) (hat H i) = true →
        ev cxDn (A + 30) 3 16 (codeAt Try.prog 16 [0]) (frm 66 [(0, (.sa (.one (SC.ptr 0 0 0)))), (1, (.sa (.one (iv .i64 (c : Nat)))))]) [wO 1 2, wT (swH H i c), wM (swH H i c) ks bs cl] (kBlock 0 (kRet (Cx.P cxDn) [] 3 k)) := by
      intro c hc hl ht
      have hc' : i < c := by rw [hc]; exact (kid_in H i).2.2
      subst hc
      unfold downH at hk
      rw [if_pos ⟨hl, ht⟩] at hk
      exact dn_loop ks bs cl k A (kid H i) (swH H i (kid H i)) (w.sw hi hl) (by rw [swH_len]; exact hl) (by rw [swH_len]; omega) hk
    have stop : ¬ (kid H i < H.length ∧ tlt (hat H (kid H i)) (hat H i) = true) → k (.tup []) [wO 1 2, wT H, wM H ks bs cl] := by
      intro hn
      unfold downH at hk
      rw [if_neg hn] at hk
      exact hk
    have good : ∀ c : Nat, c < H.length → (wfB H.length (atsH H) (idsH H) ks (posL H ks) bs cl && inB (i : Int) H.length && inB (c : Int) H.length) = true := by
      intro c hc
      rw [w.to, inB_nat hi, inB_nat hc]; rfl
    refine brd (fun h => ?_) (fun h => ?_)
    · iterate 6 refine ndd (by omega) ?_
      have g : tltB ((atsH H).getD (0 + Int.toNat ((2 * i + 2 : Nat) : Int)) 0) ((idsH H).getD (0 + Int.toNat ((2 * i + 2 : Nat) : Int)) 0) ((atsH H).getD (0 + Int.toNat ((2 * i + 1 : Nat) : Int)) 0) ((idsH H).getD (0 + Int.toNat ((2 * i + 1 : Nat) : Int)) 0) = tlt (hat H (2 * i + 2)) (hat H (2 * i + 1)) := by
        rw [z, z, tltB_eq]
      rw [g]
      cases ht : tlt (hat H (2 * i + 2)) (hat H (2 * i + 1)) with
      | true =>
        refine branch_t ?_
        have hc : 2 * i + 2 = kid H i := by unfold kid; rw [if_pos ⟨by omega, ht⟩]
        refine dn_tail hc hi (good _) (fun hl ht' => ?_) stop
        have hr := rcn _ hc hl ht'
        rw [swS_eq, Int.toNat_natCast, Int.toNat_natCast]
        exact hr
      | false =>
        refine branch_f ?_
        have hc : 2 * i + 1 = kid H i := by unfold kid; rw [if_neg (fun c => by rw [ht] at c; cases c.2)]
        refine dn_tail hc hi (good _) (fun hl ht' => ?_) stop
        have hr := rcn _ hc hl ht'
        rw [swS_eq, Int.toNat_natCast, Int.toNat_natCast]
        exact hr
    · have hc : 2 * i + 1 = kid H i := by unfold kid; rw [if_neg (fun c => h (by omega))]
      refine dn_tail hc hi (good _) (fun hl ht' => ?_) stop
      have hr := rcn _ hc hl ht'
      rw [swS_eq, Int.toNat_natCast, Int.toNat_natCast]
      exact hr
theorem sDown_lin (args : List SA) (st : St) : Lin (sDown args st) := by
  intro k h
  unfold sDown at h ⊢
  split at h
  · exact (Lin.need (Lin.ret _ _)) k h
  · exact h.elim
theorem down_sum : SumOk Try.prog 16 sDown := by
  refine sumOk_of cxDn_ok sDown_lin fun args st k h => ?_
  unfold sDown at h
  split at h
  · rename_i i n ts xs ks vs bs cl
    obtain ⟨h1, hK⟩ := need_iff.1 h
    clear h
    obtain ⟨h1, h2⟩ := Bool.and_eq_true_iff.1 h1
    obtain ⟨H, rfl, rfl, rfl, rfl, w⟩ := wf_of h1
    obtain ⟨i, rfl, hi⟩ := inB_of h2
    rw [downS_eq, Int.toNat_natCast] at hK
    refine ⟨(H.length + 1) + 30, ?_⟩
    have hh := t_dn (i : Int) H.length (atsH H) (idsH H) ks (posL H ks) bs cl (H.length + 1) k
    refine Eq.mpr hh ?_
    exact dn_loop ks bs cl k H.length i H w hi (by omega) hK
  · exact h.elim
end Go.Ev
