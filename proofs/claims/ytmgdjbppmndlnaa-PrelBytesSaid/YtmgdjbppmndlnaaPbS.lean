/- Rising streams, numbers of bytes, the bytes of a thing: the summaries. No conditions. -/
import Derived.Test.YtmgdjbppmndlnaaPbA
import Derived.Test.YtmgdjbppmndlnaaPbT0
import Derived.Test.YtmgdjbppmndlnaaPbT2
import Derived.Test.YtmgdjbppmndlnaaPbT4
import Derived.Test.YtmgdjbppmndlnaaPbT5
set_option linter.unusedVariables false
namespace Go.Ev
open Go Go.Proofs Go.Spec
attribute [local irreducible] ev evCall branch need again
theorem namesPb : namesB Try.prog = true := by kernel_rfl
theorem mixedPb : Try.prog.follows .mixedOrders = true := by kernel_rfl
theorem cxRi_ok : CxOk Try.prog cxRi := mkCx_ok namesPb mixedPb (by intro x h; cases h)
theorem cxNu_ok : CxOk Try.prog cxNu := mkCx_ok namesPb mixedPb (by intro x h; cases h)
theorem cxTp_ok : CxOk Try.prog cxTp := mkCx_ok namesPb mixedPb (by intro x h; cases h)
theorem cxTr_ok : CxOk Try.prog cxTr := mkCx_ok namesPb mixedPb (by intro x h; cases h)
theorem evFuelP {c : Cx} {N N' m f : Nat} {co : Code} {fr : Fr} {st : St} {k : Exit → Fr → St → Prop} (h : ev c N m f co fr st k) (e : N = N') : ev c N' m f co fr st k := e ▸ h
theorem brN {b : Bool} {p q : Prop} (h1 : b = true → q) (h2 : b = false → p) : branch (Bool.not b) p q := by
  cases b with
  | true => exact br (fun h => by cases h) (fun _ => h1 rfl)
  | false => exact br (fun _ => h2 rfl) (fun h => by cases h)
theorem br_pick {b : Bool} {p q : Prop} (h : branch b p q) : (b = true → p) ∧ (b = false → q) := by
  rcases branch_or h with ⟨e, h⟩ | ⟨e, h⟩
  · exact ⟨fun _ => h, fun c => by rw [e] at c; cases c⟩
  · exact ⟨fun c => by (rw [e] at c; cases c), fun _ => h⟩
theorem toN (i : Nat) : 0 + Int.toNat (i : Int) = i := by omega
theorem dec64 (n : Nat) : decide (((n : Nat) : Int) ≤ 64) = decide (n ≤ 64) := by
  by_cases h : n ≤ 64
  · rw [decide_eq_true h, decide_eq_true (by omega)]
  · rw [decide_eq_false h, decide_eq_false (by omega)]
theorem ri_loop (w : Bool) (kk : MK) (T n : Nat) (ss qs : List Int) (c M : Nat) (k : SV → St → Prop) (hl : ss.length = n) (hn : n ≤ 1000000) (hk : k (.sa (.one (bv (risB ss)))) [skO w kk T n ss qs]) :
    ∀ (rem i : Nat), 1 ≤ i → n - i = rem → (risA ss rem i && decide (ss.length ≤ 64)) = risB ss →
      ev cxRi (rem + c + 36) 1 18 (codeAt Try.prog 18 [1, 0, 1, 0]) (frm 25 [(0, (.sa (.one (SC.ref 0)))), (3, (.sa (.one (iv .i64 ((i : Nat) : Int)))))]) [skO w kk T n ss qs] (kBlock 0 (kSeq (ev cxRi (M + 38) 1 18 (codeAt Try.prog 18 [1, 1])) (kRet (Cx.P cxRi) [(ResultVar.tmp 2)] 1 k))) := by
  intro rem
  induction rem with
  | zero =>
    intro i h1 h2 h3
    rw [t_ri1]
    refine Again.mk (brf (by omega) ?_)
    unfold risA at h3
    rw [Bool.true_and] at h3
    rw [← h3, hl] at hk
    rw [dec64]
    exact hk
  | succ rem ih =>
    intro i h1 h2 h3
    rw [show rem + 1 + c + 36 = (rem + 1 + c) + 36 from rfl, t_ri1]
    have e2 : subK .i64 (i : Int) 1 = ((i - 1 : Nat) : Int) := by rw [sub64 (by omega)]; omega
    have e3 : addK .i64 (i : Int) 1 = ((i + 1 : Nat) : Int) := by rw [add64 (by omega)]; omega
    rw [e2, e3, toN, toN]
    refine Again.mk (brt (by omega) (ndd (by omega) (ndd (by omega) (ndd (by omega) (ndd (by omega) (ndd (by omega) (ndd (by omega) ?_)))))))
    unfold risA at h3
    refine brd (fun g => ?_) (fun g => ?_)
    · rw [if_pos g, Bool.false_and] at h3
      rw [← h3] at hk; exact hk
    · rw [if_neg g] at h3
      exact evFuelP (ih (i + 1) (by omega) (by omega) h3) (by omega)
theorem sRises_lin (args : List SA) (st : St) : Lin (sRises args st) := by
  intro k h
  unfold sRises at h ⊢
  split at h
  · exact (Lin.need (Lin.ret _ _)) k h
  · exact h.elim
theorem rises_sum : SumOk Try.prog 18 sRises := by
  refine sumOk_of cxRi_ok sRises_lin fun args st k h => ?_
  unfold sRises at h
  split at h
  · rename_i w kk T n ss qs
    obtain ⟨h1, hK⟩ := need_iff.1 h
    obtain ⟨h1, h2⟩ := of_decide_eq_true h1
    refine ⟨(n - 1 + 0) + 40, ?_⟩
    refine Eq.mpr (t_ri w kk T n ss qs (n - 1 + 0) k) ?_
    exact ri_loop w kk T n ss qs 0 (n - 1 + 0) k h1 h2 hK (n - 1) 1 (Nat.le_refl _) (by omega) (by unfold risB; rw [h1])
  · exact h.elim
theorem rr_loop (w : Bool) (kk : MK) (T : Nat) (ss : List Int) (c M : Nat) (k : SV → St → Prop) (hn : ss.length ≤ 1000000) (hk : k (.sa (.one (bv (risB ss)))) [rd16 w kk T ss]) :
    ∀ (rem i : Nat), 1 ≤ i → ss.length - i = rem → (risA ss rem i && decide (ss.length ≤ 64)) = risB ss →
      ev cxRi (rem + c + 36) 1 21 (codeAt Try.prog 21 [1, 0, 1, 0]) (frm 23 [(0, (.sa (.one (SC.ref 0)))), (3, (.sa (.one (iv .i64 ((i : Nat) : Int)))))]) [rd16 w kk T ss] (kBlock 0 (kSeq (ev cxRi (M + 38) 1 21 (codeAt Try.prog 21 [1, 1])) (kRet (Cx.P cxRi) [(ResultVar.tmp 2)] 1 k))) := by
  intro rem
  induction rem with
  | zero =>
    intro i h1 h2 h3
    rw [t_rr1]
    refine Again.mk (brf (by omega) ?_)
    unfold risA at h3
    rw [Bool.true_and] at h3
    rw [← h3] at hk
    rw [dec64]
    exact hk
  | succ rem ih =>
    intro i h1 h2 h3
    rw [show rem + 1 + c + 36 = (rem + 1 + c) + 36 from rfl, t_rr1]
    have e2 : subK .i64 (i : Int) 1 = ((i - 1 : Nat) : Int) := by rw [sub64 (by omega)]; omega
    have e3 : addK .i64 (i : Int) 1 = ((i + 1 : Nat) : Int) := by rw [add64 (by omega)]; omega
    rw [e2, e3, toN, toN]
    refine Again.mk (brt (by omega) (ndd (by omega) (ndd (by omega) (ndd (by omega) (ndd (by omega) (ndd (by omega) (ndd (by omega) ?_)))))))
    unfold risA at h3
    refine brd (fun g => ?_) (fun g => ?_)
    · rw [if_pos g, Bool.false_and] at h3
      rw [← h3] at hk; exact hk
    · rw [if_neg g] at h3
      exact evFuelP (ih (i + 1) (by omega) (by omega) h3) (by omega)
theorem sRisR_lin (args : List SA) (st : St) : Lin (sRisR args st) := by
  intro k h
  unfold sRisR at h ⊢
  split at h
  · exact (Lin.need (Lin.ret _ _)) k h
  · exact h.elim
theorem risR_sum : SumOk Try.prog 21 sRisR := by
  refine sumOk_of cxRi_ok sRisR_lin fun args st k h => ?_
  unfold sRisR at h
  split at h
  · rename_i w kk T ss
    obtain ⟨h1, hK⟩ := need_iff.1 h
    have h1 := of_decide_eq_true h1
    refine ⟨(ss.length - 1 + 0) + 40, ?_⟩
    refine Eq.mpr (t_rr w kk T ss (ss.length - 1 + 0) k) ?_
    exact rr_loop w kk T ss 0 (ss.length - 1 + 0) k h1 hK (ss.length - 1) 1 (Nat.le_refl _) (by omega) rfl
  · exact h.elim
theorem nu_loop (xs : List Int) (c M : Nat) (k : SV → St → Prop) (hl : xs.length ≤ 1000000) (hk : k (.sa (.one (iv .u64 (numB xs)))) [rdB false .ext 0 xs]) :
    ∀ (rem i : Nat) (a : Int), i + rem = xs.length → numA xs rem i a = numB xs →
      ev cxNu (rem + c + 35) 1 47 (codeAt Try.prog 47 [1, 1, 0, 1, 0]) (frm 20 [(0, (.sa (.one (SC.ref 0)))), (3, (.sa (.one (iv .u64 a)))), (4, (.sa (.one (iv .i64 ((i : Nat) : Int)))))]) [rdB false .ext 0 xs] (kBlock 0 (kSeq (ev cxNu (M + 37) 1 47 (codeAt Try.prog 47 [1, 1, 1])) (kRet (Cx.P cxNu) [(ResultVar.tmp 2)] 1 k))) := by
  intro rem
  induction rem with
  | zero =>
    intro i a h1 h3
    rw [t_nu1]
    refine Again.mk (brf (by omega) ?_)
    unfold numA at h3
    rw [h3]; exact hk
  | succ rem ih =>
    intro i a h1 h3
    rw [show rem + 1 + c + 35 = (rem + 1 + c) + 35 from rfl, t_nu1]
    have e3 : addK .i64 (i : Int) 1 = ((i + 1 : Nat) : Int) := by rw [add64 (by omega)]; omega
    rw [e3, toN]
    refine Again.mk (brt (by omega) (ndd (by omega) (ndd (by omega) (ndd (by omega) ?_))))
    unfold numA at h3
    exact evFuelP (ih (i + 1) _ (by omega) h3) (by omega)
theorem fNum_lin (vas : List VA) : Lin (fNum vas) := by
  intro k h
  unfold fNum at h ⊢
  split at h
  · exact (Lin.need (Lin.ret _ _)) k h
  · exact h.elim
theorem num_sum : SumOk Try.prog 47 sNum := by
  refine pureSum_ok cxNu_ok fNum_lin fun vas K h => ?_
  unfold fNum at h
  split at h
  · rename_i xs
    obtain ⟨h1, hK⟩ := need_iff.1 h
    have h1 := of_decide_eq_true h1
    refine ⟨(xs.length + 0) + 40, ?_⟩
    show evCall cxNu (ev cxNu ((xs.length + 0) + 40)) 47 [.one (.ref 0)] [rdB false .ext 0 xs] (pureK 1 K)
    refine Eq.mpr (t_nu xs (xs.length + 0) (pureK 1 K)) ?_
    exact nu_loop xs 0 (xs.length + 0) (pureK 1 K) h1 hK xs.length 0 0 (by omega) rfl
  · exact h.elim
/-! the bytes of a thing -/
theorem nd_or {b : Bool} {p : Prop} (h : p) : need (true || b) p := by rw [Bool.true_or]; unfold need; exact h
theorem sets_eq (S : Nat) (h : 4 ≤ S) (a b : Int) : (((((((List.replicate S (0 : Int)).set 0 0).set 1 192).set 2 a).set 3 b).set 0 192).set 1 0) = [192, 0, a, b] ++ List.replicate (S - 4) 0 := by
  obtain ⟨T, rfl⟩ : ∃ T, S = T + 4 := ⟨S - 4, by omega⟩
  rw [Nat.add_sub_cancel]
  rfl
theorem pad_up (n : Nat) : up4 (4 + n) = 4 + n + padN n := by unfold up4 padN; omega
theorem put_bytes {xs : List Int} (h : xs.length ≤ 65000) (a b : Int) (ha : a = hiB xs.length) (hb : b = loB xs.length) : List.take (up4 (4 + xs.length)) (([192, 0, a, b] ++ (xs.take (min xs.length (up4 (4 + xs.length) - 4)))) ++ (([192, 0, a, b] ++ List.replicate (up4 (4 + xs.length) - 4) 0).drop (4 + (xs.take (min xs.length (up4 (4 + xs.length) - 4))).length))) = tlvB xs := by
  have e := pad_up xs.length
  rw [e, Nat.min_eq_left (by omega), List.take_of_length_le (Nat.le_refl xs.length), ha, hb]
  have e2 : ([192, 0, hiB xs.length, loB xs.length] ++ List.replicate (4 + xs.length + padN xs.length - 4) (0 : Int)).drop (4 + xs.length) = List.replicate (padN xs.length) 0 := by
    rw [List.drop_append, List.drop_of_length_le (by simp), List.nil_append, List.drop_replicate]
    congr 1
    simp only [List.length_cons, List.length_nil]
    omega
  rw [e2, List.take_of_length_le (by simp; omega)]
  unfold tlvB
  rfl
theorem sTlv_lin (args : List SA) (st : St) : Lin (sTlv args st) := by
  intro k h
  unfold sTlv at h ⊢
  split at h
  · exact (Lin.need (Lin.ret _ _)) k h
  · exact h.elim
theorem hi_shr {n : Nat} (h : n ≤ 65000) : IntKind.wrap .u8 (shrK .i64 ((4 + n : Nat) : Int) 8) = hiB n := by
  rw [shrK_eq, show (2 : Int) ^ min (Int.toNat 8) (IntKind.bits .i64) = 256 from rfl, Int.fdiv_eq_ediv_of_nonneg _ (by decide), IntKind.wrap_u8]
  unfold hiB; omega
theorem lo_u8 (n : Nat) : IntKind.wrap .u8 ((4 + n : Nat) : Int) = loB n := by rw [IntKind.wrap_u8]; unfold loB; omega
theorem tlv_sum : SumOk Try.prog 19 sTlv := by
  refine sumOk_of cxTp_ok sTlv_lin fun args st k h => ?_
  unfold sTlv at h
  split at h
  · rename_i xs
    obtain ⟨h1, hK⟩ := need_iff.1 h
    have h1 := of_decide_eq_true h1
    refine ⟨0 + 60, ?_⟩
    refine Eq.mpr (t_tp xs 0 k) ?_
    have e0 : addK .i64 4 ((xs.length : Nat) : Int) = ((4 + xs.length : Nat) : Int) := by rw [add64 (by omega)]; omega
    have e1 : andnK .i64 (addK .i64 ((4 + xs.length : Nat) : Int) 3) 3 = ((up4 (4 + xs.length) : Nat) : Int) := up_k (by omega)
    have e2 := pad_up xs.length
    have hp : padN xs.length < 4 := by unfold padN; omega
    rw [e0, e1, Int.toNat_natCast, hi_shr h1, lo_u8]
    rw [sets_eq _ (by omega)]
    refine brf (by omega) ?_
    repeat' refine ndd (by first | omega | (simp only [List.length_set, List.length_replicate, List.length_append, List.length_cons, List.length_nil]; omega)) ?_
    have e3 := put_bytes h1 _ _ rfl rfl
    have nilCase : xs = [] → k (.tup [.one (.ref 1), .one (iv .i64 0)]) [rdB true .row 5 xs, rdB true .row 5 (List.take (up4 (4 + xs.length)) ([192, 0, hiB xs.length, loB xs.length] ++ List.replicate (up4 (4 + xs.length) - 4) 0))] := by
      intro g
      subst g
      exact hK
    have fullCase : k (.tup [.one (.ref 1), .one (iv .i64 0)]) [rdB true .row 5 xs, rdB true .row 5 (List.take (up4 (4 + xs.length)) ((List.take 4 ([192, 0, hiB xs.length, loB xs.length] ++ List.replicate (up4 (4 + xs.length) - 4) 0) ++ (List.take (Nat.min (List.take xs.length xs).length (up4 (4 + xs.length) - 4)) (List.take xs.length xs))) ++ (([192, 0, hiB xs.length, loB xs.length] ++ List.replicate (up4 (4 + xs.length) - 4) 0).drop (4 + (List.take (Nat.min (List.take xs.length xs).length (up4 (4 + xs.length) - 4)) (List.take xs.length xs)).length))))] := by
      have e3 := put_bytes h1 _ _ rfl rfl
      rw [List.take_length]
      rw [← e3] at hK
      exact hK
    refine brd (fun g => ?_) (fun g => ?_)
    · have g : xs = [] := by
        refine List.eq_nil_of_length_eq_zero ?_
        simp only [List.length_append, List.length_cons, List.length_nil, List.length_replicate] at g
        omega
      exact ndd (by omega) (nd_or (ndd (by simp only [List.length_append, List.length_cons, List.length_nil, List.length_replicate]; omega) (Again.mk (nilCase g))))
    · refine ndd (by omega) (ndd (by simp only [List.length_append, List.length_cons, List.length_nil, List.length_replicate]; omega) (brd (fun g2 => ?_) (fun g2 => ?_)))
      · have g3 : xs = [] := List.eq_nil_of_length_eq_zero (by omega)
        exact nd_or (ndd (by simp only [List.length_append, List.length_cons, List.length_nil, List.length_replicate]; omega) (Again.mk (nilCase g3)))
      · refine nd_or (ndd ?_ (Again.mk fullCase))
        rw [List.take_length, show Nat.min xs.length (up4 (4 + xs.length) - 4) = xs.length from Nat.min_eq_left (by omega), List.take_length]
        simp only [List.length_append, List.length_take, List.length_drop, List.length_cons, List.length_nil, List.length_replicate]
        omega
  · exact h.elim
theorem tr_loop (xs ys zs : List Int) (c M : Nat) (k : SV → St → Prop) (hz : zs.length ≤ 100000) (hk : k (.tup [.one (.ref 1), .one (iv .i64 0)]) [rdB true .row 5 xs, rdB true .row 5 zs]) (hm : zs.length % 4 = 0) :
    ∀ (rem : Nat) (ys : List Int), rem < 4 → zs = ys ++ List.replicate rem 0 →
      ev cxTr (rem + c + 70) 1 20 (codeAt Try.prog 20 [1, 1, 1, 1, 1, 1, 1, 1, 0, 0]) (frm 55 [(6, (.sa (.one (SC.ref 1))))]) [rdB true .row 5 xs, rdB true .row 5 ys] (kBlock 0 (kSeq (ev cxTr (M + 71) 1 20 (codeAt Try.prog 20 [1, 1, 1, 1, 1, 1, 1, 1, 1])) (kRet (Cx.P cxTr) [(ResultVar.tmp 4), (ResultVar.tmp 5)] 1 k))) := by
  intro rem
  induction rem with
  | zero =>
    intro ys h0 h1
    rw [t_tr1]
    rw [List.replicate_zero, List.append_nil] at h1
    subst h1
    refine Again.mk (brf ?_ hk)
    rw [remK_eq, Int.tmod_eq_emod_of_nonneg (by omega)]
    omega
  | succ rem ih =>
    intro ys h0 h1
    rw [show rem + 1 + c + 70 = (rem + 1 + c) + 70 from rfl, t_tr1]
    have hl : zs.length = ys.length + (rem + 1) := by rw [h1, List.length_append, List.length_replicate]
    refine Again.mk (brt ?_ (ndd (by omega) ?_))
    · rw [remK_eq, Int.tmod_eq_emod_of_nonneg (by omega)]
      omega
    · refine evFuelP (ih (ys ++ [0]) (by omega) ?_) (by omega)
      rw [h1, List.append_assoc]
      rfl
theorem tlvR_sum : SumOk Try.prog 20 sTlv := by
  refine sumOk_of cxTr_ok sTlv_lin fun args st k h => ?_
  unfold sTlv at h
  split at h
  · rename_i xs
    obtain ⟨h1, hK⟩ := need_iff.1 h
    have h1 := of_decide_eq_true h1
    refine ⟨(padN xs.length + 0) + 80, ?_⟩
    refine Eq.mpr (t_tr xs (padN xs.length + 0) k) ?_
    have hp : padN xs.length < 4 := by unfold padN; omega
    rw [List.take_length]
    refine brf (by omega) (Again.mk (ndd (by omega) (ndd (by omega) ?_)))
    refine tr_loop xs [] (tlvB xs) 0 (padN xs.length + 0) k ?_ hK ?_ (padN xs.length) _ hp ?_
    · unfold tlvB; simp only [List.length_append, List.length_cons, List.length_nil, List.length_replicate]; omega
    · unfold tlvB; simp only [List.length_append, List.length_cons, List.length_nil, List.length_replicate]; unfold padN; omega
    · unfold tlvB
      have e0 : addK .i64 ((xs.length : Nat) : Int) 4 = ((xs.length + 4 : Nat) : Int) := by rw [add64 (by omega)]; omega
      have eb : IntKind.wrap .u8 (remK (IntKind.wrap .u64 ((xs.length + 4 : Nat) : Int)) 256) = loB xs.length := by
        rw [Go.IntWalk.u64_in _ (by omega), remK_eq, Int.tmod_eq_emod_of_nonneg (by omega), IntKind.wrap_u8]
        unfold loB; omega
      have ea : IntKind.wrap .u8 (remK (quoK .u64 (IntKind.wrap .u64 ((xs.length + 4 : Nat) : Int)) 256) 256) = hiB xs.length := by
        rw [Go.IntWalk.u64_in _ (by omega), quoK_eq, Int.tdiv_eq_ediv_of_nonneg (by omega), Go.IntWalk.u64_in _ (by omega), remK_eq, Int.tmod_eq_emod_of_nonneg (by omega), IntKind.wrap_u8]
        unfold hiB; omega
      rw [e0, ea, eb]
      rfl
  · exact h.elim
end Go.Ev
