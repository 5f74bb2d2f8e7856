/- Addresses that may be, and lists that are one: what the functions do. No conditions. -/
import Derived.Test.YtiplgpnegolegaaCfT0
import Derived.Test.YtiplgpnegolegaaCfT1
import Derived.Test.YtiplgpnegolegaaIxS
set_option linter.unusedVariables false
set_option linter.unusedSimpArgs false
namespace Go.Ev
open Go Go.Proofs Go.Spec
attribute [local irreducible] ev evCall branch need again
theorem cxHs_ok : CxOk Try.prog cxHs := mkCx_ok (by kernel_rfl) (by kernel_rfl) (by simp)
theorem hasL_cons (a : Int) (r : List Int) (x : Int) : hasL (a :: r) x = (eqK a x || hasL r x) := by
  unfold hasL
  rw [Bool.eq_iff_iff, Bool.or_eq_true_iff, List.contains_iff_mem, List.contains_iff_mem, eqK_t, List.mem_cons, eq_comm (a := x)]
theorem hs_loop (xs : List Int) (x : Int) (c M : Nat) (hl : xs.length ≤ 1000000) (k : SV → St → Prop) (hk : k (.sa (.one (bv (hasL xs x)))) [rd32 xs]) :
    ∀ (rem i : Nat), i + rem = xs.length → hasL (xs.drop i) x = hasL xs x → ev cxHs (rem + c + 36) 1 25 (codeAt Try.prog 25 [1, 0, 1, 0]) (frm 18 [(0, (.sa (.one (SC.ref 0)))), (1, (.sa (.one (iv .u32 x)))), (5, (.sa (.one (iv .i64 (i : Int)))))]) [some (.own false .ext 0 1 (.ints .u32 xs))] (kBlock 0 (kSeq (ev cxHs (M + 38) 1 25 (codeAt Try.prog 25 [1, 1])) (kRet (Cx.P cxHs) [(ResultVar.tmp 4)] 1 k))) := by
  have out : ∀ r : Bool, r = hasL xs x → k (.sa (.one (bv r))) [rd32 xs] := fun r e => e ▸ hk
  intro rem
  induction rem with
  | zero =>
    intro i h1 h2
    rw [t_hsS]
    refine Again.mk (brf (by omega) (out _ ?_))
    rw [← h2, List.drop_of_length_le (by omega)]
    rfl
  | succ rem ih =>
    intro i h1 h2
    rw [show rem + 1 + c + 36 = (rem + 1 + c) + 36 from rfl, t_hsS]
    have e1 : 0 + ((i : Nat) : Int).toNat = i := by omega
    have e2 : addK .i64 (i : Int) 1 = ((i + 1 : Nat) : Int) := by rw [add64 (by omega)]; omega
    rw [e1, e2]
    rw [drop_getD (by omega), hasL_cons] at h2
    refine Again.mk (brt (by omega) (ndd (by omega) (ndd (by omega) (ndd (by omega) (br (fun e => out _ ?_) (fun e => ?_))))))
    · rw [e] at h2; exact h2
    · rw [e] at h2
      exact evFuelR (ih (i + 1) (by omega) (by simpa using h2)) (by omega)
theorem hs_sum : SumOk Try.prog 25 sHas := by
  refine pureSum_ok cxHs_ok fHas_lin fun vas K h => ?_
  unfold fHas at h
  split at h
  · rename_i xs x
    obtain ⟨h1, hK⟩ := need_iff.1 h
    have h1 := of_decide_eq_true h1
    refine ⟨xs.length + 40, ?_⟩
    show evCall cxHs (ev cxHs (xs.length + 40)) 25 [.one (.ref 0), .one (iv .u32 x)] [rd32 xs] (pureK 1 K)
    rw [t_hs]
    exact hs_loop xs x 0 xs.length h1 (pureK 1 K) hK xs.length 0 (by omega) rfl
  · exact h.elim
/-! May -/
theorem cxMa_ok : CxOk Try.prog cxMa := mkCx_ok (by kernel_rfl) (by kernel_rfl) (by
  intro y h
  simp only [List.mem_cons, List.not_mem_nil, or_false] at h
  subst h
  exact has_sum)
theorem riseF_cons (b : Bool) (p x : Int) (r : List Int) : riseF b p (x :: r) = match eqK x 0 with
    | true => false
    | false => match b with
      | true => riseF false x r
      | false => match decide (p ≥ x) with
        | true => false
        | false => riseF false x r := by
  cases b <;> rfl
/-- What comes ahead of place i: whether it is the first one, and the last one ahead. -/
theorem ma_loop (f : Int) (xs : List Int) (c M : Nat) (hl : xs.length ≤ 1000000) (k : SV → St → Prop) (hk : k (.sa (.one (bv (mayB f xs)))) [rd32 xs]) :
    ∀ (rem i : Nat), i + rem = xs.length → riseF (decide (i = 0)) (xs.getD (i - 1) 0) (xs.drop i) = riseF true 0 xs → ev cxMa (rem + c + 36) 1 12 (codeAt Try.prog 12 [1, 0, 1, 0]) (frm 41 [(1, (.sa (.one (SC.ptr 1 0 0)))), (6, (.sa (.one (SC.ref 0)))), (7, (.sa (.one (iv .i64 ((xs.length : Nat) : Int))))), (8, (.sa (.one (iv .i64 (i : Int)))))]) [some (.own false .ext 0 1 (.ints .u32 xs)), obj 25 2 [iv .u32 f, .ref 0]] (kBlock 0 (kSeq (ev cxMa (M + 38) 1 12 (codeAt Try.prog 12 [1, 1])) (kRet (Cx.P cxMa) [(ResultVar.tmp 2)] 1 k))) := by
  have out : ∀ r : Bool, r = mayB f xs → k (.sa (.one (bv r))) [rd32 xs] := fun r e => e ▸ hk
  intro rem
  induction rem with
  | zero =>
    intro i h1 h2
    rw [t_maS]
    rw [List.drop_of_length_le (by omega), riseF] at h2
    refine Again.mk (brf (by omega) (brd (fun g => ndd (by omega) (ndd (by rw [List.take_length]; exact hl) (out _ ?_))) (fun g => out _ ?_)))
    · unfold mayB
      rw [← h2, decide_eq_true (show xs.length ≤ 3 by omega), List.take_length]
      rfl
    · unfold mayB
      rw [← h2, decide_eq_false (show ¬ xs.length ≤ 3 by omega)]
      rfl
  | succ rem ih =>
    intro i h1 h2
    rw [show rem + 1 + c + 36 = (rem + 1 + c) + 36 from rfl, t_maS]
    have e1 : 0 + ((i : Nat) : Int).toNat = i := by omega
    have e2 : addK .i64 (i : Int) 1 = ((i + 1 : Nat) : Int) := by rw [add64 (by omega)]; omega
    rw [e1, e2]
    rw [drop_getD (by omega), riseF_cons] at h2
    have nx : riseF (decide (i + 1 = 0)) (xs.getD (i + 1 - 1) 0) (xs.drop (i + 1)) = riseF false (xs.getD i 0) (xs.drop (i + 1)) := by
      rw [decide_eq_false (by omega), Nat.add_sub_cancel]
    refine Again.mk (brt (by omega) (ndd (by omega) (ndd (by omega) (ndd (by omega) (br (fun e => out _ ?_) (fun e => ?_))))))
    · rw [e] at h2
      unfold mayB
      rw [← h2]
      rfl
    · rw [e] at h2
      refine brd (fun g => ?_) (fun g => ?_)
      · have e3 : subK .i64 (i : Int) 1 = ((i - 1 : Nat) : Int) := by rw [sub64 (by omega)]; omega
        have e4 : 0 + Int.toNat ((i - 1 : Nat) : Int) = i - 1 := by omega
        rw [decide_eq_false (show ¬ i = 0 by omega)] at h2
        rw [e3, e4]
        refine ndd (by omega) (ndd (by omega) (ndd (by omega) (br (fun e' => out _ ?_) (fun e' => ?_))))
        · simp only at h2
          rw [e'] at h2
          unfold mayB
          rw [← h2]
          rfl
        · simp only at h2
          rw [e'] at h2
          exact evFuelR (ih (i + 1) (by omega) (nx.trans h2)) (by omega)
      · rw [decide_eq_true (show i = 0 by omega)] at h2
        exact evFuelR (ih (i + 1) (by omega) (nx.trans h2)) (by omega)
theorem fMay_lin (vas : List VA) : Lin (fMay vas) := by
  intro k h
  unfold fMay at h ⊢
  split at h
  · exact (Lin.need (Lin.ret _ _)) k h
  · exact h.elim
theorem may_sum : SumOk Try.prog 12 sMay := by
  refine pureSum_ok cxMa_ok fMay_lin fun vas K h => ?_
  unfold fMay at h
  split at h
  · rename_i f xs
    obtain ⟨h1, hK⟩ := need_iff.1 h
    have h1 := of_decide_eq_true h1
    refine ⟨xs.length + 40, ?_⟩
    show evCall cxMa (ev cxMa (xs.length + 40)) 12 [.agg [iv .u32 f, .ref 0]] [rd32 xs] (pureK 1 K)
    rw [t_ma]
    refine ma_loop f xs 0 xs.length h1 (pureK 1 K) hK xs.length 0 (by omega) ?_
    cases xs <;> rfl
  · exact h.elim
theorem cxMr_ok : CxOk Try.prog cxMr := mkCx_ok (by kernel_rfl) (by kernel_rfl) (by
  intro y h
  simp only [List.mem_cons, List.not_mem_nil, or_false] at h
  subst h
  exact hs_sum)
theorem mr_loop (f : Int) (xs : List Int) (c M : Nat) (hl : xs.length ≤ 1000000) (k : SV → St → Prop) (hk : k (.sa (.one (bv (mayR f xs)))) [rd32 xs]) :
    ∀ (rem i : Nat) (p : Int), i + rem = xs.length → riseR p (xs.drop i) = riseR 0 xs → ev cxMr (rem + c + 35) 1 13 (codeAt Try.prog 13 [1, 1, 0, 1, 0]) (frm 41 [(1, (.sa (.one (SC.ptr 1 0 0)))), (3, (.sa (.one (iv .u32 p)))), (4, (.sa (.one (iv .i64 (i : Int)))))]) [some (.own false .ext 0 1 (.ints .u32 xs)), obj 33 2 [iv .u32 f, .ref 0]] (kBlock 0 (kSeq (ev cxMr (M + 37) 1 13 (codeAt Try.prog 13 [1, 1, 1])) (kRet (Cx.P cxMr) [(ResultVar.tmp 2)] 1 k))) := by
  have out : ∀ r : Bool, r = mayR f xs → k (.sa (.one (bv r))) [rd32 xs] := fun r e => e ▸ hk
  intro rem
  induction rem with
  | zero =>
    intro i p h1 h2
    rw [t_mrS]
    rw [List.drop_of_length_le (by omega), riseR] at h2
    refine Again.mk (brf (by omega) (brd (fun g => brd (fun g' => ndd (by omega) (ndd (by rw [List.take_length]; exact hl) (out _ ?_))) (fun g' => out _ ?_)) (fun g => out _ ?_)))
    · unfold mayR
      rw [← h2, decide_eq_true (show 0 < xs.length by omega), decide_eq_true (show xs.length < 4 by omega), List.take_length]
      rfl
    · unfold mayR
      rw [← h2, decide_eq_false (show ¬ xs.length < 4 by omega)]
      simp
    · unfold mayR
      rw [← h2, decide_eq_false (show ¬ 0 < xs.length by omega)]
      rfl
  | succ rem ih =>
    intro i p h1 h2
    rw [show rem + 1 + c + 35 = (rem + 1 + c) + 35 from rfl, t_mrS]
    have e1 : 0 + ((i : Nat) : Int).toNat = i := by omega
    have e2 : addK .i64 (i : Int) 1 = ((i + 1 : Nat) : Int) := by rw [add64 (by omega)]; omega
    rw [e1, e2]
    rw [drop_getD (by omega), riseR] at h2
    refine Again.mk (brt (by omega) (ndd (by omega) (ndd (by omega) (ndd (by omega) (br (fun e => out _ ?_) (fun e => ?_))))))
    · rw [e] at h2
      unfold mayR
      rw [← h2]
      rfl
    · rw [e] at h2
      exact ndd (by omega) (ndd (by omega) (ndd (by omega) (evFuelR (ih (i + 1) _ (by omega) h2) (by omega))))
theorem fMayR_lin (vas : List VA) : Lin (fMayR vas) := by
  intro k h
  unfold fMayR at h ⊢
  split at h
  · exact (Lin.need (Lin.ret _ _)) k h
  · exact h.elim
theorem mayR_sum : SumOk Try.prog 13 sMayR := by
  refine pureSum_ok cxMr_ok fMayR_lin fun vas K h => ?_
  unfold fMayR at h
  split at h
  · rename_i f xs
    obtain ⟨h1, hK⟩ := need_iff.1 h
    have h1 := of_decide_eq_true h1
    refine ⟨xs.length + 40, ?_⟩
    show evCall cxMr (ev cxMr (xs.length + 40)) 13 [.agg [iv .u32 f, .ref 0]] [rd32 xs] (pureK 1 K)
    rw [t_mr]
    exact mr_loop f xs 0 xs.length h1 (pureK 1 K) hK xs.length 0 0 (by omega) rfl
  · exact h.elim
/-! one list, and another one -/
theorem getD_take_eq {xs ys : List Int} (hl : xs.length = ys.length) {i : Nat} (h : i < xs.length) (ht : xs.take i = ys.take i) (he : xs.getD i 0 = ys.getD i 0) : xs.take (i + 1) = ys.take (i + 1) := by
  rw [take_getD h, take_getD (by omega), ht, he]
theorem ne_of_getD {xs ys : List Int} {i : Nat} (he : xs.getD i 0 ≠ ys.getD i 0) : xs ≠ ys := fun e => he (by rw [e])
theorem cxEq_ok : CxOk Try.prog cxEq := mkCx_ok (by kernel_rfl) (by kernel_rfl) (by simp)
theorem eq_loop (xs ys : List Int) (c M : Nat) (hl : xs.length ≤ 1000000) (hxy : xs.length = ys.length) (k : SV → St → Prop) (hk : k (.sa (.one (bv (eqLL xs ys)))) [rd32 xs, rd32 ys]) :
    ∀ (rem i : Nat), i + rem = xs.length → xs.take i = ys.take i → ev cxEq (rem + c + 35) 2 15 (codeAt Try.prog 15 [1, 1, 0, 1, 0]) (frm 26 [(0, (.sa (.one (SC.ref 0)))), (1, (.sa (.one (SC.ref 1)))), (12, (.sa (.one (iv .i64 ((xs.length : Nat) : Int))))), (13, (.sa (.one (iv .i64 (i : Int)))))]) [some (.own false .ext 0 1 (.ints .u32 xs)), some (.own false .ext 0 1 (.ints .u32 ys))] (kBlock 0 (kSeq (ev cxEq (M + 37) 2 15 (codeAt Try.prog 15 [1, 1, 1])) (kRet (Cx.P cxEq) [(ResultVar.tmp 4)] 2 k))) := by
  have out : ∀ r : Bool, r = eqLL xs ys → k (.sa (.one (bv r))) [rd32 xs, rd32 ys] := fun r e => e ▸ hk
  intro rem
  induction rem with
  | zero =>
    intro i h1 h2
    rw [t_eqS]
    refine Again.mk (brf (by omega) (out _ ?_))
    rw [List.take_of_length_le (by omega), List.take_of_length_le (by omega)] at h2
    exact (decide_eq_true h2).symm
  | succ rem ih =>
    intro i h1 h2
    rw [show rem + 1 + c + 35 = (rem + 1 + c) + 35 from rfl, t_eqS]
    have e1 : 0 + ((i : Nat) : Int).toNat = i := by omega
    have e2 : addK .i64 (i : Int) 1 = ((i + 1 : Nat) : Int) := by rw [add64 (by omega)]; omega
    rw [e1, e2]
    refine Again.mk (brt (by omega) (ndd (by omega) (ndd (by omega) (ndd (by omega) (ndd (by omega) (ndd (by omega) (ndd (by omega) (br (fun e => out _ ?_) (fun e => ?_)))))))))
    · rw [Bool.not_eq_true', eqK_f] at e
      exact (decide_eq_false (ne_of_getD e)).symm
    · rw [Bool.not_eq_false', eqK_t] at e
      exact evFuelR (ih (i + 1) (by omega) (getD_take_eq hxy (by omega) h2 e)) (by omega)
theorem fEql_lin (vas : List VA) : Lin (fEql vas) := by
  intro k h
  unfold fEql at h ⊢
  split at h
  · exact (Lin.need (Lin.ret _ _)) k h
  · exact h.elim
theorem eql_sum : SumOk Try.prog 15 sEql := by
  refine pureSum_ok cxEq_ok fEql_lin fun vas K h => ?_
  unfold fEql at h
  split at h
  · rename_i xs ys
    obtain ⟨h1, hK⟩ := need_iff.1 h
    have h1 := of_decide_eq_true h1
    refine ⟨xs.length + 40, ?_⟩
    show evCall cxEq (ev cxEq (xs.length + 40)) 15 [.one (.ref 0), .one (.ref 1)] [rd32 xs, rd32 ys] (pureK 2 K)
    rw [t_eq]
    refine br (fun e => ?_) (fun e => ?_)
    · rw [Bool.not_eq_true', eqK_f] at e
      have : eqLL xs ys = false := decide_eq_false fun h => e (by rw [h])
      rw [this] at hK
      exact hK
    · rw [Bool.not_eq_false', eqK_t] at e
      exact eq_loop xs ys 0 xs.length h1.1 (by omega) (pureK 2 K) hK xs.length 0 (by omega) rfl
  · exact h.elim
theorem cxSm_ok : CxOk Try.prog cxSm := mkCx_ok (by kernel_rfl) (by kernel_rfl) (by simp)
theorem sm_loop (f g : Int) (xs ys : List Int) (c M : Nat) (hl : xs.length ≤ 1000000) (k : SV → St → Prop) (hk : k (.sa (.one (bv (sameB f g xs ys)))) [rd32 xs, rd32 ys]) :
    ∀ (rem i : Nat) (b : Bool), i + rem = xs.length → (b = true → f = g ∧ xs.length = ys.length ∧ xs.take i = ys.take i) → (b = false → sameB f g xs ys = false) → ev cxSm (rem + c + 35) 2 28 (codeAt Try.prog 28 [1, 1, 0, 1, 0]) (frm 43 [(2, (.sa (.one (SC.ptr 2 0 0)))), (3, (.sa (.one (SC.ptr 3 0 0)))), (5, (.sa (.one (bv b)))), (6, (.sa (.one (iv .i64 (i : Int)))))]) [some (.own false .ext 0 1 (.ints .u32 xs)), some (.own false .ext 0 1 (.ints .u32 ys)), obj 33 2 [iv .u32 f, .ref 0], obj 33 2 [iv .u32 g, .ref 1]] (kBlock 0 (kSeq (ev cxSm (M + 37) 2 28 (codeAt Try.prog 28 [1, 1, 1])) (kRet (Cx.P cxSm) [(ResultVar.tmp 4)] 2 k))) := by
  have out : ∀ r : Bool, r = sameB f g xs ys → k (.sa (.one (bv r))) [rd32 xs, rd32 ys] := fun r e => e ▸ hk
  intro rem
  induction rem with
  | zero =>
    intro i b h1 h2 h3
    rw [t_smS]
    refine Again.mk (brf (by omega) (out _ ?_))
    cases b with
    | false => exact (h3 rfl).symm
    | true =>
      obtain ⟨g1, g2, g3⟩ := h2 rfl
      rw [List.take_of_length_le (by omega), List.take_of_length_le (by omega)] at g3
      unfold sameB
      rw [eqK_t.2 g1, decide_eq_true g3]
      rfl
  | succ rem ih =>
    intro i b h1 h2 h3
    rw [show rem + 1 + c + 35 = (rem + 1 + c) + 35 from rfl, t_smS]
    have e1 : 0 + ((i : Nat) : Int).toNat = i := by omega
    have e2 : addK .i64 (i : Int) 1 = ((i + 1 : Nat) : Int) := by rw [add64 (by omega)]; omega
    rw [e1, e2]
    refine Again.mk (brt (by omega) (br (fun e => ?_) (fun e => out _ ?_)))
    · obtain ⟨g1, g2, g3⟩ := h2 e
      refine ndd (by omega) (ndd (by omega) (ndd (by omega) (ndd (by omega) (ndd (by omega) (ndd (by omega) (evFuelR (ih (i + 1) _ (by omega) (fun e' => ?_) (fun e' => ?_)) (by omega)))))))
      · rw [eqK_t] at e'
        exact ⟨g1, g2, getD_take_eq g2 (by omega) g3 e'⟩
      · rw [eqK_f] at e'
        unfold sameB
        rw [decide_eq_false (ne_of_getD e'), Bool.and_false]
    · rw [e]; exact (h3 e).symm
theorem fSame_lin (vas : List VA) : Lin (fSame vas) := by
  intro k h
  unfold fSame at h ⊢
  split at h
  · exact (Lin.need (Lin.ret _ _)) k h
  · exact h.elim
theorem same_sum : SumOk Try.prog 28 sSame := by
  refine pureSum_ok cxSm_ok fSame_lin fun vas K h => ?_
  unfold fSame at h
  split at h
  · rename_i f xs g ys
    obtain ⟨h1, hK⟩ := need_iff.1 h
    have h1 := of_decide_eq_true h1
    refine ⟨xs.length + 40, ?_⟩
    show evCall cxSm (ev cxSm (xs.length + 40)) 28 [.agg [iv .u32 f, .ref 0], .agg [iv .u32 g, .ref 1]] [rd32 xs, rd32 ys] (pureK 2 K)
    rw [t_sm]
    refine br (fun e => ?_) (fun e => ?_)
    · rw [eqK_t] at e
      refine sm_loop f g xs ys 0 xs.length h1.1 (pureK 2 K) hK xs.length 0 _ (by omega) (fun e' => ?_) (fun e' => ?_)
      · rw [eqK_t] at e'
        exact ⟨e, by omega, rfl⟩
      · rw [eqK_f] at e'
        unfold sameB
        rw [decide_eq_false (fun h => e' (by rw [h])), Bool.and_false]
    · refine sm_loop f g xs ys 0 xs.length h1.1 (pureK 2 K) hK xs.length 0 _ (by omega) (fun e' => by cases e') (fun _ => ?_)
      unfold sameB
      rw [e]
      rfl
  · exact h.elim
end Go.Ev
