/- What a wheel tells: the summary; two lists of numbers compared. No conditions. -/
import Derived.Test.YtoikhfkfihejmaaWhU
import Derived.Test.YtoikhfkfihejmaaWhT5
import Derived.Test.YtoikhfkfihejmaaWhT6
import Derived.Test.YtoikhfkfihejmaaWhT7
import Derived.Test.YtoikhfkfihejmaaWhTF
set_option linter.unusedVariables false
namespace Go.Spec
open Go Go.Ev
theorem tdA_step {now : Int} {f : Nat} {H : List Tm} {ks bs : List Int} (h : 0 < H.length ∧ (hat H 0).1 ≤ now) :
    tdA now (f + 1) H ks bs = ((hat H 0).2 :: (tdA now f (stopH H 0) (stopK ks (hat H 0).2) (stopBs bs ks (hat H 0).2)).1, (tdA now f (stopH H 0) (stopK ks (hat H 0).2) (stopBs bs ks (hat H 0).2)).2) := by
  rw [tdA, if_pos h]
theorem tdA_end {now : Int} {f : Nat} {H : List Tm} {ks bs : List Int} (h : ¬ (0 < H.length ∧ (hat H 0).1 ≤ now)) : tdA now f H ks bs = ([], H, ks, bs) := by
  cases f with
  | zero => rfl
  | succ f => rw [tdA, if_neg h]
theorem tdA_told (now : Int) : ∀ (f : Nat) (H : List Tm) (ks bs : List Int), (tdA now f H ks bs).1 = (toldH now f H).1 ∧ (tdA now f H ks bs).2.1 = (toldH now f H).2
  | 0, H, ks, bs => ⟨rfl, rfl⟩
  | f + 1, H, ks, bs => by
    obtain ⟨a, b⟩ := tdA_told now f (stopH H 0) (stopK ks (hat H 0).2) (stopBs bs ks (hat H 0).2)
    rw [tdA, toldH]
    split
    · exact ⟨by dsimp only; rw [a], b⟩
    · exact ⟨rfl, rfl⟩
theorem WF.top {H : List Tm} {ks bs : List Int} {cl : Nat} (w : WF H ks bs cl) (hl : 0 < H.length) : idxI (hat H 0).2 (idsH H) = 0 ∧ idxI (hat H 0).2 ks < ks.length := by
  have h1 : (idsH H).getD 0 0 = (hat H 0).2 := ids_at H 0
  exact ⟨idxI_uni w.hn (by rw [ids_len]; exact hl) h1, idxI_in.2 (w.s1 _ (List.mem_map.2 ⟨_, hat_mem hl, rfl⟩))⟩
end Go.Spec
namespace Go.Ev
open Go Go.Proofs Go.Spec
attribute [local irreducible] ev evCall branch need again
theorem cxTo_ok : CxOk Try.prog cxTo := mkCx_ok namesW mixedW (by
  intro x h
  simp only [List.mem_cons, List.not_mem_nil, or_false] at h
  rcases h with rfl
  exact stop_sum)
/-- The head of the loop, when something was told. -/
noncomputable def evT (L N : Nat) (now m : Int) (H : List Tm) (ks bs os : List Int) (cl : Nat) (k : SV → St → Prop) : Prop :=
  ev cxTo (L + 37) 14 24 (codeAt Try.prog 24 [0]) toF (toSt 14 none (wM H ks bs cl) (obj 23 1 [.ref 15]) now m [wT H, inO os]) (toK now m N k)
theorem to_loop (now m : Int) (N cl : Nat) (k : SV → St → Prop) : ∀ (A : Nat) (H : List Tm) (ks bs os : List Int), WF H ks bs cl → H.length ≤ A → ((os.length + H.length : Nat) : Int) < m → os.length + H.length ≤ 2000 →
    k (.sa (.one (.ref 3))) [wO 4 2, none, wM (tdA now A H ks bs).2.1 (tdA now A H ks bs).2.2.1 (tdA now A H ks bs).2.2.2 cl, inO (os ++ (tdA now A H ks bs).1), wT (tdA now A H ks bs).2.1] →
    evT (A + 1) N now m H ks bs os cl k
  | A, H, ks, bs, os, w, hA, hm, hle, hk => by
    have hh := t_to1 now m H.length (atsH H) (idsH H) ks (posL H ks) bs os cl (A + 1) N k
    unfold evT wM wT
    refine Eq.mpr hh ⟨?_⟩
    clear hh
    by_cases hc : 0 < H.length ∧ (hat H 0).1 ≤ now
    · obtain ⟨A, rfl⟩ : ∃ B, A = B + 1 := ⟨A - 1, by omega⟩
      obtain ⟨c1, c2⟩ := hc
      rw [tdA_step ⟨c1, c2⟩] at hk
      obtain ⟨i0, ik⟩ := w.top c1
      refine brt (by omega) (ndd (by omega) (ndd c1 ?_))
      rw [ats_at, ids_at]
      refine brt c2 (ndd (by omega) (ndd c1 ?_))
      rw [w.to]
      refine need_t1 (brt ik (ndd (by omega) (brf (by rw [List.length_append]; simp; omega) ?_)))
      rw [stopS_eq, i0]
      have ws := w.stop ik
      rw [i0] at ws
      have hsl : (stopH H 0).length = H.length - 1 := by rw [stopH_cut.length_eq, cutH_len]
      refine to_loop now m N cl k A (stopH H 0) (stopK ks (hat H 0).2) (stopBs bs ks (hat H 0).2) (os ++ [(hat H 0).2]) ws (by omega) (by rw [List.length_append]; simp; omega) (by rw [List.length_append]; simp; omega) ?_
      rw [List.append_assoc]
      exact hk
    · rw [tdA_end hc] at hk
      dsimp only at hk
      rw [List.append_nil] at hk
      refine brd (fun h => ?_) (fun h => hk)
      refine ndd h (ndd (by omega) ?_)
      rw [ats_at]
      exact brf (fun c => hc ⟨by omega, c⟩) hk
  termination_by A => A
theorem sTold_lin (args : List SA) (st : St) : Lin (sTold args st) := by
  intro k h
  unfold sTold at h ⊢
  split at h
  · exact (Lin.need (Lin.branch (Lin.ret _ _) (Lin.ret _ _))) k h
  · exact h.elim
theorem told_sum : SumOk Try.prog 10 sTold := by
  refine sumOk_of cxTo_ok sTold_lin fun args st k h => ?_
  unfold sTold at h
  split at h
  · rename_i now m n ts xs ks vs bs cl
    obtain ⟨h1, hK⟩ := need_iff.1 h
    clear h
    obtain ⟨h1, h2⟩ := Bool.and_eq_true_iff.1 h1
    have h2 := of_decide_eq_true h2
    obtain ⟨H, rfl, rfl, rfl, rfl, w⟩ := wf_of h1
    have hle := w.le
    unfold tdO tdL tdK tdB at hK
    rw [toH_self, ats_len] at hK
    refine ⟨(H.length + 1) + 50, ?_⟩
    have hh := t_to now m H.length (atsH H) (idsH H) ks (posL H ks) bs cl (H.length + 1) k
    refine Eq.mpr hh ?_
    clear hh
    have h0 := t_to0 now m H.length (atsH H) (idsH H) ks (posL H ks) bs cl (H.length + 1) (H.length + 1) k
    refine Eq.mpr h0 ⟨?_⟩
    clear h0
    have ed : dueB now H.length (atsH H) = decide (0 < H.length ∧ (hat H 0).1 ≤ now) := by unfold dueB; rw [ats_at]
    rw [ed] at hK
    by_cases hc : 0 < H.length ∧ (hat H 0).1 ≤ now
    · rw [decide_eq_true hc] at hK
      rcases branch_or hK with ⟨_, hk⟩ | ⟨e, _⟩
      · clear hK
        obtain ⟨c1, c2⟩ := hc
        obtain ⟨A, hA⟩ : ∃ A, H.length = A + 1 := ⟨H.length - 1, by omega⟩
        have es := tdA_step (f := A) (ks := ks) (bs := bs) ⟨c1, c2⟩
        rw [hA, es] at hk
        obtain ⟨i0, ik⟩ := w.top c1
        refine brt (by omega) (ndd (by omega) (ndd c1 ?_))
        rw [ats_at, ids_at]
        refine brt c2 (ndd (by omega) (ndd c1 ?_))
        rw [w.to]
        refine need_t1 (brt ik (brf (by omega) ?_))
        rw [stopS_eq, i0]
        have ws := w.stop ik
        rw [i0] at ws
        have hsl : (stopH H 0).length = H.length - 1 := by rw [stopH_cut.length_eq, cutH_len]
        have hr := to_loop now m (H.length + 1) cl k A (stopH H 0) (stopK ks (hat H 0).2) (stopBs bs ks (hat H 0).2) [(hat H 0).2] ws (by omega) (by simp; omega) (by simp; omega) hk
        unfold evT at hr
        rw [hA] at hr ⊢
        exact hr
      · cases e
    · rw [decide_eq_false hc] at hK
      rcases branch_or hK with ⟨e, _⟩ | ⟨_, hk⟩
      · cases e
      · refine brd (fun h => ?_) (fun h => hk)
        refine ndd h (ndd (by omega) ?_)
        rw [ats_at]
        exact brf (fun c => hc ⟨by omega, c⟩) hk
  · exact h.elim
theorem cxSm_ok : CxOk Try.prog cxSm := mkCx_ok namesW mixedW (by intro x h; cases h)
theorem sSame_lin (args : List SA) (st : St) : Lin (sSame args st) := by
  intro k h
  unfold sSame at h ⊢
  split at h
  · exact (Lin.ret _ _) k h
  · exact (Lin.need (Lin.ret _ _)) k h
  · exact h.elim
theorem same_loop (w v : Bool) (xs ys : List Int) (M : Nat) (k : SV → St → Prop) (hl : xs.length = ys.length) (h6 : xs.length ≤ 1000000)
    (hk : k (.sa (.one (bv (sameB xs ys)))) [some (.own w .row 3 1 (.ints .i64 xs)), some (.own v .row 3 1 (.ints .i64 ys))]) : ∀ (A i : Nat), xs.length = i + A → (∀ j, j < i → xs.getD j 0 = ys.getD j 0) →
    ev cxSm (A + 36) 2 9 (codeAt Try.prog 9 [1, 1, 0, 1, 0]) (frm 26 [(0, (.sa (.one (SC.ref 0)))), (1, (.sa (.one (SC.ref 1)))), (12, (.sa (.one (SC.ref 0)))), (13, (.sa (.one (iv .i64 ((xs.length : Nat) : Int))))), (14, (.sa (.one (iv .i64 ((i : Nat) : Int)))))]) [some (.own w .row 3 1 (.ints .i64 xs)), some (.own v .row 3 1 (.ints .i64 ys))] (kBlock 0 (kSeq (ev cxSm (M + 37) 2 9 (codeAt Try.prog 9 [1, 1, 1])) (kRet (Cx.P cxSm) [(ResultVar.tmp 4)] 2 k)))
  | 0, i, hi, he => by
    have hh := t_sm1 w v (i : Int) xs ys 1 M k
    refine Eq.mpr hh ⟨?_⟩
    refine brf (by omega) ?_
    have e : xs = ys := by
      refine List.ext_getElem hl fun j h1 h2 => ?_
      have := he j (by omega)
      rw [List.getD_eq_getElem?_getD, List.getD_eq_getElem?_getD, List.getElem?_eq_getElem h1, List.getElem?_eq_getElem h2] at this
      exact this
    have e2 : sameB xs ys = true := decide_eq_true e
    rw [e2] at hk
    exact hk
  | A + 1, i, hi, he => by
    have hh := t_sm1 w v (i : Int) xs ys (A + 2) M k
    refine Eq.mpr hh ⟨?_⟩
    have z : ∀ m : Nat, 0 + Int.toNat (m : Int) = m := fun m => by omega
    refine brt (by omega) ?_
    iterate 6 refine ndd (by omega) ?_
    rw [z]
    by_cases hc : xs.getD i 0 = ys.getD i 0
    · rw [eqK_t.2 hc]
      refine branch_f ?_
      rw [add64 (by omega)]
      have hr := same_loop w v xs ys M k hl h6 hk A (i + 1) (by omega) (fun j hj => by
        by_cases e : j = i
        · rw [e]; exact hc
        · exact he j (by omega))
      exact hr
    · rw [eqK_f.2 hc]
      refine branch_t ?_
      have e2 : sameB xs ys = false := decide_eq_false (fun e => hc (by rw [e]))
      rw [e2] at hk
      exact hk
theorem same_sum : SumOk Try.prog 9 sSame := by
  refine sumOk_of cxSm_ok sSame_lin fun args st k h => ?_
  unfold sSame at h
  split at h
  · exact ⟨0 + 40, Eq.mpr (t_smN 0 k) ⟨h⟩⟩
  · rename_i w xs v ys
    obtain ⟨h1, hK⟩ := need_iff.1 h
    clear h
    have h1 := of_decide_eq_true h1
    refine ⟨(xs.length + 1) + 40, Eq.mpr (t_sm w v xs ys (xs.length + 1) k) ?_⟩
    by_cases hl : xs.length = ys.length
    · rw [eqK_t.2 (show ((xs.length : Nat) : Int) = ((ys.length : Nat) : Int) by omega)]
      exact branch_f (same_loop w v xs ys (xs.length + 1) k hl h1 hK xs.length 0 (by omega) (fun j hj => by omega))
    · rw [eqK_f.2 (show ((xs.length : Nat) : Int) ≠ ((ys.length : Nat) : Int) by omega)]
      have e2 : sameB xs ys = false := decide_eq_false (fun e => hl (by rw [e]))
      rw [e2] at hK
      exact branch_t hK
  · exact h.elim
end Go.Ev
