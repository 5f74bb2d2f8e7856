/- What a side does with an answer. No conditions. -/
import Derived.Test.YtjeinfbicgpkiaaRaT0
import Derived.Test.YtjeinfbicgpkiaaRaT1
import Derived.Test.YtjeinfbicgpkiaaDsS
set_option linter.unusedVariables false
set_option linter.unusedSimpArgs false
namespace Go.Ev
open Go Go.Proofs Go.Spec
attribute [local irreducible] ev evCall branch need again
theorem cxAn_ok : CxOk Try.prog cxAn := mkCx_ok (by kernel_rfl) (by kernel_rfl) (by
  intro y h
  simp only [List.mem_cons, List.not_mem_nil, or_false] at h
  subst h
  exact all_sum)
theorem rdQ_spec {st : St} {f : List Int → List Int → Nat → Nat → Int → List Int → Int → Prop} (h : rdQ st f) : ∃ os ps u v kd xs more, st = sideQ (.sl 1 0 u none) (.sl 2 0 v none) (.ptr 7 0 0) os ps kd xs more ∧ f os ps u v kd xs more := by
  unfold rdQ at h
  split at h
  · split at h
    · split at h
      · split at h
        · split at h
          · exact ⟨_, _, _, _, _, _, _, rfl, h⟩
          · exact h.elim
        · exact h.elim
      · exact h.elim
    · exact h.elim
  · exact h.elim
theorem rdQ_mk {os ps xs : List Int} {kd more : Int} {u v : Nat} {f : List Int → List Int → Nat → Nat → Int → List Int → Int → Prop} : rdQ (sideQ (.sl 1 0 u none) (.sl 2 0 v none) (.ptr 7 0 0) os ps kd xs more) f = f os ps u v kd xs more := rfl
theorem an_loopA (kd more : Int) (u v : Nat) (xs ps : List Int) (c M : Nat) (hl : xs.length ≤ 1000000) (hx : ∀ x ∈ xs, 0 ≤ x ∧ x < (u : Int)) (k : SV → St → Prop) :
    ∀ (rem i : Nat) (os : List Int), i + rem = xs.length → os.length = u → k (.sa (.one (iv .i64 0))) (sideQ (.sl 1 0 u none) (.sl 2 0 v none) nilP (resetL (xs.drop i) os) ps kd xs more) →
      ev cxAn (rem + c + 51) 11 20 (codeAt Try.prog 20 [1, 1, 1, 1, 1, 1, 0, 1, 0]) (frm 85 [(0, (.sa (.one (SC.ptr 0 0 0)))), (72, (.sa (.one (SC.ref 8)))), (73, (.sa (.one (iv .i64 ((xs.length : Nat) : Int))))), (74, (.sa (.one (iv .i64 (i : Int)))))]) (sideQ (.sl 1 0 u none) (.sl 2 0 v none) nilP os ps kd xs more) (kBlock 0 (kSeq (ev cxAn (M + 53) 11 20 (codeAt Try.prog 20 [1, 1, 1, 1, 1, 1, 1])) (kRet (Cx.P cxAn) [(ResultVar.tmp 4)] 11 k))) := by
  intro rem
  induction rem with
  | zero =>
    intro i os h1 h2 hk
    rw [t_anA]
    rw [List.drop_of_length_le (by omega)] at hk
    exact Again.mk (brf (by omega) hk)
  | succ rem ih =>
    intro i os h1 h2 hk
    rw [show rem + 1 + c + 51 = (rem + 1 + c) + 51 from rfl, t_anA]
    have e1 : 0 + ((i : Nat) : Int).toNat = i := by omega
    have e2 : addK .i64 (i : Int) 1 = ((i + 1 : Nat) : Int) := by rw [add64 (by omega)]; omega
    have hm := hx (xs.getD i 0) (by rw [List.getD_eq_getElem?_getD, List.getElem?_eq_getElem (by omega)]; exact List.getElem_mem _)
    rw [e1, e2]
    rw [drop_getD (by omega), resetL] at hk
    generalize xs.getD i 0 = x at hm hk ⊢
    have e3 : 0 + x.toNat = x.toNat := by omega
    rw [e3]
    refine Again.mk (brt (by omega) (ndd (by omega) (ndd (by omega) (ndd (by omega) (ndd (by omega) (ndd (by omega) (ndd (by omega) ?_)))))))
    exact evFuelR (ih (i + 1) (os.set x.toNat 0) (by omega) (by rw [List.length_set]; exact h2) hk) (by omega)
theorem an_loopB (kd more : Int) (u v : Nat) (xs ys ps : List Int) (c M : Nat) (hl : ys.length ≤ 1000000) (hx : ∀ x ∈ ys, 0 ≤ x ∧ x < (u : Int)) (k : SV → St → Prop) :
    ∀ (rem i : Nat) (os : List Int), i + rem = ys.length → os.length = u → k (.sa (.one (iv .i64 0))) (sideQ (.sl 1 0 u none) (.sl 2 0 v none) nilP (resetL (ys.drop i) os) ps kd xs more) →
      ev cxAn (rem + c + 51) 11 20 (codeAt Try.prog 20 [1, 1, 1, 1, 1, 1, 0, 1, 0]) (frm 85 [(0, (.sa (.one (SC.ptr 0 0 0)))), (72, (.sa (.one (SC.ref 11)))), (73, (.sa (.one (iv .i64 ((ys.length : Nat) : Int))))), (74, (.sa (.one (iv .i64 (i : Int)))))]) (sideQ (.sl 1 0 u none) (.sl 2 0 v none) nilP os ps kd xs more ++ [own16 ys]) (kBlock 0 (kSeq (ev cxAn (M + 53) 11 20 (codeAt Try.prog 20 [1, 1, 1, 1, 1, 1, 1])) (kRet (Cx.P cxAn) [(ResultVar.tmp 4)] 11 k))) := by
  intro rem
  induction rem with
  | zero =>
    intro i os h1 h2 hk
    rw [t_anB]
    rw [List.drop_of_length_le (by omega)] at hk
    exact Again.mk (brf (by omega) hk)
  | succ rem ih =>
    intro i os h1 h2 hk
    rw [show rem + 1 + c + 51 = (rem + 1 + c) + 51 from rfl, t_anB]
    have e1 : 0 + ((i : Nat) : Int).toNat = i := by omega
    have e2 : addK .i64 (i : Int) 1 = ((i + 1 : Nat) : Int) := by rw [add64 (by omega)]; omega
    have hm := hx (ys.getD i 0) (by rw [List.getD_eq_getElem?_getD, List.getElem?_eq_getElem (by omega)]; exact List.getElem_mem _)
    rw [e1, e2]
    rw [drop_getD (by omega), resetL] at hk
    generalize ys.getD i 0 = x at hm hk ⊢
    have e3 : 0 + x.toNat = x.toNat := by omega
    rw [e3]
    refine Again.mk (brt (by omega) (ndd (by omega) (ndd (by omega) (ndd (by omega) (ndd (by omega) (ndd (by omega) (ndd (by omega) ?_)))))))
    exact evFuelR (ih (i + 1) (os.set x.toNat 0) (by omega) (by rw [List.length_set]; exact h2) hk) (by omega)
theorem sAns_lin (args : List SA) (st : St) : Lin (sAns args st) := by
  intro k h
  unfold sAns at h ⊢
  split at h
  · obtain ⟨os, ps, u, v, kd, xs, more, rfl, h⟩ := rdQ_spec h
    simp only [rdQ_mk]
    exact (Lin.need (Lin.branch (Lin.branch (Lin.ret _ _) (Lin.ret _ _)) (Lin.ret _ _))) k h
  · exact h.elim
theorem ans_sum : SumOk Try.prog 20 sAns := by
  refine sumOk_of cxAn_ok sAns_lin fun args st k h => ?_
  unfold sAns at h
  split at h
  · rename_i ra
    obtain ⟨os, ps, u, v, kd, xs, more, rfl, h⟩ := rdQ_spec h
    obtain ⟨h1, hK⟩ := need_iff.1 h
    clear h
    rw [Bool.and_eq_true_iff] at h1
    obtain ⟨h1, hu⟩ := h1
    rw [Bool.and_eq_true_iff] at hu
    obtain ⟨g8, hu⟩ := hu
    obtain ⟨g1, g2, g3, g4, g5, g6, g7⟩ := of_decide_eq_true h1
    have hall : ∀ x ∈ xs, 0 ≤ x ∧ x < (u : Int) := fun x hx => by
      have := of_decide_eq_true (List.all_eq_true.1 hu x hx)
      rw [g1]; exact this
    refine ⟨(xs.length + 20) + 60, ?_⟩
    have hds := t_an ra kd more u v xs os ps (xs.length + 20) k
    unfold iv at hds
    rw [hds]
    have htk : (List.replicate more.toNat (0 : Int)).take more.toNat = List.replicate more.toNat 0 := List.take_of_length_le (by simp)
    rw [htk]
    simp only [List.length_replicate]
    by_cases hra : ra = 1
    · subst hra
      rw [show eqK 1 1 = true from rfl] at hK ⊢
      refine br (fun h => by cases h) (fun _ => ?_)
      rcases branch_or hK with ⟨_, hK⟩ | ⟨e, _⟩
      · refine bre (fun h2 => ?_) (fun h2 => ?_)
        · rw [eqK_t.2 h2] at hK
          rcases branch_or hK with ⟨_, hK⟩ | ⟨e, _⟩
          · have hpos : 0 < more := by unfold okQ at g8; rw [eqK_t.2 h2] at g8; exact of_decide_eq_true g8
            refine ndd (by omega) (ndd (by omega) (ndd (by omega) (ndd (by omega) (ndd (by omega) (brf (by omega) (ndd (by omega) (ndd (by omega) (ndd (by omega) (brf (by omega) (ndd (by omega) (ndd (by omega) ?_)))))))))))
            rw [show os.take u = os from List.take_of_length_le (by omega), show ps.take v = ps from List.take_of_length_le (by omega)]
            exact hK
          · cases e
        · rw [eqK_f.2 h2] at hK
          rcases branch_or hK with ⟨e, _⟩ | ⟨_, h⟩
          · cases e
          · refine ndd (by omega) (brd (fun h4 => ?_) (fun h4 => ?_))
            · unfold allOf at h
              rw [decide_eq_true h4] at h
              exact evFuelR (an_loopA kd more u v xs ps 20 (xs.length + 20) g7 hall k xs.length 0 os (by omega) g1.symm h) (by omega)
            · unfold allOf at h
              rw [decide_eq_false h4] at h
              have e5 : ((u : Nat) : Int).toNat = u := by omega
              rw [e5]
              have hlen := upI_len u 0
              have := an_loopB kd more u v xs (upI 0 u) ps (20 - u + xs.length) (xs.length + 20) (by omega) (fun x hx => by have := upI_mem hx; omega) k u 0 os (by omega) g1.symm h
              exact evFuelR this (by omega)
      · cases e
    · rw [eqK_f.2 hra] at hK ⊢
      rcases branch_or hK with ⟨e, _⟩ | ⟨_, hK⟩
      · cases e
      · exact br (fun _ => hK) (fun h => by cases h)
  · exact h.elim
end Go.Ev
