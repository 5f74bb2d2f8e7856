/- Miss, Hear, Primary, Next of routes: summaries. No conditions. -/
import Derived.Test.YtcdakjhcnamncaaRpS1
import Derived.Test.YtcdakjhcnamncaaRpS2
import Derived.Test.YtcdakjhcnamncaaRpS3
import Derived.Test.YtcdakjhcnamncaaRpS4
import Derived.Test.YtcdakjhcnamncaaRpS6
import Derived.Test.YtcdakjhcnamncaaRpS9
set_option linter.unusedVariables false
set_option linter.unusedSimpArgs false
set_option maxRecDepth 100000
namespace Go.Ev
open Go Go.Proofs Go.Spec
attribute [local irreducible] ev evCall branch need again
theorem cxRp_ok : CxOk Try.prog cxRp := mkCx_ok (by kernel_rfl) (by kernel_rfl) (by simp)
theorem miss_lin (args : List SA) (st : St) : Lin (sMiss args st) := by
  intro k h
  unfold sMiss at h ⊢
  split at h
  · exact rd_lin (fun ps a b c => Lin.need (Lin.ret _ _)) k h
  · exact h.elim
theorem miss_sum : SumOk Try.prog 10 sMiss := by
  refine sumOk_of cxRp_ok miss_lin fun args st k h => ?_
  unfold sMiss at h
  split at h
  · rename_i I
    obtain ⟨ps, prim, sil, al, rfl, h'⟩ := rdRt_ok h
    obtain ⟨hn, h⟩ := need_iff.1 h'
    refine ⟨60, ?_⟩
    rcases len_cases hn with ⟨p0, rfl⟩ | ⟨p0, p1, rfl⟩ | ⟨p0, p1, p2, rfl⟩ | ⟨p0, p1, p2, p3, rfl⟩ | ⟨p0, p1, p2, p3, p4, p5, rfl⟩ | ⟨p0, p1, p2, p3, p4, p5, p6, p7, p8, rfl⟩
    · exact mi_1 p0 prim sil al I k h
    · exact mi_2 p0 p1 prim sil al I k h
    · exact mi_3 p0 p1 p2 prim sil al I k h
    · exact mi_4 p0 p1 p2 p3 prim sil al I k h
    · exact mi_6 p0 p1 p2 p3 p4 p5 prim sil al I k h
    · exact mi_9 p0 p1 p2 p3 p4 p5 p6 p7 p8 prim sil al I k h
  · exact h.elim
theorem hear_lin (args : List SA) (st : St) : Lin (sHear args st) := by
  intro k h
  unfold sHear at h ⊢
  split at h
  · exact rd_lin (fun ps a b c => Lin.need (Lin.ret _ _)) k h
  · exact h.elim
theorem hear_sum : SumOk Try.prog 11 sHear := by
  refine sumOk_of cxRp_ok hear_lin fun args st k h => ?_
  unfold sHear at h
  split at h
  · rename_i I
    obtain ⟨ps, prim, sil, al, rfl, h'⟩ := rdRt_ok h
    obtain ⟨hn, h⟩ := need_iff.1 h'
    refine ⟨60, ?_⟩
    rcases len_cases hn with ⟨p0, rfl⟩ | ⟨p0, p1, rfl⟩ | ⟨p0, p1, p2, rfl⟩ | ⟨p0, p1, p2, p3, rfl⟩ | ⟨p0, p1, p2, p3, p4, p5, rfl⟩ | ⟨p0, p1, p2, p3, p4, p5, p6, p7, p8, rfl⟩
    · exact he_1 p0 prim sil al I k h
    · exact he_2 p0 p1 prim sil al I k h
    · exact he_3 p0 p1 p2 prim sil al I k h
    · exact he_4 p0 p1 p2 p3 prim sil al I k h
    · exact he_6 p0 p1 p2 p3 p4 p5 prim sil al I k h
    · exact he_9 p0 p1 p2 p3 p4 p5 p6 p7 p8 prim sil al I k h
  · exact h.elim
theorem prim_lin (args : List SA) (st : St) : Lin (sPrim args st) := by
  intro k h
  unfold sPrim at h ⊢
  split at h
  · exact rd_lin (fun ps a b c => Lin.need (Lin.ret _ _)) k h
  · exact h.elim
theorem prim_sum : SumOk Try.prog 21 sPrim := by
  refine sumOk_of cxRp_ok prim_lin fun args st k h => ?_
  unfold sPrim at h
  split at h
  · rename_i I
    obtain ⟨ps, prim, sil, al, rfl, h'⟩ := rdRt_ok h
    obtain ⟨hn, h⟩ := need_iff.1 h'
    refine ⟨60, ?_⟩
    rcases len_cases hn with ⟨p0, rfl⟩ | ⟨p0, p1, rfl⟩ | ⟨p0, p1, p2, rfl⟩ | ⟨p0, p1, p2, p3, rfl⟩ | ⟨p0, p1, p2, p3, p4, p5, rfl⟩ | ⟨p0, p1, p2, p3, p4, p5, p6, p7, p8, rfl⟩
    · exact pr_1 p0 prim sil al I k h
    · exact pr_2 p0 p1 prim sil al I k h
    · exact pr_3 p0 p1 p2 prim sil al I k h
    · exact pr_4 p0 p1 p2 p3 prim sil al I k h
    · exact pr_6 p0 p1 p2 p3 p4 p5 prim sil al I k h
    · exact pr_9 p0 p1 p2 p3 p4 p5 p6 p7 p8 prim sil al I k h
  · exact h.elim
theorem next_lin (args : List SA) (st : St) : Lin (sNext args st) := by
  intro k h
  unfold sNext at h ⊢
  split at h
  · exact rd_lin (fun ps a b c => Lin.need (Lin.ret _ _)) k h
  · exact h.elim
theorem next_sum : SumOk Try.prog 16 sNext := by
  refine sumOk_of cxRp_ok next_lin fun args st k h => ?_
  unfold sNext at h
  split at h
  · rename_i I
    obtain ⟨ps, prim, sil, al, rfl, h'⟩ := rdRt_ok h
    obtain ⟨hn, h⟩ := need_iff.1 h'
    refine ⟨60, ?_⟩
    rcases len_cases hn with ⟨p0, rfl⟩ | ⟨p0, p1, rfl⟩ | ⟨p0, p1, p2, rfl⟩ | ⟨p0, p1, p2, p3, rfl⟩ | ⟨p0, p1, p2, p3, p4, p5, rfl⟩ | ⟨p0, p1, p2, p3, p4, p5, p6, p7, p8, rfl⟩
    · exact nx_1 p0 prim sil al I k h
    · exact nx_2 p0 p1 prim sil al I k h
    · exact nx_3 p0 p1 p2 prim sil al I k h
    · exact nx_4 p0 p1 p2 p3 prim sil al I k h
    · exact nx_6 p0 p1 p2 p3 p4 p5 prim sil al I k h
    · exact nx_9 p0 p1 p2 p3 p4 p5 p6 p7 p8 prim sil al I k h
  · exact h.elim
theorem swI_at : ∀ {n j : Nat} {v : Int} {K : Int → Prop}, swI n j v K → K v
  | 0, _, _, _, h => h.elim
  | n + 1, j, v, K, h => by
    rcases branch_or h with ⟨e, h⟩ | ⟨_, h⟩
    · rw [eqK_t.1 e]; exact h
    · exact swI_at h
theorem swI_lin : ∀ (n j : Nat) (v : Int) {F : Int → (SV → St → Prop) → Prop} (hF : ∀ x, Lin (F x)), Lin (fun k => swI n j v fun x => F x k)
  | 0, _, _, _, _ => fun k h => h.elim
  | n + 1, j, v, F, hF => Lin.branch (hF _) (swI_lin n (j + 1) v hF)
theorem choose_lin (args : List SA) (st : St) : Lin (sChoose args st) := by
  intro k h
  unfold sChoose at h ⊢
  split at h
  · exact rd_lin (F := fun ps prim sil al k => need (okN (lenP ps) && thereB prim (lenP ps)) (swI (lenP ps) 0 (chooseI (downs ps) prim) fun v => k (.sa (.one (iv .i64 v))) (rtL ps prim sil al))) (fun ps a b c => Lin.need (swI_lin _ _ _ (F := fun v k => k (.sa (.one (iv .i64 v))) (rtL ps a b c)) (fun v => Lin.ret _ _))) k h
  · exact h.elim
theorem choose_sum : SumOk Try.prog 18 sChoose := by
  refine sumOk_of cxRp_ok choose_lin fun args st k h => ?_
  unfold sChoose at h
  split at h
  · obtain ⟨ps, prim, sil, al, rfl, h'⟩ := rdRt_ok h
    obtain ⟨hb, h1⟩ := need_iff.1 h'
    obtain ⟨hn, hp⟩ := Bool.and_eq_true_iff.1 hb
    have h2 := swI_at h1
    unfold thereB at hp
    simp only [Bool.and_eq_true, decide_eq_true_eq] at hp
    refine ⟨60, ?_⟩
    rcases len_cases hn with ⟨p0, rfl⟩ | ⟨p0, p1, rfl⟩ | ⟨p0, p1, p2, rfl⟩ | ⟨p0, p1, p2, p3, rfl⟩ | ⟨p0, p1, p2, p3, p4, p5, rfl⟩ | ⟨p0, p1, p2, p3, p4, p5, p6, p7, p8, rfl⟩
    · exact ch_1 p0 prim sil al hp k h2
    · exact ch_2 p0 p1 prim sil al hp k h2
    · exact ch_3 p0 p1 p2 prim sil al hp k h2
    · exact ch_4 p0 p1 p2 p3 prim sil al hp k h2
    · exact ch_6 p0 p1 p2 p3 p4 p5 prim sil al hp k h2
    · exact ch_9 p0 p1 p2 p3 p4 p5 p6 p7 p8 prim sil al hp k h2
  · exact h.elim
end Go.Ev
