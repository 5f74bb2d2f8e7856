/- The methods of routes, the program's and the document's: summaries. No conditions. -/
import Derived.Test.YtcdakjhcnamncaaRkX
set_option linter.unusedVariables false
set_option linter.unusedSimpArgs false
set_option maxRecDepth 100000
namespace Go.Ev
open Go Go.Proofs Go.Spec
attribute [local irreducible] ev evCall branch need again
theorem namesRk : namesB Try.prog = true := by kernel_rfl
theorem mixedRk : Try.prog.follows .mixedOrders = true := by kernel_rfl
theorem cxRk_ok : CxOk Try.prog cxRk := mkCx_ok namesRk mixedRk (by simp)
theorem miss_lin (args : List SA) (st : St) : Lin (sMiss args st) := by
 intro k h
 unfold sMiss at h ⊢
 split at h
 · exact rd_lin (fun ps a b c => Lin.need (Lin.ret _ _)) k h
 · exact h.elim
theorem miss_sum : SumOk Try.prog 10 sMiss := by
 refine sumOk_of cxRk_ok miss_lin fun args st k h => ?_
 unfold sMiss at h
 split at h
 · rename_i I
   obtain ⟨ps, prim, sil, al, rfl, h'⟩ := rdRt_ok h
   obtain ⟨hn, h⟩ := need_iff.1 h'
   refine ⟨60, ?_⟩
   rcases len_cases hn with ⟨p0, rfl⟩ | ⟨p0, p1, rfl⟩ | ⟨p0, p1, p2, rfl⟩ | ⟨p0, p1, p2, p3, rfl⟩ | ⟨p0, p1, p2, p3, p4, p5, rfl⟩ | ⟨p0, p1, p2, p3, p4, p5, p6, p7, p8, rfl⟩
   · exact mi_1 p0 prim sil al I k h
   · exact mi_2 p0 p1 prim sil al I k h
   · exact mi_3 p0 p1 p2 prim sil al I k h
   · exact mi_4 p0 p1 p2 p3 prim sil al I k h
   · exact mi_6 p0 p1 p2 p3 p4 p5 prim sil al I k h
   · exact mi_9 p0 p1 p2 p3 p4 p5 p6 p7 p8 prim sil al I k h
 · exact h.elim
theorem hear_lin (args : List SA) (st : St) : Lin (sHear args st) := by
 intro k h
 unfold sHear at h ⊢
 split at h
 · exact rd_lin (fun ps a b c => Lin.need (Lin.ret _ _)) k h
 · exact h.elim
theorem hear_sum : SumOk Try.prog 11 sHear := by
 refine sumOk_of cxRk_ok hear_lin fun args st k h => ?_
 unfold sHear at h
 split at h
 · rename_i I
   obtain ⟨ps, prim, sil, al, rfl, h'⟩ := rdRt_ok h
   obtain ⟨hn, h⟩ := need_iff.1 h'
   refine ⟨60, ?_⟩
   rcases len_cases hn with ⟨p0, rfl⟩ | ⟨p0, p1, rfl⟩ | ⟨p0, p1, p2, rfl⟩ | ⟨p0, p1, p2, p3, rfl⟩ | ⟨p0, p1, p2, p3, p4, p5, rfl⟩ | ⟨p0, p1, p2, p3, p4, p5, p6, p7, p8, rfl⟩
   · exact he_1 p0 prim sil al I k h
   · exact he_2 p0 p1 prim sil al I k h
   · exact he_3 p0 p1 p2 prim sil al I k h
   · exact he_4 p0 p1 p2 p3 prim sil al I k h
   · exact he_6 p0 p1 p2 p3 p4 p5 prim sil al I k h
   · exact he_9 p0 p1 p2 p3 p4 p5 p6 p7 p8 prim sil al I k h
 · exact h.elim
theorem prim_lin (args : List SA) (st : St) : Lin (sPrim args st) := by
 intro k h
 unfold sPrim at h ⊢
 split at h
 · exact rd_lin (fun ps a b c => Lin.need (Lin.ret _ _)) k h
 · exact h.elim
theorem prim_sum : SumOk Try.prog 21 sPrim := by
 refine sumOk_of cxRk_ok prim_lin fun args st k h => ?_
 unfold sPrim at h
 split at h
 · rename_i I
   obtain ⟨ps, prim, sil, al, rfl, h'⟩ := rdRt_ok h
   obtain ⟨hn, h⟩ := need_iff.1 h'
   refine ⟨60, ?_⟩
   rcases len_cases hn with ⟨p0, rfl⟩ | ⟨p0, p1, rfl⟩ | ⟨p0, p1, p2, rfl⟩ | ⟨p0, p1, p2, p3, rfl⟩ | ⟨p0, p1, p2, p3, p4, p5, rfl⟩ | ⟨p0, p1, p2, p3, p4, p5, p6, p7, p8, rfl⟩
   · exact pr_1 p0 prim sil al I k h
   · exact pr_2 p0 p1 prim sil al I k h
   · exact pr_3 p0 p1 p2 prim sil al I k h
   · exact pr_4 p0 p1 p2 p3 prim sil al I k h
   · exact pr_6 p0 p1 p2 p3 p4 p5 prim sil al I k h
   · exact pr_9 p0 p1 p2 p3 p4 p5 p6 p7 p8 prim sil al I k h
 · exact h.elim
theorem next_lin (args : List SA) (st : St) : Lin (sNext args st) := by
 intro k h
 unfold sNext at h ⊢
 split at h
 · exact rd_lin (fun ps a b c => Lin.need (Lin.ret _ _)) k h
 · exact h.elim
theorem next_sum : SumOk Try.prog 16 sNext := by
 refine sumOk_of cxRk_ok next_lin fun args st k h => ?_
 unfold sNext at h
 split at h
 · rename_i I
   obtain ⟨ps, prim, sil, al, rfl, h'⟩ := rdRt_ok h
   obtain ⟨hn, h⟩ := need_iff.1 h'
   refine ⟨60, ?_⟩
   rcases len_cases hn with ⟨p0, rfl⟩ | ⟨p0, p1, rfl⟩ | ⟨p0, p1, p2, rfl⟩ | ⟨p0, p1, p2, p3, rfl⟩ | ⟨p0, p1, p2, p3, p4, p5, rfl⟩ | ⟨p0, p1, p2, p3, p4, p5, p6, p7, p8, rfl⟩
   · exact nx_1 p0 prim sil al I k h
   · exact nx_2 p0 p1 prim sil al I k h
   · exact nx_3 p0 p1 p2 prim sil al I k h
   · exact nx_4 p0 p1 p2 p3 prim sil al I k h
   · exact nx_6 p0 p1 p2 p3 p4 p5 prim sil al I k h
   · exact nx_9 p0 p1 p2 p3 p4 p5 p6 p7 p8 prim sil al I k h
 · exact h.elim
theorem missR_lin (args : List SA) (st : St) : Lin (sMissR args st) := by
 intro k h
 unfold sMissR at h ⊢
 split at h
 · exact rdf_lin (fun ps a b c => Lin.need (Lin.ret _ _)) k h
 · exact h.elim
theorem missR_sum : SumOk Try.prog 39 sMissR := by
 refine sumOk_of cxRk_ok missR_lin fun args st k h => ?_
 unfold sMissR at h
 split at h
 · rename_i I
   obtain ⟨ps, prim, sil, al, rfl, h'⟩ := rdRf_ok h
   obtain ⟨hn, h⟩ := need_iff.1 h'
   refine ⟨60, ?_⟩
   rcases len_casesR hn with ⟨p0, rfl⟩ | ⟨p0, p1, rfl⟩ | ⟨p0, p1, p2, rfl⟩ | ⟨p0, p1, p2, p3, rfl⟩ | ⟨p0, p1, p2, p3, p4, p5, rfl⟩ | ⟨p0, p1, p2, p3, p4, p5, p6, p7, p8, rfl⟩
   · exact mr_1 p0 prim sil al I k h
   · exact mr_2 p0 p1 prim sil al I k h
   · exact mr_3 p0 p1 p2 prim sil al I k h
   · exact mr_4 p0 p1 p2 p3 prim sil al I k h
   · exact mr_6 p0 p1 p2 p3 p4 p5 prim sil al I k h
   · exact mr_9 p0 p1 p2 p3 p4 p5 p6 p7 p8 prim sil al I k h
 · exact h.elim
theorem hearR_lin (args : List SA) (st : St) : Lin (sHearR args st) := by
 intro k h
 unfold sHearR at h ⊢
 split at h
 · exact rdf_lin (fun ps a b c => Lin.need (Lin.ret _ _)) k h
 · exact h.elim
theorem hearR_sum : SumOk Try.prog 40 sHearR := by
 refine sumOk_of cxRk_ok hearR_lin fun args st k h => ?_
 unfold sHearR at h
 split at h
 · rename_i I
   obtain ⟨ps, prim, sil, al, rfl, h'⟩ := rdRf_ok h
   obtain ⟨hn, h⟩ := need_iff.1 h'
   refine ⟨60, ?_⟩
   rcases len_casesR hn with ⟨p0, rfl⟩ | ⟨p0, p1, rfl⟩ | ⟨p0, p1, p2, rfl⟩ | ⟨p0, p1, p2, p3, rfl⟩ | ⟨p0, p1, p2, p3, p4, p5, rfl⟩ | ⟨p0, p1, p2, p3, p4, p5, p6, p7, p8, rfl⟩
   · exact hr_1 p0 prim sil al I k h
   · exact hr_2 p0 p1 prim sil al I k h
   · exact hr_3 p0 p1 p2 prim sil al I k h
   · exact hr_4 p0 p1 p2 p3 prim sil al I k h
   · exact hr_6 p0 p1 p2 p3 p4 p5 prim sil al I k h
   · exact hr_9 p0 p1 p2 p3 p4 p5 p6 p7 p8 prim sil al I k h
 · exact h.elim
theorem nextR_lin (args : List SA) (st : St) : Lin (sNextR args st) := by
 intro k h
 unfold sNextR at h ⊢
 split at h
 · exact rdf_lin (fun ps a b c => Lin.need (Lin.ret _ _)) k h
 · exact h.elim
theorem nextR_sum : SumOk Try.prog 27 sNextR := by
 refine sumOk_of cxRk_ok nextR_lin fun args st k h => ?_
 unfold sNextR at h
 split at h
 · rename_i I
   obtain ⟨ps, prim, sil, al, rfl, h'⟩ := rdRf_ok h
   obtain ⟨hn, h⟩ := need_iff.1 h'
   refine ⟨60, ?_⟩
   rcases len_casesR hn with ⟨p0, rfl⟩ | ⟨p0, p1, rfl⟩ | ⟨p0, p1, p2, rfl⟩ | ⟨p0, p1, p2, p3, rfl⟩ | ⟨p0, p1, p2, p3, p4, p5, rfl⟩ | ⟨p0, p1, p2, p3, p4, p5, p6, p7, p8, rfl⟩
   · exact nr_1 p0 prim sil al I k h
   · exact nr_2 p0 p1 prim sil al I k h
   · exact nr_3 p0 p1 p2 prim sil al I k h
   · exact nr_4 p0 p1 p2 p3 prim sil al I k h
   · exact nr_6 p0 p1 p2 p3 p4 p5 prim sil al I k h
   · exact nr_9 p0 p1 p2 p3 p4 p5 p6 p7 p8 prim sil al I k h
 · exact h.elim
theorem choose_lin (args : List SA) (st : St) : Lin (sChoose args st) := by
 intro k h
 unfold sChoose at h ⊢
 split at h
 · exact rd_lin (fun ps a b c => Lin.need (Lin.ret _ _)) k h
 · exact h.elim
theorem choose_sum : SumOk Try.prog 18 sChoose := by
 refine sumOk_of cxRk_ok choose_lin fun args st k h => ?_
 unfold sChoose at h
 split at h
 · obtain ⟨ps, prim, sil, al, rfl, h'⟩ := rdRt_ok h
   obtain ⟨hb, h2⟩ := need_iff.1 h'
   obtain ⟨hn, hp⟩ := Bool.and_eq_true_iff.1 hb
   unfold thereB at hp
   simp only [Bool.and_eq_true, decide_eq_true_eq] at hp
   refine ⟨60, ?_⟩
   rcases len_cases hn with ⟨p0, rfl⟩ | ⟨p0, p1, rfl⟩ | ⟨p0, p1, p2, rfl⟩ | ⟨p0, p1, p2, p3, rfl⟩ | ⟨p0, p1, p2, p3, p4, p5, rfl⟩ | ⟨p0, p1, p2, p3, p4, p5, p6, p7, p8, rfl⟩
   · exact ch_1 p0 prim sil al hp k h2
   · exact ch_2 p0 p1 prim sil al hp k h2
   · exact ch_3 p0 p1 p2 prim sil al hp k h2
   · exact ch_4 p0 p1 p2 p3 prim sil al hp k h2
   · exact ch_6 p0 p1 p2 p3 p4 p5 prim sil al hp k h2
   · exact ch_9 p0 p1 p2 p3 p4 p5 p6 p7 p8 prim sil al hp k h2
 · exact h.elim
theorem chooseR_lin (args : List SA) (st : St) : Lin (sChooseR args st) := by
 intro k h
 unfold sChooseR at h ⊢
 split at h
 · exact rdf_lin (fun ps a b c => Lin.need (Lin.ret _ _)) k h
 · exact h.elim
theorem chooseR_sum : SumOk Try.prog 26 sChooseR := by
 refine sumOk_of cxRk_ok chooseR_lin fun args st k h => ?_
 unfold sChooseR at h
 split at h
 · obtain ⟨ps, prim, sil, al, rfl, h'⟩ := rdRf_ok h
   obtain ⟨hb, h2⟩ := need_iff.1 h'
   obtain ⟨hn, hp⟩ := Bool.and_eq_true_iff.1 hb
   unfold thereB at hp
   simp only [Bool.and_eq_true, decide_eq_true_eq] at hp
   refine ⟨60, ?_⟩
   rcases len_casesR hn with ⟨p0, rfl⟩ | ⟨p0, p1, rfl⟩ | ⟨p0, p1, p2, rfl⟩ | ⟨p0, p1, p2, p3, rfl⟩ | ⟨p0, p1, p2, p3, p4, p5, rfl⟩ | ⟨p0, p1, p2, p3, p4, p5, p6, p7, p8, rfl⟩
   · exact cr_1 p0 prim sil al hp k h2
   · exact cr_2 p0 p1 prim sil al hp k h2
   · exact cr_3 p0 p1 p2 prim sil al hp k h2
   · exact cr_4 p0 p1 p2 p3 prim sil al hp k h2
   · exact cr_6 p0 p1 p2 p3 p4 p5 prim sil al hp k h2
   · exact cr_9 p0 p1 p2 p3 p4 p5 p6 p7 p8 prim sil al hp k h2
 · exact h.elim
end Go.Ev
