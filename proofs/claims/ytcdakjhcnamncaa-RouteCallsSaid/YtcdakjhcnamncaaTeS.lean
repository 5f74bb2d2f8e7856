/- A call told to both: the summary. No conditions. -/
import Derived.Test.YtcdakjhcnamncaaTeX
set_option linter.unusedVariables false
set_option linter.unusedSimpArgs false
set_option maxRecDepth 100000
namespace Go.Ev
open Go Go.Proofs Go.Spec
attribute [local irreducible] ev evCall branch need again
theorem cxTe_ok : CxOk Try.prog cxTe := mkCx_ok namesRk mixedRk (by
 intro x h
 simp only [List.mem_cons, List.not_mem_nil, or_false] at h
 rcases h with rfl | rfl | rfl | rfl | rfl
 · exact miss_sum
 · exact hear_sum
 · exact prim_sum
 · exact missR_sum
 · exact hearR_sum)
theorem beq_self (n : Nat) : Nat.beq n n = true := Nat.beq_refl n
theorem tell_lin (args : List SA) (st : St) : Lin (sTell args st) := by
 intro k h
 unfold sTell at h ⊢
 split at h
 · rename_i q kd I
   obtain ⟨ps, prim, sil, al, s, rfl, h'⟩ := rdRtK_ok h
   clear h
   split at h'
   · rename_i hq
     obtain ⟨rs, p2, s2, a2, rfl, h2⟩ := rdRf_ok h'
     clear h'
     obtain ⟨v, s, h1, h3⟩ := (Lin.need (Lin.ret _ _)) k h2
     refine ⟨v, s, h1, fun k2 hk => ?_⟩
     show rdRtK _ _
     rw [rdRtK_at, hq]
     show rdRf _ _ _
     rw [rdRf_at]
     exact h3 k2 hk
   · exact h'.elim
 · exact h.elim
theorem tell_sum : SumOk Try.prog 25 sTell := by
 refine sumOk_of cxTe_ok tell_lin fun args st k h => ?_
 unfold sTell at h
 split at h
 · rename_i q kd I
   obtain ⟨ps, prim, sil, al, s, rfl, h'⟩ := rdRtK_ok h
   clear h
   split at h'
   · rename_i hq
     obtain ⟨rs, p2, s2, a2, rfl, h2⟩ := rdRf_ok h'
     clear h'
     obtain ⟨hb, hk⟩ := need_iff.1 h2
     obtain ⟨hb, h3⟩ := Bool.and_eq_true_iff.1 hb
     obtain ⟨hn, hr⟩ := Bool.and_eq_true_iff.1 hb
     obtain ⟨rfl, rfl, rfl⟩ := of_decide_eq_true h3
     obtain rfl := Nat.eq_of_beq_eq_true hq
     have hm := miss_same (Int.le_refl _) I 0 hr
     have hh := hear_same I 0 hr
     have hl := rel_len hr
     clear h2 h3 hr hb
     refine ⟨80, ?_⟩
     rcases len_cases hn with ⟨p0, rfl⟩ | ⟨p0, p1, rfl⟩ | ⟨p0, p1, p2, rfl⟩ | ⟨p0, p1, p2, p3, rfl⟩ | ⟨p0, p1, p2, p3, p4, p5, rfl⟩ | ⟨p0, p1, p2, p3, p4, p5, p6, p7, p8, rfl⟩
     · obtain ⟨r0, rfl⟩ := rs1 hl
       exact te_1 p0 r0 prim sil al kd I k hm hh hk
     · obtain ⟨r0, r1, rfl⟩ := rs2 hl
       exact te_2 p0 p1 r0 r1 prim sil al kd I k hm hh hk
     · obtain ⟨r0, r1, r2, rfl⟩ := rs3 hl
       exact te_3 p0 p1 p2 r0 r1 r2 prim sil al kd I k hm hh hk
     · obtain ⟨r0, r1, r2, r3, rfl⟩ := rs4 hl
       exact te_4 p0 p1 p2 p3 r0 r1 r2 r3 prim sil al kd I k hm hh hk
     · obtain ⟨r0, r1, r2, r3, r4, r5, rfl⟩ := rs6 hl
       exact te_6 p0 p1 p2 p3 p4 p5 r0 r1 r2 r3 r4 r5 prim sil al kd I k hm hh hk
     · obtain ⟨r0, r1, r2, r3, r4, r5, r6, r7, r8, rfl⟩ := rs9 hl
       exact te_9 p0 p1 p2 p3 p4 p5 p6 p7 p8 r0 r1 r2 r3 r4 r5 r6 r7 r8 prim sil al kd I k hm hh hk
   · exact h'.elim
 · exact h.elim
end Go.Ev
