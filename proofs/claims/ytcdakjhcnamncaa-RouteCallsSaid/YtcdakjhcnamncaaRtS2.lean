/- Paths and routes that are made: what the functions do. No conditions. -/
import Derived.Test.YtcdakjhcnamncaaRtT2
import Derived.Test.YtcdakjhcnamncaaRtS
set_option linter.unusedVariables false
set_option linter.unusedSimpArgs false
set_option maxRecDepth 100000
namespace Go.Ev
open Go Go.Proofs Go.Spec
attribute [local irreducible] ev evCall branch need again
theorem cxPn_ok : CxOk Try.prog cxPn := mkCx_ok (by kernel_rfl) (by kernel_rfl) (by
 intro y h
 simp only [List.mem_cons, List.not_mem_nil, or_false] at h
 subst h
 exact check_sum)
theorem check_mtu {c : Cfg} (h : checkB c = true) : 64 ≤ c.mtu ∧ c.mtu ≤ 1500 := by
 unfold checkB inB at h
 simp only [Bool.and_eq_true_iff, decide_eq_true_iff] at h
 omega
theorem pn_lin (args : List SA) (st : St) : Lin (sPNew args st) := by
 intro k h
 unfold sPNew at h ⊢
 split at h
 · exact (Lin.branch (Lin.ret _ _) (Lin.ret _ _)) k h
 · exact h.elim
theorem pn_sum : SumOk Try.prog 31 sPNew := by
 refine sumOk_of cxPn_ok pn_lin fun args st k h => ?_
 unfold sPNew at h
 split at h
 · rename_i mtu ss sr rr mm ri rmin rmax it pt al beat life a b
   refine ⟨30, ?_⟩
   show evCall cxPn (ev cxPn 30) 31 [.agg (cellsCfg ⟨mtu, ss, sr, rr, mm, ri, rmin, rmax, it, pt, al, beat, life⟩), .one (iv .u32 a), .one (iv .u32 b)] [] k
   rw [t_pnew]
   refine br (fun e => ?_) (fun e => ?_)
   · have hm := check_mtu e
     simp only at hm
     refine brf (by omega) (brf (by omega) ?_)
     rcases branch_iff.1 h with ⟨_, h⟩ | ⟨e2, _⟩
     · exact h
     · rw [e] at e2; cases e2
   · rcases branch_iff.1 h with ⟨e2, _⟩ | ⟨_, h⟩
     · rw [e] at e2; cases e2
     · exact h
 · exact h.elim
theorem cxRb_ok : CxOk Try.prog cxRb := mkCx_ok (by kernel_rfl) (by kernel_rfl) (by
 intro y h
 simp only [List.mem_cons, List.not_mem_nil, or_false] at h
 rcases h with rfl | rfl
 · exact addr_sum
 · exact pn_sum)
theorem fRnBad_lin (vas : List VA) : Lin (fRnBad vas) := by
 intro k h
 unfold fRnBad at h ⊢
 split at h
 · exact (Lin.need (Lin.ret _ _)) k h
 · exact h.elim
theorem rnbad_sum : SumOk Try.prog 8 sRnBad := by
 refine pureSum_ok cxRb_ok fRnBad_lin fun vas K h => ?_
 unfold fRnBad at h
 split at h
 · rename_i mtu ss sr rr mm ri rmin rmax it pt al beat life xs ys
   obtain ⟨h1, hK⟩ := need_iff.1 h
   obtain ⟨hx, h1⟩ := Bool.and_eq_true_iff.1 h1
   obtain ⟨hy, h1⟩ := Bool.and_eq_true_iff.1 h1
   have hx := of_decide_eq_true hx
   have hy := of_decide_eq_true hy
   refine ⟨40, ?_⟩
   show evCall cxRb (ev cxRb 40) 8 [.agg (cellsCfg ⟨mtu, ss, sr, rr, mm, ri, rmin, rmax, it, pt, al, beat, life⟩), .one (.ref 0), .one (.ref 1)] [rd32 xs, rd32 ys] (pureK 2 K)
   rw [t_rnb, List.take_length, List.take_length]
   refine ndd (by omega) (ndd (by omega) (br (fun _ => hK) (fun e => ?_)))
   refine ndd (by omega) (ndd (by omega) (br (fun _ => hK) (fun e2 => ?_)))
   exfalso
   simp at e e2
   rw [e, e2] at h1
   cases h1
 · exact h.elim
end Go.Ev
