/- The bytes of what is told: the program's and the document's. No conditions. -/
import Derived.Test.YtmgdjbppmndlnaaPbS
import Derived.Test.YtmgdjbppmndlnaaPuD
import Derived.Test.YtmgdjbppmndlnaaPbT1
import Derived.Test.YtmgdjbppmndlnaaPbT3
set_option linter.unusedVariables false
namespace Go.Ev
open Go Go.Proofs Go.Spec
attribute [local irreducible] ev evCall branch need again
theorem cxPp_ok : CxOk Try.prog cxPp := mkCx_ok namesPb mixedPb (by
  intro x h
  simp only [List.mem_cons, List.not_mem_nil, or_false] at h
  rcases h with rfl | rfl
  · exact rises_sum
  · exact tlv_sum)
theorem cxRb_ok : CxOk Try.prog cxRb := mkCx_ok namesPb mixedPb (by
  intro x h
  simp only [List.mem_cons, List.not_mem_nil, or_false] at h
  rcases h with rfl | rfl
  · exact risR_sum
  · exact tlvR_sum)
theorem body_len (pt : Int) (ss qs : List Int) : ∀ i, (bodyB pt ss qs i).length = 4 + 4 * i
  | 0 => rfl
  | i + 1 => by rw [bodyB, List.length_append, body_len pt ss qs i]; simp only [skB, List.length_cons, List.length_nil]; omega
theorem okSk_of {pt : Int} {ss qs : List Int} {n : Nat} (h : okSk pt ss qs n = true) : ss.length = n ∧ qs.length = n ∧ n ≤ 300 ∧ 0 ≤ pt ∧ pt ≤ 4294967295 ∧ (∀ x ∈ ss, 0 ≤ x ∧ x ≤ 65535) ∧ (∀ x ∈ qs, 0 ≤ x ∧ x ≤ 65535) := of_decide_eq_true h
theorem w_getD {xs : List Int} (h : ∀ x ∈ xs, 0 ≤ x ∧ x ≤ 65535) (i : Nat) : 0 ≤ xs.getD i 0 ∧ xs.getD i 0 ≤ 65535 := by
  by_cases hi : i < xs.length
  · rw [List.getD_eq_getElem?_getD, List.getElem?_eq_getElem hi]; exact h _ (List.getElem_mem hi)
  · rw [List.getD_eq_getElem?_getD, List.getElem?_eq_none (by omega)]; exact ⟨by decide, by decide⟩
theorem pp_loop (w : Bool) (kk : MK) (T n : Nat) (pt : Int) (ss qs : List Int) (c M : Nat) (k : SV → St → Prop) (hn : n ≤ 300) (hk : k (.tup [.one (.ref 1), .one (iv .i64 0)]) [skO w kk T n ss qs, rdB true .row 5 (tlvB (bodyB pt ss qs n))]) :
    ∀ (rem i : Nat), i + rem = n →
      ev cxPp (rem + c + 54) 1 6 (codeAt Try.prog 6 [1, 1, 1, 0, 1, 0]) (frm 63 [(1, (.sa (.one (SC.ptr 1 0 0)))), (4, (.sa (.one (SC.ref 2)))), (30, (.sa (.one (SC.ref 0)))), (31, (.sa (.one (iv .i64 ((n : Nat) : Int))))), (32, (.sa (.one (iv .i64 ((i : Nat) : Int)))))]) [skO w kk T n ss qs, obj 25 2 [iv .u32 pt, .ref 0], rdB true .row 5 (bodyB pt ss qs i)] (kBlock 0 (kSeq (ev cxPp (M + 56) 1 6 (codeAt Try.prog 6 [1, 1, 1, 1])) (kRet (Cx.P cxPp) [(ResultVar.tmp 2), (ResultVar.tmp 3)] 1 k))) := by
  intro rem
  induction rem with
  | zero =>
    intro i h1
    obtain rfl : i = n := by omega
    rw [t_pp1]
    refine Again.mk (brf (by omega) (ndd ?_ hk))
    rw [body_len]; omega
  | succ rem ih =>
    intro i h1
    rw [show rem + 1 + c + 54 = (rem + 1 + c) + 54 from rfl, t_pp1]
    have e3 : addK .i64 (i : Int) 1 = ((i + 1 : Nat) : Int) := by rw [add64 (by omega)]; omega
    rw [e3, toN]
    refine Again.mk (brt (by omega) (ndd (by omega) (ndd (by omega) (ndd (by omega) (ndd (by rw [body_len]; omega) ?_)))))
    exact evFuelP (ih (i + 1) (by omega)) (by omega)
theorem sPp_lin (args : List SA) (st : St) : Lin (sPp args st) := by
  intro k h
  unfold sPp at h ⊢
  split at h
  · exact (Lin.need (Lin.branch (Lin.ret _ _) (Lin.ret _ _))) k h
  · exact h.elim
theorem put_sum : SumOk Try.prog 6 sPp := by
  refine sumOk_of cxPp_ok sPp_lin fun args st k h => ?_
  unfold sPp at h
  split at h
  · rename_i pt w kk T n ss qs
    obtain ⟨h1, hK⟩ := need_iff.1 h
    obtain ⟨o1, o2, o3, o4, o5, o6, o7⟩ := okSk_of h1
    obtain ⟨hT, hF⟩ := br_pick hK
    refine ⟨(n + 0) + 60, ?_⟩
    refine Eq.mpr (t_pp w kk T n pt ss qs (n + 0) k) ?_
    refine ndd ⟨o1, by omega⟩ (brN (fun e => ?_) (fun e => hF e))
    have hT := hT e
    unfold fwdB at hT
    rw [o1] at hT
    exact pp_loop w kk T n pt ss qs 0 (n + 0) k o3 hT n 0 (by omega)
  · exact h.elim
theorem rb_loop (w v : Bool) (T U : Nat) (pt : Int) (ss qs : List Int) (c M : Nat) (k : SV → St → Prop) (h1 : ss.length ≤ 300) (h2 : qs.length = ss.length) (hs : ∀ x ∈ ss, 0 ≤ x ∧ x ≤ 65535) (hq : ∀ x ∈ qs, 0 ≤ x ∧ x ≤ 65535)
    (hk : k (.tup [.one (.ref 2), .one (bv (risB ss))]) [rd16 w .row T ss, rd16 v .row U qs, rdB true .row 5 (fwdB pt ss qs)]) :
    ∀ (rem i : Nat), i + rem = ss.length →
      ev cxRb (rem + c + 55) 2 7 (codeAt Try.prog 7 [1, 1, 0, 1, 0]) (frm 68 [(0, (.sa (.one (iv .u32 pt)))), (1, (.sa (.one (SC.ref 0)))), (2, (.sa (.one (SC.ref 1)))), (8, (.sa (.one (SC.ref 2)))), (9, (.sa (.one (iv .i64 ((i : Nat) : Int)))))]) [rd16 w .row T ss, rd16 v .row U qs, rdB true .row 5 (bodyB pt ss qs i)] (kBlock 0 (kSeq (ev cxRb (M + 57) 2 7 (codeAt Try.prog 7 [1, 1, 1])) (kRet (Cx.P cxRb) [(ResultVar.tmp 6), (ResultVar.tmp 7)] 2 k))) := by
  intro rem
  induction rem with
  | zero =>
    intro i h3
    obtain rfl : i = ss.length := by omega
    rw [t_rb1]
    refine Again.mk (brf (by omega) (ndd (by rw [body_len]; omega) (ndd (by omega) (br (fun e => ?_) (fun e => ?_)))))
    · rw [e] at hk; exact hk
    · rw [e] at hk; exact hk
  | succ rem ih =>
    intro i h3
    rw [show rem + 1 + c + 55 = (rem + 1 + c) + 55 from rfl, t_rb1]
    have e3 : addK .i64 (i : Int) 1 = ((i + 1 : Nat) : Int) := by rw [add64 (by omega)]; omega
    rw [e3, toN, quo16 (w_getD hs i), quo16 (w_getD hq i)]
    refine Again.mk (brt (by omega) ?_)
    iterate 12 refine ndd (by omega) ?_
    refine ndd (by rw [body_len]; omega) ?_
    exact evFuelP (ih (i + 1) (by omega)) (by omega)
theorem sRb_lin (args : List SA) (st : St) : Lin (sRb args st) := by
  intro k h
  unfold sRb at h ⊢
  split at h
  · exact (Lin.need (Lin.ret _ _)) k h
  · exact h.elim
theorem bytes_sum : SumOk Try.prog 7 sRb := by
  refine sumOk_of cxRb_ok sRb_lin fun args st k h => ?_
  unfold sRb at h
  split at h
  · rename_i pt w T ss v U qs
    obtain ⟨h1, hK⟩ := need_iff.1 h
    obtain ⟨o1, o2, o3, o4, o5, o6, o7⟩ := okSk_of h1
    refine ⟨(ss.length + 0) + 60, ?_⟩
    refine Eq.mpr (t_rb w v T U pt ss qs (ss.length + 0) k) ?_
    obtain ⟨q1, q2, q3⟩ := quo32 ⟨o4, o5⟩
    rw [q1, q2, q3]
    exact rb_loop w v T U pt ss qs 0 (ss.length + 0) k o3 o2 o6 o7 hK ss.length 0 (by omega)
  · exact h.elim
theorem fwd_by (pt : Int) (ss qs : List Int) (h : ss.length ≤ 300) : byB (fwdB pt ss qs) = true := by
  have hb : ∀ i, ∀ x ∈ bodyB pt ss qs i, 0 ≤ x ∧ x ≤ 255 := by
    intro i
    induction i with
    | zero =>
      intro x hx
      simp only [bodyB, headB, List.mem_cons, List.not_mem_nil, or_false] at hx
      rcases hx with rfl | rfl | rfl | rfl <;> exact u8_range _
    | succ i ih =>
      intro x hx
      rw [bodyB, List.mem_append] at hx
      rcases hx with hx | hx
      · exact ih x hx
      · simp only [skB, List.mem_cons, List.not_mem_nil, or_false] at hx
        rcases hx with rfl | rfl | rfl | rfl <;> exact u8_range _
  have hl := body_len pt ss qs ss.length
  refine decide_eq_true ⟨?_, fun x hx => ?_⟩
  · unfold fwdB tlvB padN
    simp only [List.length_append, List.length_cons, List.length_nil, List.length_replicate]
    omega
  · unfold fwdB tlvB at hx
    simp only [List.mem_append, List.mem_cons, List.not_mem_nil, or_false] at hx
    rcases hx with (hx | hx) | hx
    · rcases hx with rfl | rfl | rfl | rfl
      · decide
      · decide
      · unfold hiB; omega
      · unfold loB; omega
    · exact hb _ x hx
    · rw [(List.mem_replicate.1 hx).2]; decide
end Go.Ev
