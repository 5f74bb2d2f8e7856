/- Is a message open on one of the streams? What the functions do. No conditions. -/
import Derived.Test.YtjeinfbicgpkiaaMaT0
import Derived.Test.YtjeinfbicgpkiaaMaT1
import Derived.Test.YtjeinfbicgpkiaaAlS
set_option linter.unusedVariables false
set_option linter.unusedSimpArgs false
namespace Go.Ev
open Go Go.Proofs Go.Spec
attribute [local irreducible] ev evCall branch need again
theorem rdA_spec {rest : St} {f : List Int → List Int → List Int → Int → Int → Int → Nat → Nat → Nat → Prop} (h : rdA rest f) : ∃ os ps qs cum nx ex u v t, rest = sideA os ps qs cum nx ex u v t ∧ f os ps qs cum nx ex u v t := by
  unfold rdA at h
  split at h
  · split at h
    · split at h
      · split at h
        · split at h
          · exact ⟨_, _, _, _, _, _, _, _, _, rfl, h⟩
          · exact h.elim
        · exact h.elim
      · exact h.elim
    · exact h.elim
  · exact h.elim
theorem rdA_mk {os ps qs : List Int} {cum nx ex : Int} {u v t : Nat} {f : List Int → List Int → List Int → Int → Int → Int → Nat → Nat → Nat → Prop} : rdA (sideA os ps qs cum nx ex u v t) f = f os ps qs cum nx ex u v t := rfl
theorem allLt_at {n : Nat} {xs : List Int} (h : allLt n xs = true) {i : Nat} (hi : i < xs.length) : 0 ≤ xs.getD i 0 ∧ xs.getD i 0 < n := by
  rw [List.getD_eq_getElem?_getD, List.getElem?_eq_getElem hi]
  exact of_decide_eq_true (List.all_eq_true.1 h _ (List.getElem_mem hi))
theorem cxIm_ok : CxOk Try.prog cxIm := mkCx_ok (by kernel_rfl) (by kernel_rfl) (by simp)
theorem im_loop (cum nx ex : Int) (u v t : Nat) (w : Bool) (kk : MK) (T : TypeId) (xs os ps qs : List Int) (c M : Nat) (hl : xs.length ≤ 1000000) (hv : v = ps.length) (hu : allLt ps.length xs = true) (k : SV → St → Prop)
    (hk : k (.sa (.one (iv .i64 (idxOp ps xs 0)))) (some (.own w kk T 1 (.ints .u16 xs)) :: some (.clo (.func 54) [] [.one (.ptr 2 0 0)]) :: sideA os ps qs cum nx ex u v t)) :
    ∀ (rem i : Nat), i + rem = xs.length → idxOp ps (xs.drop i) i = idxOp ps xs 0 → ev cxIm (rem + c + 56) 12 57 (codeAt Try.prog 57 [1, 0, 1, 0]) (frm 19 [(0, (.sa (.one (SC.ref 0)))), (1, (.sa (.one (SC.ref 1)))), (7, (.sa (.one (iv .i64 ((xs.length : Nat) : Int))))), (8, (.sa (.one (iv .i64 (i : Int)))))]) (some (.own w kk T 1 (.ints .u16 xs)) :: some (.clo (.func 54) [] [.one (.ptr 2 0 0)]) :: sideA os ps qs cum nx ex u v t) (kBlock 0 (kSeq (ev cxIm (M + 58) 12 57 (codeAt Try.prog 57 [1, 1])) (kRet (Cx.P cxIm) [(ResultVar.tmp 4)] 12 k))) := by
  have out : ∀ r : Int, r = idxOp ps xs 0 → k (.sa (.one (iv .i64 r))) (some (.own w kk T 1 (.ints .u16 xs)) :: some (.clo (.func 54) [] [.one (.ptr 2 0 0)]) :: sideA os ps qs cum nx ex u v t) := fun r e => e ▸ hk
  intro rem
  induction rem with
  | zero =>
    intro i h1 h2
    rw [t_imS]
    refine Again.mk (brf (by omega) (out _ ?_))
    rw [← h2, List.drop_of_length_le (by omega)]
    rfl
  | succ rem ih =>
    intro i h1 h2
    rw [show rem + 1 + c + 56 = (rem + 1 + c) + 56 from rfl, t_imS]
    have e1 : 0 + ((i : Nat) : Int).toNat = i := by omega
    have e2 : addK .i64 (i : Int) 1 = ((i + 1 : Nat) : Int) := by rw [add64 (by omega)]; omega
    have hx := allLt_at hu (i := i) (by omega)
    rw [e1, e2]
    rw [drop_getD (by omega), idxOp] at h2
    generalize xs.getD i 0 = x at hx h2 ⊢
    have e3 : 0 + x.toNat = x.toNat := by omega
    rw [e3]
    refine Again.mk (brt (by omega) (ndd (by omega) (ndd (by omega) (ndd (by omega) (ndd (by omega) (ndd (by omega) (ndd (by omega) (brd (fun g => out _ ?_) (fun g => ?_)))))))))
    · rw [decide_eq_true g] at h2
      exact h2
    · rw [decide_eq_false g] at h2
      exact evFuelR (ih (i + 1) (by omega) h2) (by omega)
theorem sIfM_lin (args : List SA) (st : St) : Lin (sIfM args st) := by
  intro k h
  unfold sIfM at h ⊢
  split at h
  · obtain ⟨os, ps, qs, cum, nx, ex, u, v, t, rfl, h⟩ := rdA_spec h
    simp only [rdA_mk]
    exact (Lin.need (Lin.ret _ _)) k h
  · exact h.elim
theorem ifM_sum : SumOk Try.prog 57 sIfM := by
  refine sumOk_of cxIm_ok sIfM_lin fun args st k h => ?_
  unfold sIfM at h
  split at h
  · rename_i w kk T xs rest
    obtain ⟨os, ps, qs, cum, nx, ex, u, v, t, rfl, h⟩ := rdA_spec h
    obtain ⟨h1, hK⟩ := need_iff.1 h
    rw [Bool.and_eq_true_iff] at h1
    have h2 := of_decide_eq_true h1.1
    refine ⟨xs.length + 60, ?_⟩
    show evCall cxIm (ev cxIm (xs.length + 60)) 57 [.one (.ref 0), .one (.ref 1)] (some (.own w kk T 1 (.ints .u16 xs)) :: some (.clo (.func 54) [] [.one (.ptr 2 0 0)]) :: sideA os ps qs cum nx ex u v t) k
    rw [t_im]
    exact im_loop cum nx ex u v t w kk T xs os ps qs 0 xs.length h2.2.2 h2.1 h1.2 k hK xs.length 0 (by omega) rfl
  · exact h.elim
theorem cxCm_ok : CxOk Try.prog cxCm := mkCx_ok (by kernel_rfl) (by kernel_rfl) (by
  intro y h
  simp only [List.mem_cons, List.not_mem_nil, or_false] at h
  subst h
  exact ifM_sum)
theorem sCoM_lin (args : List SA) (st : St) : Lin (sCoM args st) := by
  intro k h
  unfold sCoM at h ⊢
  split at h
  · obtain ⟨os, ps, qs, cum, nx, ex, u, v, t, rfl, h⟩ := rdA_spec h
    simp only [rdA_mk]
    exact (Lin.need (Lin.ret _ _)) k h
  · exact h.elim
theorem coM_sum : SumOk Try.prog 53 sCoM := by
  refine sumOk_of cxCm_ok sCoM_lin fun args st k h => ?_
  unfold sCoM at h
  split at h
  · rename_i w kk T xs rest
    obtain ⟨os, ps, qs, cum, nx, ex, u, v, t, rfl, h⟩ := rdA_spec h
    obtain ⟨h1, hK⟩ := need_iff.1 h
    refine ⟨30, ?_⟩
    show evCall cxCm (ev cxCm 30) 53 [.one (.ref 0), .one (.ref 1)] (some (.own w kk T 1 (.ints .u16 xs)) :: some (.clo (.func 54) [] [.one (.ptr 2 0 0)]) :: sideA os ps qs cum nx ex u v t) k
    rw [t_cm]
    exact nd h1 hK
  · exact h.elim
end Go.Ev
