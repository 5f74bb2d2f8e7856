/- Are all streams there? What the function does. No conditions. -/
import Derived.Test.YtjeinfbicgpkiaaThT0
import Derived.Test.YtjeinfbicgpkiaaThT1
import Derived.Test.YtjeinfbicgpkiaaEvD
set_option linter.unusedVariables false
set_option linter.unusedSimpArgs false
namespace Go.Ev
open Go Go.Proofs Go.Spec
attribute [local irreducible] ev evCall branch need again
theorem evFuelR {c : Cx} {N N' m f : Nat} {co : Code} {fr : Fr} {st : St} {k : Exit → Fr → St → Prop} (h : ev c N m f co fr st k) (e : N = N') : ev c N' m f co fr st k := e ▸ h
theorem drop_getD {xs : List Int} {i : Nat} (h : i < xs.length) : xs.drop i = xs.getD i 0 :: xs.drop (i + 1) := by
  rw [List.drop_eq_getElem_cons h, List.getD_eq_getElem?_getD, List.getElem?_eq_getElem h]
  rfl
theorem u16_at {xs : List Int} (h : okU16 xs = true) (i : Nat) : 0 ≤ xs.getD i 0 ∧ xs.getD i 0 ≤ 65535 := by
  by_cases hi : i < xs.length
  · rw [List.getD_eq_getElem?_getD, List.getElem?_eq_getElem hi]
    exact of_decide_eq_true (List.all_eq_true.1 h _ (List.getElem_mem hi))
  · rw [List.getD_eq_getElem?_getD, List.getElem?_eq_none (by omega)]
    simp only [Option.getD_none]; omega
theorem cxIf_ok : CxOk Try.prog cxIf := mkCx_ok (by kernel_rfl) (by kernel_rfl) (by simp)
theorem if_loop (m : Int) (xs : List Int) (c M : Nat) (hl : xs.length ≤ 1000000) (hu : okU16 xs = true) (k : SV → St → Prop) (hk : k (.sa (.one (iv .i64 (idxGe m xs 0)))) [rd16 xs, some (.clo (.func 55) [] [.one (.ptr 2 0 0)]), obj 3 1 [iv .i64 m]]) :
    ∀ (rem i : Nat), i + rem = xs.length → idxGe m (xs.drop i) i = idxGe m xs 0 → ev cxIf (rem + c + 56) 3 57 (codeAt Try.prog 57 [1, 0, 1, 0]) (frm 19 [(0, (.sa (.one (SC.ref 0)))), (1, (.sa (.one (SC.ref 1)))), (7, (.sa (.one (iv .i64 ((xs.length : Nat) : Int))))), (8, (.sa (.one (iv .i64 (i : Int)))))]) [some (.own false .ext 0 1 (.ints .u16 xs)), some (.clo (.func 55) [] [.one (.ptr 2 0 0)]), obj 3 1 [iv .i64 m]] (kBlock 0 (kSeq (ev cxIf (M + 58) 3 57 (codeAt Try.prog 57 [1, 1])) (kRet (Cx.P cxIf) [(ResultVar.tmp 4)] 3 k))) := by
  have out : ∀ r : Int, r = idxGe m xs 0 → k (.sa (.one (iv .i64 r))) [rd16 xs, some (.clo (.func 55) [] [.one (.ptr 2 0 0)]), obj 3 1 [iv .i64 m]] := fun r e => e ▸ hk
  intro rem
  induction rem with
  | zero =>
    intro i h1 h2
    rw [t_ifS]
    refine Again.mk (brf (by omega) (out _ ?_))
    rw [← h2, List.drop_of_length_le (by omega)]
    rfl
  | succ rem ih =>
    intro i h1 h2
    rw [show rem + 1 + c + 56 = (rem + 1 + c) + 56 from rfl, t_ifS]
    have e1 : 0 + ((i : Nat) : Int).toNat = i := by omega
    have e2 : addK .i64 (i : Int) 1 = ((i + 1 : Nat) : Int) := by rw [add64 (by omega)]; omega
    have hx := u16_at hu i
    rw [e1, e2, Go.IntWalk.i64_in _ (by omega)]
    rw [drop_getD (by omega), idxGe] at h2
    refine Again.mk (brt (by omega) (ndd (by omega) (ndd (by omega) (ndd (by omega) (brd (fun g => out _ ?_) (fun g => ?_))))))
    · rw [decide_eq_true g] at h2
      exact h2
    · rw [decide_eq_false g] at h2
      exact evFuelR (ih (i + 1) (by omega) h2) (by omega)
theorem sIdxF_lin (args : List SA) (st : St) : Lin (sIdxF args st) := by
  intro k h
  unfold sIdxF at h ⊢
  split at h
  · exact (Lin.need (Lin.ret _ _)) k h
  · exact h.elim
theorem idxF_sum : SumOk Try.prog 57 sIdxF := by
  refine sumOk_of cxIf_ok sIdxF_lin fun args st k h => ?_
  unfold sIdxF at h
  split at h
  · rename_i xs m
    obtain ⟨h1, hK⟩ := need_iff.1 h
    rw [Bool.and_eq_true_iff] at h1
    refine ⟨xs.length + 60, ?_⟩
    show evCall cxIf (ev cxIf (xs.length + 60)) 57 [.one (.ref 0), .one (.ref 1)] [rd16 xs, some (.clo (.func 55) [] [.one (.ptr 2 0 0)]), obj 3 1 [iv .i64 m]] k
    rw [t_if]
    exact if_loop m xs 0 xs.length (of_decide_eq_true h1.1) h1.2 k hK xs.length 0 (by omega) rfl
  · exact h.elim
theorem cxCf_ok : CxOk Try.prog cxCf := mkCx_ok (by kernel_rfl) (by kernel_rfl) (by
  intro y h
  simp only [List.mem_cons, List.not_mem_nil, or_false] at h
  subst h
  exact idxF_sum)
theorem sConF_lin (args : List SA) (st : St) : Lin (sConF args st) := by
  intro k h
  unfold sConF at h ⊢
  split at h
  · exact (Lin.need (Lin.ret _ _)) k h
  · exact h.elim
theorem conF_sum : SumOk Try.prog 53 sConF := by
  refine sumOk_of cxCf_ok sConF_lin fun args st k h => ?_
  unfold sConF at h
  split at h
  · rename_i xs m
    obtain ⟨h1, hK⟩ := need_iff.1 h
    refine ⟨30, ?_⟩
    show evCall cxCf (ev cxCf 30) 53 [.one (.ref 0), .one (.ref 1)] [rd16 xs, some (.clo (.func 55) [] [.one (.ptr 2 0 0)]), obj 3 1 [iv .i64 m]] k
    rw [t_cf]
    exact nd h1 hK
  · exact h.elim
theorem cxTh_ok : CxOk Try.prog cxTh := mkCx_ok (by kernel_rfl) (by kernel_rfl) (by
  intro y h
  simp only [List.mem_cons, List.not_mem_nil, or_false] at h
  subst h
  exact conF_sum)
theorem fThere_lin (vas : List VA) : Lin (fThere vas) := by
  intro k h
  unfold fThere at h ⊢
  split at h
  · exact (Lin.need (Lin.ret _ _)) k h
  · exact h.elim
theorem there_sum : SumOk Try.prog 49 sThere := by
  refine pureSum_ok cxTh_ok fThere_lin fun vas K h => ?_
  unfold fThere at h
  split at h
  · rename_i xs m
    obtain ⟨h1, hK⟩ := need_iff.1 h
    refine ⟨30, ?_⟩
    show evCall cxTh (ev cxTh 30) 49 [.one (.ref 0), .one (iv .i64 m)] [rd16 xs] (pureK 1 K)
    rw [t_th]
    exact nd h1 hK
  · exact h.elim
end Go.Ev
