/- slices.Index and slices.Contains at []uint32: what they do. No conditions. -/
import Derived.Test.YtiplgpnegolegaaIxT0
import Derived.Test.YtiplgpnegolegaaIxT1
import Derived.Test.YtiplgpnegolegaaEvD
set_option linter.unusedVariables false
set_option linter.unusedSimpArgs false
namespace Go.Ev
open Go Go.Proofs Go.Spec
attribute [local irreducible] ev evCall branch need again
theorem evFuelR {c : Cx} {N N' m f : Nat} {co : Code} {fr : Fr} {st : St} {k : Exit → Fr → St → Prop} (h : ev c N m f co fr st k) (e : N = N') : ev c N' m f co fr st k := e ▸ h
theorem drop_getD {xs : List Int} {i : Nat} (h : i < xs.length) : xs.drop i = xs.getD i 0 :: xs.drop (i + 1) := by
  rw [List.drop_eq_getElem_cons h, List.getD_eq_getElem?_getD, List.getElem?_eq_getElem h]
  rfl
theorem take_getD {xs : List Int} {i : Nat} (h : i < xs.length) : xs.take (i + 1) = xs.take i ++ [xs.getD i 0] := by
  rw [List.take_add_one, List.getD_eq_getElem?_getD, List.getElem?_eq_getElem h]
  rfl
theorem cxIx_ok : CxOk Try.prog cxIx := mkCx_ok (by kernel_rfl) (by kernel_rfl) (by simp)
theorem idx_loop (xs : List Int) (x : Int) (c M : Nat) (hl : xs.length ≤ 1000000) (k : SV → St → Prop) (hk : k (.sa (.one (iv .i64 (idxL x xs 0)))) [rd32 xs]) :
    ∀ (rem i : Nat), i + rem = xs.length → idxL x (xs.drop i) i = idxL x xs 0 → ev cxIx (rem + c + 36) 1 47 (codeAt Try.prog 47 [1, 0, 1, 0]) (frm 19 [(0, (.sa (.one (SC.ref 0)))), (1, (.sa (.one (iv .u32 x)))), (7, (.sa (.one (iv .i64 ((xs.length : Nat) : Int))))), (8, (.sa (.one (iv .i64 (i : Int)))))]) [some (.own false .ext 0 1 (.ints .u32 xs))] (kBlock 0 (kSeq (ev cxIx (M + 38) 1 47 (codeAt Try.prog 47 [1, 1])) (kRet (Cx.P cxIx) [(ResultVar.tmp 4)] 1 k))) := by
  have out : ∀ r : Int, r = idxL x xs 0 → k (.sa (.one (iv .i64 r))) [rd32 xs] := fun r e => e ▸ hk
  intro rem
  induction rem with
  | zero =>
    intro i h1 h2
    rw [t_idxS]
    refine Again.mk (brf (by omega) (out _ ?_))
    rw [← h2, List.drop_of_length_le (by omega)]
    rfl
  | succ rem ih =>
    intro i h1 h2
    rw [show rem + 1 + c + 36 = (rem + 1 + c) + 36 from rfl, t_idxS]
    have e1 : 0 + ((i : Nat) : Int).toNat = i := by omega
    have e2 : addK .i64 (i : Int) 1 = ((i + 1 : Nat) : Int) := by rw [add64 (by omega)]; omega
    rw [e1, e2]
    rw [drop_getD (by omega), idxL] at h2
    refine Again.mk (brt (by omega) (ndd (by omega) (ndd (by omega) (ndd (by omega) (br (fun e => out _ ?_) (fun e => ?_))))))
    · rw [e] at h2; exact h2
    · rw [e] at h2
      exact evFuelR (ih (i + 1) (by omega) (by simpa using h2)) (by omega)
theorem fIdx_lin (vas : List VA) : Lin (fIdx vas) := by
  intro k h
  unfold fIdx at h ⊢
  split at h
  · exact (Lin.need (Lin.ret _ _)) k h
  · exact h.elim
theorem idx_sum : SumOk Try.prog 47 sIdx := by
  refine pureSum_ok cxIx_ok fIdx_lin fun vas K h => ?_
  unfold fIdx at h
  split at h
  · rename_i xs x
    obtain ⟨h1, hK⟩ := need_iff.1 h
    have h1 := of_decide_eq_true h1
    refine ⟨xs.length + 40, ?_⟩
    show evCall cxIx (ev cxIx (xs.length + 40)) 47 [.one (.ref 0), .one (iv .u32 x)] [rd32 xs] (pureK 1 K)
    rw [t_idx]
    exact idx_loop xs x 0 xs.length h1 (pureK 1 K) hK xs.length 0 (by omega) rfl
  · exact h.elim
theorem idxL_pos (x : Int) : ∀ (l : List Int) (i : Int), 0 ≤ i → (idxL x l i ≥ 0 ↔ x ∈ l)
  | [], i, _ => by simp [idxL]
  | a :: r, i, h => by
    rw [idxL]
    cases e : eqK x a with
    | true => rw [eqK_t] at e; simp [e]; exact h
    | false =>
      rw [eqK_f] at e
      simp only [List.mem_cons, e, false_or]
      exact idxL_pos x r (i + 1) (by omega)
theorem has_idx (xs : List Int) (x : Int) : decide (idxL x xs 0 ≥ 0) = hasL xs x := by
  unfold hasL
  rw [Bool.eq_iff_iff, decide_eq_true_iff, idxL_pos x xs 0 (by omega), List.contains_iff_mem]
theorem cxHa_ok : CxOk Try.prog cxHa := mkCx_ok (by kernel_rfl) (by kernel_rfl) (by
  intro y h
  simp only [List.mem_cons, List.not_mem_nil, or_false] at h
  subst h
  exact idx_sum)
theorem fHas_lin (vas : List VA) : Lin (fHas vas) := by
  intro k h
  unfold fHas at h ⊢
  split at h
  · exact (Lin.need (Lin.ret _ _)) k h
  · exact h.elim
theorem has_sum : SumOk Try.prog 33 sHas := by
  refine pureSum_ok cxHa_ok fHas_lin fun vas K h => ?_
  unfold fHas at h
  split at h
  · rename_i xs x
    obtain ⟨h1, hK⟩ := need_iff.1 h
    have h1 := of_decide_eq_true h1
    refine ⟨20, ?_⟩
    show evCall cxHa (ev cxHa 20) 33 [.one (.ref 0), .one (iv .u32 x)] [rd32 xs] (pureK 1 K)
    rw [t_has xs x 0, List.take_length, has_idx]
    exact ndd (by omega) (ndd (by omega) hK)
  · exact h.elim
end Go.Ev
