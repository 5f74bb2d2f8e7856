/- lanyardlaw24.same: what it does. No conditions. -/
import Derived.Test.YtefkhlicocadcaaSmT0
import Derived.Test.YtefkhlicocadcaaSmT1
import Derived.Test.YtefkhlicocadcaaEvD

set_option linter.unusedVariables false
set_option linter.unusedSimpArgs false
namespace Go.Ev
open Go Go.Proofs Go.Spec
attribute [local irreducible] ev evCall branch need again
theorem take_getD {xs : List Int} {i : Nat} (h : i < xs.length) : xs.take (i + 1) = xs.take i ++ [xs.getD i 0] := by
  rw [List.take_add_one, List.getD_eq_getElem?_getD, List.getElem?_eq_getElem h]
  rfl
theorem getD_take_eq {xs ys : List Int} (hl : xs.length = ys.length) {i : Nat} (h : i < xs.length) (ht : xs.take i = ys.take i) (he : xs.getD i 0 = ys.getD i 0) : xs.take (i + 1) = ys.take (i + 1) := by
  rw [take_getD h, take_getD (by omega), ht, he]
theorem ne_of_getD {xs ys : List Int} {i : Nat} (he : xs.getD i 0 ≠ ys.getD i 0) : xs ≠ ys := fun e => he (by rw [e])
theorem cxSm_ok : CxOk Try.prog cxSm := mkCx_ok (by kernel_rfl) (by kernel_rfl) (by simp)
theorem sm_loop (xs ys : List Int) (c M : Nat) (hl : xs.length ≤ 1000000) (hxy : xs.length = ys.length) (k : SV → St → Prop) (hk : k (.sa (.one (bv (eqLL xs ys)))) [rdI xs, rdI ys]) :
    ∀ (rem i : Nat), i + rem = xs.length → xs.take i = ys.take i → ev cxSm (rem + c + 35) 2 18 (codeAt Try.prog 18 [1, 1, 0, 1, 0]) (frm 26 [(1, (.sa (.one (SC.ref 1)))), (12, (.sa (.one (SC.ref 0)))), (13, (.sa (.one (iv .i64 ((xs.length : Nat) : Int))))), (14, (.sa (.one (iv .i64 (i : Int)))))]) [some (.own false .ext 0 1 (.ints .i64 xs)), some (.own false .ext 0 1 (.ints .i64 ys))] (kBlock 0 (kSeq (ev cxSm (M + 37) 2 18 (codeAt Try.prog 18 [1, 1, 1])) (kRet (Cx.P cxSm) [(ResultVar.tmp 4)] 2 k))) := by
  have out : ∀ r : Bool, r = eqLL xs ys → k (.sa (.one (bv r))) [rdI xs, rdI ys] := fun r e => e ▸ hk
  intro rem
  induction rem with
  | zero =>
    intro i h1 h2
    rw [t_smS]
    refine Again.mk (brf (by omega) (out _ ?_))
    rw [List.take_of_length_le (by omega), List.take_of_length_le (by omega)] at h2
    exact (decide_eq_true h2).symm
  | succ rem ih =>
    intro i h1 h2
    rw [show rem + 1 + c + 35 = (rem + 1 + c) + 35 from rfl, t_smS]
    have e1 : 0 + ((i : Nat) : Int).toNat = i := by omega
    have e2 : addK .i64 (i : Int) 1 = ((i + 1 : Nat) : Int) := by rw [add64 (by omega)]; omega
    rw [e1, e2]
    refine Again.mk (brt (by omega) (ndd (by omega) (ndd (by omega) (ndd (by omega) (ndd (by omega) (ndd (by omega) (ndd (by omega) (br (fun e => out _ ?_) (fun e => ?_)))))))))
    · rw [Bool.not_eq_true', eqK_f] at e
      exact (decide_eq_false (ne_of_getD e)).symm
    · rw [Bool.not_eq_false', eqK_t] at e
      exact (show rem + c + 35 = rem + 1 + c + 34 by omega) ▸ ih (i + 1) (by omega) (getD_take_eq hxy (by omega) h2 e)
theorem fSm_lin (vas : List VA) : Lin (fSm vas) := by
  intro k h
  unfold fSm at h ⊢
  split at h
  · exact (Lin.need (Lin.ret _ _)) k h
  · exact h.elim
theorem sm_sum : SumOk Try.prog 18 sSm := by
  refine pureSum_ok cxSm_ok fSm_lin fun vas K h => ?_
  unfold fSm at h
  split at h
  · rename_i xs ys
    obtain ⟨h1, hK⟩ := need_iff.1 h
    have h1 := of_decide_eq_true h1
    refine ⟨xs.length + 40, ?_⟩
    show evCall cxSm (ev cxSm (xs.length + 40)) 18 [.one (.ref 0), .one (.ref 1)] [rdI xs, rdI ys] (pureK 2 K)
    rw [t_sm]
    refine br (fun e => ?_) (fun e => ?_)
    · rw [Bool.not_eq_true', eqK_f] at e
      have : eqLL xs ys = false := decide_eq_false fun h => e (by rw [h])
      rw [this] at hK
      exact hK
    · rw [Bool.not_eq_false', eqK_t] at e
      exact sm_loop xs ys 0 xs.length h1.1 (by omega) (pureK 2 K) hK xs.length 0 (by omega) rfl
  · exact h.elim
end Go.Ev
