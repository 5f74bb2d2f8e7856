/- ConfAgree: the document's Do as it is summarised here. No conditions. -/
import Derived.Test.YtiplgpnegolegaaDoS
import Derived.Test.YtiplgpnegolegaaCaD
set_option linter.unusedVariables false
set_option linter.unusedSimpArgs false
set_option maxHeartbeats 4000000
namespace Go.Spec
open Go Go.Ev
theorem okDo_iff {xs : List Int} {kd : Int} : okDo xs kd = true ↔ (xs.length ≤ 1000000 ∧ 0 ≤ kd) ∧ okUs xs = true := by
  unfold okDo
  cases okUs xs <;> simp
end Go.Spec
namespace Go.Ev
open Go Go.Proofs Go.Spec
attribute [local irreducible] ev evCall branch need again
theorem fDoA_lin (vas : List VA) : Lin (fDoA vas) := by
  intro k h
  unfold fDoA at h ⊢
  split at h
  · exact (Lin.need (Lin.ret _ _)) k h
  · exact h.elim
theorem drA_sum : SumOk Try.prog 10 sDoA := by
  refine pureSum_okC 23 1 fDoA_lin fun vas K h => ?_
  unfold fDoA at h
  split at h
  · rename_i f xs kd ad
    obtain ⟨h1, hK⟩ := need_iff.1 h
    obtain ⟨h1, hu⟩ := okDo_iff.1 h1
    have hre := mayR_eq (f := f) hu
    show ∃ cx, CxOk Try.prog cx ∧ ∃ n, evCall cx (ev cx n) 10 [.agg [iv .u32 f, .ref 0], .one (iv .u8 kd), .one (iv .u32 ad)] [rd32 xs] (tidyC Try.prog 23 1 1 (pureK 1 K))
    have hK : pureK 1 K (.tup [.agg [iv .u32 (doF f xs kd ad).1, .ref 1], .one (iv .i64 (doF f xs kd ad).2.2)]) [rd32 xs, own32 (doF f xs kd ad).2.1] := hK
    have hl : xs.length ≤ 1000000 := h1.1
    have h0 := h1.2
    cases hm : mayB f xs with
    | false =>
      refine ⟨cxDrE, cxDrE_ok, 60, ?_⟩
      rw [t_drE, List.take_length, hre, hm, decide_eq_true hl]
      rw [doFe (fun e => by rw [hm] at e; cases e.1)] at hK
      exact ndd (by omega) (nd rfl hK)
    | true =>
      by_cases hk0 : kd = 0
      · subst hk0
        refine ⟨cxDrP, cxDrP_ok, 80, ?_⟩
        rw [t_drK0, List.take_length, hre, hm, decide_eq_true hl]
        rw [doFe (fun e => by omega)] at hK
        exact ndd (by omega) (nd rfl hK)
      by_cases hk4 : 4 ≤ kd
      · obtain ⟨m, rfl⟩ : ∃ m : Nat, kd = ((m + 4 : Nat) : Int) := ⟨(kd - 4).toNat, by omega⟩
        refine ⟨cxDrP, cxDrP_ok, 80, ?_⟩
        rw [t_drKp, List.take_length, hre, hm, decide_eq_true hl]
        rw [doFe (fun e => by omega)] at hK
        exact ndd (by omega) (nd rfl (brt (by omega) hK))
      refine ⟨cxDr, cxDr_ok, 80, ?_⟩
      have hk : kd = 1 ∨ kd = 2 ∨ kd = 3 := by omega
      rcases mayB_len hm with ⟨a, rfl, g1, g2⟩ | ⟨a, b, rfl, g1, g2, g3, g4⟩ | ⟨a, b, c, rfl, g1, g2, g3, g4, g5, g6⟩
      · rcases hk with rfl | rfl | rfl
        · exact dr11 f ad a g1 g2 hm (hre.trans hm) _ hK
        · exact dr12 f ad a g1 g2 hm (hre.trans hm) _ hK
        · exact dr13 f ad a g1 g2 hm (hre.trans hm) _ hK
      · rcases hk with rfl | rfl | rfl
        · exact dr21 f ad a b g1 g2 g3 g4 hm (hre.trans hm) _ hK
        · exact dr22 f ad a b g1 g2 g3 g4 hm (hre.trans hm) _ hK
        · exact dr23 f ad a b g1 g2 g3 g4 hm (hre.trans hm) _ hK
      · rcases hk with rfl | rfl | rfl
        · exact dr31 f ad a b c g1 g2 g3 g4 g5 g6 hm (hre.trans hm) _ hK
        · exact dr32 f ad a b c g1 g2 g3 g4 g5 g6 hm (hre.trans hm) _ hK
        · exact dr33 f ad a b c g1 g2 g3 g4 g5 g6 hm (hre.trans hm) _ hK
  · exact h.elim
end Go.Ev
