/- A net whose last datagram's bytes may be written: what its methods do. No conditions. -/
import Derived.Test.YtocmcimaghjhiaaNuL
import Derived.Test.YtocmcimaghjhiaaNuT0
import Derived.Test.YtocmcimaghjhiaaNuT1
import Derived.Test.YtocmcimaghjhiaaNtS
set_option linter.unusedVariables false
namespace Go.Ev
open Go Go.Proofs Go.Spec
attribute [local irreducible] ev evCall branch need again
theorem sPeek_lin (args : List SA) (st : St) : Lin (sPeek args st) := by
  intro k h
  unfold sPeek at h ⊢
  split at h
  · exact (Lin.need (Lin.ret _ _)) k h
  · exact (Lin.need (Lin.branch (Lin.ret _ _) (Lin.ret _ _))) k h
  · exact h.elim
theorem sTwice_lin (args : List SA) (st : St) : Lin (sTwice args st) := by
  intro k h
  unfold sTwice at h ⊢
  split at h
  · exact (Lin.need (Lin.ret _ _)) k h
  · exact h.elim
theorem sTurn_lin (args : List SA) (st : St) : Lin (sTurn args st) := by
  intro k h
  unfold sTurn at h ⊢
  split at h
  · exact (Lin.need (Lin.ret _ _)) k h
  · exact h.elim
theorem cxP_ok : CxOk Try.prog cxP := mkCx_ok namesN mixedN (by
  intro x h
  simp only [List.mem_cons, List.not_mem_nil, or_false] at h
  rcases h with rfl | rfl
  · exact place_sum
  · exact clone8_sum)
theorem cxT_ok : CxOk Try.prog cxT :=
  have h := cxP_ok
  ⟨rfl, h.names, h.mixed, h.sum, fun _ h => (by cases h)⟩
theorem smallB_iff {b : List Int} : smallB b = true ↔ b.length ≤ 140737488355328 := by unfold smallB; exact decide_eq_true_iff
theorem fewB_iff {b : List Int} : fewB b = true ↔ b.length ≤ 100000 := by unfold fewB; exact decide_eq_true_iff
theorem and4 {a b c d : Bool} (h : (a && b && c && d) = true) : a = true ∧ b = true ∧ c = true ∧ d = true := by
  cases a <;> cases b <;> cases c <;> cases d <;> first | exact ⟨rfl, rfl, rfl, rfl⟩ | cases h
theorem and5 {a b c d e : Bool} (h : (a && b && c && d && e) = true) : a = true ∧ b = true ∧ c = true ∧ d = true ∧ e = true := by
  cases a <;> cases b <;> cases c <;> cases d <;> cases e <;> first | exact ⟨rfl, rfl, rfl, rfl, rfl⟩ | cases h
theorem placeK_in1 (i : Int) {n : Nat} (h2 : n ≤ 1000000) : 0 ≤ placeK i ((n + 1 : Nat) : Int) ∧ placeK i ((n + 1 : Nat) : Int) < ((n + 1 : Nat) : Int) := by
  unfold placeK
  rw [remK_eq, remK_eq]
  have h1 := Int.tmod_lt_of_pos i (show (0 : Int) < ((n + 1 : Nat) : Int) by omega)
  have h3 := Int.lt_tmod_of_pos i (show (0 : Int) < ((n + 1 : Nat) : Int) by omega)
  rw [add64 (by omega)]
  exact ⟨Int.tmod_nonneg _ (by omega), Int.tmod_lt_of_pos _ (by omega)⟩
theorem peek_sum : SumOk Try.prog 10 sPeek := by
  refine sumOk_of cxP_ok sPeek_lin fun args st k h => ?_
  unfold sPeek at h
  split at h
  · rename_i i most n fs ts bs us
    obtain ⟨h1, h⟩ := need_iff.1 h
    obtain ⟨h1, h2, h3, h4⟩ := and4 h1
    obtain ⟨l1, l2, l3, l4, l5⟩ := netOk_iff.1 h1
    have h2 := of_decide_eq_true h2
    have h4 := smallB_iff.1 h4
    obtain ⟨p1, p2⟩ := placeK_in i h2 l5
    refine ⟨80, Eq.mpr (t_peek i most n fs ts us bs 0 k) ?_⟩
    simp only [Nat.zero_add, List.take_length]
    refine bref (by omega) ?_
    exact ndd (by omega) (ndd p1 (ndd p2 (ndd (by omega) (ndd (Nat.le_refl _) (ndd h4 h)))))
  · rename_i i most n fs ts bs us f t a b
    obtain ⟨h1, h⟩ := need_iff.1 h
    obtain ⟨h1, h2, h3, h4⟩ := and4 h1
    obtain ⟨l1, l2, l3, l4, l5⟩ := netOk_iff.1 h1
    have h3 := smallB_iff.1 h3
    have h4 := smallB_iff.1 h4
    have hp : 0 ≤ placeK i ((n + 1 : Nat) : Int) ∧ placeK i ((n + 1 : Nat) : Int) < ((n + 1 : Nat) : Int) := placeK_in1 i l5
    obtain ⟨p1, p2⟩ := hp
    refine ⟨80, Eq.mpr (t_peekE i most f t a n fs ts us b bs 0 k) ?_⟩
    simp only [Nat.zero_add, List.take_length]
    refine ndd p1 (ndd p2 (ndd (by omega) ?_))
    rcases branch_or h with ⟨e, h⟩ | ⟨e, h⟩
    · have e := of_decide_eq_true e
      unfold placeN at e
      exact brt e (ndd (Nat.le_refl _) (ndd h4 h))
    · have e := of_decide_eq_false e
      unfold placeN at e
      exact brf e (brt (by omega) (ndd (Nat.le_refl _) (ndd h3 h)))
  · exact h.elim
theorem twice_sum : SumOk Try.prog 14 sTwice := by
  refine sumOk_of cxT_ok sTwice_lin fun args st k h => ?_
  unfold sTwice at h
  split at h
  · rename_i i most n fs ts bs us
    obtain ⟨h1, h⟩ := need_iff.1 h
    obtain ⟨h1, h2, h3, h4⟩ := and4 h1
    obtain ⟨l1, l2, l3, l4, l5⟩ := netOk_iff.1 h1
    obtain ⟨h2, h5⟩ := of_decide_eq_true h2
    have h4 := smallB_iff.1 h4
    obtain ⟨p1, p2⟩ := placeK_in i h2 l5
    refine ⟨80, Eq.mpr (t_twice i most n fs ts us bs 0 k) ?_⟩
    simp only [Nat.zero_add, List.take_length]
    refine bref (by omega) ?_
    exact ndd (by omega) (ndd p1 (ndd p2 (ndd (by omega) (brf (by omega) (ndd (Nat.le_refl _) (ndd h4 (ndd (by omega) h)))))))
  · exact h.elim
theorem quo8 (y : Nat) (h : y < 1000000) : quoK .i64 (y : Int) 8 = ((y / 8 : Nat) : Int) := by
  rw [quoK_eq, Int.tdiv_eq_ediv_of_nonneg (by omega), Go.IntWalk.i64_in _ (by omega)]
  omega
theorem rem8 (y : Nat) : remK (y : Int) 8 = ((y % 8 : Nat) : Int) := by
  rw [remK_eq, Int.tmod_eq_emod_of_nonneg (by omega)]
  omega
theorem mul8 {n : Nat} (h : n ≤ 100000) : mulK .i64 8 ((n : Nat) : Int) = ((8 * n : Nat) : Int) := by
  rw [mulK_eq, Go.IntWalk.i64_in _ (by omega)]
  omega
/-- Where the bit stands. -/
theorem bit_at (bit : Int) {b : List Int} (h0 : 0 < b.length) (h : b.length ≤ 100000) : ∃ y : Nat, y < 8 * b.length ∧ placeK bit (mulK .i64 8 ((b.length : Nat) : Int)) = (y : Int) := by
  rw [mul8 h]
  obtain ⟨p1, p2⟩ := placeK_in bit (n := 8 * b.length) (by omega) (by omega)
  exact ⟨(placeK bit ((8 * b.length : Nat) : Int)).toNat, by omega, by omega⟩
theorem turn_sum : SumOk Try.prog 16 sTurn := by
  refine sumOk_of cxP_ok sTurn_lin fun args st k h => ?_
  unfold sTurn at h
  split at h
  · rename_i i bit most n fs ts bs us f t a b
    obtain ⟨h1, h⟩ := need_iff.1 h
    obtain ⟨h1, h2, h3, h4, h5⟩ := and5 h1
    obtain ⟨l1, l2, l3, l4, l5⟩ := netOk_iff.1 h1
    have h4 := fewB_iff.1 h4
    have h5 := of_decide_eq_true h5
    unfold placeN at h5
    have hp : 0 ≤ placeK i ((n + 1 : Nat) : Int) ∧ placeK i ((n + 1 : Nat) : Int) < ((n + 1 : Nat) : Int) := placeK_in1 i l5
    obtain ⟨p1, p2⟩ := hp
    refine ⟨80, Eq.mpr (t_turn i bit most f t a n fs ts us b bs 0 k) ?_⟩
    simp only [Nat.zero_add]
    refine ndd p1 (ndd p2 (ndd (by omega) (brf (by omega) (brt (by omega) ?_))))
    cases b with
    | nil => exact brf (by decide) h
    | cons x r =>
      obtain ⟨y, y1, y2⟩ := bit_at bit (b := x :: r) (by simp) h4
      have f1 : mulK .i64 8 (((x :: r).length : Nat) : Int) ≠ 0 := by rw [mul8 h4]; simp only [List.length_cons]; omega
      have q := quo8 y (by omega)
      have f2 : 0 ≤ quoK .i64 (placeK bit (mulK .i64 8 (((x :: r).length : Nat) : Int))) 8 := by rw [y2, q]; omega
      have f3 : quoK .i64 (placeK bit (mulK .i64 8 (((x :: r).length : Nat) : Int))) 8 < (((x :: r).length : Nat) : Int) := by rw [y2, q]; omega
      have f5 : 0 ≤ remK (placeK bit (mulK .i64 8 (((x :: r).length : Nat) : Int))) 8 := by rw [y2, rem8]; omega
      have f0 : (((x :: r).length : Nat) : Int) > 0 := by simp only [List.length_cons]; omega
      refine brt f0 ?_
      repeat' refine ndd (by first | exact f1 | exact f2 | exact f3 | exact f5 | omega) ?_
      rw [decide_eq_true f0]
      rw [decide_eq_true (show 0 < (x :: r).length by simp)] at h
      exact h
  · exact h.elim
end Go.Ev
