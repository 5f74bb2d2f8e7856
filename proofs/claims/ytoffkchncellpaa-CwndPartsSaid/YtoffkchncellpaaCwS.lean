/- The functions of layer 12 do what is said of them, whatever the numbers are. No conditions. -/
import Derived.Test.YtoffkchncellpaaCwT
namespace Go.Ev
open Go Go.Proofs Go.Spec
attribute [local irreducible] ev evCall branch need again

theorem wLeaf {v : SV} {T : TypeId} {w : W} {a b c d : Int} {k : SV → St → Prop} (h : k v [wOb T w]) (e : w = ⟨a, b, c, d⟩) : k v [obj T 4 [iv .i64 a, iv .i64 b, iv .i64 c, iv .i64 d]] := by
  subst e; exact h
theorem rLeaf {st : St} {w : W} {a b c d : Int} {k : SV → St → Prop} (h : k (.sa (.agg (cellsW w))) st) (e : w = ⟨a, b, c, d⟩) : k (.sa (.agg [iv .i64 a, iv .i64 b, iv .i64 c, iv .i64 d])) st := by
  subst e; exact h

theorem names : namesB Try.prog = true := by kernel_rfl
theorem mixed : Try.prog.follows .mixedOrders = true := by kernel_rfl
theorem cx0_ok : CxOk Try.prog cx0 := mkCx_ok names mixed (by intro x h; cases h)

theorem ack_sum : SumOk Try.prog 13 sAck := by
  refine sumOk_of cx0_ok ?_ ?_
  · intro args st k h
    unfold sAck at h ⊢
    split at h
    · exact Lin.ret _ _ k h
    · exact h.elim
  · intro args st k h
    unfold sAck at h
    split at h
    · rename_i n b T m s t p
      refine ⟨30, ?_⟩
      rw [t_ack T m s t p n b k]
      refine br (fun h1 => ?_) (fun h1 => br (fun h2 => ?_) (fun h2 => br (fun h3 => ?_) (fun h3 => br (fun h4 => ?_) (fun h4 => ?_))))
      · exact wLeaf h (by simp at h1; simp [ackW, h1])
      · exact wLeaf h (by simp at h1 h2; simp [ackW, h1, h2])
      · exact wLeaf h (by simp at h1 h2 h3; simp [ackW, h1, h2, h3, wr64, Int.not_lt.2 h2]; done)
      · exact wLeaf h (by simp at h1 h2 h3 h4; simp [ackW, h1, h2, h3, h4, wr64, Int.not_lt.2 h2, Int.not_le.2 h3])
      · exact wLeaf h (by simp at h1 h2 h3 h4; simp [ackW, h1, h2, h3, h4, wr64, Int.not_lt.2 h2, Int.not_le.2 h3, Int.not_le.2 h4])
    · exact h.elim

theorem loss_sum : SumOk Try.prog 12 sLoss := by
  refine sumOk_of cx0_ok ?_ ?_
  · intro args st k h
    unfold sLoss at h ⊢
    split at h
    · exact Lin.ret _ _ k h
    · exact h.elim
  · intro args st k h
    unfold sLoss at h
    split at h
    · rename_i T m s t p
      refine ⟨30, ?_⟩
      rw [t_loss T m s t p k]
      exact wLeaf h (by simp only [lossW, half, wr64]; rfl)
    · exact h.elim
theorem timeout_sum : SumOk Try.prog 14 sTimeout := by
  refine sumOk_of cx0_ok ?_ ?_
  · intro args st k h
    unfold sTimeout at h ⊢
    split at h
    · exact Lin.ret _ _ k h
    · exact h.elim
  · intro args st k h
    unfold sTimeout at h
    split at h
    · rename_i T m s t p
      refine ⟨30, ?_⟩
      rw [t_timeout T m s t p k]
      exact wLeaf h (by simp only [timeoutW, half, wr64]; rfl)
    · exact h.elim
theorem lossR_sum : SumOk Try.prog 18 sLossR := by
  refine sumOk_of cx0_ok ?_ ?_
  · intro args st k h
    unfold sLossR at h ⊢
    split at h
    · exact Lin.ret _ _ k h
    · exact h.elim
  · intro args st k h
    unfold sLossR at h
    split at h
    · rename_i m s t p
      refine ⟨30, ?_⟩
      rw [t_lossR m s t p k]
      refine br (fun h1 => ?_) (fun h1 => ?_)
      · exact rLeaf h (by simp at h1; simp [lossR, wr64, h1])
      · exact rLeaf h (by simp at h1; simp [lossR, wr64, Int.not_lt.2 h1])
    · exact h.elim
theorem timeoutR_sum : SumOk Try.prog 19 sTimeoutR := by
  refine sumOk_of cx0_ok ?_ ?_
  · intro args st k h
    unfold sTimeoutR at h ⊢
    split at h
    · exact Lin.ret _ _ k h
    · exact h.elim
  · intro args st k h
    unfold sTimeoutR at h
    split at h
    · rename_i m s t p
      refine ⟨30, ?_⟩
      rw [t_timeoutR m s t p k]
      refine br (fun h1 => ?_) (fun h1 => ?_)
      · exact rLeaf h (by simp at h1; simp [timeoutR, wr64, h1])
      · exact rLeaf h (by simp at h1; simp [timeoutR, wr64, Int.not_lt.2 h1])
    · exact h.elim
theorem ackR_sum : SumOk Try.prog 17 sAckR := by
  refine sumOk_of cx0_ok ?_ ?_
  · intro args st k h
    unfold sAckR at h ⊢
    split at h
    · exact Lin.ret _ _ k h
    · exact h.elim
  · intro args st k h
    unfold sAckR at h
    split at h
    · rename_i m s t p n b
      refine ⟨30, ?_⟩
      rw [t_ackR m s t p n b k]
      repeat' refine br (fun _ => ?_) (fun _ => ?_)
      all_goals (refine rLeaf h ?_)
      all_goals (simp only [Bool.not_eq_true', decide_eq_true_eq, decide_eq_false_iff_not, Bool.not_eq_false'] at *)
      all_goals (simp only [ackR, growR, wr64, *, reduceIte, if_false, if_true, Bool.true_eq_false, Bool.false_eq_true])
    · exact h.elim
theorem works_sum : SumOk Try.prog 7 sWorks := by
  refine sumOk_of cx0_ok ?_ ?_
  · intro args st k h
    unfold sWorks at h ⊢
    split at h
    · exact Lin.ret _ _ k h
    · exact h.elim
  · intro args st k h
    unfold sWorks at h
    split at h
    · refine ⟨400, ?_⟩
      rw [t_works k]
      exact h
    · exact h.elim

theorem cx1_ok : CxOk Try.prog cx1 := mkCx_ok names mixed (by
  intro x h
  simp only [List.mem_cons, List.not_mem_nil, or_false] at h
  rcases h with rfl | rfl | rfl | rfl | rfl | rfl | rfl
  · exact ack_sum
  · exact loss_sum
  · exact timeout_sum
  · exact ackR_sum
  · exact lossR_sum
  · exact timeoutR_sum
  · exact works_sum)
end Go.Ev
