/- Layer 13: the functions do what is said of them, whatever the numbers are. No conditions. -/
import Derived.Test.YtgoldcmlbpfchaaPaT
namespace Go.Ev
open Go Go.Proofs Go.Spec
attribute [local irreducible] ev evCall branch need again

theorem oLeaf {T : TypeId} {b b' : Bool} {k : SV → St → Prop} (h : k (.tup []) [obj T 1 [bv b]]) (e : b = b') : k (.tup []) [obj T 1 [bv b']] := e ▸ h
theorem wLeaf {T : TypeId} {w w' : List SC} {m : Nat} {k : SV → St → Prop} (h : k (.tup []) [obj T m w]) (e : w = w') : k (.tup []) [obj T m w'] := e ▸ h
theorem names : namesB Try.prog = true := by kernel_rfl
theorem mixed : Try.prog.follows .mixedOrders = true := by kernel_rfl
theorem cx0_ok : CxOk Try.prog cx0 := mkCx_ok names mixed (by intro x h; cases h)

theorem within_sum : SumOk Try.prog 36 sWithin := by
  refine sumOk_of cx0_ok ?_ ?_
  · intro args st k h
    unfold sWithin at h ⊢
    split at h
    · exact Lin.ret _ _ k h
    · exact h.elim
  · intro args st k h
    unfold sWithin at h
    split at h
    · rename_i n lo hi T b
      refine ⟨30, ?_⟩
      rw [t_within T n lo hi b k]
      refine br (fun h1 => br (fun h2 => ?_) (fun h2 => ?_)) (fun h1 => ?_)
      · exact oLeaf h (by simp only [inB, h1, h2, Bool.true_and])
      · exact oLeaf h (by simp only [inB, h1, h2, Bool.true_and, Bool.false_and])
      · exact oLeaf h (by simp only [inB, h1, Bool.false_and])
    · exact h.elim
theorem cxA_ok : CxOk Try.prog cxA := mkCx_ok names mixed (by
  intro x h
  simp only [List.mem_cons, List.not_mem_nil, or_false] at h
  subst h
  exact within_sum)
theorem check_sum : SumOk Try.prog 34 sCheck := by
  refine sumOk_of cxA_ok ?_ ?_
  · intro args st k h
    unfold sCheck at h ⊢
    split at h
    · exact (Lin.branch (Lin.ret _ _) (Lin.ret _ _)) k h
    · exact h.elim
  · intro args st k h
    unfold sCheck at h
    split at h
    · rename_i mtu ss sr rr mm ri rmin rmax it pt al beat life
      refine ⟨60, ?_⟩
      rw [t_check mtu ss sr rr mm ri rmin rmax it pt al beat life k]
      rcases branch_or h with ⟨e, h⟩ | ⟨e, h⟩
      · refine br (fun h1 => absurd h1 ?_) (fun _ => h)
        show ¬ (!(checkB ⟨mtu, ss, sr, rr, mm, ri, rmin, rmax, it, pt, al, beat, life⟩)) = true
        rw [e]; decide
      · refine br (fun _ => h) (fun h1 => absurd h1 ?_)
        show ¬ (!(checkB ⟨mtu, ss, sr, rr, mm, ri, rmin, rmax, it, pt, al, beat, life⟩)) = false
        rw [e]; decide
    · exact h.elim
theorem cxW_ok : CxOk Try.prog cxW := mkCx_ok names mixed (by intro x h; cases h)
theorem works_sum : SumOk Try.prog 5 sWorks := by
  refine sumOk_of cxW_ok ?_ ?_
  · intro args st k h
    unfold sWorks at h ⊢
    split at h
    · exact Lin.ret _ _ k h
    · exact h.elim
  · intro args st k h
    unfold sWorks at h
    split at h
    · skip
      refine ⟨400, ?_⟩
      rw [t_works k]
      exact h
    · exact h.elim
theorem sample_sum : SumOk Try.prog 25 sSample := by
  refine sumOk_of cx0_ok ?_ ?_
  · intro args st k h
    unfold sSample at h ⊢
    split at h
    · exact Lin.ret _ _ k h
    · exact h.elim
  · intro args st k h
    unfold sSample at h
    split at h
    · rename_i r T lo hi va s v b
      refine ⟨30, ?_⟩
      rw [t_sample T lo hi va s v r b k]
      refine br (fun h1 => ?_) (fun h1 => ?_)
      · obtain rfl : b = false := by simpa using h1
        exact wLeaf h rfl
      · obtain rfl : b = true := by simpa using h1
        exact wLeaf h rfl
    · exact h.elim
theorem back_sum : SumOk Try.prog 28 sBack := by
  refine sumOk_of cx0_ok ?_ ?_
  · intro args st k h
    unfold sBack at h ⊢
    split at h
    · exact Lin.ret _ _ k h
    · exact h.elim
  · intro args st k h
    unfold sBack at h
    split at h
    · rename_i T lo hi va s v b
      refine ⟨30, ?_⟩
      rw [t_back T lo hi va s v b k]
      exact wLeaf h rfl
    · exact h.elim
theorem ack_sum : SumOk Try.prog 26 sAck := by
  refine sumOk_of cx0_ok ?_ ?_
  · intro args st k h
    unfold sAck at h ⊢
    split at h
    · exact Lin.ret _ _ k h
    · exact h.elim
  · intro args st k h
    unfold sAck at h
    split at h
    · rename_i n b T m s t p
      refine ⟨30, ?_⟩
      rw [t_ack T m s t p n b k]
      refine br (fun h1 => ?_) (fun h1 => br (fun h2 => ?_) (fun h2 => br (fun h3 => ?_) (fun h3 => br (fun h4 => ?_) (fun h4 => ?_))))
      · exact wLeaf h (by simp at h1; simp [cellsW, ackW, h1])
      · exact wLeaf h (by simp at h1 h2; simp [cellsW, ackW, h1, h2])
      · exact wLeaf h (by simp at h1 h2 h3; simp [cellsW, ackW, h1, h2, h3, wr64, Int.not_lt.2 h2]; done)
      · exact wLeaf h (by simp at h1 h2 h3 h4; simp [cellsW, ackW, h1, h2, h3, h4, wr64, Int.not_lt.2 h2, Int.not_le.2 h3])
      · exact wLeaf h (by simp at h1 h2 h3 h4; simp [cellsW, ackW, h1, h2, h3, h4, wr64, Int.not_lt.2 h2, Int.not_le.2 h3, Int.not_le.2 h4])
    · exact h.elim
theorem loss_sum : SumOk Try.prog 27 sLoss := by
  refine sumOk_of cx0_ok ?_ ?_
  · intro args st k h
    unfold sLoss at h ⊢
    split at h
    · exact Lin.ret _ _ k h
    · exact h.elim
  · intro args st k h
    unfold sLoss at h
    split at h
    · rename_i T m s t p
      refine ⟨30, ?_⟩
      rw [t_loss T m s t p k]
      exact wLeaf h rfl
    · exact h.elim
theorem timeout_sum : SumOk Try.prog 29 sTimeout := by
  refine sumOk_of cx0_ok ?_ ?_
  · intro args st k h
    unfold sTimeout at h ⊢
    split at h
    · exact Lin.ret _ _ k h
    · exact h.elim
  · intro args st k h
    unfold sTimeout at h
    split at h
    · rename_i T m s t p
      refine ⟨30, ?_⟩
      rw [t_timeout T m s t p k]
      exact wLeaf h rfl
    · exact h.elim
theorem cx1_ok : CxOk Try.prog cx1 := mkCx_ok names mixed (by
  intro x h
  simp only [List.mem_cons, List.not_mem_nil, or_false] at h
  rcases h with rfl | rfl | rfl | rfl | rfl | rfl | rfl
  · exact check_sum
  · exact works_sum
  · exact sample_sum
  · exact back_sum
  · exact ack_sum
  · exact loss_sum
  · exact timeout_sum)
end Go.Ev
