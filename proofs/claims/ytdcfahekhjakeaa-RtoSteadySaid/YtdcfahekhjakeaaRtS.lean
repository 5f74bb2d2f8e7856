/- The law RtoChecks, run: whether a configuration may be. No conditions. -/
import Derived.Test.YtdcfahekhjakeaaRtT
namespace Go.Ev
open Go Go.Proofs Go.Spec
attribute [local irreducible] ev evCall branch need again

theorem bLeaf {b b' : Bool} {st : St} {k : SV → St → Prop} (h : k (.sa (.one (bv b))) st) (e : b = b') : k (.sa (.one (bv b'))) st := e ▸ h
theorem oLeaf {T : TypeId} {b b' : Bool} {k : SV → St → Prop} (h : k (.tup []) [obj T 1 [bv b]]) (e : b = b') : k (.tup []) [obj T 1 [bv b']] := e ▸ h

theorem names : namesB Try.prog = true := by kernel_rfl
theorem mixed : Try.prog.follows .mixedOrders = true := by kernel_rfl
theorem cx0_ok : CxOk Try.prog cx0 := mkCx_ok names mixed (by intro x h; cases h)

theorem within_sum : SumOk Try.prog 23 sWithin := by
  refine sumOk_of cx0_ok ?_ ?_
  · intro args st k h
    unfold sWithin at h ⊢
    split at h
    · exact Lin.ret _ _ k h
    · exact h.elim
  · intro args st k h
    unfold sWithin at h
    split at h
    · rename_i n lo hi T b
      refine ⟨30, ?_⟩
      rw [t_within T n lo hi b k]
      refine br (fun h1 => br (fun h2 => ?_) (fun h2 => ?_)) (fun h1 => ?_)
      · exact oLeaf h (by simp only [inB, h1, h2, Bool.true_and])
      · exact oLeaf h (by simp only [inB, h1, h2, Bool.true_and, Bool.false_and])
      · exact oLeaf h (by simp only [inB, h1, Bool.false_and])
    · exact h.elim
theorem in_sum : SumOk Try.prog 22 sIn := by
  refine sumOk_of cx0_ok ?_ ?_
  · intro args st k h
    unfold sIn at h ⊢
    split at h
    · exact Lin.ret _ _ k h
    · exact h.elim
  · intro args st k h
    unfold sIn at h
    split at h
    · rename_i n lo hi
      refine ⟨30, ?_⟩
      rw [t_in n lo hi k]
      refine br (fun h2 => ?_) (fun h2 => ?_)
      · exact bLeaf h (by simp only [inB, h2, Bool.true_and])
      · exact bLeaf h (by simp only [inB, h2, Bool.false_and])
    · exact h.elim
theorem works_sum : SumOk Try.prog 11 sWorks := by
  refine sumOk_of cx0_ok ?_ ?_
  · intro args st k h
    unfold sWorks at h ⊢
    split at h
    · exact Lin.ret _ _ k h
    · exact h.elim
  · intro args st k h
    unfold sWorks at h
    split at h
    · refine ⟨400, ?_⟩
      rw [t_works k]
      exact h
    · exact h.elim
theorem cxA_ok : CxOk Try.prog cxA := mkCx_ok names mixed (by
  intro x h
  simp only [List.mem_cons, List.not_mem_nil, or_false] at h
  rcases h with rfl | rfl
  · exact within_sum
  · exact in_sum)

theorem check_sum : SumOk Try.prog 10 sCheck := by
  refine sumOk_of cxA_ok ?_ ?_
  · intro args st k h
    unfold sCheck at h ⊢
    split at h
    · exact (Lin.branch (Lin.ret _ _) (Lin.ret _ _)) k h
    · exact h.elim
  · intro args st k h
    unfold sCheck at h
    split at h
    · rename_i mtu ss sr rr mm ri rmin rmax it pt al beat life
      refine ⟨60, ?_⟩
      rw [t_check mtu ss sr rr mm ri rmin rmax it pt al beat life k]
      rcases branch_or h with ⟨e, h⟩ | ⟨e, h⟩
      · refine br (fun h1 => absurd h1 ?_) (fun _ => h)
        show ¬ (!(checkB ⟨mtu, ss, sr, rr, mm, ri, rmin, rmax, it, pt, al, beat, life⟩)) = true
        rw [e]; decide
      · refine br (fun _ => h) (fun h1 => absurd h1 ?_)
        show ¬ (!(checkB ⟨mtu, ss, sr, rr, mm, ri, rmin, rmax, it, pt, al, beat, life⟩)) = false
        rw [e]; decide
    · exact h.elim
theorem may_sum : SumOk Try.prog 9 sMay := by
  refine sumOk_of cxA_ok ?_ ?_
  · intro args st k h
    unfold sMay at h ⊢
    split at h
    · exact Lin.ret _ _ k h
    · exact h.elim
  · intro args st k h
    unfold sMay at h
    split at h
    · rename_i mtu ss sr rr mm ri rmin rmax it pt al beat life
      refine ⟨60, ?_⟩
      rw [t_may mtu ss sr rr mm ri rmin rmax it pt al beat life k]
      repeat' refine br (fun _ => ?_) (fun _ => ?_)
      all_goals (refine bLeaf h ?_)
      all_goals (simp only [mayB, w64, *, Bool.true_and, Bool.false_and])
    · exact h.elim
theorem cxB_ok : CxOk Try.prog cxB := mkCx_ok names mixed (by
  intro x h
  simp only [List.mem_cons, List.not_mem_nil, or_false] at h
  rcases h with rfl | rfl | rfl
  · exact check_sum
  · exact may_sum
  · exact works_sum)

/-- The configuration's fields fit their kinds. -/
structure CfgWf (c : Cfg) : Prop where
  st : 0 ≤ c.st ∧ c.st ≤ 65535
  ri : 0 ≤ c.ri ∧ c.ri ≤ 4294967295
  rmin : 0 ≤ c.rmin ∧ c.rmin ≤ 4294967295
  rmax : 0 ≤ c.rmax ∧ c.rmax ≤ 4294967295
  it : 0 ≤ c.it ∧ c.it ≤ 255
  pt : 0 ≤ c.pt ∧ c.pt ≤ 255
  al : 0 ≤ c.al ∧ c.al ≤ 255
  beat : 0 ≤ c.beat ∧ c.beat ≤ 4294967295
  life : 0 ≤ c.life ∧ c.life ≤ 4294967295

theorem check_eq {c : Cfg} (h : CfgWf c) : checkB c = mayB c := by
  obtain ⟨h1, h2, h3, h4, h5, h6, h7, h8, h9⟩ := h
  have e1 : w64 c.st = c.st := Go.IntWalk.i64_in _ (by omega)
  have e2 : w64 c.ri = c.ri := Go.IntWalk.i64_in _ (by omega)
  have e3 : w64 c.rmin = c.rmin := Go.IntWalk.i64_in _ (by omega)
  have e4 : w64 c.rmax = c.rmax := Go.IntWalk.i64_in _ (by omega)
  have e5 : w64 c.it = c.it := Go.IntWalk.i64_in _ (by omega)
  have e6 : w64 c.pt = c.pt := Go.IntWalk.i64_in _ (by omega)
  have e7 : w64 c.al = c.al := Go.IntWalk.i64_in _ (by omega)
  have e8 : w64 c.beat = c.beat := Go.IntWalk.i64_in _ (by omega)
  have e9 : w64 c.life = c.life := Go.IntWalk.i64_in _ (by omega)
  by_cases hm : 1 ≤ c.mm ∧ c.mm ≤ 8192
  · have hr : room c.mm = w64 (2 * c.mm) := by
      unfold room
      rw [if_neg (show ¬ (0 : Int) > c.mm by omega), if_neg (show ¬ (8192 : Int) < c.mm by omega)]
    unfold checkB mayB
    rw [hr, e1, e2, e3, e4, e5, e6, e7, e8, e9]
    generalize w64 (2 * c.mm) = q
    generalize Int.tmod c.mtu 4 = z
    simp only [inB]
    rw [Bool.eq_iff_iff]
    simp only [Bool.and_eq_true, decide_eq_true_eq, beq_iff_eq, Bool.true_and]
    omega
  · have hf : inB c.mm 1 8192 = false := by
      unfold inB
      rw [← Bool.not_eq_true]
      simp only [Bool.and_eq_true, decide_eq_true_eq]
      omega
    unfold checkB mayB
    simp only [hf, Bool.and_false, Bool.false_and]

theorem lawChecks (c : Cfg) (h : CfgWf c) : ∃ n, evCall cxB (ev cxB n) 3 [.agg (cellsC c)] [] (fun v _ => v = .sa (.one (.raw (.bool true)))) := by
  refine ⟨60, ?_⟩
  have he := check_eq h
  obtain ⟨mtu, ss, sr, rr, mm, ri, rmin, rmax, it, pt, al, beat, life⟩ := c
  show evCall cxB (ev cxB 60) 3 [.agg [.raw (.int .i64 mtu), .raw (.int .u16 ss), .raw (.int .i64 sr), .raw (.int .i64 rr), .raw (.int .i64 mm), .raw (.int .u32 ri), .raw (.int .u32 rmin), .raw (.int .u32 rmax), .raw (.int .u8 it), .raw (.int .u8 pt), .raw (.int .u8 al), .raw (.int .u32 beat), .raw (.int .u32 life)]] [] _
  rw [t_checks, ← he]
  generalize checkB ⟨mtu, ss, sr, rr, mm, ri, rmin, rmax, it, pt, al, beat, life⟩ = b
  cases b with
  | true =>
    refine br (fun _ => br (fun _ => br (fun _ => br (fun _ => rfl) (fun h => by cases h)) (fun h => by cases h)) (fun h => by cases h)) (fun h => by cases h)
  | false =>
    refine br (fun h => by cases h) (fun _ => br (fun h => by cases h) (fun _ => br (fun _ => br (fun _ => rfl) (fun _ => rfl)) (fun h => by cases h)))
end Go.Ev
