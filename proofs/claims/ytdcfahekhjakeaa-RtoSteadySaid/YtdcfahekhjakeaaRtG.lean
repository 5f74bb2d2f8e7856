/- The document's sample is the program's. No conditions. -/
import Derived.Test.YtdcfahekhjakeaaRtF
namespace Go.Ev
open Go Go.Proofs Go.Spec
attribute [local irreducible] ev evCall branch need again

theorem fin {t : T} {lo hi X S V : Int} {B : Bool} {k : SV → St → Prop} (h : k (.sa (.agg (cellsT t))) []) (q : t = ⟨lo, hi, clampT lo hi X, S, V, B⟩) :
    branch (decide (X < lo)) (branch (decide (lo > hi)) (k (.sa (.agg [iv .u64 lo, iv .u64 hi, iv .u64 hi, iv .u64 S, iv .u64 V, bv B])) []) (k (.sa (.agg [iv .u64 lo, iv .u64 hi, iv .u64 lo, iv .u64 S, iv .u64 V, bv B])) []))
      (branch (decide (X > hi)) (k (.sa (.agg [iv .u64 lo, iv .u64 hi, iv .u64 hi, iv .u64 S, iv .u64 V, bv B])) []) (k (.sa (.agg [iv .u64 lo, iv .u64 hi, iv .u64 X, iv .u64 S, iv .u64 V, bv B])) [])) := by
  have key : ∀ y, clampT lo hi X = y → k (.sa (.agg [iv .u64 lo, iv .u64 hi, iv .u64 y, iv .u64 S, iv .u64 V, bv B])) [] := fun y e => uLeaf h (by rw [q, e])
  refine br (fun h1 => br (fun h2 => key _ ?_) (fun h2 => key _ ?_)) (fun h1 => br (fun h2 => key _ ?_) (fun h2 => key _ ?_))
  all_goals (simp only [decide_eq_true_eq, decide_eq_false_iff_not] at h1 h2; unfold clampT)
  · rw [if_pos (show lo > X by omega), if_pos (by omega)]
  · rw [if_pos (show lo > X by omega), if_neg (by omega)]
  · rw [if_neg (show ¬ lo > X by omega), if_pos (by omega)]
  · rw [if_neg (show ¬ lo > X by omega), if_neg (by omega)]

theorem part2 {lo hi va s v r c d : Int} {k : SV → St → Prop} (hp : PreT ⟨lo, hi, va, s, v, true⟩) (hc : cut32 r = c) (hc0 : 0 ≤ c) (hc1 : c ≤ 4294967296) (hd : dist c (s / 8) = d)
    (h : k (.sa (.agg (cellsT (sampT ⟨lo, hi, va, s, v, true⟩ r)))) []) :
    branch (IntKind.wrap .u64 (v - v / 4 + d) == 0)
      (branch (decide (IntKind.wrap .u64 (IntKind.wrap .u64 (Int.tdiv (IntKind.wrap .u64 (s - s / 8 + c)) 8) + 1) < lo)) (branch (decide (lo > hi)) (k (.sa (.agg [iv .u64 lo, iv .u64 hi, iv .u64 hi, iv .u64 (IntKind.wrap .u64 (s - s / 8 + c)), iv .u64 (IntKind.wrap .u64 (v - v / 4 + d)), bv true])) []) (k (.sa (.agg [iv .u64 lo, iv .u64 hi, iv .u64 lo, iv .u64 (IntKind.wrap .u64 (s - s / 8 + c)), iv .u64 (IntKind.wrap .u64 (v - v / 4 + d)), bv true])) []))
        (branch (decide (IntKind.wrap .u64 (IntKind.wrap .u64 (Int.tdiv (IntKind.wrap .u64 (s - s / 8 + c)) 8) + 1) > hi)) (k (.sa (.agg [iv .u64 lo, iv .u64 hi, iv .u64 hi, iv .u64 (IntKind.wrap .u64 (s - s / 8 + c)), iv .u64 (IntKind.wrap .u64 (v - v / 4 + d)), bv true])) []) (k (.sa (.agg [iv .u64 lo, iv .u64 hi, iv .u64 (IntKind.wrap .u64 (IntKind.wrap .u64 (Int.tdiv (IntKind.wrap .u64 (s - s / 8 + c)) 8) + 1)), iv .u64 (IntKind.wrap .u64 (s - s / 8 + c)), iv .u64 (IntKind.wrap .u64 (v - v / 4 + d)), bv true])) [])))
      (branch (decide (IntKind.wrap .u64 (IntKind.wrap .u64 (Int.tdiv (IntKind.wrap .u64 (s - s / 8 + c)) 8) + IntKind.wrap .u64 (v - v / 4 + d)) < lo)) (branch (decide (lo > hi)) (k (.sa (.agg [iv .u64 lo, iv .u64 hi, iv .u64 hi, iv .u64 (IntKind.wrap .u64 (s - s / 8 + c)), iv .u64 (IntKind.wrap .u64 (v - v / 4 + d)), bv true])) []) (k (.sa (.agg [iv .u64 lo, iv .u64 hi, iv .u64 lo, iv .u64 (IntKind.wrap .u64 (s - s / 8 + c)), iv .u64 (IntKind.wrap .u64 (v - v / 4 + d)), bv true])) []))
        (branch (decide (IntKind.wrap .u64 (IntKind.wrap .u64 (Int.tdiv (IntKind.wrap .u64 (s - s / 8 + c)) 8) + IntKind.wrap .u64 (v - v / 4 + d)) > hi)) (k (.sa (.agg [iv .u64 lo, iv .u64 hi, iv .u64 hi, iv .u64 (IntKind.wrap .u64 (s - s / 8 + c)), iv .u64 (IntKind.wrap .u64 (v - v / 4 + d)), bv true])) []) (k (.sa (.agg [iv .u64 lo, iv .u64 hi, iv .u64 (IntKind.wrap .u64 (IntKind.wrap .u64 (Int.tdiv (IntKind.wrap .u64 (s - s / 8 + c)) 8) + IntKind.wrap .u64 (v - v / 4 + d))), iv .u64 (IntKind.wrap .u64 (s - s / 8 + c)), iv .u64 (IntKind.wrap .u64 (v - v / 4 + d)), bv true])) []))) := by
  obtain ⟨p0, p1, p2, p3, p4, p5, p6, p7, p8⟩ := hp
  simp only at p0 p1 p2 p3 p4 p5 p6 p7 p8
  have hd0 : 0 ≤ d ∧ d ≤ 4294967296 := by rw [← hd]; unfold dist; split <;> omega
  have e1 : IntKind.wrap .u64 (s - s / 8 + c) = s - s / 8 + c := u64 (by omega)
  have e2 : IntKind.wrap .u64 (v - v / 4 + d) = v - v / 4 + d := u64 (by omega)
  have e3 : IntKind.wrap .u64 (Int.tdiv (s - s / 8 + c) 8) = (s - s / 8 + c) / 8 := by rw [Int.tdiv_eq_ediv_of_nonneg (by omega)]; exact u64 (by omega)
  have e4 : IntKind.wrap .u64 ((s - s / 8 + c) / 8 + 1) = (s - s / 8 + c) / 8 + 1 := u64 (by omega)
  have e5 : IntKind.wrap .u64 ((s - s / 8 + c) / 8 + (v - v / 4 + d)) = (s - s / 8 + c) / 8 + (v - v / 4 + d) := u64 (by omega)
  rw [e1, e2, e3, e4, e5]
  have hs : sampT ⟨lo, hi, va, s, v, true⟩ r = ⟨lo, hi, clampT lo hi ((s - s / 8 + c) / 8 + one (v - v / 4 + d)), s - s / 8 + c, v - v / 4 + d, true⟩ := by
    unfold sampT
    simp only [Bool.true_eq_false, if_false]
    rw [hc, hd, show s + c - s / 8 = s - s / 8 + c by omega]
  refine br (fun h1 => ?_) (fun h1 => ?_)
  · have h1 : v - v / 4 + d = 0 := by simpa using h1
    refine fin h ?_
    rw [hs]
    unfold one
    rw [if_pos (show 1 > v - v / 4 + d by omega)]
  · have h1 : ¬ v - v / 4 + d = 0 := by simpa using h1
    refine fin h ?_
    rw [hs]
    unfold one
    rw [if_neg (show ¬ 1 > v - v / 4 + d by omega)]

theorem sampleR_sum : SumOk Try.prog 21 sSampleR := by
  refine sumOk_of cx0_ok ?_ ?_
  · intro args st k h
    unfold sSampleR at h ⊢
    split at h
    · exact (Lin.need (Lin.need (Lin.ret _ _))) k h
    · exact h.elim
  · intro args st k h
    unfold sSampleR at h
    split at h
    · rename_i lo hi va s v b r
      obtain ⟨hp, h⟩ := need_iff.1 h
      obtain ⟨hr, h⟩ := need_iff.1 h
      have hP := preT_iff.1 hp
      obtain ⟨p0, p1, p2, p3, p4, p5, p6, p7, p8⟩ := id hP
      obtain ⟨r0, r1⟩ := pre64_iff.1 hr
      simp only at p0 p1 p2 p3 p4 p5 p6 p7 p8
      refine ⟨30, ?_⟩
      rw [t_sampleR lo hi va s v r b k]
      have q8 : IntKind.wrap .u64 (Int.tdiv s 8) = s / 8 := by rw [Int.tdiv_eq_ediv_of_nonneg p5]; exact u64 (by omega)
      have q4 : IntKind.wrap .u64 (Int.tdiv v 4) = v / 4 := by rw [Int.tdiv_eq_ediv_of_nonneg p7]; exact u64 (by omega)
      have e1 : IntKind.wrap .u64 (s - s / 8) = s - s / 8 := u64 (by omega)
      have e2 : IntKind.wrap .u64 (v - v / 4) = v - v / 4 := u64 (by omega)
      rw [q8, q4, e1, e2]
      refine br (fun h1 => ?_) (fun h1 => ?_)
      · have h1 : 4294967296 < r := by simpa using h1
        have hc : cut32 r = 4294967296 := by unfold cut32; rw [if_pos h1]
        cases b with
        | false =>
          refine br (fun _ => ?_) (fun h => by cases h)
          refine fin h ?_
          unfold sampT
          simp only [if_true]
          rw [hc]
          rfl
        | true =>
          refine br (fun h => by cases h) (fun _ => br (fun h2 => ?_) (fun h2 => ?_))
          · have h2 : s / 8 ≥ 4294967296 := by simpa using h2
            rw [u64 (x := s / 8 - 4294967296) (by omega)]
            exact part2 hP hc (by omega) (by omega) (by unfold dist; rw [if_neg (by omega)]) h
          · have h2 : ¬ s / 8 ≥ 4294967296 := by simpa using h2
            rw [u64 (x := 4294967296 - s / 8) (by omega)]
            exact part2 hP hc (by omega) (by omega) (by unfold dist; rw [if_pos (by omega)]) h
      · have h1 : ¬ 4294967296 < r := by simpa using h1
        have hc : cut32 r = r := by unfold cut32; rw [if_neg h1]
        cases b with
        | false =>
          refine br (fun _ => ?_) (fun h => by cases h)
          rw [u64 (x := 2 * r) (by omega), u64 (x := 8 * r) (by omega)]
          have e3 : IntKind.wrap .u64 (Int.tdiv (8 * r) 8) = r := by rw [Int.tdiv_eq_ediv_of_nonneg (by omega), show 8 * r / 8 = r by omega]; exact u64 (by omega)
          rw [e3, u64 (x := r + 1) (by omega), u64 (x := r + 2 * r) (by omega)]
          have hs : sampT ⟨lo, hi, va, s, v, false⟩ r = ⟨lo, hi, clampT lo hi (r + one (2 * r)), 8 * r, 2 * r, true⟩ := by
            unfold sampT
            simp only [if_true]
            rw [hc, show r * 2 = 2 * r by omega, show r * 8 = 8 * r by omega]
          refine br (fun h2 => ?_) (fun h2 => ?_)
          · have h2 : 2 * r = 0 := by simpa using h2
            refine fin h ?_
            rw [hs]
            unfold one
            rw [if_pos (by omega)]
          · have h2 : ¬ 2 * r = 0 := by simpa using h2
            refine fin h ?_
            rw [hs]
            unfold one
            rw [if_neg (by omega)]
        | true =>
          refine br (fun h => by cases h) (fun _ => br (fun h2 => ?_) (fun h2 => ?_))
          · have h2 : s / 8 ≥ r := by simpa using h2
            rw [u64 (x := s / 8 - r) (by omega)]
            exact part2 hP hc (by omega) (by omega) (by unfold dist; rw [if_neg (by omega)]) h
          · have h2 : ¬ s / 8 ≥ r := by simpa using h2
            rw [u64 (x := r - s / 8) (by omega)]
            exact part2 hP hc (by omega) (by omega) (by unfold dist; rw [if_pos (by omega)]) h
    · exact h.elim
end Go.Ev
