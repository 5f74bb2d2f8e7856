/- The law RtoSteady, run: behind samples that are alike the value is near that one. No conditions. -/
import Derived.Test.YtdcfahekhjakeaaRtJ
import Derived.Test.YtdcfahekhjakeaaRtT5
namespace Go.Ev
open Go Go.Proofs Go.Spec
attribute [local irreducible] ev evCall branch need again

theorem cxS_ok : CxOk Try.prog cxS := mkCx_ok names mixed (by
  intro x h
  simp only [List.mem_cons, List.not_mem_nil, or_false] at h
  rcases h with rfl | rfl | rfl | rfl | rfl | rfl | rfl
  · exact check_sum
  · exact may_sum
  · exact works_sum
  · exact sample_sum
  · exact back_sum
  · exact sampleR_sum
  · exact backR_sum)

/-- How far the timer is from the sample, at most, behind so many rounds: below, above, and the spread. -/
def farN : Nat → Nat
  | 0 => 68719476736
  | n + 1 => farN n - (farN n + 7) / 8
def farP : Nat → Nat
  | 0 => 68719476736
  | n + 1 => farP n - farP n / 8
def farV : Nat → Nat
  | 0 => 34359738368
  | n + 1 => farV n - farV n / 4 + Nat.max (farP n / 8) ((farN n + 7) / 8)

theorem far_end : farN 400 = 0 ∧ farP 400 = 7 ∧ farV 400 = 3 := by decide +kernel

/-- Behind n rounds of samples of r. -/
structure Near (rmin rmax r : Int) (n : Nat) (t : T) : Prop where
  pre : PreT t
  l : t.lo = rmin
  h : t.hi = rmax
  no : t.sm = false → n = 0
  yes : t.sm = true → -(farN n : Int) ≤ t.s - 8 * cut32 r ∧ t.s - 8 * cut32 r ≤ farP n ∧ t.v ≤ farV n
  va : 0 < n → t.va = clampT rmin rmax (t.s / 8 + one t.v)

theorem near_step {rmin rmax r : Int} {n : Nat} {t : T} (h : Near rmin rmax r n t) (hr : 0 ≤ r) : Near rmin rmax r (n + 1) (sampT t r) := by
  obtain ⟨hp, hl, hh, hno, hy, _⟩ := h
  have hq := samp_pre hp hr
  obtain ⟨p0, p1, p2, p3, p4, p5, p6, p7, p8⟩ := id hp
  obtain ⟨c0, c1⟩ := cut_in hr
  cases hs : t.sm with
  | false =>
    have hn := hno hs
    subst hn
    have e : sampT t r = { t with va := clampT t.lo t.hi (cut32 r + one (cut32 r * 2)), s := cut32 r * 8, v := cut32 r * 2, sm := true } := by unfold sampT; rw [if_pos hs]
    rw [e] at hq ⊢
    have v1 : farN 1 = 60129542144 ∧ farP 1 = 60129542144 ∧ farV 1 = 34359738368 := by decide +kernel
    obtain ⟨f1, f2, f3⟩ := v1
    refine ⟨hq, hl, hh, (fun h => by cases h), (fun _ => ?_), (fun _ => ?_)⟩
    · show -(farN 1 : Int) ≤ cut32 r * 8 - 8 * cut32 r ∧ cut32 r * 8 - 8 * cut32 r ≤ (farP 1 : Int) ∧ cut32 r * 2 ≤ (farV 1 : Int)
      rw [f1, f2, f3]
      omega
    · show clampT t.lo t.hi (cut32 r + one (cut32 r * 2)) = clampT rmin rmax (cut32 r * 8 / 8 + one (cut32 r * 2))
      rw [hl, hh, show cut32 r * 8 / 8 = cut32 r by omega]
  | true =>
    obtain ⟨y1, y2, y3⟩ := hy hs
    have e : sampT t r = { t with va := clampT t.lo t.hi ((t.s + cut32 r - t.s / 8) / 8 + one (t.v - t.v / 4 + dist (cut32 r) (t.s / 8))), s := t.s + cut32 r - t.s / 8, v := t.v - t.v / 4 + dist (cut32 r) (t.s / 8) } := by
      unfold sampT; rw [if_neg (by rw [hs]; simp)]
    rw [e] at hq ⊢
    refine ⟨hq, hl, hh, (fun h => by have : t.sm = false := h; rw [hs] at this; cases this), (fun _ => ?_), (fun _ => ?_)⟩
    · show -(farN (n + 1) : Int) ≤ t.s + cut32 r - t.s / 8 - 8 * cut32 r ∧ t.s + cut32 r - t.s / 8 - 8 * cut32 r ≤ (farP (n + 1) : Int) ∧ t.v - t.v / 4 + dist (cut32 r) (t.s / 8) ≤ (farV (n + 1) : Int)
      simp only [farN, farP, farV]
      generalize farN n = a at y1 ⊢
      generalize farP n = b at y2 ⊢
      generalize farV n = d at y3 ⊢
      generalize cut32 r = c at *
      have hd : dist c (t.s / 8) ≤ (Nat.max (b / 8) ((a + 7) / 8) : Nat) := by
        have m1 : b / 8 ≤ Nat.max (b / 8) ((a + 7) / 8) := Nat.le_max_left _ _
        have m2 : (a + 7) / 8 ≤ Nat.max (b / 8) ((a + 7) / 8) := Nat.le_max_right _ _
        generalize Nat.max (b / 8) ((a + 7) / 8) = m at m1 m2 ⊢
        unfold dist
        split <;> omega
      generalize dist c (t.s / 8) = q at hd ⊢
      generalize Nat.max (b / 8) ((a + 7) / 8) = m at hd ⊢
      refine ⟨?_, ?_, ?_⟩
      · omega
      · omega
      · omega
    · show clampT t.lo t.hi _ = clampT rmin rmax _
      rw [hl, hh]
end Go.Ev
