/- The law RtoBounds, run: the timer's value is in its bounds, and its smoothed sample between the samples. No conditions. -/
import Derived.Test.YtdcfahekhjakeaaRtH
import Derived.Test.YtdcfahekhjakeaaRtT4
namespace Go.Ev
open Go Go.Proofs Go.Spec
attribute [local irreducible] ev evCall branch need again

theorem cxD_ok : CxOk Try.prog cxD := mkCx_ok names mixed (by
  intro x h
  simp only [List.mem_cons, List.not_mem_nil, or_false] at h
  rcases h with rfl | rfl | rfl | rfl | rfl | rfl | rfl
  · exact check_sum
  · exact may_sum
  · exact works_sum
  · exact sample_sum
  · exact back_sum
  · exact sampleR_sum
  · exact backR_sum)

structure InvR (rmin rmax low high : Int) (t : T) : Prop where
  pre : PreT t
  l : t.lo = rmin
  h : t.hi = rmax
  v0 : rmin ≤ t.va
  v1 : t.va ≤ rmax
  yes : t.sm = true → low ≤ t.s / 8 ∧ t.s / 8 ≤ high ∧ 0 ≤ low ∧ low ≤ 4294967296
  no : t.sm = false → low = 9223372036854775808 ∧ high = 0

theorem samp_inv {rmin rmax low high r : Int} {t : T} (h : InvR rmin rmax low high t) (hr : 0 ≤ r) :
    InvR rmin rmax (if 4294967296 < (if r < low then r else low) then 4294967296 else (if r < low then r else low)) (if (if 4294967296 < r then 4294967296 else r) > high then (if 4294967296 < r then 4294967296 else r) else high) (sampT t r) ∧
      (sampT t r).sm = true := by
  obtain ⟨hp, hl, hh, h0, h1, hy, hno⟩ := h
  have hq := samp_pre hp hr
  obtain ⟨p0, p1, p2, p3, p4, p5, p6, p7, p8⟩ := id hp
  obtain ⟨c0, c1⟩ := cut_in hr
  have hcut : cut32 r = if 4294967296 < r then 4294967296 else r := rfl
  have hm : ∀ x, x = cut32 r ∨ True := fun _ => .inr trivial
  cases hs : t.sm with
  | false =>
    obtain ⟨n1, n2⟩ := hno hs
    have e : sampT t r = { t with va := clampT t.lo t.hi (cut32 r + one (cut32 r * 2)), s := cut32 r * 8, v := cut32 r * 2, sm := true } := by unfold sampT; rw [if_pos hs]
    rw [e] at hq ⊢
    obtain ⟨k0, k1⟩ := clamp_in (x := cut32 r + one (cut32 r * 2)) p0 p1
    refine ⟨⟨hq, hl, hh, by show rmin ≤ clampT _ _ _; omega, by show clampT _ _ _ ≤ rmax; omega, fun _ => ?_, fun h => by cases h⟩, rfl⟩
    show _ ≤ cut32 r * 8 / 8 ∧ cut32 r * 8 / 8 ≤ _ ∧ _
    rw [hcut, n1, n2]
    refine ⟨?_, ?_, ?_, ?_⟩ <;> (repeat' split) <;> omega
  | true =>
    obtain ⟨y1, y2, y3, y4⟩ := hy hs
    have e : sampT t r = { t with va := clampT t.lo t.hi ((t.s + cut32 r - t.s / 8) / 8 + one (t.v - t.v / 4 + dist (cut32 r) (t.s / 8))), s := t.s + cut32 r - t.s / 8, v := t.v - t.v / 4 + dist (cut32 r) (t.s / 8) } := by
      unfold sampT; rw [if_neg (by rw [hs]; simp)]
    rw [e] at hq ⊢
    obtain ⟨k0, k1⟩ := clamp_in (x := (t.s + cut32 r - t.s / 8) / 8 + one (t.v - t.v / 4 + dist (cut32 r) (t.s / 8))) p0 p1
    refine ⟨⟨hq, hl, hh, by show rmin ≤ clampT _ _ _; omega, by show clampT _ _ _ ≤ rmax; omega, fun _ => ?_, fun h => by have : t.sm = false := h; rw [hs] at this; cases this⟩, hs⟩
    show _ ≤ (t.s + cut32 r - t.s / 8) / 8 ∧ (t.s + cut32 r - t.s / 8) / 8 ≤ _ ∧ _
    rw [hcut]
    refine ⟨?_, ?_, ?_, ?_⟩ <;> (repeat' split) <;> omega

theorem back_inv {rmin rmax low high : Int} {t : T} (h : InvR rmin rmax low high t) : InvR rmin rmax low high (backT t) ∧ t.va ≤ (backT t).va := by
  obtain ⟨hp, hl, hh, h0, h1, hy, hno⟩ := h
  have hq := back_pre hp
  obtain ⟨p0, p1, p2, p3, p4, p5, p6, p7, p8⟩ := id hp
  have k : t.va ≤ (if t.hi < t.va * 2 then t.hi else t.va * 2) ∧ (if t.hi < t.va * 2 then t.hi else t.va * 2) ≤ t.hi := by split <;> omega
  unfold backT at hq ⊢
  exact ⟨⟨hq, hl, hh, by show rmin ≤ (if _ then _ else _); omega, by show (if _ then _ else _) ≤ rmax; omega, hy, hno⟩, k.1⟩

theorem rbounds_loop (mtu ss sr rr mm ri rmin rmax it pt al beat life : Int) (hm0 : 0 ≤ rmin ∧ rmin ≤ 65536) (hm1 : 0 ≤ rmax ∧ rmax ≤ 65536) (len c : Nat) (C : List Bool) (A : List Int) (hA : ∀ x ∈ A, 0 ≤ x ∧ x ≤ 18446744073709551615) (hlen : len ≤ 2000) (k : Exit → Fr → St → Prop)
    (hk : ∀ (i low high : Int) (t : T), k (Exit.exit 0) (frm 83 [(2, .sa (.one (.ptr 1 0 0))), (5, .sa (.one (.ptr 2 0 0))), (7, .sa (.one (iv .u64 low))), (8, .sa (.one (iv .u64 high))), (28, .sa (.one (.sl 0 0 len (some c)))), (29, .sa (.one (iv .i64 len))), (30, .sa (.one (iv .i64 i))), (31, .sa (.one (bv false)))]) [some (.mem false .ext 36 2 (.tab len [.bools C, .ints .u64 A])), obj 25 13 [iv .i64 mtu, iv .u16 ss, iv .i64 sr, iv .i64 rr, iv .i64 mm, iv .u32 ri, iv .u32 rmin, iv .u32 rmax, iv .u8 it, iv .u8 pt, iv .u8 al, iv .u32 beat, iv .u32 life], obj 50 6 [iv .u64 t.lo, iv .u64 t.hi, iv .u64 t.va, iv .u64 t.s, iv .u64 t.v, bv t.sm]]) :
    ∀ (rem : Nat) (i low high : Int) (t : T), 0 ≤ i → i + rem = len → InvR rmin rmax low high t →
      ev cxD (rem + 52) 1 5 (codeAt Try.prog 5 [1, 1, 1, 1, 1, 0, 1, 0]) (frm 83 [(2, .sa (.one (.ptr 1 0 0))), (5, .sa (.one (.ptr 2 0 0))), (7, .sa (.one (iv .u64 low))), (8, .sa (.one (iv .u64 high))), (28, .sa (.one (.sl 0 0 len (some c)))), (29, .sa (.one (iv .i64 len))), (30, .sa (.one (iv .i64 i)))]) [some (.mem false .ext 36 2 (.tab len [.bools C, .ints .u64 A])), obj 25 13 [iv .i64 mtu, iv .u16 ss, iv .i64 sr, iv .i64 rr, iv .i64 mm, iv .u32 ri, iv .u32 rmin, iv .u32 rmax, iv .u8 it, iv .u8 pt, iv .u8 al, iv .u32 beat, iv .u32 life], obj 50 6 [iv .u64 t.lo, iv .u64 t.hi, iv .u64 t.va, iv .u64 t.s, iv .u64 t.v, bv t.sm]] k
  | 0, i, low, high, t, h0, h1, hw => by
    rw [t_rboundsStep mtu ss sr rr mm ri rmin rmax it pt al beat life len c C A i low high t.lo t.hi t.va t.s t.v t.sm 0 k]
    refine br (fun h => absurd h ?_) (fun _ => hk i low high t)
    simp; omega
  | rem + 1, i, low, high, t, h0, h1, hw => by
    rw [t_rboundsStep mtu ss sr rr mm ri rmin rmax it pt al beat life len c C A i low high t.lo t.hi t.va t.s t.v t.sm (rem + 1) k]
    have hi : IntKind.wrap .i64 (i + 1) = i + 1 := Go.IntWalk.i64_in _ (by omega)
    have hN : rem + 1 + 51 = rem + 52 := by omega
    rw [hi, hN, u64 (x := rmin) (by omega), u64 (x := rmax) (by omega)]
    have hn : 0 ≤ List.getD A (0 + i.toNat) 0 ∧ List.getD A (0 + i.toNat) 0 ≤ 18446744073709551615 := by
      rw [List.getD_eq_getElem?_getD]
      cases hx : A[0 + i.toNat]? with
      | none => simp
      | some x => exact hA x (List.mem_of_getElem? hx)
    have IH := fun low' high' t' (h : InvR rmin rmax low' high' t') => rbounds_loop mtu ss sr rr mm ri rmin rmax it pt al beat life hm0 hm1 len c C A hA hlen k hk rem (i + 1) low' high' t' (by omega) (by omega) h
    have hP : preT ⟨t.lo, t.hi, t.va, t.s, t.v, t.sm⟩ = true := preT_iff.2 hw.pre
    refine br (fun _ => ?_) (fun h => absurd h ?_)
    · refine nd (by simp; omega) (nd (by simp; omega) (nd (by simp; omega) ?_))
      generalize List.getD A (0 + i.toNat) 0 = r at hn ⊢
      refine br (fun _ => ?_) (fun _ => ?_)
      · obtain ⟨b1, b2⟩ := back_inv (t := ⟨t.lo, t.hi, t.va, t.s, t.v, t.sm⟩) (by exact hw)
        have IHb := IH low high _ b1
        have b3 := b1.v0
        have b4 := b1.v1
        simp only [backT] at IHb b2 b3 b4
        exact nd hP (br (fun h => absurd h (by simp only [decide_eq_true_eq]; omega)) (fun _ => br (fun h => absurd h (by simp only [decide_eq_true_eq]; omega)) (fun _ => br (fun h => absurd h (by simp only [decide_eq_true_eq]; omega)) (fun _ => IHb))))
      · obtain ⟨s1, s2⟩ := samp_inv (t := ⟨t.lo, t.hi, t.va, t.s, t.v, t.sm⟩) (by exact hw) hn.1
        have IHs := IH _ _ _ s1
        have s3 := s1.v0
        have s4 := s1.v1
        obtain ⟨y1, y2, _, _⟩ := s1.yes s2
        have e : Int.fdiv (sampT ⟨t.lo, t.hi, t.va, t.s, t.v, t.sm⟩ r).s 8 = (sampT ⟨t.lo, t.hi, t.va, t.s, t.v, t.sm⟩ r).s / 8 := Int.fdiv_eq_ediv_of_nonneg _ (by omega)
        rw [e]
        refine nd hP (nd (pre64_iff.2 hn) (br (fun h => absurd (of_decide_eq_true h) ?_) (fun _ => br (fun h => absurd (of_decide_eq_true h) ?_) (fun _ => br (fun h => absurd (of_decide_eq_true h) ?_) (fun _ => br (fun h => absurd (of_decide_eq_true h) ?_) (fun _ => IHs))))))
        · exact Int.not_lt.2 y1
        · exact Int.not_lt.2 y2
        · exact Int.not_lt.2 s3
        · exact Int.not_lt.2 s4
    · simp; omega

/-- The law, whatever came in. -/
theorem lawRBounds (c : Cfg) (hc : CfgWf c) (len cap : Nat) (C : List Bool) (A : List Int) (hA : ∀ x ∈ A, 0 ≤ x ∧ x ≤ 18446744073709551615) :
    ∃ n, evCall cxD (ev cxD n) 5 [.agg (cellsC c), .one (.sl 0 0 len (some cap))] [some (.mem false .ext 36 2 (.tab len [.bools C, .ints .u64 A]))] (fun v _ => v = .sa (.one (.raw (.bool true)))) := by
  refine ⟨len + 60, ?_⟩
  have he := check_eq hc
  have hf := may_facts hc
  obtain ⟨mtu, ss, sr, rr, mm, ri, rmin, rmax, it, pt, al, beat, life⟩ := c
  show evCall cxD (ev cxD (len + 60)) 5 [.agg [.raw (.int .i64 mtu), .raw (.int .u16 ss), .raw (.int .i64 sr), .raw (.int .i64 rr), .raw (.int .i64 mm), .raw (.int .u32 ri), .raw (.int .u32 rmin), .raw (.int .u32 rmax), .raw (.int .u8 it), .raw (.int .u8 pt), .raw (.int .u8 al), .raw (.int .u32 beat), .raw (.int .u32 life)], _] _ _
  rw [t_rbounds, he]
  simp only at hf
  refine br (fun _ => rfl) (fun h1 => br (fun _ => rfl) (fun h2 => br (fun h3 => ?_) (fun h3 => ?_)))
  · have h1 : len ≤ 2000 := by simp at h1; omega
    obtain ⟨f1, f2, f3, f4⟩ := hf h3
    rw [u64 (x := rmin) (by omega), u64 (x := rmax) (by omega), u64 (x := ri) (by omega)]
    refine rbounds_loop mtu ss sr rr mm ri rmin rmax it pt al beat life (by omega) (by omega) len cap C A hA h1 _ (fun i low high t => ?_) len 0 9223372036854775808 0 ⟨rmin, rmax, ri, 0, 0, false⟩ (by omega) (by omega)
      ⟨⟨by show 0 ≤ rmin; omega, by show rmin ≤ rmax; omega, f4, by show 0 ≤ ri; omega, by show ri ≤ 65536; omega, by show (0 : Int) ≤ 0; omega, by show (0 : Int) ≤ _; omega, by show (0 : Int) ≤ 0; omega, by show (0 : Int) ≤ _; omega⟩, rfl, rfl, f2, f3, (fun h => by cases h), fun _ => ⟨rfl, rfl⟩⟩
    rw [t_rboundsEnd]
    rfl
  · rw [h3] at h2; cases h2
theorem lawRBoundsNil (c : Cfg) (hc : CfgWf c) (o : Option Addr) :
    ∃ n, evCall cxD (ev cxD n) 5 [.agg (cellsC c), .one (.raw (.slice o 0 0))] [] (fun v _ => v = .sa (.one (.raw (.bool true)))) := by
  refine ⟨60, ?_⟩
  have he := check_eq hc
  obtain ⟨mtu, ss, sr, rr, mm, ri, rmin, rmax, it, pt, al, beat, life⟩ := c
  show evCall cxD (ev cxD 60) 5 [.agg [.raw (.int .i64 mtu), .raw (.int .u16 ss), .raw (.int .i64 sr), .raw (.int .i64 rr), .raw (.int .i64 mm), .raw (.int .u32 ri), .raw (.int .u32 rmin), .raw (.int .u32 rmax), .raw (.int .u8 it), .raw (.int .u8 pt), .raw (.int .u8 al), .raw (.int .u32 beat), .raw (.int .u32 life)], _] _ _
  rw [t_rboundsNil, he]
  refine br (fun _ => rfl) (fun h2 => br (fun _ => rfl) (fun h3 => ?_))
  rw [h3] at h2; cases h2
end Go.Ev
