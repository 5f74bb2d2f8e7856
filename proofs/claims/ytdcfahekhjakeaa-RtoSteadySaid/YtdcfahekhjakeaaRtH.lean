/- The law RtoCalls, run: behind any calls the timer's value and its smoothed sample are the document's. No conditions. -/
import Derived.Test.YtdcfahekhjakeaaRtG
import Derived.Test.YtdcfahekhjakeaaRtT3
namespace Go.Ev
open Go Go.Proofs Go.Spec
attribute [local irreducible] ev evCall branch need again

theorem cxC_ok : CxOk Try.prog cxC := mkCx_ok names mixed (by
  intro x h
  simp only [List.mem_cons, List.not_mem_nil, or_false] at h
  rcases h with rfl | rfl | rfl | rfl | rfl | rfl | rfl
  · exact check_sum
  · exact may_sum
  · exact works_sum
  · exact sample_sum
  · exact back_sum
  · exact sampleR_sum
  · exact backR_sum)

theorem clamp_in {lo hi x : Int} (h0 : 0 ≤ lo) (h1 : lo ≤ hi) : lo ≤ clampT lo hi x ∧ clampT lo hi x ≤ hi := by
  unfold clampT
  split <;> split <;> omega
theorem cut_in {r : Int} (h : 0 ≤ r) : 0 ≤ cut32 r ∧ cut32 r ≤ 4294967296 := by unfold cut32; split <;> omega
theorem dist_in {a b : Int} (ha : 0 ≤ a ∧ a ≤ 4294967296) (hb : 0 ≤ b ∧ b ≤ 4294967296) : 0 ≤ dist a b ∧ dist a b ≤ 4294967296 := by unfold dist; split <;> omega
theorem samp_pre {t : T} (h : PreT t) {r : Int} (hr : 0 ≤ r) : PreT (sampT t r) := by
  obtain ⟨p0, p1, p2, p3, p4, p5, p6, p7, p8⟩ := h
  obtain ⟨c0, c1⟩ := cut_in hr
  unfold sampT
  split
  · obtain ⟨k0, k1⟩ := clamp_in (x := cut32 r + one (cut32 r * 2)) p0 p1
    exact ⟨p0, p1, p2, by show 0 ≤ clampT _ _ _; omega, by show clampT _ _ _ ≤ _; omega, by show 0 ≤ cut32 r * 8; omega, by show cut32 r * 8 ≤ _; omega, by show 0 ≤ cut32 r * 2; omega, by show cut32 r * 2 ≤ _; omega⟩
  · obtain ⟨k0, k1⟩ := clamp_in (x := (t.s + cut32 r - t.s / 8) / 8 + one (t.v - t.v / 4 + dist (cut32 r) (t.s / 8))) p0 p1
    obtain ⟨d0, d1⟩ := dist_in (a := cut32 r) (b := t.s / 8) ⟨c0, c1⟩ (by omega)
    exact ⟨p0, p1, p2, by show 0 ≤ clampT _ _ _; omega, by show clampT _ _ _ ≤ _; omega, by show 0 ≤ t.s + cut32 r - t.s / 8; omega, by show t.s + cut32 r - t.s / 8 ≤ _; omega, by show 0 ≤ t.v - t.v / 4 + dist _ _; omega, by show t.v - t.v / 4 + dist _ _ ≤ _; omega⟩
theorem back_pre {t : T} (h : PreT t) : PreT (backT t) := by
  obtain ⟨p0, p1, p2, p3, p4, p5, p6, p7, p8⟩ := h
  unfold backT
  have hh : 0 ≤ (if t.hi < t.va * 2 then t.hi else t.va * 2) ∧ (if t.hi < t.va * 2 then t.hi else t.va * 2) ≤ 65536 := by split <;> omega
  exact ⟨p0, p1, p2, hh.1, hh.2, p5, p6, p7, p8⟩
theorem smooth_eq {s : Int} (h0 : 0 ≤ s) (h1 : s ≤ 34359738368) : IntKind.wrap .u64 (Int.tdiv s 8) = Int.fdiv s 8 := by
  rw [Int.tdiv_eq_ediv_of_nonneg h0, Int.fdiv_eq_ediv_of_nonneg _ (by omega)]
  exact u64 (by omega)

theorem rcalls_loop (len c : Nat) (C : List Bool) (A : List Int) (hA : ∀ x ∈ A, 0 ≤ x ∧ x ≤ 18446744073709551615) (hlen : len ≤ 2000) (k : Exit → Fr → St → Prop)
    (hk : ∀ (i : Int) (t : T), k (Exit.exit 0) (frm 75 [(5, .sa (.one (.ptr 1 0 0))), (7, .sa (.one (.ptr 2 0 0))), (29, .sa (.one (.sl 0 0 len (some c)))), (30, .sa (.one (iv .i64 len))), (31, .sa (.one (iv .i64 i))), (32, .sa (.one (bv false)))]) [some (.mem false .ext 36 2 (.tab len [.bools C, .ints .u64 A])), obj 50 6 [iv .u64 t.lo, iv .u64 t.hi, iv .u64 t.va, iv .u64 t.s, iv .u64 t.v, bv t.sm], obj 45 6 [iv .u64 t.lo, iv .u64 t.hi, iv .u64 t.va, iv .u64 t.s, iv .u64 t.v, bv t.sm]]) :
    ∀ (rem : Nat) (i : Int) (t : T), 0 ≤ i → i + rem = len → PreT t →
      ev cxC (rem + 52) 1 7 (codeAt Try.prog 7 [1, 1, 1, 1, 1, 0, 1, 0]) (frm 75 [(5, .sa (.one (.ptr 1 0 0))), (7, .sa (.one (.ptr 2 0 0))), (29, .sa (.one (.sl 0 0 len (some c)))), (30, .sa (.one (iv .i64 len))), (31, .sa (.one (iv .i64 i)))]) [some (.mem false .ext 36 2 (.tab len [.bools C, .ints .u64 A])), obj 50 6 [iv .u64 t.lo, iv .u64 t.hi, iv .u64 t.va, iv .u64 t.s, iv .u64 t.v, bv t.sm], obj 45 6 [iv .u64 t.lo, iv .u64 t.hi, iv .u64 t.va, iv .u64 t.s, iv .u64 t.v, bv t.sm]] k
  | 0, i, t, h0, h1, hw => by
    rw [t_rcallsStep len c C A i t.lo t.hi t.va t.s t.v t.sm 0 k]
    refine br (fun h => absurd h ?_) (fun _ => hk i t)
    simp; omega
  | rem + 1, i, t, h0, h1, hw => by
    rw [t_rcallsStep len c C A i t.lo t.hi t.va t.s t.v t.sm (rem + 1) k]
    have hi : IntKind.wrap .i64 (i + 1) = i + 1 := Go.IntWalk.i64_in _ (by omega)
    have hN : rem + 1 + 51 = rem + 52 := by omega
    rw [hi, hN]
    have hn : 0 ≤ List.getD A (0 + i.toNat) 0 ∧ List.getD A (0 + i.toNat) 0 ≤ 18446744073709551615 := by
      rw [List.getD_eq_getElem?_getD]
      cases hx : A[0 + i.toNat]? with
      | none => simp
      | some x => exact hA x (List.mem_of_getElem? hx)
    have IH := fun t' (h : PreT t') => rcalls_loop len c C A hA hlen k hk rem (i + 1) t' (by omega) (by omega) h
    have IHb := IH (backT ⟨t.lo, t.hi, t.va, t.s, t.v, t.sm⟩) (back_pre hw)
    have hP : preT ⟨t.lo, t.hi, t.va, t.s, t.v, t.sm⟩ = true := preT_iff.2 hw
    have hPb : preT (backT ⟨t.lo, t.hi, t.va, t.s, t.v, t.sm⟩) = true := preT_iff.2 (back_pre hw)
    have hPbb : preT (backT (backT ⟨t.lo, t.hi, t.va, t.s, t.v, t.sm⟩)) = true := preT_iff.2 (back_pre (back_pre hw))
    simp only [backT] at IHb hPb hPbb
    refine br (fun _ => ?_) (fun h => absurd h ?_)
    · refine nd (by simp; omega) (nd (by simp; omega) (nd (by simp; omega) ?_))
      generalize List.getD A (0 + i.toNat) 0 = r at hn ⊢
      refine br (fun _ => ?_) (fun _ => ?_)
      · refine nd hP (nd hP (br (fun h => absurd h (by simp)) (fun _ => ?_)))
        rw [smooth_eq hw.s0 hw.s1]
        exact br (fun h => absurd h (by simp)) (fun _ => br (fun _ => nd hPb (nd hPbb IHb)) (fun _ => IHb))
      · have hS := samp_pre (t := ⟨t.lo, t.hi, t.va, t.s, t.v, t.sm⟩) hw hn.1
        have IHs := IH (sampT ⟨t.lo, t.hi, t.va, t.s, t.v, t.sm⟩ r) hS
        have hQ : pre64 r = true := pre64_iff.2 hn
        have hSb := preT_iff.2 (back_pre hS)
        simp only [backT] at hSb
        refine nd hP (nd hQ (nd hP (nd hQ (br (fun h => absurd h (by simp)) (fun _ => ?_)))))
        rw [smooth_eq hS.s0 hS.s1]
        exact br (fun h => absurd h (by simp)) (fun _ => br (fun _ => nd (preT_iff.2 hS) (nd hSb IHs)) (fun _ => IHs))
    · simp; omega

theorem may_facts {c : Cfg} (h : CfgWf c) (hm : mayB c = true) : 1 ≤ c.rmin ∧ c.rmin ≤ c.ri ∧ c.ri ≤ c.rmax ∧ c.rmax ≤ 65536 := by
  unfold mayB at hm
  simp only [Bool.and_eq_true, decide_eq_true_eq] at hm
  obtain ⟨_, _, _, _, _, _, a, b, d, e, _⟩ := hm
  exact ⟨a, b, d, e⟩

/-- The law, whatever came in. -/
theorem lawRCalls (c : Cfg) (hc : CfgWf c) (len cap : Nat) (C : List Bool) (A : List Int) (hA : ∀ x ∈ A, 0 ≤ x ∧ x ≤ 18446744073709551615) :
    ∃ n, evCall cxC (ev cxC n) 7 [.agg (cellsC c), .one (.sl 0 0 len (some cap))] [some (.mem false .ext 36 2 (.tab len [.bools C, .ints .u64 A]))] (fun v _ => v = .sa (.one (.raw (.bool true)))) := by
  refine ⟨len + 60, ?_⟩
  have he := check_eq hc
  have hf := may_facts hc
  obtain ⟨mtu, ss, sr, rr, mm, ri, rmin, rmax, it, pt, al, beat, life⟩ := c
  show evCall cxC (ev cxC (len + 60)) 7 [.agg [.raw (.int .i64 mtu), .raw (.int .u16 ss), .raw (.int .i64 sr), .raw (.int .i64 rr), .raw (.int .i64 mm), .raw (.int .u32 ri), .raw (.int .u32 rmin), .raw (.int .u32 rmax), .raw (.int .u8 it), .raw (.int .u8 pt), .raw (.int .u8 al), .raw (.int .u32 beat), .raw (.int .u32 life)], _] _ _
  rw [t_rcalls, he]
  simp only at hf
  refine br (fun _ => rfl) (fun h1 => br (fun _ => rfl) (fun h2 => br (fun h3 => ?_) (fun h3 => ?_)))
  · have h1 : len ≤ 2000 := by simp at h1; omega
    obtain ⟨f1, f2, f3, f4⟩ := hf h3
    rw [u64 (x := rmin) (by omega), u64 (x := rmax) (by omega), u64 (x := ri) (by omega)]
    refine rcalls_loop len cap C A hA h1 _ (fun i t => ?_) len 0 ⟨rmin, rmax, ri, 0, 0, false⟩ (by omega) (by omega) ⟨by show 0 ≤ rmin; omega, by show rmin ≤ rmax; omega, f4, by show 0 ≤ ri; omega, by show ri ≤ 65536; omega, by show (0 : Int) ≤ 0; omega, by show (0 : Int) ≤ _; omega, by show (0 : Int) ≤ 0; omega, by show (0 : Int) ≤ _; omega⟩
    rw [t_rcallsEnd]
    rfl
  · rw [h3] at h2; cases h2
theorem lawRCallsNil (c : Cfg) (hc : CfgWf c) (o : Option Addr) :
    ∃ n, evCall cxC (ev cxC n) 7 [.agg (cellsC c), .one (.raw (.slice o 0 0))] [] (fun v _ => v = .sa (.one (.raw (.bool true)))) := by
  refine ⟨60, ?_⟩
  have he := check_eq hc
  obtain ⟨mtu, ss, sr, rr, mm, ri, rmin, rmax, it, pt, al, beat, life⟩ := c
  show evCall cxC (ev cxC 60) 7 [.agg [.raw (.int .i64 mtu), .raw (.int .u16 ss), .raw (.int .i64 sr), .raw (.int .i64 rr), .raw (.int .i64 mm), .raw (.int .u32 ri), .raw (.int .u32 rmin), .raw (.int .u32 rmax), .raw (.int .u8 it), .raw (.int .u8 pt), .raw (.int .u8 al), .raw (.int .u32 beat), .raw (.int .u32 life)], _] _ _
  rw [t_rcallsNil, he]
  refine br (fun _ => rfl) (fun h2 => br (fun _ => rfl) (fun h3 => ?_))
  rw [h3] at h2; cases h2
end Go.Ev
