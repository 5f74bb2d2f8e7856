/- The law RtoSteady, run to its end. No conditions. -/
import Derived.Test.YtdcfahekhjakeaaRtL
namespace Go.Ev
open Go Go.Proofs Go.Spec
attribute [local irreducible] ev evCall branch need again

theorem rs_loop1 (mtu ss sr rr mm ri rmin rmax it pt al beat life r : Int) (len c : Nat) (C : List Bool) (A : List Int) (hA : ∀ x ∈ A, 0 ≤ x ∧ x ≤ 18446744073709551615) (hlen : len ≤ 100) (M : Nat) (k : Exit → Fr → St → Prop)
    (hk : ∀ (i : Int) (t : T), PreT t → t.lo = rmin → t.hi = rmax → k (Exit.exit 0) (frm 70 [(2, .sa (.one (iv .u64 r))), (3, .sa (.one (.ptr 1 0 0))), (7, .sa (.one (.ptr 2 0 0))), (28, .sa (.one (.sl 0 0 len (some c)))), (29, .sa (.one (iv .i64 len))), (30, .sa (.one (iv .i64 i))), (31, .sa (.one (bv false)))]) [some (.mem false .ext 36 2 (.tab len [.bools C, .ints .u64 A])), obj 25 13 [iv .i64 mtu, iv .u16 ss, iv .i64 sr, iv .i64 rr, iv .i64 mm, iv .u32 ri, iv .u32 rmin, iv .u32 rmax, iv .u8 it, iv .u8 pt, iv .u8 al, iv .u32 beat, iv .u32 life], obj 50 6 [iv .u64 t.lo, iv .u64 t.hi, iv .u64 t.va, iv .u64 t.s, iv .u64 t.v, bv t.sm]]) :
    ∀ (rem : Nat) (i : Int) (t : T), 0 ≤ i → i + rem = len → PreT t → t.lo = rmin → t.hi = rmax →
      ev cxS (rem + M + 53) 1 4 (codeAt Try.prog 4 [1, 1, 1, 1, 0, 1, 0]) (frm 70 [(2, .sa (.one (iv .u64 r))), (3, .sa (.one (.ptr 1 0 0))), (7, .sa (.one (.ptr 2 0 0))), (28, .sa (.one (.sl 0 0 len (some c)))), (29, .sa (.one (iv .i64 len))), (30, .sa (.one (iv .i64 i)))]) [some (.mem false .ext 36 2 (.tab len [.bools C, .ints .u64 A])), obj 25 13 [iv .i64 mtu, iv .u16 ss, iv .i64 sr, iv .i64 rr, iv .i64 mm, iv .u32 ri, iv .u32 rmin, iv .u32 rmax, iv .u8 it, iv .u8 pt, iv .u8 al, iv .u32 beat, iv .u32 life], obj 50 6 [iv .u64 t.lo, iv .u64 t.hi, iv .u64 t.va, iv .u64 t.s, iv .u64 t.v, bv t.sm]] k
  | 0, i, t, h0, h1, hw, hl, hh => by
    rw [t_rsStep mtu ss sr rr mm ri rmin rmax it pt al beat life len c C A r i t.lo t.hi t.va t.s t.v t.sm (0 + M) k]
    refine br (fun h => absurd h ?_) (fun _ => hk i t hw hl hh)
    simp; omega
  | rem + 1, i, t, h0, h1, hw, hl, hh => by
    rw [t_rsStep mtu ss sr rr mm ri rmin rmax it pt al beat life len c C A r i t.lo t.hi t.va t.s t.v t.sm (rem + 1 + M) k]
    have hi : IntKind.wrap .i64 (i + 1) = i + 1 := Go.IntWalk.i64_in _ (by omega)
    have hN : rem + 1 + M + 52 = rem + M + 53 := by omega
    rw [hi, hN]
    have hn : 0 ≤ List.getD A (0 + i.toNat) 0 ∧ List.getD A (0 + i.toNat) 0 ≤ 18446744073709551615 := by
      rw [List.getD_eq_getElem?_getD]
      cases hx : A[0 + i.toNat]? with
      | none => simp
      | some x => exact hA x (List.mem_of_getElem? hx)
    have IH := fun t' (h : PreT t') (a : t'.lo = rmin) (b : t'.hi = rmax) => rs_loop1 mtu ss sr rr mm ri rmin rmax it pt al beat life r len c C A hA hlen M k hk rem (i + 1) t' (by omega) (by omega) h a b
    have hP : preT ⟨t.lo, t.hi, t.va, t.s, t.v, t.sm⟩ = true := preT_iff.2 hw
    have IHb := IH (backT ⟨t.lo, t.hi, t.va, t.s, t.v, t.sm⟩) (back_pre hw) hl hh
    simp only [backT] at IHb
    refine br (fun _ => ?_) (fun h => absurd h ?_)
    · refine nd (by simp; omega) (nd (by simp; omega) (nd (by simp; omega) ?_))
      generalize List.getD A (0 + i.toNat) 0 = x at hn ⊢
      have hlo : (sampT ⟨t.lo, t.hi, t.va, t.s, t.v, t.sm⟩ x).lo = rmin ∧ (sampT ⟨t.lo, t.hi, t.va, t.s, t.v, t.sm⟩ x).hi = rmax := by
        unfold sampT; split <;> exact ⟨hl, hh⟩
      have IHs := IH (sampT ⟨t.lo, t.hi, t.va, t.s, t.v, t.sm⟩ x) (samp_pre hw hn.1) hlo.1 hlo.2
      exact br (fun _ => nd hP IHb) (fun _ => nd hP (nd (pre64_iff.2 hn) IHs))
    · simp; omega

theorem near_value {rmin rmax r : Int} {t : T} (h : Near rmin rmax r 400 t) (hr : 0 ≤ r) (h0 : 0 ≤ rmin) (h1 : rmin ≤ rmax) : clampT rmin rmax (cut32 r) ≤ t.va ∧ t.va ≤ clampT rmin rmax (cut32 r + 10) := by
  obtain ⟨hp, hl, hh, hno, hy, hva⟩ := h
  obtain ⟨f1, f2, f3⟩ := far_end
  have hs : t.sm = true := by
    cases hs : t.sm with
    | true => rfl
    | false => exact absurd (hno hs) (by decide)
  obtain ⟨y1, y2, y3⟩ := hy hs
  rw [f1] at y1; rw [f2] at y2; rw [f3] at y3
  have v0 := hp.v0
  rw [hva (by decide)]
  have e : t.s / 8 = cut32 r := by omega
  rw [e]
  have o : 1 ≤ one t.v ∧ one t.v ≤ 3 := by unfold one; split <;> omega
  generalize one t.v = y at o
  generalize cut32 r = x
  unfold clampT
  constructor <;> (repeat' split) <;> omega

theorem rs_loop2_1 (mtu ss sr rr mm ri rmin rmax it pt al beat life r : Int) (hr : 0 ≤ r ∧ r ≤ 18446744073709551615) (len c : Nat) (C : List Bool) (A : List Int) (M : Nat) (k : Exit → Fr → St → Prop)
    (hk : ∀ (i : Int) (t : T), Near rmin rmax r 400 t → k (Exit.exit 2) (frm 70 [(2, .sa (.one (iv .u64 r))), (3, .sa (.one (.ptr 1 0 0))), (7, .sa (.one (.ptr 2 0 0))), (43, .sa (.one (iv .i64 i))), (44, .sa (.one (bv false)))]) [some (.mem false .ext 36 2 (.tab len [.bools C, .ints .u64 A])), obj 25 13 [iv .i64 mtu, iv .u16 ss, iv .i64 sr, iv .i64 rr, iv .i64 mm, iv .u32 ri, iv .u32 rmin, iv .u32 rmax, iv .u8 it, iv .u8 pt, iv .u8 al, iv .u32 beat, iv .u32 life], obj 50 6 [iv .u64 t.lo, iv .u64 t.hi, iv .u64 t.va, iv .u64 t.s, iv .u64 t.v, bv t.sm]]) :
    ∀ (rem : Nat) (i : Int) (t : T), 0 ≤ i → i + rem = 400 → Near rmin rmax r i.toNat t →
      ev cxS (rem + M + 52) 1 4 (codeAt Try.prog 4 [1, 1, 1, 1, 1, 0, 1, 0]) (frm 70 [(2, .sa (.one (iv .u64 r))), (3, .sa (.one (.ptr 1 0 0))), (7, .sa (.one (.ptr 2 0 0))), (43, .sa (.one (iv .i64 i)))]) [some (.mem false .ext 36 2 (.tab len [.bools C, .ints .u64 A])), obj 25 13 [iv .i64 mtu, iv .u16 ss, iv .i64 sr, iv .i64 rr, iv .i64 mm, iv .u32 ri, iv .u32 rmin, iv .u32 rmax, iv .u8 it, iv .u8 pt, iv .u8 al, iv .u32 beat, iv .u32 life], obj 50 6 [iv .u64 t.lo, iv .u64 t.hi, iv .u64 t.va, iv .u64 t.s, iv .u64 t.v, bv t.sm]] k
  | 0, i, t, h0, h1, hw => by
    rw [t_rsRound1 mtu ss sr rr mm ri rmin rmax it pt al beat life len c C A r i t.lo t.hi t.va t.s t.v t.sm (0 + M) k]
    have : i.toNat = 400 := by omega
    rw [this] at hw
    refine br (fun h => absurd h ?_) (fun _ => hk i t hw)
    simp; omega
  | rem + 1, i, t, h0, h1, hw => by
    rw [t_rsRound1 mtu ss sr rr mm ri rmin rmax it pt al beat life len c C A r i t.lo t.hi t.va t.s t.v t.sm (rem + 1 + M) k]
    have hi : IntKind.wrap .i64 (i + 1) = i + 1 := Go.IntWalk.i64_in _ (by omega)
    have hN : rem + 1 + M + 51 = rem + M + 52 := by omega
    have hT : (i + 1).toNat = i.toNat + 1 := by omega
    rw [hi, hN]
    have IH := rs_loop2_1 mtu ss sr rr mm ri rmin rmax it pt al beat life r hr len c C A M k hk rem (i + 1) (sampT ⟨t.lo, t.hi, t.va, t.s, t.v, t.sm⟩ r) (by omega) (by omega) (by rw [hT]; exact near_step (t := ⟨t.lo, t.hi, t.va, t.s, t.v, t.sm⟩) hw hr.1)
    refine br (fun _ => nd (preT_iff.2 hw.pre) (nd (pre64_iff.2 hr) IH)) (fun h => absurd h ?_)
    simp; omega

theorem rs_end1 (mtu ss sr rr mm ri rmin rmax it pt al beat life r i : Int) (len c : Nat) (C : List Bool) (A : List Int) (hr : 0 ≤ r ∧ r ≤ 18446744073709551615) (hm0 : 0 ≤ rmin ∧ rmin ≤ 65536) (hm1 : rmin ≤ rmax ∧ rmax ≤ 65536) (N : Nat) (t : T) (h : Near rmin rmax r 400 t) :
    (kBlock 2 (kSeq (ev cxS (N + 54) 1 4 (codeAt Try.prog 4 [1, 1, 1, 1, 1, 1])) (kRet (Cx.P cxS) [(ResultVar.tmp 6)] 1 (fun v _ => v = .sa (.one (.raw (.bool true))))))) (Exit.exit 2) (frm 70 [(2, .sa (.one (iv .u64 r))), (3, .sa (.one (.ptr 1 0 0))), (7, .sa (.one (.ptr 2 0 0))), (43, .sa (.one (iv .i64 i))), (44, .sa (.one (bv false)))]) [some (.mem false .ext 36 2 (.tab len [.bools C, .ints .u64 A])), obj 25 13 [iv .i64 mtu, iv .u16 ss, iv .i64 sr, iv .i64 rr, iv .i64 mm, iv .u32 ri, iv .u32 rmin, iv .u32 rmax, iv .u8 it, iv .u8 pt, iv .u8 al, iv .u32 beat, iv .u32 life], obj 50 6 [iv .u64 t.lo, iv .u64 t.hi, iv .u64 t.va, iv .u64 t.s, iv .u64 t.v, bv t.sm]] := by
  rw [t_rsEnd1 mtu ss sr rr mm ri rmin rmax it pt al beat life len c C A r i t.lo t.hi t.va t.s t.v t.sm N]
  obtain ⟨n1, n2⟩ := near_value h hr.1 hm0.1 hm1.1
  have hc := cut_in hr.1
  have e : (if (4294967296 : Int) < r then (4294967296 : Int) else r) = cut32 r := rfl
  rw [u64 (x := rmin) (by omega), u64 (x := rmax) (by omega), e, u64 (x := cut32 r + 10) (by omega)]
  exact br (fun _ => br (fun _ => rfl) (fun h => absurd (of_decide_eq_false h) (fun h' => h' n2))) (fun h => absurd (of_decide_eq_false h) (fun h' => h' n1))

theorem rs_loop2_0 (mtu ss sr rr mm ri rmin rmax it pt al beat life r : Int) (hr : 0 ≤ r ∧ r ≤ 18446744073709551615)  (M : Nat) (k : Exit → Fr → St → Prop)
    (hk : ∀ (i : Int) (t : T), Near rmin rmax r 400 t → k (Exit.exit 2) (frm 70 [(2, .sa (.one (iv .u64 r))), (3, .sa (.one (.ptr 0 0 0))), (7, .sa (.one (.ptr 1 0 0))), (43, .sa (.one (iv .i64 i))), (44, .sa (.one (bv false)))]) [obj 25 13 [iv .i64 mtu, iv .u16 ss, iv .i64 sr, iv .i64 rr, iv .i64 mm, iv .u32 ri, iv .u32 rmin, iv .u32 rmax, iv .u8 it, iv .u8 pt, iv .u8 al, iv .u32 beat, iv .u32 life], obj 50 6 [iv .u64 t.lo, iv .u64 t.hi, iv .u64 t.va, iv .u64 t.s, iv .u64 t.v, bv t.sm]]) :
    ∀ (rem : Nat) (i : Int) (t : T), 0 ≤ i → i + rem = 400 → Near rmin rmax r i.toNat t →
      ev cxS (rem + M + 52) 0 4 (codeAt Try.prog 4 [1, 1, 1, 1, 1, 0, 1, 0]) (frm 70 [(2, .sa (.one (iv .u64 r))), (3, .sa (.one (.ptr 0 0 0))), (7, .sa (.one (.ptr 1 0 0))), (43, .sa (.one (iv .i64 i)))]) [obj 25 13 [iv .i64 mtu, iv .u16 ss, iv .i64 sr, iv .i64 rr, iv .i64 mm, iv .u32 ri, iv .u32 rmin, iv .u32 rmax, iv .u8 it, iv .u8 pt, iv .u8 al, iv .u32 beat, iv .u32 life], obj 50 6 [iv .u64 t.lo, iv .u64 t.hi, iv .u64 t.va, iv .u64 t.s, iv .u64 t.v, bv t.sm]] k
  | 0, i, t, h0, h1, hw => by
    rw [t_rsRound0 mtu ss sr rr mm ri rmin rmax it pt al beat life  r i t.lo t.hi t.va t.s t.v t.sm (0 + M) k]
    have : i.toNat = 400 := by omega
    rw [this] at hw
    refine br (fun h => absurd h ?_) (fun _ => hk i t hw)
    simp; omega
  | rem + 1, i, t, h0, h1, hw => by
    rw [t_rsRound0 mtu ss sr rr mm ri rmin rmax it pt al beat life  r i t.lo t.hi t.va t.s t.v t.sm (rem + 1 + M) k]
    have hi : IntKind.wrap .i64 (i + 1) = i + 1 := Go.IntWalk.i64_in _ (by omega)
    have hN : rem + 1 + M + 51 = rem + M + 52 := by omega
    have hT : (i + 1).toNat = i.toNat + 1 := by omega
    rw [hi, hN]
    have IH := rs_loop2_0 mtu ss sr rr mm ri rmin rmax it pt al beat life r hr  M k hk rem (i + 1) (sampT ⟨t.lo, t.hi, t.va, t.s, t.v, t.sm⟩ r) (by omega) (by omega) (by rw [hT]; exact near_step (t := ⟨t.lo, t.hi, t.va, t.s, t.v, t.sm⟩) hw hr.1)
    refine br (fun _ => nd (preT_iff.2 hw.pre) (nd (pre64_iff.2 hr) IH)) (fun h => absurd h ?_)
    simp; omega

theorem rs_end0 (mtu ss sr rr mm ri rmin rmax it pt al beat life r i : Int)  (hr : 0 ≤ r ∧ r ≤ 18446744073709551615) (hm0 : 0 ≤ rmin ∧ rmin ≤ 65536) (hm1 : rmin ≤ rmax ∧ rmax ≤ 65536) (N : Nat) (t : T) (h : Near rmin rmax r 400 t) :
    (kBlock 2 (kSeq (ev cxS (N + 54) 0 4 (codeAt Try.prog 4 [1, 1, 1, 1, 1, 1])) (kRet (Cx.P cxS) [(ResultVar.tmp 6)] 0 (fun v _ => v = .sa (.one (.raw (.bool true))))))) (Exit.exit 2) (frm 70 [(2, .sa (.one (iv .u64 r))), (3, .sa (.one (.ptr 0 0 0))), (7, .sa (.one (.ptr 1 0 0))), (43, .sa (.one (iv .i64 i))), (44, .sa (.one (bv false)))]) [obj 25 13 [iv .i64 mtu, iv .u16 ss, iv .i64 sr, iv .i64 rr, iv .i64 mm, iv .u32 ri, iv .u32 rmin, iv .u32 rmax, iv .u8 it, iv .u8 pt, iv .u8 al, iv .u32 beat, iv .u32 life], obj 50 6 [iv .u64 t.lo, iv .u64 t.hi, iv .u64 t.va, iv .u64 t.s, iv .u64 t.v, bv t.sm]] := by
  rw [t_rsEnd0 mtu ss sr rr mm ri rmin rmax it pt al beat life  r i t.lo t.hi t.va t.s t.v t.sm N]
  obtain ⟨n1, n2⟩ := near_value h hr.1 hm0.1 hm1.1
  have hc := cut_in hr.1
  have e : (if (4294967296 : Int) < r then (4294967296 : Int) else r) = cut32 r := rfl
  rw [u64 (x := rmin) (by omega), u64 (x := rmax) (by omega), e, u64 (x := cut32 r + 10) (by omega)]
  exact br (fun _ => br (fun _ => rfl) (fun h => absurd (of_decide_eq_false h) (fun h' => h' n2))) (fun h => absurd (of_decide_eq_false h) (fun h' => h' n1))

theorem near_zero {rmin rmax r : Int} (hr : 0 ≤ r) {t : T} (h : PreT t) (hl : t.lo = rmin) (hh : t.hi = rmax) : Near rmin rmax r 0 t := by
  obtain ⟨p0, p1, p2, p3, p4, p5, p6, p7, p8⟩ := id h
  have c := cut_in hr
  refine ⟨h, hl, hh, (fun _ => rfl), (fun _ => ?_), (fun h => absurd h (by decide))⟩
  show -(68719476736 : Int) ≤ _ ∧ _ ≤ (68719476736 : Int) ∧ t.v ≤ (34359738368 : Int)
  omega

theorem lawRSteady (c : Cfg) (hc : CfgWf c) (len cap : Nat) (C : List Bool) (A : List Int) (hA : ∀ x ∈ A, 0 ≤ x ∧ x ≤ 18446744073709551615) (r : Int) (hr : 0 ≤ r ∧ r ≤ 18446744073709551615) :
    ∃ n, evCall cxS (ev cxS n) 4 [.agg (cellsC c), .one (.sl 0 0 len (some cap)), .one (iv .u64 r)] [some (.mem false .ext 36 2 (.tab len [.bools C, .ints .u64 A]))] (fun v _ => v = .sa (.one (.raw (.bool true)))) := by
  refine ⟨len + 400 + 60, ?_⟩
  have he := check_eq hc
  have hf := may_facts hc
  obtain ⟨mtu, ss, sr, rr, mm, ri, rmin, rmax, it, pt, al, beat, life⟩ := c
  show evCall cxS (ev cxS (len + 400 + 60)) 4 [.agg [.raw (.int .i64 mtu), .raw (.int .u16 ss), .raw (.int .i64 sr), .raw (.int .i64 rr), .raw (.int .i64 mm), .raw (.int .u32 ri), .raw (.int .u32 rmin), .raw (.int .u32 rmax), .raw (.int .u8 it), .raw (.int .u8 pt), .raw (.int .u8 al), .raw (.int .u32 beat), .raw (.int .u32 life)], _, _] _ _
  rw [t_rsteady, he]
  simp only at hf
  refine br (fun _ => rfl) (fun h1 => br (fun _ => rfl) (fun h2 => br (fun h3 => ?_) (fun h3 => ?_)))
  · have h1 : len ≤ 100 := by simp at h1; omega
    obtain ⟨f1, f2, f3, f4⟩ := hf h3
    rw [u64 (x := rmin) (by omega), u64 (x := rmax) (by omega), u64 (x := ri) (by omega)]
    refine rs_loop1 mtu ss sr rr mm ri rmin rmax it pt al beat life r len cap C A hA h1 400 _ (fun i t hp hl hh => ?_) len 0 ⟨rmin, rmax, ri, 0, 0, false⟩ (by omega) (by omega) ⟨by show 0 ≤ rmin; omega, by show rmin ≤ rmax; omega, f4, by show 0 ≤ ri; omega, by show ri ≤ 65536; omega, by show (0 : Int) ≤ 0; omega, by show (0 : Int) ≤ _; omega, by show (0 : Int) ≤ 0; omega, by show (0 : Int) ≤ _; omega⟩ rfl rfl
    rw [t_rsMid, show len + 400 + 52 = 400 + len + 52 by omega]
    exact rs_loop2_1 mtu ss sr rr mm ri rmin rmax it pt al beat life r hr len cap C A len _ (fun i t h => rs_end1 mtu ss sr rr mm ri rmin rmax it pt al beat life r i len cap C A hr (by omega) (by omega) _ t h) 400 0 t (by omega) (by omega) (near_zero hr.1 hp hl hh)
  · rw [h3] at h2; cases h2
theorem lawRSteadyNil (c : Cfg) (hc : CfgWf c) (o : Option Addr) (r : Int) (hr : 0 ≤ r ∧ r ≤ 18446744073709551615) :
    ∃ n, evCall cxS (ev cxS n) 4 [.agg (cellsC c), .one (.raw (.slice o 0 0)), .one (iv .u64 r)] [] (fun v _ => v = .sa (.one (.raw (.bool true)))) := by
  refine ⟨400 + 60, ?_⟩
  have he := check_eq hc
  have hf := may_facts hc
  obtain ⟨mtu, ss, sr, rr, mm, ri, rmin, rmax, it, pt, al, beat, life⟩ := c
  show evCall cxS (ev cxS (400 + 60)) 4 [.agg [.raw (.int .i64 mtu), .raw (.int .u16 ss), .raw (.int .i64 sr), .raw (.int .i64 rr), .raw (.int .i64 mm), .raw (.int .u32 ri), .raw (.int .u32 rmin), .raw (.int .u32 rmax), .raw (.int .u8 it), .raw (.int .u8 pt), .raw (.int .u8 al), .raw (.int .u32 beat), .raw (.int .u32 life)], _, _] _ _
  rw [t_rsteadyNil, he]
  simp only at hf
  refine br (fun _ => rfl) (fun h2 => br (fun h3 => ?_) (fun h3 => ?_))
  · obtain ⟨f1, f2, f3, f4⟩ := hf h3
    rw [u64 (x := rmin) (by omega), u64 (x := rmax) (by omega), u64 (x := ri) (by omega)]
    exact rs_loop2_0 mtu ss sr rr mm ri rmin rmax it pt al beat life r hr 0 _ (fun i t h => rs_end0 mtu ss sr rr mm ri rmin rmax it pt al beat life r i hr (by omega) (by omega) _ t h) 400 0 ⟨rmin, rmax, ri, 0, 0, false⟩ (by omega) (by omega) (near_zero hr.1 ⟨by show 0 ≤ rmin; omega, by show rmin ≤ rmax; omega, f4, by show 0 ≤ ri; omega, by show ri ≤ 65536; omega, by show (0 : Int) ≤ 0; omega, by show (0 : Int) ≤ _; omega, by show (0 : Int) ≤ 0; omega, by show (0 : Int) ≤ _; omega⟩ rfl rfl)
  · rw [h3] at h2; cases h2
end Go.Ev
