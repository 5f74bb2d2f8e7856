/- The timer's calls do what is said of them, in the bounds in which its numbers are. No conditions. -/
import Derived.Test.YtdcfahekhjakeaaRtE
import Derived.Test.YtdcfahekhjakeaaRtT2
import Derived.Test.YtdcfahekhjakeaaRtS
namespace Go.Ev
open Go Go.Proofs Go.Spec
attribute [local irreducible] ev evCall branch need again

theorem tLeaf {ty : TypeId} {t : T} {a b c d e : Int} {f : Bool} {k : SV → St → Prop} (h : k (.tup []) [obj ty 6 (cellsT t)]) (q : t = ⟨a, b, c, d, e, f⟩) :
    k (.tup []) [obj ty 6 [iv .u64 a, iv .u64 b, iv .u64 c, iv .u64 d, iv .u64 e, bv f]] := by subst q; exact h
theorem uLeaf {t : T} {a b c d e : Int} {f : Bool} {k : SV → St → Prop} (h : k (.sa (.agg (cellsT t))) []) (q : t = ⟨a, b, c, d, e, f⟩) :
    k (.sa (.agg [iv .u64 a, iv .u64 b, iv .u64 c, iv .u64 d, iv .u64 e, bv f])) [] := by subst q; exact h

structure PreT (t : T) : Prop where
  l0 : 0 ≤ t.lo
  lh : t.lo ≤ t.hi
  h1 : t.hi ≤ 65536
  a0 : 0 ≤ t.va
  a1 : t.va ≤ 65536
  s0 : 0 ≤ t.s
  s1 : t.s ≤ 34359738368
  v0 : 0 ≤ t.v
  v1 : t.v ≤ 34359738368
theorem preT_iff {t : T} : preT t = true ↔ PreT t := by
  simp only [preT, Bool.and_eq_true, decide_eq_true_eq]
  exact ⟨fun ⟨a, b, c, d, e, f, g, h, i⟩ => ⟨a, b, c, d, e, f, g, h, i⟩, fun ⟨a, b, c, d, e, f, g, h, i⟩ => ⟨a, b, c, d, e, f, g, h, i⟩⟩
theorem pre64_iff {r : Int} : pre64 r = true ↔ 0 ≤ r ∧ r ≤ 18446744073709551615 := by simp [pre64]

theorem u64 {x : Int} (h : 0 ≤ x ∧ x ≤ 18446744073709551615) : IntKind.wrap .u64 x = x := Go.IntWalk.u64_in x h

theorem sample_sum : SumOk Try.prog 13 sSample := by
  refine sumOk_of cx0_ok ?_ ?_
  · intro args st k h
    unfold sSample at h ⊢
    split at h
    · exact (Lin.need (Lin.need (Lin.ret _ _))) k h
    · exact h.elim
  · intro args st k h
    unfold sSample at h
    split at h
    · rename_i r ty lo hi va s v b
      obtain ⟨hp, h⟩ := need_iff.1 h
      obtain ⟨hr, h⟩ := need_iff.1 h
      obtain ⟨p0, p1, p2, p3, p4, p5, p6, p7, p8⟩ := preT_iff.1 hp
      obtain ⟨r0, r1⟩ := pre64_iff.1 hr
      simp only at p0 p1 p2 p3 p4 p5 p6 p7 p8
      refine ⟨30, ?_⟩
      rw [t_sample ty lo hi va s v r b k]
      have hc : 0 ≤ (if (4294967296 : Int) < r then (4294967296 : Int) else r) ∧ (if (4294967296 : Int) < r then (4294967296 : Int) else r) ≤ 4294967296 := by split <;> omega
      cases b with
      | false =>
        refine br (fun _ => ?_) (fun h1 => by cases h1)
        refine tLeaf h ?_
        unfold sampT cut32 one clampT
        simp only [if_true]
        generalize (if (4294967296 : Int) < r then (4294967296 : Int) else r) = c at hc
        have e1 : IntKind.wrap .u64 (c * 8) = c * 8 := u64 (by omega)
        have e2 : IntKind.wrap .u64 (c * 2) = c * 2 := u64 (by omega)
        have e3 : Int.fdiv (c * 8) 8 = c := by rw [Int.fdiv_eq_ediv_of_nonneg _ (by omega)]; omega
        rw [e1, e2, e3]
        have e4 : IntKind.wrap .u64 (c + if 1 > c * 2 then 1 else c * 2) = c + if 1 > c * 2 then 1 else c * 2 := u64 (by split <;> omega)
        rw [e4]
      | true =>
        refine br (fun h1 => by cases h1) (fun _ => ?_)
        refine tLeaf h ?_
        unfold sampT cut32 one clampT dist
        simp only [Bool.true_eq_false, if_false]
        generalize (if (4294967296 : Int) < r then (4294967296 : Int) else r) = c at hc
        have e1 : Int.fdiv s 8 = s / 8 := Int.fdiv_eq_ediv_of_nonneg _ (by omega)
        have e2 : Int.fdiv v 4 = v / 4 := Int.fdiv_eq_ediv_of_nonneg _ (by omega)
        rw [e1, e2]
        have e3 : IntKind.wrap .u64 (s + IntKind.wrap .u64 (c - s / 8)) = s + c - s / 8 := by
          simp only [IntKind.wrap_u64]; omega
        have e4 : IntKind.wrap .u64 (v + IntKind.wrap .u64 (IntKind.wrap .u64 ((if c > s / 8 then c else s / 8) - (if c < s / 8 then c else s / 8)) - v / 4)) = v - v / 4 + (if c > s / 8 then c - s / 8 else s / 8 - c) := by
          have : (if c > s / 8 then c else s / 8) - (if c < s / 8 then c else s / 8) = (if c > s / 8 then c - s / 8 else s / 8 - c) := by
            split <;> split <;> omega
          rw [this]
          have hd : 0 ≤ (if c > s / 8 then c - s / 8 else s / 8 - c) ∧ (if c > s / 8 then c - s / 8 else s / 8 - c) ≤ 4294967296 := by split <;> omega
          generalize (if c > s / 8 then c - s / 8 else s / 8 - c) = d at hd
          simp only [IntKind.wrap_u64]; omega
        rw [e3, e4]
        have hd : 0 ≤ (if c > s / 8 then c - s / 8 else s / 8 - c) ∧ (if c > s / 8 then c - s / 8 else s / 8 - c) ≤ 4294967296 := by split <;> omega
        generalize (if c > s / 8 then c - s / 8 else s / 8 - c) = d at hd
        have e5 : Int.fdiv (s + c - s / 8) 8 = (s + c - s / 8) / 8 := Int.fdiv_eq_ediv_of_nonneg _ (by omega)
        rw [e5]
        have e6 : IntKind.wrap .u64 ((s + c - s / 8) / 8 + if 1 > v - v / 4 + d then 1 else v - v / 4 + d) = (s + c - s / 8) / 8 + if 1 > v - v / 4 + d then 1 else v - v / 4 + d := u64 (by split <;> omega)
        rw [e6]
    · exact h.elim
theorem back_sum : SumOk Try.prog 12 sBack := by
  refine sumOk_of cx0_ok ?_ ?_
  · intro args st k h
    unfold sBack at h ⊢
    split at h
    · exact (Lin.need (Lin.ret _ _)) k h
    · exact h.elim
  · intro args st k h
    unfold sBack at h
    split at h
    · rename_i ty lo hi va s v b
      obtain ⟨hp, h⟩ := need_iff.1 h
      obtain ⟨p0, p1, p2, p3, p4, p5, p6, p7, p8⟩ := preT_iff.1 hp
      simp only at p0 p1 p2 p3 p4 p5 p6 p7 p8
      refine ⟨30, ?_⟩
      rw [t_back ty lo hi va s v b k]
      refine tLeaf h ?_
      unfold backT
      simp only
      rw [u64 (x := va * 2) (by omega)]
    · exact h.elim
theorem backR_sum : SumOk Try.prog 20 sBackR := by
  refine sumOk_of cx0_ok ?_ ?_
  · intro args st k h
    unfold sBackR at h ⊢
    split at h
    · exact (Lin.need (Lin.ret _ _)) k h
    · exact h.elim
  · intro args st k h
    unfold sBackR at h
    split at h
    · rename_i lo hi va s v b
      obtain ⟨hp, h⟩ := need_iff.1 h
      obtain ⟨p0, p1, p2, p3, p4, p5, p6, p7, p8⟩ := preT_iff.1 hp
      simp only at p0 p1 p2 p3 p4 p5 p6 p7 p8
      refine ⟨30, ?_⟩
      rw [t_backR lo hi va s v b k, u64 (x := 2 * va) (by omega)]
      refine br (fun h1 => ?_) (fun h1 => ?_)
      · simp only [decide_eq_true_eq] at h1
        refine uLeaf h ?_
        unfold backT
        simp only
        rw [if_pos (by omega)]
      · simp only [decide_eq_false_iff_not] at h1
        refine uLeaf h ?_
        unfold backT
        simp only
        rw [if_neg (by omega), show va * 2 = 2 * va by omega]
    · exact h.elim
end Go.Ev
