/- The law CookieMakes, run. No conditions. -/
import Derived.Test.YtljmfpkkcjcfmaaLkT
import Derived.Test.YtljmfpkkcjcfmaaCkS
import Derived.Test.YtljmfpkkcjcfmaaCkP
import Derived.Test.YtljmfpkkcjcfmaaWkS
namespace Go.Ev
open Go Go.Proofs Go.Spec
attribute [local irreducible] ev evCall branch need again

attribute [local simp] eqK_eq
theorem cxSm_ok : CxOk Try.prog cxSm := mkCx_ok namesS mixedS (by
  intro x h
  simp only [List.mem_cons, List.not_mem_nil, or_false] at h
  subst h
  exact eq_sum)
theorem same_sum : SumOk Try.prog 10 sSame := by
  refine pureSum_ok cxSm_ok ?_ ?_
  · intro vas k h
    unfold fSame at h ⊢
    split at h
    · exact (Lin.need (Lin.ret _ _)) k h
    · exact h.elim
  · intro vas K h
    unfold fSame at h
    split at h
    · rename_i a0 a1 a2 a3 a4 a5 a6 xs a8 a9 a10 b0 b1 b2 b3 b4 b5 b6 ys b8 b9 b10
      obtain ⟨hn, h⟩ := need_iff.1 h
      have hn := of_decide_eq_true hn
      refine ⟨60, ?_⟩
      show evCall cxSm (ev cxSm 60) _ [.agg [.raw (.int .u32 a0), .raw (.int .u32 a1), .raw (.int .u32 a2), .raw (.int .u32 a3), .raw (.int .u32 a4), .raw (.int .u16 a5), .raw (.int .u16 a6), .ref 0, .raw (.int .u32 a8), .raw (.int .u32 a9), .raw (.int .u64 a10)], .agg [.raw (.int .u32 b0), .raw (.int .u32 b1), .raw (.int .u32 b2), .raw (.int .u32 b3), .raw (.int .u32 b4), .raw (.int .u16 b5), .raw (.int .u16 b6), .ref 1, .raw (.int .u32 b8), .raw (.int .u32 b9), .raw (.int .u64 b10)]] [(some (SO.own false MK.ext 0 1 (Ct.ints .u32 xs))), (some (SO.own false MK.ext 0 1 (Ct.ints .u32 ys)))] _
      rw [t_same, List.take_of_length_le (Nat.le_refl xs.length), List.take_of_length_le (Nat.le_refl ys.length)]
      repeat' refine nd (decide_eq_true (by omega)) ?_
      unfold sameOf at h
      repeat' refine br (fun e => ?_) (fun e => ?_)
      all_goals simp only [eqK_eq] at *
      all_goals simp only [*, Bool.true_and, Bool.false_and] at h
      all_goals exact h
    · exact h.elim
theorem works_true : SumOk Try.prog 8 sTrue := works_sum
theorem cxL_ok : CxOk Try.prog cxL := mkCx_ok namesS mixedS (by
  intro x h
  simp only [List.mem_cons, List.not_mem_nil, or_false] at h
  rcases h with rfl | rfl | rfl | rfl | rfl
  · exact works_true
  · exact make_sum
  · exact rmake_sum
  · exact same_sum
  · exact rsame_sum)
theorem makes_run (k0 k1 k2 k3 k4 k5 k6 k7 k8 k9 ka kb kc kd ke kf : Int) (hk : Bytes [k0, k1, k2, k3, k4, k5, k6, k7, k8, k9, ka, kb, kc, kd, ke, kf]) (a0 a1 a2 a3 a4 a5 a6 a8 a9 a10 : Int) (xs : List Int) (b0 b1 b2 b3 b4 b5 b6 b8 b9 b10 : Int) (ys : List Int) (ht : TcOk ⟨a0, a1, a2, a3, a4, a5, a6, xs, a8, a9, a10⟩) (hu : TcOk ⟨b0, b1, b2, b3, b4, b5, b6, ys, b8, b9, b10⟩) (k : SV → St → Prop) (hT : ∀ st, k (.sa (.one (bv true))) st) :
    ∃ N, evCall cxL (ev cxL N) 4 [.agg [iv .u8 k0, iv .u8 k1, iv .u8 k2, iv .u8 k3, iv .u8 k4, iv .u8 k5, iv .u8 k6, iv .u8 k7, iv .u8 k8, iv .u8 k9, iv .u8 ka, iv .u8 kb, iv .u8 kc, iv .u8 kd, iv .u8 ke, iv .u8 kf], .agg [.raw (.int .u32 a0), .raw (.int .u32 a1), .raw (.int .u32 a2), .raw (.int .u32 a3), .raw (.int .u32 a4), .raw (.int .u16 a5), .raw (.int .u16 a6), .ref 0, .raw (.int .u32 a8), .raw (.int .u32 a9), .raw (.int .u64 a10)], .agg [.raw (.int .u32 b0), .raw (.int .u32 b1), .raw (.int .u32 b2), .raw (.int .u32 b3), .raw (.int .u32 b4), .raw (.int .u16 b5), .raw (.int .u16 b6), .ref 1, .raw (.int .u32 b8), .raw (.int .u32 b9), .raw (.int .u64 b10)]] [some (.own false .ext 0 1 (.ints .u32 xs)), some (.own false .ext 0 1 (.ints .u32 ys))] k := by
  refine ⟨60, ?_⟩
  rw [t_makes, List.take_of_length_le (Nat.le_refl xs.length), List.take_of_length_le (Nat.le_refl ys.length)]
  refine br (fun _ => hT _) (fun h1 => br (fun _ => hT _) (fun h2 => ?_))
  have h1 := of_decide_eq_false h1
  have h2 := of_decide_eq_false h2
  have hmk := make_rf (t := ⟨a0, a1, a2, a3, a4, a5, a6, xs, a8, a9, a10⟩) hk rfl (by simp only; omega)
  have hse : (sameOf ⟨a0, a1, a2, a3, a4, a5, a6, xs, a8, a9, a10⟩ ⟨b0, b1, b2, b3, b4, b5, b6, ys, b8, b9, b10⟩ == strEq (strOf (plainOf ⟨a0, a1, a2, a3, a4, a5, a6, xs, a8, a9, a10⟩)) (strOf (plainOf ⟨b0, b1, b2, b3, b4, b5, b6, ys, b8, b9, b10⟩))) = true := by rw [same_plain ht hu]; exact beq_self_eq_true _
  have hself := (sameOf_iff ⟨a0, a1, a2, a3, a4, a5, a6, xs, a8, a9, a10⟩ ⟨a0, a1, a2, a3, a4, a5, a6, xs, a8, a9, a10⟩).2 rfl
  rw [hmk, hse, strEq_refl, hself]
  repeat' refine nd (decide_eq_true (by omega)) ?_
  refine br (fun h3 => ?_) (fun h3 => ?_)
  · have h3 := of_decide_eq_true h3
    repeat' refine nd (decide_eq_true (by omega)) ?_
    refine br (fun _ => ?_) (fun e => absurd (of_decide_eq_false e) (by omega))
    repeat' refine nd (decide_eq_true (by omega)) ?_
    refine br (fun _ => ?_) (fun e => absurd e (by simp))
    repeat' refine nd (decide_eq_true (by omega)) ?_
    exact br (fun _ => hT _) (fun e => absurd e (by simp))
  · have h3 := of_decide_eq_false h3
    repeat' refine nd (decide_eq_true (by omega)) ?_
    refine br (fun e => absurd (of_decide_eq_true e) (by omega)) (fun _ => ?_)
    repeat' refine nd (decide_eq_true (by omega)) ?_
    refine br (fun _ => ?_) (fun e => absurd e (by simp))
    repeat' refine nd (decide_eq_true (by omega)) ?_
    refine br (fun _ => ?_) (fun e => absurd e (by simp))
    repeat' refine nd (decide_eq_true (by omega)) ?_
    exact br (fun _ => hT _) (fun e => absurd e (by simp))
end Go.Ev
