/- Plain law: what a cookie of one key is opened to under another one. No conditions. -/
import Derived.Test.YtaabhhffnlmkeaaOpP
namespace Go.Ev
open Go Go.Proofs Go.Spec
theorem addrsB_length : ∀ xs : List Int, (addrsB xs).length = 4 * xs.length
  | [] => rfl
  | x :: r => by rw [addrsB, List.length_append, addrsB_length r, List.length_cons]; simp only [be4, List.length_cons, List.length_nil]; omega
theorem plainOf_length (t : Tc) : (plainOf t).length = 44 + 4 * t.xs.length := by
  unfold plainOf
  rw [List.length_append, addrsB_length]
  simp [headOf, be4, be8, be2]
theorem make_length (key : List Int) (t : Tc) : (makeOf key t).length = 52 + 4 * t.xs.length := by
  unfold makeOf
  rw [List.length_append, plainOf_length]
  simp only [be8, List.length_cons, List.length_nil]; omega
theorem make_bytes (key : List Int) (t : Tc) : Bytes (makeOf key t) := (plainOf_bytes t).app (be8_bytes _)
theorem take_plain (key : List Int) (t : Tc) : (makeOf key t).take ((makeOf key t).length - 8) = plainOf t := by
  have h : (makeOf key t).length - 8 = (plainOf t).length := by rw [make_length, plainOf_length]; omega
  rw [h]
  unfold makeOf
  rw [List.take_left]
theorem mac_num (key : List Int) (t : Tc) : num (makeOf key t) ((makeOf key t).length - 8) 8 = sipOf key [plainOf t] 1 := by
  have hb := make_bytes key t
  have hl : (makeOf key t).length - 8 + 8 ≤ (makeOf key t).length := by rw [make_length]; omega
  refine be8_inj (num8_in hb hl) (sum_in _ _ _) ?_
  rw [be8_sl hb hl]
  have h : (makeOf key t).length - 8 = (plainOf t).length := by rw [make_length, plainOf_length]; omega
  unfold sl
  rw [h]
  unfold makeOf
  rw [List.drop_left]
  simp [be8]
theorem sl_count (key : List Int) (t : Tc) : sl (makeOf key t) 40 4 = be4 (w64 ((t.xs.length : Nat) : Int)) := rfl
theorem sl_made (key : List Int) (t : Tc) : sl (makeOf key t) 32 8 = be8 t.a10 := rfl
theorem open_make {key other : List Int} {t : Tc} (ht : TcOk t) (h3 : t.xs.length ≤ 3) {now life : Int} (hn : t.a10 = now) (hl : 0 ≤ life) :
    lenOk (makeOf key t) = true ∧ macOk other (makeOf key t) = eqK (sipOf key [plainOf t] 1) (sipOf other [plainOf t] 1) ∧ cntOk (makeOf key t) = true ∧ lateB (readT (makeOf key t)) now life = false := by
  have hb := make_bytes key t
  have hlen := make_length key t
  refine ⟨?_, ?_, ?_, ?_⟩
  · unfold lenOk
    rw [hlen]
    have : t.xs.length = 0 ∨ t.xs.length = 1 ∨ t.xs.length = 2 ∨ t.xs.length = 3 := by omega
    rcases this with e | e | e | e <;> rw [e] <;> rfl
  · unfold macOk
    rw [mac_num, take_plain]
  · unfold cntOk
    have hm : manyOf (makeOf key t) = t.xs.length := by unfold manyOf; rw [hlen]; omega
    rw [hm, eqK_t]
    have hw : IntKind.wrap .u32 ((t.xs.length : Nat) : Int) = ((t.xs.length : Nat) : Int) := by rw [IntKind.wrap_u32]; omega
    rw [hw]
    refine be4_inj (w4_in _ _) (by omega) ?_
    rw [be4_sl hb (by omega), sl_count]
  · have h10 : (readT (makeOf key t)).a10 = t.a10 := by
      show num (makeOf key t) 32 8 = t.a10
      refine be8_inj (num8_in hb (by omega)) ht.h10 ?_
      rw [be8_sl hb (by omega), sl_made]
    unfold lateB
    rw [h10, hn]
    have hs : subK .u64 now now = 0 := by rw [subK_eq, Int.sub_self]; rfl
    rw [hs]
    simp; omega
theorem eqL_make {key other : List Int} {t : Tc} : strEq (strOf (makeOf key t)) (strOf (makeOf other t)) = eqK (sipOf key [plainOf t] 1) (sipOf other [plainOf t] 1) := by
  rw [strEq_of (make_bytes _ _) (make_bytes _ _)]
  by_cases h : sipOf key [plainOf t] 1 = sipOf other [plainOf t] 1
  · rw [eqK_t.2 h]
    unfold makeOf eqL
    rw [h]; simp
  · rw [eqK_f.2 h]
    unfold eqL makeOf
    rw [beq_eq_false_iff_ne]
    intro e
    exact h (be8_inj (sum_in _ _ _) (sum_in _ _ _) (List.append_cancel_left e))
end Go.Ev
