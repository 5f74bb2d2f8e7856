/- The document's reading and opening of cookies. No conditions. -/
import Derived.Test.YtaabhhffnlmkeaaAnT3
import Derived.Test.YtaabhhffnlmkeaaAnS
import Derived.Test.YtaabhhffnlmkeaaOpS
set_option linter.unusedVariables false
set_option linter.unusedSimpArgs false
namespace Go.Ev
open Go Go.Proofs Go.Spec
attribute [local irreducible] ev evCall branch need again
theorem cxRe_ok : CxOk Try.prog cxRe := mkCx_ok namesS mixedS (by
  intro x h
  simp only [List.mem_cons, List.not_mem_nil, or_false] at h
  subst h
  exact num_sum)
theorem nbB {b : List Int} {p : Prop} (hb : bytesB b = true) (h : p) : need (bytesB b && true) p := nd (by rw [hb]; rfl) h
theorem v_read52 (b : List Int) (h : b.length = 52) (hb : bytesB b = true) (k : SV → St → Prop) (hk : (k (.sa (tcbNil (readT b))) [rd b])) : evCall cxRe (ev cxRe 16) 32 [.one (.ref 0)] [rd b] k := by
  have hl : b = [b.getD 0 0, b.getD 1 0, b.getD 2 0, b.getD 3 0, b.getD 4 0, b.getD 5 0, b.getD 6 0, b.getD 7 0, b.getD 8 0, b.getD 9 0, b.getD 10 0, b.getD 11 0, b.getD 12 0, b.getD 13 0, b.getD 14 0, b.getD 15 0, b.getD 16 0, b.getD 17 0, b.getD 18 0, b.getD 19 0, b.getD 20 0, b.getD 21 0, b.getD 22 0, b.getD 23 0, b.getD 24 0, b.getD 25 0, b.getD 26 0, b.getD 27 0, b.getD 28 0, b.getD 29 0, b.getD 30 0, b.getD 31 0, b.getD 32 0, b.getD 33 0, b.getD 34 0, b.getD 35 0, b.getD 36 0, b.getD 37 0, b.getD 38 0, b.getD 39 0, b.getD 40 0, b.getD 41 0, b.getD 42 0, b.getD 43 0, b.getD 44 0, b.getD 45 0, b.getD 46 0, b.getD 47 0, b.getD 48 0, b.getD 49 0, b.getD 50 0, b.getD 51 0] := as_list 52 b h
  have u := t_read52 (b.getD 0 0) (b.getD 1 0) (b.getD 2 0) (b.getD 3 0) (b.getD 4 0) (b.getD 5 0) (b.getD 6 0) (b.getD 7 0) (b.getD 8 0) (b.getD 9 0) (b.getD 10 0) (b.getD 11 0) (b.getD 12 0) (b.getD 13 0) (b.getD 14 0) (b.getD 15 0) (b.getD 16 0) (b.getD 17 0) (b.getD 18 0) (b.getD 19 0) (b.getD 20 0) (b.getD 21 0) (b.getD 22 0) (b.getD 23 0) (b.getD 24 0) (b.getD 25 0) (b.getD 26 0) (b.getD 27 0) (b.getD 28 0) (b.getD 29 0) (b.getD 30 0) (b.getD 31 0) (b.getD 32 0) (b.getD 33 0) (b.getD 34 0) (b.getD 35 0) (b.getD 36 0) (b.getD 37 0) (b.getD 38 0) (b.getD 39 0) (b.getD 40 0) (b.getD 41 0) (b.getD 42 0) (b.getD 43 0) (b.getD 44 0) (b.getD 45 0) (b.getD 46 0) (b.getD 47 0) (b.getD 48 0) (b.getD 49 0) (b.getD 50 0) (b.getD 51 0) k
  rw [← hl] at u
  rw [u]
  refine nbB hb ?_
  refine nbB hb ?_
  refine nbB hb ?_
  refine nbB hb ?_
  refine nbB hb ?_
  refine nbB hb ?_
  refine nbB hb ?_
  refine nbB hb ?_
  refine nbB hb ?_
  refine nbB hb ?_
  exact hk
theorem v_read56 (b : List Int) (h : b.length = 56) (hb : bytesB b = true) (k : SV → St → Prop) (hk : (k (.sa (tcbAt (readT b) (.ref 1))) [rd b, some (.own true .row 24 1 (.ints .u32 (readT b).xs))])) : evCall cxRe (ev cxRe 16) 32 [.one (.ref 0)] [rd b] k := by
  have hl : b = [b.getD 0 0, b.getD 1 0, b.getD 2 0, b.getD 3 0, b.getD 4 0, b.getD 5 0, b.getD 6 0, b.getD 7 0, b.getD 8 0, b.getD 9 0, b.getD 10 0, b.getD 11 0, b.getD 12 0, b.getD 13 0, b.getD 14 0, b.getD 15 0, b.getD 16 0, b.getD 17 0, b.getD 18 0, b.getD 19 0, b.getD 20 0, b.getD 21 0, b.getD 22 0, b.getD 23 0, b.getD 24 0, b.getD 25 0, b.getD 26 0, b.getD 27 0, b.getD 28 0, b.getD 29 0, b.getD 30 0, b.getD 31 0, b.getD 32 0, b.getD 33 0, b.getD 34 0, b.getD 35 0, b.getD 36 0, b.getD 37 0, b.getD 38 0, b.getD 39 0, b.getD 40 0, b.getD 41 0, b.getD 42 0, b.getD 43 0, b.getD 44 0, b.getD 45 0, b.getD 46 0, b.getD 47 0, b.getD 48 0, b.getD 49 0, b.getD 50 0, b.getD 51 0, b.getD 52 0, b.getD 53 0, b.getD 54 0, b.getD 55 0] := as_list 56 b h
  have u := t_read56 (b.getD 0 0) (b.getD 1 0) (b.getD 2 0) (b.getD 3 0) (b.getD 4 0) (b.getD 5 0) (b.getD 6 0) (b.getD 7 0) (b.getD 8 0) (b.getD 9 0) (b.getD 10 0) (b.getD 11 0) (b.getD 12 0) (b.getD 13 0) (b.getD 14 0) (b.getD 15 0) (b.getD 16 0) (b.getD 17 0) (b.getD 18 0) (b.getD 19 0) (b.getD 20 0) (b.getD 21 0) (b.getD 22 0) (b.getD 23 0) (b.getD 24 0) (b.getD 25 0) (b.getD 26 0) (b.getD 27 0) (b.getD 28 0) (b.getD 29 0) (b.getD 30 0) (b.getD 31 0) (b.getD 32 0) (b.getD 33 0) (b.getD 34 0) (b.getD 35 0) (b.getD 36 0) (b.getD 37 0) (b.getD 38 0) (b.getD 39 0) (b.getD 40 0) (b.getD 41 0) (b.getD 42 0) (b.getD 43 0) (b.getD 44 0) (b.getD 45 0) (b.getD 46 0) (b.getD 47 0) (b.getD 48 0) (b.getD 49 0) (b.getD 50 0) (b.getD 51 0) (b.getD 52 0) (b.getD 53 0) (b.getD 54 0) (b.getD 55 0) k
  rw [← hl] at u
  rw [u]
  refine nbB hb ?_
  refine nbB hb ?_
  refine nbB hb ?_
  refine nbB hb ?_
  refine nbB hb ?_
  refine nbB hb ?_
  refine nbB hb ?_
  refine nbB hb ?_
  refine nbB hb ?_
  refine nbB hb ?_
  refine nbB hb ?_
  unfold tcbAt at hk
  rw [many_of b 1 h] at hk
  exact hk
theorem v_read60 (b : List Int) (h : b.length = 60) (hb : bytesB b = true) (k : SV → St → Prop) (hk : (k (.sa (tcbAt (readT b) (.ref 1))) [rd b, some (.own true .row 24 1 (.ints .u32 (readT b).xs))])) : evCall cxRe (ev cxRe 16) 32 [.one (.ref 0)] [rd b] k := by
  have hl : b = [b.getD 0 0, b.getD 1 0, b.getD 2 0, b.getD 3 0, b.getD 4 0, b.getD 5 0, b.getD 6 0, b.getD 7 0, b.getD 8 0, b.getD 9 0, b.getD 10 0, b.getD 11 0, b.getD 12 0, b.getD 13 0, b.getD 14 0, b.getD 15 0, b.getD 16 0, b.getD 17 0, b.getD 18 0, b.getD 19 0, b.getD 20 0, b.getD 21 0, b.getD 22 0, b.getD 23 0, b.getD 24 0, b.getD 25 0, b.getD 26 0, b.getD 27 0, b.getD 28 0, b.getD 29 0, b.getD 30 0, b.getD 31 0, b.getD 32 0, b.getD 33 0, b.getD 34 0, b.getD 35 0, b.getD 36 0, b.getD 37 0, b.getD 38 0, b.getD 39 0, b.getD 40 0, b.getD 41 0, b.getD 42 0, b.getD 43 0, b.getD 44 0, b.getD 45 0, b.getD 46 0, b.getD 47 0, b.getD 48 0, b.getD 49 0, b.getD 50 0, b.getD 51 0, b.getD 52 0, b.getD 53 0, b.getD 54 0, b.getD 55 0, b.getD 56 0, b.getD 57 0, b.getD 58 0, b.getD 59 0] := as_list 60 b h
  have u := t_read60 (b.getD 0 0) (b.getD 1 0) (b.getD 2 0) (b.getD 3 0) (b.getD 4 0) (b.getD 5 0) (b.getD 6 0) (b.getD 7 0) (b.getD 8 0) (b.getD 9 0) (b.getD 10 0) (b.getD 11 0) (b.getD 12 0) (b.getD 13 0) (b.getD 14 0) (b.getD 15 0) (b.getD 16 0) (b.getD 17 0) (b.getD 18 0) (b.getD 19 0) (b.getD 20 0) (b.getD 21 0) (b.getD 22 0) (b.getD 23 0) (b.getD 24 0) (b.getD 25 0) (b.getD 26 0) (b.getD 27 0) (b.getD 28 0) (b.getD 29 0) (b.getD 30 0) (b.getD 31 0) (b.getD 32 0) (b.getD 33 0) (b.getD 34 0) (b.getD 35 0) (b.getD 36 0) (b.getD 37 0) (b.getD 38 0) (b.getD 39 0) (b.getD 40 0) (b.getD 41 0) (b.getD 42 0) (b.getD 43 0) (b.getD 44 0) (b.getD 45 0) (b.getD 46 0) (b.getD 47 0) (b.getD 48 0) (b.getD 49 0) (b.getD 50 0) (b.getD 51 0) (b.getD 52 0) (b.getD 53 0) (b.getD 54 0) (b.getD 55 0) (b.getD 56 0) (b.getD 57 0) (b.getD 58 0) (b.getD 59 0) k
  rw [← hl] at u
  rw [u]
  refine nbB hb ?_
  refine nbB hb ?_
  refine nbB hb ?_
  refine nbB hb ?_
  refine nbB hb ?_
  refine nbB hb ?_
  refine nbB hb ?_
  refine nbB hb ?_
  refine nbB hb ?_
  refine nbB hb ?_
  refine nbB hb ?_
  refine nbB hb ?_
  unfold tcbAt at hk
  rw [many_of b 2 h] at hk
  exact hk
theorem v_read64 (b : List Int) (h : b.length = 64) (hb : bytesB b = true) (k : SV → St → Prop) (hk : (k (.sa (tcbAt (readT b) (.ref 1))) [rd b, some (.own true .row 24 1 (.ints .u32 (readT b).xs))])) : evCall cxRe (ev cxRe 16) 32 [.one (.ref 0)] [rd b] k := by
  have hl : b = [b.getD 0 0, b.getD 1 0, b.getD 2 0, b.getD 3 0, b.getD 4 0, b.getD 5 0, b.getD 6 0, b.getD 7 0, b.getD 8 0, b.getD 9 0, b.getD 10 0, b.getD 11 0, b.getD 12 0, b.getD 13 0, b.getD 14 0, b.getD 15 0, b.getD 16 0, b.getD 17 0, b.getD 18 0, b.getD 19 0, b.getD 20 0, b.getD 21 0, b.getD 22 0, b.getD 23 0, b.getD 24 0, b.getD 25 0, b.getD 26 0, b.getD 27 0, b.getD 28 0, b.getD 29 0, b.getD 30 0, b.getD 31 0, b.getD 32 0, b.getD 33 0, b.getD 34 0, b.getD 35 0, b.getD 36 0, b.getD 37 0, b.getD 38 0, b.getD 39 0, b.getD 40 0, b.getD 41 0, b.getD 42 0, b.getD 43 0, b.getD 44 0, b.getD 45 0, b.getD 46 0, b.getD 47 0, b.getD 48 0, b.getD 49 0, b.getD 50 0, b.getD 51 0, b.getD 52 0, b.getD 53 0, b.getD 54 0, b.getD 55 0, b.getD 56 0, b.getD 57 0, b.getD 58 0, b.getD 59 0, b.getD 60 0, b.getD 61 0, b.getD 62 0, b.getD 63 0] := as_list 64 b h
  have u := t_read64 (b.getD 0 0) (b.getD 1 0) (b.getD 2 0) (b.getD 3 0) (b.getD 4 0) (b.getD 5 0) (b.getD 6 0) (b.getD 7 0) (b.getD 8 0) (b.getD 9 0) (b.getD 10 0) (b.getD 11 0) (b.getD 12 0) (b.getD 13 0) (b.getD 14 0) (b.getD 15 0) (b.getD 16 0) (b.getD 17 0) (b.getD 18 0) (b.getD 19 0) (b.getD 20 0) (b.getD 21 0) (b.getD 22 0) (b.getD 23 0) (b.getD 24 0) (b.getD 25 0) (b.getD 26 0) (b.getD 27 0) (b.getD 28 0) (b.getD 29 0) (b.getD 30 0) (b.getD 31 0) (b.getD 32 0) (b.getD 33 0) (b.getD 34 0) (b.getD 35 0) (b.getD 36 0) (b.getD 37 0) (b.getD 38 0) (b.getD 39 0) (b.getD 40 0) (b.getD 41 0) (b.getD 42 0) (b.getD 43 0) (b.getD 44 0) (b.getD 45 0) (b.getD 46 0) (b.getD 47 0) (b.getD 48 0) (b.getD 49 0) (b.getD 50 0) (b.getD 51 0) (b.getD 52 0) (b.getD 53 0) (b.getD 54 0) (b.getD 55 0) (b.getD 56 0) (b.getD 57 0) (b.getD 58 0) (b.getD 59 0) (b.getD 60 0) (b.getD 61 0) (b.getD 62 0) (b.getD 63 0) k
  rw [← hl] at u
  rw [u]
  refine nbB hb ?_
  refine nbB hb ?_
  refine nbB hb ?_
  refine nbB hb ?_
  refine nbB hb ?_
  refine nbB hb ?_
  refine nbB hb ?_
  refine nbB hb ?_
  refine nbB hb ?_
  refine nbB hb ?_
  refine nbB hb ?_
  refine nbB hb ?_
  refine nbB hb ?_
  unfold tcbAt at hk
  rw [many_of b 3 h] at hk
  exact hk
theorem fRead_lin (vas : List VA) : Lin (fRead vas) := by
  intro k h
  unfold fRead kRead at h ⊢
  split at h
  · exact (Lin.need (Lin.branch (Lin.ret _ _) (Lin.ret _ _))) k h
  · exact h.elim
theorem read_sum : SumOk Try.prog 32 sRead := by
  refine pureSum_ok cxRe_ok fRead_lin fun vas K h => ?_
  unfold fRead at h
  split at h
  · rename_i b
    obtain ⟨h1, hK⟩ := need_iff.1 h
    clear h
    obtain ⟨hb, h2⟩ := Bool.and_eq_true_iff.1 h1
    have h2 := of_decide_eq_true h2
    unfold kRead at hK
    refine ⟨16, ?_⟩
    show evCall cxRe (ev cxRe 16) 32 [.one (.ref 0)] [rd b] (pureK 1 K)
    rcases h2 with e | e | e | e
    · refine v_read52 b e hb _ ?_
      rcases branch_iff.1 hK with ⟨_, h⟩ | ⟨e2, _⟩
      · exact h
      · rw [many_of b 0 e] at e2; exact absurd e2 (by simp [xsFrom, emptyL])
    · refine v_read56 b e hb _ ?_
      rcases branch_iff.1 hK with ⟨e2, _⟩ | ⟨_, h⟩
      · rw [many_of b 1 e] at e2; exact absurd e2 (by simp [xsFrom, emptyL])
      · exact h
    · refine v_read60 b e hb _ ?_
      rcases branch_iff.1 hK with ⟨e2, _⟩ | ⟨_, h⟩
      · rw [many_of b 2 e] at e2; exact absurd e2 (by simp [xsFrom, emptyL])
      · exact h
    · refine v_read64 b e hb _ ?_
      rcases branch_iff.1 hK with ⟨e2, _⟩ | ⟨_, h⟩
      · rw [many_of b 3 e] at e2; exact absurd e2 (by simp [xsFrom, emptyL])
      · exact h
  · exact h.elim
theorem cxRo_ok : CxOk Try.prog cxRo := mkCx_ok namesS mixedS (by
  intro x h
  simp only [List.mem_cons, List.not_mem_nil, or_false] at h
  rcases h with h | h <;> subst h
  · exact read_sum
  · exact rmake_sum)
/-! what is read is what was written, just when both numbers agree -/
theorem xs_len (b : List Int) : (readT b).xs.length = manyOf b := xsFrom_len b _ _
theorem remake {key b : List Int} (hk : Bytes key) (h16 : key.length = 16) (hb : Bytes b) (hl : lenOk b = true) : strEq (strOf (makeRf key (readT b))) (strOf b) = (macOk key b && cntOk b) := by
  have hlen := of_lenOk hl
  have hm : 52 + 4 * manyOf b = b.length := by unfold manyOf; omega
  rw [← make_rf hk h16 (readT b) (by rw [xs_len]; omega), strEq_of (make_bytes _ _) hb]
  have hp := plain_read hb (by omega) (by omega)
  have hB : b = sl b 0 40 ++ sl b 40 4 ++ sl b 44 (4 * manyOf b) ++ sl b (b.length - 8) 8 := by
    have a1 := sl_app b 0 40 4
    have a2 := sl_app b 0 44 (4 * manyOf b)
    have a3 := sl_app b 0 (b.length - 8) 8
    simp only [Nat.zero_add, Nat.reduceAdd] at a1 a2 a3
    rw [a1, a2, show 44 + 4 * manyOf b = b.length - 8 by omega, a3, show b.length - 8 + 8 = b.length by omega]
    simp [sl]
  have hT : b.take (b.length - 8) = sl b 0 40 ++ sl b 40 4 ++ sl b 44 (4 * manyOf b) := by
    have a1 := sl_app b 0 40 4
    have a2 := sl_app b 0 44 (4 * manyOf b)
    simp only [Nat.zero_add, Nat.reduceAdd] at a1 a2
    rw [a1, a2, show 44 + 4 * manyOf b = b.length - 8 by omega]
    simp [sl]
  rw [Bool.eq_iff_iff, Bool.and_eq_true_iff]
  unfold eqL macOk cntOk
  rw [beq_iff_eq, eqK_t, eqK_t]
  have l40 : (sl b 0 40).length = 40 := sl_len (by omega)
  have l4 : (sl b 40 4).length = 4 := sl_len (by omega)
  have lx : (sl b 44 (4 * manyOf b)).length = 4 * manyOf b := sl_len (by omega)
  have hc4 := be4_sl hb (i := 40) (by omega)
  have hn : IntKind.wrap .u32 ((manyOf b : Nat) : Int) = ((manyOf b : Nat) : Int) := by rw [IntKind.wrap_u32]; omega
  have h8 := be8_sl hb (i := b.length - 8) (by omega)
  rw [hn]
  constructor
  · intro h
    unfold makeOf at h
    rw [hp] at h
    have h := h.trans hB
    have e1 := List.append_inj_left h (by simp [l40, l4, lx, be4]; omega)
    have e2 := List.append_inj_right h (by simp [l40, l4, lx, be4]; omega)
    have e3 := List.append_inj_left e1 (by simp [l40, l4, be4])
    have e4 := List.append_inj_right e3 rfl
    have c : w4 b 40 = ((manyOf b : Nat) : Int) := by
      refine be4_inj (w4_in _ _) ⟨by omega, by omega⟩ ?_
      rw [hc4, e4]
    refine ⟨?_, c⟩
    refine be8_inj (num8_in hb (by omega)) (sum_in _ _ _) ?_
    rw [h8, hT, ← e2, ← e4]
  · rintro ⟨m, c⟩
    have e4 : be4 (w64 ((manyOf b : Nat) : Int)) = sl b 40 4 := by rw [← c, hc4]
    unfold makeOf
    rw [hp, e4, ← hT, ← m, h8]
    conv => rhs; rw [hB]
    rw [hT]
theorem fROpen_lin (vas : List VA) : Lin (fROpen vas) := by
  intro k h
  unfold fROpen kOpen at h ⊢
  split at h
  · exact (Lin.need (Lin.branch (Lin.branch (Lin.ret _ _) (Lin.ret _ _)) (Lin.ret _ _))) k h
  · exact h.elim
/-- The end of the opening: the leaf of the tree. -/
theorem ro_end {key b : List Int} {now life : Int} {K : SV → St → Prop} {leaf z0 z1 : Prop} {c : Bool} (hc : c = (macOk key b && cntOk b)) (hl : lenOk b = true) (h : kOpen key b now life K)
    (hz0 : K (.tup [zeroTcb, .one (iv .i64 160)]) [] → z0) (hz1 : K (.tup [zeroTcb, .one (iv .i64 161)]) [] → z1)
    (hleaf : branch (emptyL (readT b).xs) (K (.tup [tcbNil (readT b), .one (iv .i64 0)]) []) (K (.tup [tcbRef (readT b), .one (iv .i64 0)]) [some (.own true .row 24 1 (.ints .u32 (readT b).xs))]) → leaf) :
    branch (Bool.not c) z0 (branch (decide (now < (readT b).a10)) z1 (branch (decide (subK .u64 now (readT b).a10 > life)) z1 leaf)) := by
  subst hc
  unfold kOpen openOk openErr lateB at h
  rw [hl, Bool.true_and] at h
  cases hm : (macOk key b && cntOk b) with
  | false =>
    rw [hm] at h
    refine br (fun _ => hz0 ?_) (fun e => absurd e (by simp))
    rcases branch_iff.1 h with ⟨e, _⟩ | ⟨_, h⟩
    · exact absurd e (by simp)
    · exact h
  | true =>
    rw [hm] at h
    refine br (fun e => absurd e (by simp)) (fun _ => ?_)
    refine br (fun e => hz1 ?_) (fun e1 => br (fun e2 => hz1 ?_) (fun e2 => hleaf ?_))
    · rw [show decide ((readT b).a10 > now) = true from e] at h
      rcases branch_iff.1 h with ⟨e, _⟩ | ⟨_, h⟩
      · exact absurd e (by simp)
      · exact h
    · rw [show decide ((readT b).a10 > now) = false from e1, e2] at h
      rcases branch_iff.1 h with ⟨e, _⟩ | ⟨_, h⟩
      · exact absurd e (by simp)
      · exact h
    · rw [show decide ((readT b).a10 > now) = false from e1, e2] at h
      rcases branch_iff.1 h with ⟨_, h⟩ | ⟨e, _⟩
      · exact h
      · exact absurd e (by simp)
theorem ropen_sum : SumOk Try.prog 12 sROpen := by
  refine pureSum_ok cxRo_ok fROpen_lin fun vas K h => ?_
  unfold fROpen at h
  split at h
  · rename_i k0 k1 k2 k3 k4 k5 k6 k7 k8 k9 ka kb kc kd ke kf b now life
    obtain ⟨h1, hK⟩ := need_iff.1 h
    clear h
    obtain ⟨hbB, h1⟩ := Bool.and_eq_true_iff.1 h1
    obtain ⟨hkB, hn⟩ := Bool.and_eq_true_iff.1 h1
    have hn := of_decide_eq_true hn
    have hb := bytesB_iff.1 hbB
    have hk := bytesB_iff.1 hkB
    refine ⟨40, ?_⟩
    show evCall cxRo (ev cxRo 40) 12 [.agg [iv .u8 k0, iv .u8 k1, iv .u8 k2, iv .u8 k3, iv .u8 k4, iv .u8 k5, iv .u8 k6, iv .u8 k7, iv .u8 k8, iv .u8 k9, iv .u8 ka, iv .u8 kb, iv .u8 kc, iv .u8 kd, iv .u8 ke, iv .u8 kf], .one (.ref 0), .one (iv .u64 now), .one (iv .u64 life)] [rd b] (pureK 1 K)
    rw [t_ropen]
    simp only [List.take_length]
    cases hl : lenOk b with
    | false =>
      have hz : K (.tup [zeroTcb, .one (iv .i64 160)]) [] := by
        unfold kOpen openOk openErr at hK
        rw [hl] at hK
        rcases branch_iff.1 hK with ⟨e, _⟩ | ⟨_, h⟩
        · exact absurd e (by simp)
        · exact h
      refine br (fun _ => hz) (fun e1 => br (fun _ => hz) (fun e2 => br (fun _ => hz) (fun e3 => ?_)))
      exfalso
      have e1 := of_decide_eq_false e1
      have e2 := of_decide_eq_false e2
      have e3 := neK_f.1 e3
      rw [remK_eq, Int.tmod_eq_emod_of_nonneg (by omega)] at e3
      have := lenOk_of (b := b) (by omega)
      rw [hl] at this
      cases this
    | true =>
      have hlen := of_lenOk hl
      have hm : 52 + 4 * manyOf b = b.length := by unfold manyOf; omega
      have hx := xs_len b
      refine brf (by omega) (brf (by omega) (br (fun e => ?_) (fun _ => ?_)))
      · exfalso
        have e := neK_t.1 e
        rw [remK_eq, Int.tmod_eq_emod_of_nonneg (by omega)] at e
        omega
      · refine ndd (by omega) (nd (by rw [hbB, decide_eq_true hlen]; rfl) (br (fun hE => ?_) (fun hE => ?_)))
        · have hxs : (readT b).xs = [] := by simpa [emptyL] using hE
          have hT : (⟨(readT b).a0, (readT b).a1, (readT b).a2, (readT b).a3, (readT b).a4, (readT b).a5, (readT b).a6, [], (readT b).a8, (readT b).a9, (readT b).a10⟩ : Tc) = readT b := by rw [← hxs]
          have h52 : List.take 52 (makeRf [k0, k1, k2, k3, k4, k5, k6, k7, k8, k9, ka, kb, kc, kd, ke, kf] (readT b)) = makeRf [k0, k1, k2, k3, k4, k5, k6, k7, k8, k9, ka, kb, kc, kd, ke, kf] (readT b) := by
            rw [← make_rf hk rfl (readT b) (by omega)]
            refine List.take_of_length_le ?_
            rw [make_length, hxs]; simp
          rw [hT, h52]
          refine ndd (by omega) (ro_end (remake hk rfl hb hl) hl hK (fun h => h) (fun h => h) (fun h => ?_))
          rcases branch_iff.1 h with ⟨_, h⟩ | ⟨e, _⟩
          · exact h
          · rw [hE] at e; cases e
        · refine ndd (by omega) (ndd (by omega) (brf (by omega) (ndd (by omega) (ndd (by omega) ?_))))
          refine ro_end (remake hk rfl hb hl) hl hK (fun h => h) (fun h => h) (fun h => ?_)
          rcases branch_iff.1 h with ⟨e, _⟩ | ⟨_, h⟩
          · rw [hE] at e; cases e
          · exact h
  · exact h.elim
end Go.Ev
