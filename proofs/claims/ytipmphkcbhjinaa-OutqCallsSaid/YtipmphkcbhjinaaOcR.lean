/- The law OutqCalls, run whole. No conditions. -/
import Derived.Test.YtipmphkcbhjinaaOcC
set_option linter.unusedVariables false
set_option linter.unusedSimpArgs false
namespace Go.Ev
open Go Go.Proofs Go.Spec
attribute [local irreducible] ev evCall branch need again
theorem sAcc2_lin (args : List SA) (st : St) : Lin (sAcc2 args st) := by
  intro k h
  unfold sAcc2 at h ⊢
  split at h
  · unfold qAll q13 at h ⊢
    split at h
    · unfold q9 at h ⊢
      split at h
      · unfold q11 at h ⊢
        split at h
        · exact (Lin.need (Lin.branch (Lin.ret _ _) (Lin.branch (Lin.ret _ _) (Lin.branch (Lin.ret _ _) (Lin.branch (Lin.ret _ _) (Lin.ret _ _)))))) k h
        · exact h.elim
      · exact h.elim
    · exact h.elim
  · exact h.elim
theorem acc2_sum : SumOk Try.prog 11 sAcc2 := by
  refine acc_sum.weaken sAcc2_lin fun args st k h => ?_
  unfold sAcc2 at h
  unfold sAcc
  split at h
  · exact h
  · exact h.elim
theorem cxOc_ok : CxOk Try.prog cxOc := by
  have h := mkCx_ok (P := Try.prog) (sums := [(8, sTrue), (7, sHeavy), (31, sCheck), (36, sMay), (11, sAccX), (12, sTake), (20, sRAcc), (38, sBytes), (34, sClone8), (35, sClP)]) (live := [(5, 10, [7, 9, 47, 48, 49], [⟨7, [30], 53⟩, ⟨9, [15], 53⟩]), (5, 1000030, [7, 9, 11, 47, 48, 49], [⟨7, [30], 53⟩, ⟨9, [15], 53⟩])]) (wr := wrQ) namesC mixedC (by
    intro x h
    simp only [List.mem_cons, List.not_mem_nil, or_false] at h
    rcases h with rfl | rfl | rfl | rfl | rfl | rfl | rfl | rfl | rfl | rfl
    · exact known_sum
    · exact heavy_sum
    · exact check_sum
    · exact may_sum
    · exact frzS_ok _ acc2_sum
    · exact take_sum
    · exact racc_sum
    · exact by_sum
    · exact clone8_sum
    · exact clP_sum)
  exact ⟨h.prog, h.names, h.mixed, h.sum, h.ovl⟩
theorem may_facts {c : Cfg} (hw : CfgWf c) (h : checkB c = true) : (64 ≤ c.mtu ∧ c.mtu ≤ 1500) ∧ (0 ≤ c.st ∧ c.st ≤ 16) ∧ 0 ≤ c.sr ∧ c.sr ≤ 65536 := by
  rw [check_eq hw] at h
  unfold mayB at h
  have hst := hw.st
  have e1 : wI64 c.st = c.st := Go.IntWalk.i64_in _ (by omega)
  rw [e1] at h
  simp only [inB, Bool.and_eq_true, decide_eq_true_eq, eqK_t] at h
  obtain ⟨h1, h2, h3, h4, h5, _⟩ := h
  have e2 : mulK .i64 2 c.mm = 2 * c.mm := by rw [mulK_eq, Go.IntWalk.i64_in _ (by omega)]
  rw [e2] at h5
  exact ⟨by omega, by omega, by omega⟩
theorem brF' {b : Bool} {y z : Prop} (h : b = true) (h1 : z) : branch (Bool.not b) y z := br (fun h' => by rw [h] at h'; cases h') (fun _ => h1)
theorem oc_run (mtu st sr rr mm ri rmin rmax it pt al beat life tsn : Int) (n : Nat) (kinds nums sids ppids : List Int) (unos : List Bool) (dss : List (List Int)) (k : SV → St → Prop) (hT : ∀ st, k (.sa (.one (bv true))) st) (hw : CfgWf ⟨mtu, st, sr, rr, mm, ri, rmin, rmax, it, pt, al, beat, life⟩)
    (hl : dss.length = n) (hn : n ≤ 140737488355328) (hs : ∀ i, 0 ≤ sids.getD i 0 ∧ sids.getD i 0 ≤ 65535) (hts : 0 ≤ tsn ∧ tsn ≤ 4294967295) :
    ∃ N, evCall cxOc (ev cxOc N) 5 [.agg [iv .i64 mtu, iv .u16 st, iv .i64 sr, iv .i64 rr, iv .i64 mm, iv .u32 ri, iv .u32 rmin, iv .u32 rmax, iv .u8 it, iv .u8 pt, iv .u8 al, iv .u32 beat, iv .u32 life], .one (iv .u32 tsn), .one (.ref 0)] [(some (.own false .ext 0 6 (.tab n [.ints .u8 kinds, .ints .i64 nums, .ints .u16 sids, .bools unos, .ints .u32 ppids, .data .u8 dss])))] k := by
  refine ⟨n + 60, ?_⟩
  rw [t_oc0]
  refine ndd ⟨hl, hn⟩ (br (fun _ => hT _) (fun hh => br (fun hc => ?_) (fun hc => ?_)))
  · obtain ⟨m1, m2, m3⟩ := may_facts hw hc
    have hh2 : heavyF 0 dss = false ∧ n ≤ 500 := by
      unfold heavyB at hh
      rw [Bool.or_eq_false_iff] at hh
      refine ⟨hh.1, ?_⟩
      have := of_decide_eq_false hh.2
      omega
    have hlens := heavy_lens dss 0 (by omega) hh2.1 (by omega)
    have h := oc_loop ⟨mtu, st, sr, rr, mm, ri, rmin, rmax, it, pt, al, beat, life⟩ n kinds nums sids ppids unos dss n 0 k hT m1 m2 m3 hl hh2.2 hs n 0 tsn (fun _ => 0) 0 0 [] [] [] [] [] [] 0 (List.replicate st.toNat 0) (by omega)
      ⟨rfl, Nat.le_refl _, by rw [List.drop_zero]; omega, by rw [List.drop_zero, lensL_nil]; omega, by omega, by rw [List.take_nil, lensL_nil]; omega, List.length_replicate .., fun j hj => getD_repl 0 0 hj, hts⟩
    unfold ocA at h
    have m2 : 0 ≤ st ∧ st ≤ 16 := m2
    refine brF' (by rw [← check_eq hw]; exact hc) (ndd (by omega) (ndd (by omega) (ndd (by omega) (ndd (by omega) ?_))))
    exact h
  · exact br (fun _ => hT _) (fun h => by rw [← check_eq hw, hc] at h; cases h)
end Go.Ev
