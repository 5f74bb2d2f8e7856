/- The law OutqRoom, run from its start. No conditions. -/
import Derived.Test.YtipmphkcbhjinaaOrS
set_option linter.unusedVariables false
set_option linter.unusedSimpArgs false
namespace Go.Ev
open Go Go.Proofs Go.Spec
attribute [local irreducible] ev evCall branch need again
theorem may_facts {c : Cfg} (hw : CfgWf c) (h : checkB c = true) : (64 ≤ c.mtu ∧ c.mtu ≤ 1500) ∧ (0 ≤ c.st ∧ c.st ≤ 16) ∧ (1 ≤ c.mm ∧ c.mm ≤ 8192) ∧ 0 ≤ c.sr ∧ c.sr ≤ 65536 := by
  rw [check_eq hw] at h
  unfold mayB at h
  have hst := hw.st
  have e1 : wI64 c.st = c.st := Go.IntWalk.i64_in _ (by omega)
  rw [e1] at h
  simp only [inB, Bool.and_eq_true, decide_eq_true_eq, eqK_t] at h
  obtain ⟨h1, h2, h3, h4, h5, _⟩ := h
  have e2 : mulK .i64 2 c.mm = 2 * c.mm := by rw [mulK_eq, Go.IntWalk.i64_in _ (by omega)]
  rw [e2] at h5
  exact ⟨by omega, by omega, by omega, by omega, by omega⟩
theorem room_run (mtu st sr rr mm ri rmin rmax it pt al beat life tsn : Int) (n : Nat) (kinds nums sids ppids : List Int) (unos : List Bool) (dss : List (List Int)) (k : SV → St → Prop) (hT : ∀ st, k (.sa (.one (bv true))) st) (hw : CfgWf ⟨mtu, st, sr, rr, mm, ri, rmin, rmax, it, pt, al, beat, life⟩)
    (hl : dss.length = n) (hn : n ≤ 140737488355328) (hs : ∀ i, 0 ≤ sids.getD i 0) (hts : 0 ≤ tsn ∧ tsn ≤ 4294967295) (hnum : ∀ i, -9223372036854775808 ≤ nums.getD i 0 ∧ nums.getD i 0 ≤ 9223372036854775807) :
    ∃ N, evCall cxRm (ev cxRm N) 3 [.agg [iv .i64 mtu, iv .u16 st, iv .i64 sr, iv .i64 rr, iv .i64 mm, iv .u32 ri, iv .u32 rmin, iv .u32 rmax, iv .u8 it, iv .u8 pt, iv .u8 al, iv .u32 beat, iv .u32 life], .one (iv .u32 tsn), .one (.ref 0)] [(some (.own false .ext 0 6 (.tab n [.ints .u8 kinds, .ints .i64 nums, .ints .u16 sids, .bools unos, .ints .u32 ppids, .data .u8 dss])))] k := by
  refine ⟨n + 60, ?_⟩
  rw [t_rm0]
  refine ndd ⟨hl, hn⟩ (br (fun _ => hT _) (fun hh => br (fun hc => ?_) (fun _ => hT _)))
  obtain ⟨m1, m2, m3, m4, m5⟩ := may_facts hw hc
  have hh2 : heavyF 0 dss = false ∧ n ≤ 500 := by
    unfold heavyB at hh
    rw [Bool.or_eq_false_iff] at hh
    refine ⟨hh.1, ?_⟩
    have := of_decide_eq_false hh.2
    omega
  have hlens := heavy_lens dss 0 (by omega) hh2.1 (by omega)
  exact evFuel (room_loop mtu st sr rr mm ri rmin rmax it pt al beat life n kinds nums sids ppids unos dss n 0 k hT hl hh2.2 hs m1 m2 m5 hnum n 0 0 tsn 0 0 0 0 0 0 0 0 0 0 0 0 0 0 0 0 0 [] [] [] [] [] [] (by omega) rfl (by rw [List.drop_zero]; omega) hts (by omega) (by rw [lensL_nil]; simpa using m4)) (by omega)
end Go.Ev
