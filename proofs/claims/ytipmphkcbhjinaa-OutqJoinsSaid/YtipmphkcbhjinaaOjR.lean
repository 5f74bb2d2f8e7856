/- The law OutqJoins, run whole. No conditions. -/
import Derived.Test.YtipmphkcbhjinaaOjC
set_option linter.unusedVariables false
set_option linter.unusedSimpArgs false
namespace Go.Ev
open Go Go.Proofs Go.Spec
attribute [local irreducible] ev evCall branch need again
theorem cxOj_ok : CxOk Try.prog cxOj := by
  have h := mkCx_ok (P := Try.prog) (sums := [(8, sTrue), (7, sHeavy), (31, sCheck), (11, sAcc), (12, sTake), (28, sPut)]) (live := [(6, 13, [3, 4, 7, 9, 10, 11, 12, 13, 14, 34, 35, 36], [⟨7, [0, 30], 53⟩, ⟨9, [0], 57⟩, ⟨10, [0], 52⟩]), (6, 29, [3, 4, 7, 9, 10, 12, 13, 14], [⟨7, [0, 30], 53⟩, ⟨9, [0], 57⟩, ⟨10, [0], 52⟩])]) (wr := (wrQ ++ [(28, 2), (27, 2)])) namesC mixedC (by
    intro x h
    simp only [List.mem_cons, List.not_mem_nil, or_false] at h
    rcases h with rfl | rfl | rfl | rfl | rfl | rfl
    · exact known_sum
    · exact heavy_sum
    · exact check_sum
    · exact acc_sum
    · exact take_sum
    · exact put_sum)
  exact ⟨h.prog, h.names, h.mixed, h.sum, h.ovl⟩
theorem may_facts {c : Cfg} (hw : CfgWf c) (h : checkB c = true) : (64 ≤ c.mtu ∧ c.mtu ≤ 1500) ∧ (0 ≤ c.st ∧ c.st ≤ 16) := by
  rw [check_eq hw] at h
  unfold mayB at h
  have hst := hw.st
  have e1 : wI64 c.st = c.st := Go.IntWalk.i64_in _ (by omega)
  rw [e1] at h
  simp only [inB, Bool.and_eq_true, decide_eq_true_eq, eqK_t] at h
  obtain ⟨h1, h2, h3, h4, h5, _⟩ := h
  exact ⟨by omega, by omega⟩
theorem oj_run (mtu st sr rr mm ri rmin rmax it pt al beat life tsn : Int) (n : Nat) (kinds nums sids ppids : List Int) (unos : List Bool) (dss : List (List Int)) (k : SV → St → Prop) (hT : ∀ st, k (.sa (.one (bv true))) st) (hw : CfgWf ⟨mtu, st, sr, rr, mm, ri, rmin, rmax, it, pt, al, beat, life⟩)
    (hl : dss.length = n) (hn : n ≤ 140737488355328) (hs : ∀ i, 0 ≤ sids.getD i 0) (hts : 0 ≤ tsn ∧ tsn ≤ 4294967295) :
    ∃ N, evCall cxOj (ev cxOj N) 6 [.agg [iv .i64 mtu, iv .u16 st, iv .i64 sr, iv .i64 rr, iv .i64 mm, iv .u32 ri, iv .u32 rmin, iv .u32 rmax, iv .u8 it, iv .u8 pt, iv .u8 al, iv .u32 beat, iv .u32 life], .one (iv .u32 tsn), .one (.ref 0)] [(some (.own false .ext 0 6 (.tab n [.ints .u8 kinds, .ints .i64 nums, .ints .u16 sids, .bools unos, .ints .u32 ppids, .data .u8 dss])))] k := by
  refine ⟨n + 60000 + 60, ?_⟩
  rw [t_oj0]
  refine ndd ⟨hl, hn⟩ (br (fun _ => hT _) (fun hh => br (fun hc => ?_) (fun _ => hT _)))
  obtain ⟨m1, m2⟩ := may_facts hw hc
  have hh2 : heavyF 0 dss = false ∧ n ≤ 500 := by
    unfold heavyB at hh
    rw [Bool.or_eq_false_iff] at hh
    refine ⟨hh.1, ?_⟩
    have := of_decide_eq_false hh.2
    omega
  have hlens := heavy_lens dss 0 (by omega) hh2.1 (by omega)
  have h := oj_loop1 ⟨mtu, st, sr, rr, mm, ri, rmin, rmax, it, pt, al, beat, life⟩ n kinds nums sids ppids unos dss (n + 60000) k hT m1 m2 hl hh2.2 hs tsn (by omega) n 0 [] [] [] [] [] 0 0 (fun _ => 0) 0 (List.replicate 65536 0) [] 0 60000 (by omega) rfl rfl rfl rfl (OjI.nil _ _) (by rw [List.drop_zero]; show 0 + _ ≤ _; omega) (by simp) (List.length_replicate ..) (fun j hj => getD_rep 0 0 (by omega))
  have e : ∀ z q, q = 0 → tsnA (mkI tsn z [] [] [] [] []) q = tsn := fun z q hq => by
    subst hq
    show (tsn + ((0 : Nat) : Int)) % 4294967296 = tsn
    omega
  unfold ojA qO piecesO at h
  rw [e _ _ rfl, e (mtu - 28) ((mkI tsn (mtu - 28) [] [] [] [] []).st (mkI tsn (mtu - 28) [] [] [] [] []).n) rfl] at h
  exact h
end Go.Ev
