/- The law RtoChecks, run: whether a configuration may be. No conditions. -/
import Derived.Test.YtcdakjhcnamncaaRcT
import Derived.Test.YtcdakjhcnamncaaEvD
set_option linter.unusedSimpArgs false
namespace Go.Ev
open Go Go.Proofs Go.Spec
attribute [local irreducible] ev evCall branch need again

theorem bLeaf {b b' : Bool} {st : St} {k : SV → St → Prop} (h : k (.sa (.one (bv b))) st) (e : b = b') : k (.sa (.one (bv b'))) st := e ▸ h
theorem oLeaf {T : TypeId} {b b' : Bool} {k : SV → St → Prop} (h : k (.tup []) [obj T 1 [bv b]]) (e : b = b') : k (.tup []) [obj T 1 [bv b']] := e ▸ h

theorem namesRc : namesB Try.prog = true := by kernel_rfl
theorem mixedRc : Try.prog.follows .mixedOrders = true := by kernel_rfl
theorem cxRc0_ok : CxOk Try.prog cxRc0 := mkCx_ok namesRc mixedRc (by intro x h; cases h)

theorem within_sum : SumOk Try.prog 55 sWithin := by
 refine sumOk_of cxRc0_ok ?_ ?_
 · intro args st k h
   unfold sWithin at h ⊢
   split at h
   · exact Lin.ret _ _ k h
   · exact h.elim
 · intro args st k h
   unfold sWithin at h
   split at h
   · rename_i n lo hi T b
     refine ⟨30, ?_⟩
     rw [t_within T n lo hi b k]
     refine br (fun h1 => br (fun h2 => ?_) (fun h2 => ?_)) (fun h1 => ?_)
     · exact oLeaf h (by simp only [inB, h1, h2, Bool.true_and])
     · exact oLeaf h (by simp only [inB, h1, h2, Bool.true_and, Bool.false_and])
     · exact oLeaf h (by simp only [inB, h1, Bool.false_and])
   · exact h.elim
theorem in_sum : SumOk Try.prog 48 sIn := by
 refine sumOk_of cxRc0_ok ?_ ?_
 · intro args st k h
   unfold sIn at h ⊢
   split at h
   · exact Lin.ret _ _ k h
   · exact h.elim
 · intro args st k h
   unfold sIn at h
   split at h
   · rename_i n lo hi
     refine ⟨30, ?_⟩
     rw [t_in n lo hi k]
     refine br (fun h2 => ?_) (fun h2 => ?_)
     · exact bLeaf h (by simp only [inB, h2, Bool.true_and])
     · exact bLeaf h (by simp only [inB, h2, Bool.false_and])
   · exact h.elim
theorem cxRcA_ok : CxOk Try.prog cxRcA := mkCx_ok namesRc mixedRc (by
 intro x h
 simp only [List.mem_cons, List.not_mem_nil, or_false] at h
 rcases h with rfl | rfl
 · exact within_sum
 · exact in_sum)

theorem check_sum : SumOk Try.prog 54 sCheck := by
 refine sumOk_of cxRcA_ok ?_ ?_
 · intro args st k h
   unfold sCheck at h ⊢
   split at h
   · exact (Lin.branch (Lin.ret _ _) (Lin.ret _ _)) k h
   · exact h.elim
 · intro args st k h
   unfold sCheck at h
   split at h
   · rename_i mtu ss sr rr mm ri rmin rmax it pt al beat life
     refine ⟨60, ?_⟩
     rw [t_check mtu ss sr rr mm ri rmin rmax it pt al beat life k]
     rcases branch_or h with ⟨e, h⟩ | ⟨e, h⟩
     · refine br (fun h1 => absurd h1 ?_) (fun _ => h)
       show ¬ (!(checkB ⟨mtu, ss, sr, rr, mm, ri, rmin, rmax, it, pt, al, beat, life⟩)) = true
       rw [e]; decide
     · refine br (fun _ => h) (fun h1 => absurd h1 ?_)
       show ¬ (!(checkB ⟨mtu, ss, sr, rr, mm, ri, rmin, rmax, it, pt, al, beat, life⟩)) = false
       rw [e]; decide
   · exact h.elim
theorem may_sum : SumOk Try.prog 36 sMay := by
 refine sumOk_of cxRcA_ok ?_ ?_
 · intro args st k h
   unfold sMay at h ⊢
   split at h
   · exact Lin.ret _ _ k h
   · exact h.elim
 · intro args st k h
   unfold sMay at h
   split at h
   · rename_i mtu ss sr rr mm ri rmin rmax it pt al beat life
     refine ⟨60, ?_⟩
     rw [t_may mtu ss sr rr mm ri rmin rmax it pt al beat life k]
     repeat' refine br (fun _ => ?_) (fun _ => ?_)
     all_goals (refine bLeaf h ?_)
     all_goals (simp only [mayB, wI64, *, Bool.true_and, Bool.false_and])
   · exact h.elim
/-- The configuration's fields fit their kinds. -/
structure CfgWf (c : Cfg) : Prop where
 st : 0 ≤ c.st ∧ c.st ≤ 65535
 ri : 0 ≤ c.ri ∧ c.ri ≤ 4294967295
 rmin : 0 ≤ c.rmin ∧ c.rmin ≤ 4294967295
 rmax : 0 ≤ c.rmax ∧ c.rmax ≤ 4294967295
 it : 0 ≤ c.it ∧ c.it ≤ 255
 pt : 0 ≤ c.pt ∧ c.pt ≤ 255
 al : 0 ≤ c.al ∧ c.al ≤ 255
 beat : 0 ≤ c.beat ∧ c.beat ≤ 4294967295
 life : 0 ≤ c.life ∧ c.life ≤ 4294967295

theorem check_eq {c : Cfg} (h : CfgWf c) : checkB c = mayB c := by
 obtain ⟨h1, h2, h3, h4, h5, h6, h7, h8, h9⟩ := h
 have e1 : wI64 c.st = c.st := Go.IntWalk.i64_in _ (by omega)
 have e2 : wI64 c.ri = c.ri := Go.IntWalk.i64_in _ (by omega)
 have e3 : wI64 c.rmin = c.rmin := Go.IntWalk.i64_in _ (by omega)
 have e4 : wI64 c.rmax = c.rmax := Go.IntWalk.i64_in _ (by omega)
 have e5 : wI64 c.it = c.it := Go.IntWalk.i64_in _ (by omega)
 have e6 : wI64 c.pt = c.pt := Go.IntWalk.i64_in _ (by omega)
 have e7 : wI64 c.al = c.al := Go.IntWalk.i64_in _ (by omega)
 have e8 : wI64 c.beat = c.beat := Go.IntWalk.i64_in _ (by omega)
 have e9 : wI64 c.life = c.life := Go.IntWalk.i64_in _ (by omega)
 by_cases hm : 1 ≤ c.mm ∧ c.mm ≤ 8192
 · have hr : room c.mm = mulK .i64 2 c.mm := by
     unfold room
     rw [if_neg (show ¬ (0 : Int) > c.mm by omega), if_neg (show ¬ (8192 : Int) < c.mm by omega)]
   unfold checkB mayB
   rw [hr, e1, e2, e3, e4, e5, e6, e7, e8, e9]
   generalize mulK .i64 2 c.mm = q
   generalize remK c.mtu 4 = z
   simp only [inB]
   rw [Bool.eq_iff_iff]
   simp only [Bool.and_eq_true, decide_eq_true_eq, beq_iff_eq, eqK_t, Bool.true_and]
   omega
 · have hf : inB c.mm 1 8192 = false := by
     unfold inB
     rw [← Bool.not_eq_true]
     simp only [Bool.and_eq_true, decide_eq_true_eq]
     omega
   unfold checkB mayB
   simp only [hf, Bool.and_false, Bool.false_and]

end Go.Ev
