/- ConfDoes: the run. No conditions. -/
import Derived.Test.YtiplgpnegolegaaCdT0
import Derived.Test.YtiplgpnegolegaaCdT1
import Derived.Test.YtiplgpnegolegaaWkC
set_option linter.unusedVariables false
set_option linter.unusedSimpArgs false
namespace Go.Spec
open Go Go.Ev
theorem doL_len (f : Int) (xs : List Int) (kd ad : Int) : (doL f xs kd ad).length ≤ 4 := by
  unfold doL doF
  split
  · rename_i h
    have hl : xs.length ≤ 3 := by
      have := h.1
      unfold mayB at this
      simp only [Bool.and_eq_true_iff, decide_eq_true_iff] at this
      exact this.2.1
    repeat' split
    all_goals simp only [List.length_nil, insL, delL, List.length_append, List.length_cons, List.length_take, List.length_drop]
    all_goals omega
  · simp
end Go.Spec
namespace Go.Ev
open Go Go.Proofs Go.Spec
attribute [local irreducible] ev evCall branch need again
theorem cxCd_ok : CxOk Try.prog cxCd := mkCx_ok (by kernel_rfl) (by kernel_rfl) (by
  intro y h
  simp only [List.mem_cons, List.not_mem_nil, or_false] at h
  rcases h with rfl | rfl | rfl | rfl | rfl | rfl | rfl | rfl
  · exact known_sum
  · exact clone32_sum
  · exact do_sum
  · exact dr_sum
  · exact may_sum
  · exact mayR_sum
  · exact same_sum
  · exact eql_sum)
theorem cd_loop (f g : Int) (xs : List Int) (n c M : Nat) (hl : xs.length ≤ 1000000) (hn : n ≤ 1000000) (k : SV → St → Prop) (hk : ∀ st, k (.sa (.one (bv true))) st) :
    ∀ (rem i : Nat) (ys : List Int), i + rem = n → ys.length = n → ev cxCd (rem + c + 51) 1 3 (codeAt Try.prog 3 [1, 1, 1, 1, 1, 1, 0, 1, 0]) (frm 70 [(2, (.sa (.one (SC.ptr 1 0 0)))), (5, (.sa (.one (SC.ref 2)))), (6, (.sa (.one (SC.ptr 3 0 0)))), (54, (.sa (.one (iv .i64 ((n : Nat) : Int))))), (55, (.sa (.one (iv .i64 (i : Int)))))]) [rd32 xs, obj 25 2 [iv .u32 f, .ref 0], own32 xs, obj 25 2 [iv .u32 g, .ref 4], own32 ys] (kBlock 0 (kSeq (ev cxCd (M + 53) 1 3 (codeAt Try.prog 3 [1, 1, 1, 1, 1, 1, 1])) (kRet (Cx.P cxCd) [(ResultVar.tmp 4)] 1 k))) := by
  intro rem
  induction rem with
  | zero =>
    intro i ys h1 h2
    rw [t_cd1, List.take_length]
    refine Again.mk (brf (by omega) (ndd (by omega) (ndd (by omega) (ndd ⟨hl, hl⟩ (br (fun _ => hk _) (fun e => ?_))))))
    unfold eqLL at e
    rw [decide_eq_true rfl] at e
    cases e
  | succ rem ih =>
    intro i ys h1 h2
    rw [show rem + 1 + c + 51 = (rem + 1 + c) + 51 from rfl, t_cd1]
    have e2 : addK .i64 (i : Int) 1 = ((i + 1 : Nat) : Int) := by rw [add64 (by omega)]; omega
    rw [e2]
    exact Again.mk (brt (by omega) (ndd (by omega) (ndd (by omega) (ndd (by omega) (evFuelR (ih (i + 1) _ (by omega) (by rw [List.length_set]; exact h2)) (by omega))))))
theorem cd_run (f kd ad : Int) (xs : List Int) (h0 : 0 ≤ kd) (hu : okUs xs = true) (k : SV → St → Prop) (hk : ∀ st, k (.sa (.one (bv true))) st) :
    evCall cxCd (ev cxCd ((doL f xs kd ad).length + 60)) 3 [.agg [iv .u32 f, .ref 0], .agg [iv .u8 kd, iv .u32 ad]] [rd32 xs] k := by
  rw [t_cd0]
  simp only [List.take_length]
  have hd := doL_len f xs kd ad
  refine brd (fun _ => hk _) (fun g1 => ?_)
  refine ndd (by omega) (ndd (by omega) (ndd (by omega) (ndd (by omega) (ndd (by omega) (nd (by rw [hu, decide_eq_true (by omega)]; rfl) (ndd (by omega) (ndd (by omega) (ndd (by omega) (ndd (by omega) (br (fun e => ?_) (fun _ => bren (fun e => absurd rfl e) (fun _ => ndd (by omega) (ndd (by omega) (ndd (by omega) (br (fun e => ?_) (fun _ => ?_))))))))))))))))
  · rw [mayR_eq hu] at e
    simp at e
  · unfold sameB at e
    rw [eqK_t.2 rfl, decide_eq_true rfl] at e
    cases e
  · exact evFuelR (cd_loop f _ xs _ 0 _ (by omega) (by omega) k hk (doL f xs kd ad).length 0 _ (by omega) rfl) (by omega)
theorem cd_ex (f kd ad : Int) (xs : List Int) (h0 : 0 ≤ kd) (hu : okUs xs = true) (k : SV → St → Prop) (hk : ∀ st, k (.sa (.one (bv true))) st) :
    ∃ N, evCall cxCd (ev cxCd N) 3 [.agg [iv .u32 f, .ref 0], .agg [iv .u8 kd, iv .u32 ad]] [rd32 xs] k := ⟨_, cd_run f kd ad xs h0 hu k hk⟩
end Go.Ev
