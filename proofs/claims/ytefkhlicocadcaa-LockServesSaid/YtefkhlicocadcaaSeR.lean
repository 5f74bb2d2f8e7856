/- LockServes: the run. No conditions. -/
import Derived.Test.YtefkhlicocadcaaSeT0
import Derived.Test.YtefkhlicocadcaaSeT1
import Derived.Test.YtefkhlicocadcaaSeT2
import Derived.Test.YtefkhlicocadcaaSeT3
import Derived.Test.YtefkhlicocadcaaSeT4
import Derived.Test.YtefkhlicocadcaaSeT5
import Derived.Test.YtefkhlicocadcaaSeP
import Derived.Test.YtefkhlicocadcaaKnS
set_option linter.unusedVariables false
set_option linter.unusedSimpArgs false
set_option maxHeartbeats 1000000
namespace Go.Ev
open Go Go.Proofs Go.Spec
attribute [local irreducible] ev evCall branch need again
theorem sumsW_ok2 : ∀ x ∈ sumsW, SumOk Try.prog x.1 x.2 := by
  intro x h
  rcases List.mem_cons.1 h with rfl | h
  · exact known_sum
  · exact sumsL_ok x h
theorem bF2 {b : Bool} {p q : Prop} (h : b = false) (h1 : q) : branch b p q := by subst h; unfold branch; exact h1
theorem bT2 {b : Bool} {p q : Prop} (h : b = true) (h1 : p) : branch b p q := by subst h; unfold branch; exact h1
theorem kB3 {X : Fr → St → (Exit → Fr → St → Prop) → Prop} {K : Exit → Fr → St → Prop} {fr : Fr} {st : St} (h : X fr st K) : kBlock 3 (kBlock 1 (kSeq X K)) (Exit.exit 3) fr st := h
theorem cxSe_ok : CxOk Try.prog cxSe := mkCx_ok namesL mixedL sumsW_ok2
def seK (M : Nat) (k : SV → St → Prop) : Exit → Fr → St → Prop := (kBlock 0 (kSeq (ev cxSe (M + 55) 1 5 (codeAt Try.prog 5 [1, 1, 1, 1, 1])) (kRet (Cx.P cxSe) [(ResultVar.tmp 2)] 1 k)))
def seH (N M : Nat) (a b c d : List Int) (D : LkD) (i : Int) (k : SV → St → Prop) : Prop := ev cxSe N 1 5 (codeAt Try.prog 5 [1, 1, 1, 1, 0, 1, 0]) (frm 182 [(3, (.sa (.one (SC.ref 1)))), (25, (.sa (.one (SC.ref 0)))), (26, (.sa (.one (iv .i64 ((a.length : Nat) : Int))))), (27, (.sa (.one (iv .i64 i))))]) [doS a b c d, (some (SO.abs true 0 D))] (seK M k)
theorem se_in (a b c d : List Int) (D : LkD) (m : Nat) (wf : WF D m) (i kd t cc nn : Int) (q : Nat) (K : Exit → Fr → St → Prop)
    (hK : ∀ last : Int, K (Exit.exit 3) (frm 182 [(3, (.sa (.one (SC.ref 1)))), (5, (.sa (.one (SC.ptr 2 0 0)))), (14, (.sa (.one (iv .u8 last)))), (25, (.sa (.one (SC.ref 0)))), (26, (.sa (.one (iv .i64 ((a.length : Nat) : Int))))), (27, (.sa (.one (iv .i64 i)))), (152, (.sa (.one (SC.ref 3)))), (153, (.sa (.one (iv .i64 (((D.hs t).length : Nat) : Int))))), (154, (.sa (.one (iv .i64 (((D.hs t).length : Nat) : Int))))), (155, (.sa (.one (bv false))))]) [doS a b c d, (some (SO.abs true 0 D)), obj 33 4 [iv .i64 kd, iv .i64 t, iv .u8 cc, iv .i64 nn], lrow true (D.hs t).length (hsC D t) (hsN D t)]) :
    ∀ (rem j : Nat), j + rem = (D.hs t).length → ev cxSe (rem + q + 60) 1 5 (codeAt Try.prog 5 [1, 1, 1, 1, 0, 1, 0, 0, 1, 1, 0, 0, 1, 1, 1, 1, 1, 1, 0]) (frm 182 [(3, (.sa (.one (SC.ref 1)))), (5, (.sa (.one (SC.ptr 2 0 0)))), (14, (.sa (.one (iv .u8 (lastC D t j))))), (25, (.sa (.one (SC.ref 0)))), (26, (.sa (.one (iv .i64 ((a.length : Nat) : Int))))), (27, (.sa (.one (iv .i64 i)))), (152, (.sa (.one (SC.ref 3)))), (153, (.sa (.one (iv .i64 (((D.hs t).length : Nat) : Int))))), (154, (.sa (.one (iv .i64 (j : Int)))))]) [doS a b c d, (some (SO.abs true 0 D)), obj 33 4 [iv .i64 kd, iv .i64 t, iv .u8 cc, iv .i64 nn], lrow true (D.hs t).length (hsC D t) (hsN D t)] K := by
  have few := wf.few t
  have lc : (hsC D t).length = (D.hs t).length := by simp [hsC]
  have ln : (hsN D t).length = (D.hs t).length := by simp [hsN]
  intro rem
  induction rem with
  | zero =>
    intro j hj
    rw [show 0 + q + 60 = q + 60 by omega, t_se4]
    obtain rfl : j = (D.hs t).length := by omega
    exact Again.mk (brf (by omega) (hK _))
  | succ rem ih =>
    intro j hj
    rw [show rem + 1 + q + 60 = (rem + 1 + q) + 60 by omega, t_se4]
    have e1 : 0 + ((j : Nat) : Int).toNat = j := by omega
    have e2 : addK .i64 (j : Int) 1 = ((j + 1 : Nat) : Int) := by rw [add64 (by omega)]; omega
    rw [e1, e2]
    have h1 := hs_at wf (show j < (D.hs t).length by omega)
    have h2 := hs_up wf (show j < (D.hs t).length by omega)
    refine Again.mk (brt (by omega) (ndd (by omega) (ndd (by omega) (ndd (by omega) (brf (by omega) (bF2 (by rw [h1.1]; rfl) (bF2 (by rw [h1.2, Bool.not_eq_false', eqK_t]) ?_)))))))
    have := ih (j + 1) (by omega)
    rw [show rem + q + 60 = rem + 1 + q + 59 by omega] at this
    exact this
theorem se_24 {a b c d : List Int} {D : LkD} {m i : Nat} {kd t cc nn : Int} {N M Q : Nat} {k : SV → St → Prop} (hN : 70 ≤ N) (hm : m ≤ 500) (wf : WF D m) (hi : i ≤ 500) (H : seH (Q + 59) M a b c d D ((i + 1 : Nat) : Int) k) :
    ev cxSe N 1 5 (codeAt Try.prog 5 [1, 1, 1, 1, 0, 1, 0, 0, 1, 1, 0, 0, 1, 1, 1, 1, 0]) (frm 182 [(3, (.sa (.one (SC.ref 1)))), (5, (.sa (.one (SC.ptr 2 0 0)))), (25, (.sa (.one (SC.ref 0)))), (26, (.sa (.one (iv .i64 ((a.length : Nat) : Int))))), (27, (.sa (.one (iv .i64 (i : Int)))))]) [doS a b c d, (some (SO.abs true 0 D)), obj 33 4 [iv .i64 kd, iv .i64 t, iv .u8 cc, iv .i64 nn]] (kSeq (ev cxSe N 1 5 (codeAt Try.prog 5 [1, 1, 1, 1, 0, 1, 0, 0, 1, 1, 0, 0, 1, 1, 1, 1, 1])) (kBlock 1 (kSeq (ev cxSe (Q + 56) 1 5 (codeAt Try.prog 5 [1, 1, 1, 1, 0, 1, 0, 0, 1, 1, 1])) (kSeq (ev cxSe (Q + 59) 1 5 (codeAt Try.prog 5 [1, 1, 1, 1, 0, 1, 0])) (seK M k))))) := by
  obtain ⟨L, rfl⟩ : ∃ L, N = L + 10 + 60 := ⟨N - 70, by omega⟩
  unfold seK
  rw [t_se3]
  have few := wf.few t
  have e2 : addK .i64 (i : Int) 1 = ((i + 1 : Nat) : Int) := by rw [add64 (by omega)]; omega
  refine Again.mk (nd (wf.shortH t) ?_)
  rw [show L + 10 + 58 = (D.hs t).length + (L + 8 - (D.hs t).length) + 60 by omega]
  refine se_in a b c d D m wf _ kd t cc nn _ _ (fun last => ?_) (D.hs t).length 0 (by omega)
  refine kB3 ?_
  rw [t_se5, e2]
  exact H

theorem se_9 {a b c d : List Int} {D : LkD} {m i : Nat} {kd t cc nn : Int} {N M Q : Nat} {k : SV → St → Prop} (hN : 120 ≤ N) (hm : m ≤ 400) (wf : WF D m) (hi : i ≤ 500) (H : ∀ D', WF D' (m + 1) → seH (Q + 59) M a b c d D' ((i + 1 : Nat) : Int) k) :
    ev cxSe N 1 5 (codeAt Try.prog 5 [1, 1, 1, 1, 0, 1, 0, 0, 1, 1, 0, 0, 1, 0]) (frm 182 [(3, (.sa (.one (SC.ref 1)))), (5, (.sa (.one (SC.ptr 2 0 0)))), (25, (.sa (.one (SC.ref 0)))), (26, (.sa (.one (iv .i64 ((a.length : Nat) : Int))))), (27, (.sa (.one (iv .i64 (i : Int)))))]) [doS a b c d, (some (SO.abs true 0 D)), obj 33 4 [iv .i64 kd, iv .i64 t, iv .u8 cc, iv .i64 nn]] (kSeq (ev cxSe N 1 5 (codeAt Try.prog 5 [1, 1, 1, 1, 0, 1, 0, 0, 1, 1, 0, 0, 1, 1])) (kBlock 1 (kSeq (ev cxSe (Q + 56) 1 5 (codeAt Try.prog 5 [1, 1, 1, 1, 0, 1, 0, 0, 1, 1, 1])) (kSeq (ev cxSe (Q + 59) 1 5 (codeAt Try.prog 5 [1, 1, 1, 1, 0, 1, 0])) (seK M k))))) := by
  obtain ⟨L, rfl⟩ : ∃ L, N = L + 60 + 60 := ⟨N - 120, by omega⟩
  unfold seK
  rw [t_se2]
  have hq := wf.shortQ (by omega) cc nn
  have lq : ∀ D' : LkD, WF D' (m + 1) → (quL D' cc nn).length ≤ 401 := fun D' w => Nat.le_trans (w.len _) (by omega)
  have lD := wf.len (cc, nn)
  have lq0 : (quL D cc nn).length ≤ m := lD
  have cutD : ∀ D' N', 70 ≤ N' → WF D' (m + 1) → ev cxSe N' 1 5 (codeAt Try.prog 5 [1, 1, 1, 1, 0, 1, 0, 0, 1, 1, 0, 0, 1, 1, 1, 1, 0]) (frm 182 [(3, (.sa (.one (SC.ref 1)))), (5, (.sa (.one (SC.ptr 2 0 0)))), (25, (.sa (.one (SC.ref 0)))), (26, (.sa (.one (iv .i64 ((a.length : Nat) : Int))))), (27, (.sa (.one (iv .i64 (i : Int)))))]) [doS a b c d, (some (SO.abs true 0 D')), obj 33 4 [iv .i64 kd, iv .i64 t, iv .u8 cc, iv .i64 nn]] (kSeq (ev cxSe N' 1 5 (codeAt Try.prog 5 [1, 1, 1, 1, 0, 1, 0, 0, 1, 1, 0, 0, 1, 1, 1, 1, 1])) (kBlock 1 (kSeq (ev cxSe (Q + 56) 1 5 (codeAt Try.prog 5 [1, 1, 1, 1, 0, 1, 0, 0, 1, 1, 1])) (kSeq (ev cxSe (Q + 59) 1 5 (codeAt Try.prog 5 [1, 1, 1, 1, 0, 1, 0])) (seK M k))))) := fun D' N' hn w => se_24 hn (by omega) w hi (H D' w)
  refine Again.mk (nd hq (br (fun e => ?_) (fun e => br (fun e1 => ?_) (fun e1 => ?_))))
  · have wt := wf.take t cc nn
    refine nd (wf.takeOk (by omega) t cc nn) (nd (wt.shortQ (by omega) cc nn) ?_)
    by_cases hE : takeE D t cc nn = 0
    · cases ho : D.ho (cc, nn) with
      | none =>
        obtain ⟨f1, f2, f3⟩ := take_free wf hE ho
        rw [f1, f2, hE]
        refine bT2 rfl (bF2 rfl (brf (by rw [f3]; decide) (bT2 (by decide) (bF2 rfl (bF2 (by decide) ?_)))))
        exact cutD _ _ (by omega) wt
      | some h =>
        obtain ⟨f1, f2⟩ := take_wait hE ho
        have l2 := lq _ wt
        rw [f2, List.length_append, List.length_singleton] at l2
        have e2 : addK .i64 (((quL D cc nn).length : Nat) : Int) 1 = (((quL D cc nn).length + 1 : Nat) : Int) := by rw [add64 (by omega)]; omega
        rw [f1, hE, f2, e2]
        refine bF2 rfl (bT2 (by decide) (bT2 rfl (bF2 ?_ (ndd ?_ (ndd ?_ (bF2 ?_ (bF2 (by decide) ?_)))))))
        · rw [Bool.not_eq_false', eqK_t]; simp
        · simp; omega
        · simp
        · rw [Bool.not_eq_false', eqK_t]
          simp [List.getD_eq_getElem?_getD]
        · exact cutD _ _ (by omega) wt
    · obtain ⟨f1, f2⟩ := take_no hE
      rw [f1]
      refine bF2 rfl (bF2 (eqK_f.2 hE) (bT2 (by rw [eqK_f.2 hE]; rfl) (bF2 rfl ?_)))
      exact cutD _ _ (by omega) wt
  · have wg := (wf.give t cc nn).mono (show m ≤ m + 1 by omega)
    have lg := lq _ wg
    refine nd (wf.giveOk (by omega) t cc nn) ?_
    by_cases hE : giveE D t cc nn = 0
    · obtain ⟨g1, g2⟩ := give_ho hE
      have g2' : quL (giveD D t cc nn) cc nn = (quL D cc nn).tail := g2
      have hb : hoB (giveD D t cc nn) cc nn = decide ((((quL D cc nn).length : Nat) : Int) > 0) := by
        unfold hoB quL; rw [g1]; cases D.qu (cc, nn) <;> simp
      rw [hE, hb]
      refine bF2 (by decide) (bF2 (by simp) (br (fun h0 => ?_) (fun h0 => ?_)))
      · have h0 := of_decide_eq_true h0
        have hv : hoV (giveD D t cc nn) cc nn = (quL D cc nn).getD 0 0 := by
          unfold hoV quL; rw [g1]; cases D.qu (cc, nn) <;> simp
        rw [g2'] at lg
        rw [hv, g2']
        refine ndd (by omega) (ndd (by omega) (bF2 (by rw [Bool.not_eq_false', eqK_t]) (ndd (by omega) (ndd (by omega) (ndd (by omega) (nd (wg.shortQ (by omega) cc nn) (ndd (by omega) (ndd (by omega) (ndd ?_ (bF2 ?_ ?_))))))))))
        · simp only [List.length_take, List.length_drop]; omega
        · rw [Bool.not_eq_false']
          refine decide_eq_true ?_
          rw [List.take_length, List.take_of_length_le (by simp), List.drop_one]
        · exact cutD _ _ (by omega) wg
      · exact cutD _ _ (by omega) wg
    · have g := giveE_no hE
      refine bT2 (by rw [eqK_f.2 hE]; rfl) (nd (wg.shortQ (by omega) cc nn) (ndd (by omega) (ndd (by omega) (ndd ?_ (bF2 ?_ ?_)))))
      · simp only [List.length_take]; omega
      · rw [g, Bool.not_eq_false']; exact decide_eq_true rfl
      · exact cutD _ _ (by omega) wg
  · exact cutD _ _ (by omega) (wf.mono (by omega))
theorem se_loop {a b c d : List Int} {M : Nat} {k : SV → St → Prop} (ha : a.length ≤ 200) (hk : k (.sa (.one (bv true))) [doS a b c d]) :
    ∀ (rem i : Nat) (D : LkD), i + rem = a.length → WF D i → seH (rem + 260) M a b c d D (i : Int) k := by
  intro rem
  induction rem with
  | zero =>
    intro i D hi wf
    unfold seH seK
    rw [show 0 + 260 = 200 + 60 from rfl, t_se1]
    exact Again.mk (brf (by omega) hk)
  | succ rem ih =>
    intro i D hi wf
    unfold seH seK
    rw [show rem + 1 + 260 = (rem + 201) + 60 by omega, t_se1]
    refine Again.mk (brt (by omega) (ndd (by omega) (ndd (by omega) (ndd (by omega) ?_))))
    refine se_9 (m := i) (i := i) (by omega) (by omega) wf (by omega) (fun D' w' => ?_)
    have := ih (i + 1) D' (by omega) w'
    rw [show rem + 260 = rem + 201 + 59 by omega] at this
    exact this
theorem se_ex (len : Nat) (a b c d : List Int) (h : a.length = len) (k : SV → St → Prop) (hT : ∀ st, k (.sa (.one (bv true))) st) :
    ∃ N, evCall cxSe (ev cxSe N) 5 [.one (.ref 0)] [some (.own false .ext 0 4 (.tab len [.ints .i64 a, .ints .i64 b, .ints .u8 c, .ints .i64 d]))] k := by
  subst h
  refine ⟨a.length + 207 + 60, ?_⟩
  show evCall cxSe (ev cxSe (a.length + 207 + 60)) 5 [.one (.ref 0)] [doS a b c d] k
  rw [t_se0]
  refine br (fun _ => hT _) (fun h => ?_)
  have h := of_decide_eq_false h
  exact se_loop (M := a.length + 207) (by omega) (hT _) a.length 0 newD (by omega) WF.new
end Go.Ev
