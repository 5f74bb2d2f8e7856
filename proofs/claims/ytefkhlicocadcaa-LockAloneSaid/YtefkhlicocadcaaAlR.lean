/- LockAlone: the run. No conditions. -/
import Derived.Test.YtefkhlicocadcaaAlT0
import Derived.Test.YtefkhlicocadcaaAlT1
import Derived.Test.YtefkhlicocadcaaAlT2
import Derived.Test.YtefkhlicocadcaaAlT3
import Derived.Test.YtefkhlicocadcaaAlT4
import Derived.Test.YtefkhlicocadcaaAlP
import Derived.Test.YtefkhlicocadcaaKnS
set_option linter.unusedVariables false
set_option linter.unusedSimpArgs false
set_option maxHeartbeats 1000000
namespace Go.Ev
open Go Go.Proofs Go.Spec
attribute [local irreducible] ev evCall branch need again
theorem bF {b : Bool} {p q : Prop} (h : b = false) (h1 : q) : branch b p q := by subst h; unfold branch; exact h1
theorem bT {b : Bool} {p q : Prop} (h : b = true) (h1 : p) : branch b p q := by subst h; unfold branch; exact h1
theorem kB2 {X : Fr → St → (Exit → Fr → St → Prop) → Prop} {K : Exit → Fr → St → Prop} {fr : Fr} {st : St} (h : X fr st K) : kBlock 2 (kSeq X K) (Exit.exit 2) fr st := h
theorem sumsW_ok : ∀ x ∈ sumsW, SumOk Try.prog x.1 x.2 := by
  intro x h
  rcases List.mem_cons.1 h with rfl | h
  · exact known_sum
  · exact sumsL_ok x h
theorem cxAl_ok : CxOk Try.prog cxAl := mkCx_ok namesL mixedL sumsW_ok
/-- Where a task stands in the row, as far as it was looked at. -/
def Pl (row : List Int) (t : Int) (j : Nat) (pl : Int) : Prop := (pl = -1 ∧ t ∉ row.take j) ∨ ∃ p : Nat, p < j ∧ pl = p ∧ row.getD p 0 = t
theorem Pl.hit {row : List Int} {t : Int} {j : Nat} (e : row.getD j 0 = t) : Pl row t (j + 1) j := Or.inr ⟨j, by omega, rfl, e⟩
theorem Pl.miss {row : List Int} {t : Int} {j : Nat} {pl : Int} (h : Pl row t j pl) (hj : j < row.length) (e : row.getD j 0 ≠ t) : Pl row t (j + 1) pl := by
  rcases h with ⟨h1, h2⟩ | ⟨p, h1, h2, h3⟩
  · refine Or.inl ⟨h1, ?_⟩
    rw [take_getD hj, List.mem_append, List.mem_singleton]
    rintro (h | h)
    · exact h2 h
    · exact e h.symm
  · exact Or.inr ⟨p, by omega, h2, h3⟩
theorem Pl.neg {row : List Int} {t : Int} {pl : Int} (h : Pl row t row.length pl) : pl < 0 ↔ t ∉ row := by
  rcases h with ⟨h1, h2⟩ | ⟨p, h1, h2, h3⟩
  · rw [List.take_length] at h2
    exact ⟨fun _ => h2, fun _ => by omega⟩
  · refine ⟨fun h => by omega, fun h => (h ?_).elim⟩
    rw [← h3, List.getD_eq_getElem?_getD, List.getElem?_eq_getElem h1]
    exact List.getElem_mem h1
theorem Pl.zero {row : List Int} {t : Int} {pl : Int} (h : Pl row t row.length pl) (nd : row.Nodup) : pl = 0 ↔ row.head? = some t := by
  match row, h, nd with
  | [], h, nd =>
    rcases h with ⟨h1, h2⟩ | ⟨p, h1, h2, h3⟩
    · subst h1; simp
    · simp at h1
  | x :: r, h, nd =>
    have nd := List.nodup_cons.1 nd
    rcases h with ⟨h1, h2⟩ | ⟨p, h1, h2, h3⟩
    · rw [List.take_length] at h2
      subst h1
      refine ⟨fun h => by omega, fun h => ?_⟩
      simp at h; subst h; simp at h2
    · cases p with
      | zero => simp at h3; simp [h2, h3]
      | succ p =>
        refine ⟨fun h => by omega, fun h => ?_⟩
        simp only [List.head?_cons, Option.some.injEq] at h
        subst h
        have h1 : p < r.length := by simp at h1; omega
        rw [List.getD_eq_getElem?_getD, List.getElem?_cons_succ, List.getElem?_eq_getElem h1] at h3
        exact (nd.1 (h3 ▸ List.getElem_mem h1)).elim
theorem al_in (C n : Int) (a b c d : List Int) (D : LkD) (row : List Int) (len i kd t cc nn : Int) (q : Nat) (K : Exit → Fr → St → Prop)
    (hK : ∀ pl, Pl row t row.length pl → K (Exit.exit 2) (frm 146 [(7, (.sa (.one (SC.ref 1)))), (8, (.sa (.one (SC.ptr 2 0 0)))), (9, (.sa (.one (SC.ref 3)))), (11, (.sa (.one (SC.ptr 4 0 0)))), (12, (.sa (.one (iv .i64 pl)))), (37, (.sa (.one (SC.ref 0)))), (38, (.sa (.one (iv .i64 len)))), (39, (.sa (.one (iv .i64 i)))), (43, (.sa (.one (SC.ref 3)))), (44, (.sa (.one (iv .i64 ((row.length : Nat) : Int))))), (45, (.sa (.one (iv .i64 ((row.length : Nat) : Int))))), (46, (.sa (.one (bv false))))]) [doS a b c d, (some (SO.abs true 0 D)), lbox true C n, irow true row, obj 33 4 [iv .i64 kd, iv .i64 t, iv .u8 cc, iv .i64 nn]])
    (hl : row.length ≤ 1000) :
    ∀ (rem j : Nat) (pl : Int), j + rem = row.length → Pl row t j pl → ev cxAl (rem + q + 60) 1 6 (codeAt Try.prog 6 [1, 1, 1, 1, 1, 1, 0, 1, 0, 0, 1, 1, 0, 0, 1, 1, 0, 1, 0]) (frm 146 [(7, (.sa (.one (SC.ref 1)))), (8, (.sa (.one (SC.ptr 2 0 0)))), (9, (.sa (.one (SC.ref 3)))), (11, (.sa (.one (SC.ptr 4 0 0)))), (12, (.sa (.one (iv .i64 pl)))), (37, (.sa (.one (SC.ref 0)))), (38, (.sa (.one (iv .i64 len)))), (39, (.sa (.one (iv .i64 i)))), (43, (.sa (.one (SC.ref 3)))), (44, (.sa (.one (iv .i64 ((row.length : Nat) : Int))))), (45, (.sa (.one (iv .i64 (j : Int)))))]) [doS a b c d, (some (SO.abs true 0 D)), lbox true C n, irow true row, obj 33 4 [iv .i64 kd, iv .i64 t, iv .u8 cc, iv .i64 nn]] K := by
  intro rem
  induction rem with
  | zero =>
    intro j pl hj hp
    rw [show 0 + q + 60 = q + 60 by omega, t_al2]
    obtain rfl : j = row.length := by omega
    exact Again.mk (brf (by omega) (hK pl hp))
  | succ rem ih =>
    intro j pl hj hp
    rw [show rem + 1 + q + 60 = (rem + 1 + q) + 60 by omega, t_al2]
    have e1 : 0 + ((j : Nat) : Int).toNat = j := by omega
    have e2 : addK .i64 (j : Int) 1 = ((j + 1 : Nat) : Int) := by rw [add64 (by omega)]; omega
    rw [e1, e2]
    refine Again.mk (brt (by omega) (ndd (by omega) (ndd (by omega) (ndd (by omega) (br (fun e => ?_) (fun e => ?_))))))
    · rw [eqK_t] at e
      exact (show rem + q + 60 = rem + 1 + q + 59 by omega) ▸ ih (j + 1) j (by omega) (Pl.hit e)
    · rw [eqK_f] at e
      exact (show rem + q + 60 = rem + 1 + q + 59 by omega) ▸ ih (j + 1) pl (by omega) (Pl.miss hp (by omega) e)
def alK (M : Nat) (k : SV → St → Prop) : Exit → Fr → St → Prop := (kBlock 0 (kSeq (ev cxAl (M + 53) 1 6 (codeAt Try.prog 6 [1, 1, 1, 1, 1, 1, 1])) (kRet (Cx.P cxAl) [(ResultVar.tmp 6)] 1 k)))
/-- At the head of the loop. -/
def alH (N M : Nat) (C n : Int) (a b c d : List Int) (D : LkD) (row : List Int) (i : Int) (k : SV → St → Prop) : Prop := ev cxAl N 1 6 (codeAt Try.prog 6 [1, 1, 1, 1, 1, 1, 0, 1, 0]) (frm 146 [(7, (.sa (.one (SC.ref 1)))), (8, (.sa (.one (SC.ptr 2 0 0)))), (9, (.sa (.one (SC.ref 3)))), (37, (.sa (.one (SC.ref 0)))), (38, (.sa (.one (iv .i64 ((a.length : Nat) : Int))))), (39, (.sa (.one (iv .i64 i))))]) [doS a b c d, (some (SO.abs true 0 D)), lbox true C n, irow true row] (alK M k)
theorem al_cut {C n : Int} {a b c d : List Int} {D : LkD} {row : List Int} {i : Nat} {L M Q R m : Nat} {k : SV → St → Prop} (hm : m ≤ 1000) (wf : WF D m) (al : Alone D C n row) (hl : row.length ≤ 1000) (hi : i ≤ 1000)
    (H : alH (Q + 59) M C n a b c d D row ((i + 1 : Nat) : Int) k) : ev cxAl (L + 58) 1 6 (codeAt Try.prog 6 [1, 1, 1, 1, 1, 1, 0, 1, 0, 0, 1, 1, 0, 0, 1, 1, 1, 1, 0]) (frm 146 [(7, (.sa (.one (SC.ref 1)))), (8, (.sa (.one (SC.ptr 2 0 0)))), (9, (.sa (.one (SC.ref 3)))), (37, (.sa (.one (SC.ref 0)))), (38, (.sa (.one (iv .i64 ((a.length : Nat) : Int))))), (39, (.sa (.one (iv .i64 (i : Int)))))]) [doS a b c d, (some (SO.abs true 0 D)), lbox true C n, irow true row] (kSeq (ev cxAl (R + 58) 1 6 (codeAt Try.prog 6 [1, 1, 1, 1, 1, 1, 0, 1, 0, 0, 1, 1, 0, 0, 1, 1, 1, 1, 1])) (kBlock 1 (kSeq (ev cxAl (Q + 56) 1 6 (codeAt Try.prog 6 [1, 1, 1, 1, 1, 1, 0, 1, 0, 0, 1, 1, 1])) (kSeq (ev cxAl (Q + 59) 1 6 (codeAt Try.prog 6 [1, 1, 1, 1, 1, 1, 0, 1, 0])) (alK M k))))) := by
  unfold alK
  rw [t_al4]
  have e2 : addK .i64 (i : Int) 1 = ((i + 1 : Nat) : Int) := by rw [add64 (by omega)]; omega
  rw [e2]
  have hb : hoB D C n = decide (0 < row.length) := by
    unfold hoB; rw [al.ho]; cases row <;> simp
  have hq : quL D C n = row.drop 1 := by unfold quL; rw [al.qu]; simp
  refine Again.mk (bF ?_ (br (fun e => ?_) (fun e => ?_)))
  · rw [hb]; simp
  · rw [hb] at e
    have h0 : 0 < row.length := by simpa using e
    refine ndd (by omega) (ndd (by omega) (bF ?_ (nd (wf.shortQ (by omega) C n) (ndd (by omega) (ndd (by omega) (ndd (by omega) (ndd (by omega) (ndd (by omega) (ndd ?_ (bF ?_ (nd wf.riseB H)))))))))))
    · rw [Bool.not_eq_false', eqK_t]
      unfold hoV; rw [al.ho]
      cases row with
      | nil => simp at h0
      | cons x r => simp
    · rw [hq]; simp only [List.length_take, List.length_drop]; omega
    · rw [hq, Bool.not_eq_false']
      refine decide_eq_true ?_
      rw [List.take_length, List.take_of_length_le (by simp)]
  · exact nd wf.riseB H

theorem al_body {C n : Int} {a b c d : List Int} {D : LkD} {row : List Int} {i : Nat} {kd t cc nn pl rl j : Int} {L M Q m : Nat} {k : SV → St → Prop} (hC : 1 ≤ C ∧ C ≤ 3) (hm : m ≤ 500) (wf : WF D m) (al : Alone D C n row) (hl : row.length ≤ 500) (hi : i ≤ 500) (hp : Pl row t row.length pl)
    (H : ∀ D' row', WF D' (m + 1) → Alone D' C n row' → row'.length ≤ row.length + 1 → alH (Q + 59) M C n a b c d D' row' ((i + 1 : Nat) : Int) k) : ev cxAl (L + 60) 1 6 (codeAt Try.prog 6 [1, 1, 1, 1, 1, 1, 0, 1, 0, 0, 1, 1, 0, 0, 1, 1, 1]) (frm 146 [(7, (.sa (.one (SC.ref 1)))), (8, (.sa (.one (SC.ptr 2 0 0)))), (9, (.sa (.one (SC.ref 3)))), (11, (.sa (.one (SC.ptr 4 0 0)))), (12, (.sa (.one (iv .i64 pl)))), (37, (.sa (.one (SC.ref 0)))), (38, (.sa (.one (iv .i64 ((a.length : Nat) : Int))))), (39, (.sa (.one (iv .i64 (i : Int))))), (43, (.sa (.one (SC.ref 3)))), (44, (.sa (.one (iv .i64 rl)))), (45, (.sa (.one (iv .i64 j)))), (46, (.sa (.one (bv false))))]) [doS a b c d, (some (SO.abs true 0 D)), lbox true C n, irow true row, obj 33 4 [iv .i64 kd, iv .i64 t, iv .u8 cc, iv .i64 nn]] (kBlock 1 (kSeq (ev cxAl (Q + 56) 1 6 (codeAt Try.prog 6 [1, 1, 1, 1, 1, 1, 0, 1, 0, 0, 1, 1, 1])) (kSeq (ev cxAl (Q + 59) 1 6 (codeAt Try.prog 6 [1, 1, 1, 1, 1, 1, 0, 1, 0])) (alK M k)))) := by
  unfold alK
  rw [t_al3]
  have hn := hp.neg
  have hz := hp.zero al.nd
  have same : alH (Q + 59) M C n a b c d D row ((i + 1 : Nat) : Int) k := H D row (wf.mono (by omega)) al (by omega)
  refine br (fun e => ?_) (fun e => br (fun e => ?_) (fun e => ?_))
  · refine nd (wf.takeOk (by omega) t C n) ?_
    by_cases ht : t ∈ row
    · have h6 := al.takeE6 hC ht
      have hb : takeB D t C n = false := by unfold takeB; rw [h6]; rfl
      have h0 : 0 < row.length := List.length_pos_of_mem ht
      rw [h6, hb, al.takeSame hC ht]
      refine bF ?_ (bF ?_ (bT (by decide) (bF (by decide) (brf (fun h => hn.1 h ht) (al_cut (by omega) wf al (by omega) (by omega) same)))))
      · rw [decide_eq_false (fun h => hn.1 h ht)]; rfl
      · rw [Bool.not_eq_false', beq_iff_eq]
        exact (by rw [eqK_f]; omega : eqK ((row.length : Nat) : Int) 0 = false).symm
    · have h0 := al.takeE0 hC ht
      rw [h0, al.takeB h0]
      refine bF ?_ (bF ?_ (bF (by decide) (brt (hn.2 ht) (ndd (by omega) (al_cut (m := m + 1) (by omega) (wf.take t C n) (al.take hC ht) (by simp; omega) (by omega) (H _ _ (wf.take t C n) (al.take hC ht) (by simp)))))))
      · rw [decide_eq_true (hn.2 ht)]; rfl
      · cases row with
        | nil => rfl
        | cons x r => 
          rw [Bool.not_eq_false', beq_iff_eq, decide_eq_false (by simp)]
          exact (by rw [eqK_f]; simp; omega : eqK (((x :: r).length : Nat) : Int) 0 = false).symm
  · refine nd (wf.giveOk (by omega) t C n) ?_
    rw [al.giveE]
    by_cases ht : row.head? = some t
    · have hl0 : 0 < row.length := by cases row with | nil => cases ht | cons x r => simp
      have hr : List.take (row.length - 1) (List.drop 1 row) = row.tail := by rw [List.take_of_length_le (by simp), List.drop_one]
      rw [if_pos ht, hr]
      refine bF ?_ (bT (eqK_t.2 (hz.2 ht)) (ndd (by omega) (ndd (by omega) (ndd (by omega) (ndd (by omega) (al_cut (by omega) (wf.give t C n) (al.give ht) (by simp; omega) (by omega) (H _ _ ((wf.give t C n).mono (by omega)) (al.give ht) (by simp; omega))))))))
      rw [(eqK_t.2 (hz.2 ht))]; rfl
    · rw [if_neg ht, al.giveSame ht]
      have : eqK pl 0 = false := eqK_f.2 fun h => ht (hz.1 h)
      refine bF (by rw [this]; rfl) (bF this (al_cut (by omega) wf al (by omega) (by omega) same))
  · exact al_cut (by omega) wf al (by omega) (by omega) same
theorem al_loop {C n : Int} {a b c d : List Int} {M : Nat} {k : SV → St → Prop} (hC : 1 ≤ C ∧ C ≤ 3) (ha : a.length ≤ 200) (hk : k (.sa (.one (bv true))) [doS a b c d]) :
    ∀ (rem i : Nat) (D : LkD) (row : List Int), i + rem = a.length → WF D i → Alone D C n row → row.length ≤ i → alH (rem + 560) M C n a b c d D row (i : Int) k := by
  intro rem
  induction rem with
  | zero =>
    intro i D row hi wf al hl
    unfold alH alK
    rw [show 0 + 560 = 500 + 60 from rfl, t_al1]
    exact Again.mk (brf (by omega) hk)
  | succ rem ih =>
    intro i D row hi wf al hl
    unfold alH alK
    rw [show rem + 1 + 560 = (rem + 501) + 60 by omega, t_al1]
    refine Again.mk (brt (by omega) (ndd (by omega) (ndd (by omega) (ndd (by omega) ?_))))
    rw [show rem + 501 + 50 = row.length + (rem + 491 - row.length) + 60 by omega]
    refine al_in C n a b c d D row _ _ _ _ _ _ _ _ (fun pl hp => ?_) (by omega) row.length 0 (-1) (by omega) (Or.inl ⟨rfl, by simp⟩)
    refine kB2 ?_
    rw [show rem + 501 + 52 = (rem + 493) + 60 by omega]
    refine al_body (i := i) (m := i) (L := rem + 493) (Q := rem + 501) hC (by omega) wf al (by omega) (by omega) hp (fun D' row' w' a' l' => ?_)
    rw [show rem + 501 + 59 = rem + 560 by omega]
    exact ih (i + 1) D' row' (by omega) w' a' (by omega)
theorem al_run (C n : Int) (a b c d : List Int) (k : SV → St → Prop) (hk : k (.sa (.one (bv true))) [doS a b c d]) : evCall cxAl (ev cxAl (a.length + 509 + 60)) 6 [.one (.raw (.int .u8 C)), .one (.raw (.int .i64 n)), .one (.ref 0)] [doS a b c d] k := by
  rw [t_al0]
  refine br (fun _ => hk) (fun h => br (fun _ => hk) (fun h1 => br (fun _ => hk) (fun h2 => ?_)))
  have h := of_decide_eq_false h
  have h1 := of_decide_eq_false h1
  have h2 := of_decide_eq_false h2
  have := al_loop (C := C) (n := n) (a := a) (b := b) (c := c) (d := d) (M := a.length + 509) (k := k) ⟨by omega, by omega⟩ (by omega) hk a.length 0 newD [] (by omega) WF.new (Alone.new C n) (by simp)
  exact this
theorem al_ex (C n : Int) (len : Nat) (a b c d : List Int) (h : a.length = len) (k : SV → St → Prop) (hT : ∀ st, k (.sa (.one (bv true))) st) :
    ∃ N, evCall cxAl (ev cxAl N) 6 [.one (.raw (.int .u8 C)), .one (.raw (.int .i64 n)), .one (.ref 0)] [some (.own false .ext 0 4 (.tab len [.ints .i64 a, .ints .i64 b, .ints .u8 c, .ints .i64 d]))] k := by
  subst h; exact ⟨_, al_run C n a b c d k (hT _)⟩
end Go.Ev
