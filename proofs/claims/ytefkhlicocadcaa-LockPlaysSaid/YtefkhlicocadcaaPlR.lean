/- LockPlays: the run. No conditions. -/
import Derived.Test.YtefkhlicocadcaaPlT
import Derived.Test.YtefkhlicocadcaaPlQ
import Derived.Test.YtefkhlicocadcaaLqS
import Derived.Test.YtefkhlicocadcaaKnS
set_option linter.unusedVariables false
set_option linter.unusedSimpArgs false
set_option maxHeartbeats 1000000
namespace Go.Ev
open Go Go.Proofs Go.Spec
attribute [local irreducible] ev evCall branch need again
theorem sumsP_ok : ∀ x ∈ sumsP, SumOk Try.prog x.1 x.2 := by
  intro x h
  simp only [sumsP, sumsW, List.mem_cons] at h
  rcases h with rfl | rfl | rfl | rfl | rfl | rfl | rfl | h
  · exact rt_sum
  · exact rg_sum
  · exact hol_sum
  · exact wai_sum
  · exact que_sum
  · exact hos_sum
  · exact known_sum
  · exact sumsL_ok x h
theorem cxPl_ok : CxOk Try.prog cxPl := mkCx_ok namesL mixedL sumsP_ok
theorem bF5 {b : Bool} {p q : Prop} (h : b = false) (h1 : q) : branch b p q := by subst h; unfold branch; exact h1
theorem bT5 {b : Bool} {p q : Prop} (h : b = true) (h1 : p) : branch b p q := by subst h; unfold branch; exact h1
theorem same_t {a b : Int} (h : a = b) : (!eqK a b) = false := by rw [Bool.not_eq_false', eqK_t]; exact h
theorem sameB {a b : Bool} (h : a = b) : (!(a == b)) = false := by subst h; cases a <;> rfl
def plK (M : Nat) (k : SV → St → Prop) : Exit → Fr → St → Prop := (kBlock 0 (kSeq (ev cxPl (M + 55) 1 3 (codeAt Try.prog 3 [1, 1, 1, 1, 1])) (kRet (Cx.P cxPl) [(ResultVar.tmp 2)] 1 k)))
def plH (N M : Nat) (a b c d : List Int) (D : LkD) (L : List Cm) (ck i : Int) (k : SV → St → Prop) : Prop := ev cxPl (N) 1 3 (codeAt Try.prog 3 [1, 1, 1, 1, 0, 1, 0]) (frm 178 [(3, (.sa (.one (SC.ref 1)))), (4, (.sa (.one (SC.ptr 2 0 0)))), (30, (.sa (.one (SC.ref 0)))), (31, (.sa (.one (iv .i64 ((a.length : Nat) : Int))))), (32, (.sa (.one (iv .i64 i))))]) [doS a b c d, (some (SO.abs true 0 (D))), obj 29 2 [SC.ref 3, iv .i64 (ck)], rfR true (L).length (qT (L)) (qC (L)) (qN (L)) (qS (L))] (plK M k)
theorem pl_in {a b c d : List Int} {D : LkD} {L : List Cm} {ck : Int} {i m : Nat} {kd t cc nn : Int} {M Q : Nat} {k : SV → St → Prop} (hi : i ≤ 500) (few : (D.hs t).length ≤ 3) (q : Nat) (H : plH (Q + 59) M a b c d D L ck ((i + 1 : Nat) : Int) k) :
    ∀ (rem j : Nat), j + rem = (D.hs t).length → ev cxPl (rem + q + 60) 1 3 (codeAt Try.prog 3 [1, 1, 1, 1, 0, 1, 0, 0, 1, 1, 0, 0, 1, 1, 1, 1, 1, 1, 1, 1, 1, 1, 0]) (frm 178 [(3, (.sa (.one (SC.ref 1)))), (4, (.sa (.one (SC.ptr 2 0 0)))), (6, (.sa (.one (SC.ptr 4 0 0)))), (19, (.sa (.one (SC.ref 5)))), (20, (.sa (.one (SC.ref 6)))), (30, (.sa (.one (SC.ref 0)))), (31, (.sa (.one (iv .i64 ((a.length : Nat) : Int))))), (32, (.sa (.one (iv .i64 (i : Int))))), (162, (.sa (.one (iv .i64 (((D.hs t).length : Nat) : Int))))), (163, (.sa (.one (iv .i64 (j : Int)))))]) [doS a b c d, (some (SO.abs true 0 (D))), obj 29 2 [SC.ref 3, iv .i64 (ck)], rfR true (L).length (qT (L)) (qC (L)) (qN (L)) (qS (L)), obj 33 4 [iv .i64 kd, iv .i64 t, iv .u8 cc, iv .i64 nn], lrow true (D.hs t).length (hsC D t) (hsN D t), some (.own true .row 38 2 (.tab (D.hs t).length [.ints .u8 (hsC D t), .ints .i64 (hsN D t)]))] (kBlock 3 (kBlock 1 (kSeq (ev cxPl (Q + 56) 1 3 (codeAt Try.prog 3 [1, 1, 1, 1, 0, 1, 0, 0, 1, 1, 1])) (kSeq (ev cxPl (Q + 59) 1 3 (codeAt Try.prog 3 [1, 1, 1, 1, 0, 1, 0])) (plK M k))))) := by
  intro rem
  have e3 : addK .i64 (i : Int) 1 = ((i + 1 : Nat) : Int) := by rw [add64 (by omega)]; omega
  unfold plK
  induction rem with
  | zero =>
    intro j hj
    rw [show 0 + q + 60 = q + 60 by omega, t_pl5, e3]
    exact Again.mk (brf (by omega) H)
  | succ rem ih =>
    intro j hj
    rw [show rem + 1 + q + 60 = (rem + 1 + q) + 60 by omega, t_pl5]
    have e1 : 0 + ((j : Nat) : Int).toNat = j := by omega
    have e2 : addK .i64 (j : Int) 1 = ((j + 1 : Nat) : Int) := by rw [add64 (by omega)]; omega
    rw [e1, e2]
    have := ih (j + 1) (by omega)
    rw [show rem + q + 60 = rem + 1 + q + 59 by omega] at this
    refine Again.mk (brt (by omega) (ndd (by omega) (ndd (by omega) (ndd (by omega) (ndd (by omega) (ndd (by omega) (ndd (by omega) (bF5 ?_ this))))))))
    rw [Bool.not_eq_false']
    simp [eqK_t]
theorem pl_24 {a b c d : List Int} {D : LkD} {L : List Cm} {ck : Int} {i m : Nat} {kd t cc nn : Int} {M Q : Nat} {k : SV → St → Prop} {N : Nat} (hN : 100 ≤ N) (hi : i ≤ 500) (hm : m ≤ 500) (h : Rel D L ck m) (H : plH (Q + 59) M a b c d D L ck ((i + 1 : Nat) : Int) k) :
    ev cxPl (N) 1 3 (codeAt Try.prog 3 [1, 1, 1, 1, 0, 1, 0, 0, 1, 1, 0, 0, 1, 1, 1, 1, 1, 1, 1, 0]) (frm 178 [(3, (.sa (.one (SC.ref 1)))), (4, (.sa (.one (SC.ptr 2 0 0)))), (6, (.sa (.one (SC.ptr 4 0 0)))), (30, (.sa (.one (SC.ref 0)))), (31, (.sa (.one (iv .i64 ((a.length : Nat) : Int))))), (32, (.sa (.one (iv .i64 (i : Int)))))]) [doS a b c d, (some (SO.abs true 0 (D))), obj 29 2 [SC.ref 3, iv .i64 (ck)], rfR true (L).length (qT (L)) (qC (L)) (qN (L)) (qS (L)), obj 33 4 [iv .i64 kd, iv .i64 t, iv .u8 cc, iv .i64 nn]] (kSeq (ev cxPl (N) 1 3 (codeAt Try.prog 3 [1, 1, 1, 1, 0, 1, 0, 0, 1, 1, 0, 0, 1, 1, 1, 1, 1, 1, 1, 1])) (kBlock 1 (kSeq (ev cxPl (Q + 56) 1 3 (codeAt Try.prog 3 [1, 1, 1, 1, 0, 1, 0, 0, 1, 1, 1])) (kSeq (ev cxPl (Q + 59) 1 3 (codeAt Try.prog 3 [1, 1, 1, 1, 0, 1, 0])) (plK M k))))) := by
  obtain ⟨R, rfl⟩ : ∃ R, N = R + 60 := ⟨N - 60, by omega⟩
  have few := h.wf.few t
  have hs := h.hs t
  have len := h.len
  have kb := h.kb
  unfold plK
  rw [t_pl4, zip_q]
  have n1 : holN L t ck = (D.hs t).length := by unfold holN; rw [hs]
  have n2 : holC L t ck = hsC D t := by unfold holC hsC; rw [hs]; rfl
  have n3 : holY L t ck = hsN D t := by unfold holY hsN; rw [hs]; rfl
  have ok : (even L.length (qT L) (qC L) (qN L) (qS L) && hoOk L t ck) = true := by
    rw [even_q (by omega)]
    refine decide_eq_true ⟨by omega, by omega, ?_⟩
    rw [← hs]; omega
  rw [n1, n2, n3]
  refine Again.mk (nd (h.wf.shortH t) (nd ok (bF5 (same_t rfl) ?_)))
  rw [show R + 57 = (D.hs t).length + (R - 3 - (D.hs t).length) + 60 by omega]
  exact pl_in (m := 0) (by omega) few _ H (D.hs t).length 0 (by omega)
theorem pl_18 {a b c d : List Int} {D : LkD} {L : List Cm} {ck : Int} {i m : Nat} {kd t cc nn : Int} {M Q : Nat} {k : SV → St → Prop} {N : Nat} (hN : 200 ≤ N) (hi : i ≤ 500) (hm : m ≤ 500) (h : Rel D L ck m) (H : plH (Q + 59) M a b c d D L ck ((i + 1 : Nat) : Int) k) :
    ev cxPl (N) 1 3 (codeAt Try.prog 3 [1, 1, 1, 1, 0, 1, 0, 0, 1, 1, 0, 0, 1, 1, 0]) (frm 178 [(3, (.sa (.one (SC.ref 1)))), (4, (.sa (.one (SC.ptr 2 0 0)))), (6, (.sa (.one (SC.ptr 4 0 0)))), (30, (.sa (.one (SC.ref 0)))), (31, (.sa (.one (iv .i64 ((a.length : Nat) : Int))))), (32, (.sa (.one (iv .i64 (i : Int)))))]) [doS a b c d, (some (SO.abs true 0 (D))), obj 29 2 [SC.ref 3, iv .i64 (ck)], rfR true (L).length (qT (L)) (qC (L)) (qN (L)) (qS (L)), obj 33 4 [iv .i64 kd, iv .i64 t, iv .u8 cc, iv .i64 nn]] (kSeq (ev cxPl (N) 1 3 (codeAt Try.prog 3 [1, 1, 1, 1, 0, 1, 0, 0, 1, 1, 0, 0, 1, 1, 1])) (kBlock 1 (kSeq (ev cxPl (Q + 56) 1 3 (codeAt Try.prog 3 [1, 1, 1, 1, 0, 1, 0, 0, 1, 1, 1])) (kSeq (ev cxPl (Q + 59) 1 3 (codeAt Try.prog 3 [1, 1, 1, 1, 0, 1, 0])) (plK M k))))) := by
  obtain ⟨R, rfl⟩ : ∃ R, N = R + 60 := ⟨N - 60, by omega⟩
  have next := pl_24 (kd := kd) (t := t) (cc := cc) (nn := nn) (N := R + 55) (by omega) hi hm h H
  have len := h.len
  have kb := h.kb
  unfold plK at next ⊢
  rw [t_pl3, zip_q]
  have ev := even_q (L := L) (by omega)
  have lq : (quL D cc nn).length ≤ m := h.wf.len (cc, nn)
  refine Again.mk (nd ev (nd ev (bF5 (same_t (h.hoV cc nn)) (bF5 (sameB (h.hoB cc nn)) (bF5 ?_ (bF5 (sameB (h.waB t)) (nd (h.wf.shortQ (by omega) cc nn) (nd ev (ndd (by omega) (ndd (by omega) (ndd ?_ (bF5 ?_ (nd h.wf.riseB next)))))))))))))
  · rw [h.waC, h.waN, Bool.not_eq_false']; simp [eqK_t]
  · rw [← h.quL]; simp only [List.length_take]; omega
  · rw [← h.quL, Bool.not_eq_false']; exact decide_eq_true rfl
theorem pl_9 {a b c d : List Int} {D : LkD} {L : List Cm} {ck : Int} {i m : Nat} {kd t cc nn : Int} {M Q : Nat} {k : SV → St → Prop} {N N2 : Nat} (hN : 60 ≤ N) (hN2 : 300 ≤ N2) (hi : i ≤ 300) (hm : m ≤ 300) (h : Rel D L ck m) (H : ∀ D L ck, Rel D L ck (m + 1) → plH (Q + 59) M a b c d D L ck ((i + 1 : Nat) : Int) k) :
    ev cxPl (N) 1 3 (codeAt Try.prog 3 [1, 1, 1, 1, 0, 1, 0, 0, 1, 1, 0, 0, 1, 0, 0]) (frm 178 [(3, (.sa (.one (SC.ref 1)))), (4, (.sa (.one (SC.ptr 2 0 0)))), (6, (.sa (.one (SC.ptr 4 0 0)))), (30, (.sa (.one (SC.ref 0)))), (31, (.sa (.one (iv .i64 ((a.length : Nat) : Int))))), (32, (.sa (.one (iv .i64 (i : Int)))))]) [doS a b c d, (some (SO.abs true 0 (D))), obj 29 2 [SC.ref 3, iv .i64 (ck)], rfR true (L).length (qT (L)) (qC (L)) (qN (L)) (qS (L)), obj 33 4 [iv .i64 kd, iv .i64 t, iv .u8 cc, iv .i64 nn]] (kSeq (ev cxPl (N) 1 3 (codeAt Try.prog 3 [1, 1, 1, 1, 0, 1, 0, 0, 1, 1, 0, 0, 1, 0, 1])) (kSeq (ev cxPl (N2) 1 3 (codeAt Try.prog 3 [1, 1, 1, 1, 0, 1, 0, 0, 1, 1, 0, 0, 1, 1])) (kBlock 1 (kSeq (ev cxPl (Q + 56) 1 3 (codeAt Try.prog 3 [1, 1, 1, 1, 0, 1, 0, 0, 1, 1, 1])) (kSeq (ev cxPl (Q + 59) 1 3 (codeAt Try.prog 3 [1, 1, 1, 1, 0, 1, 0])) (plK M k)))))) := by
  obtain ⟨P, rfl⟩ : ∃ P, N = P + 60 := ⟨N - 60, by omega⟩
  obtain ⟨R, rfl⟩ : ∃ R, N2 = R + 60 := ⟨N2 - 60, by omega⟩
  have next : ∀ D L ck, Rel D L ck (m + 1) → _ := fun D L ck h => pl_18 (kd := kd) (t := t) (cc := cc) (nn := nn) (N := R + 59) (a := a) (b := b) (c := c) (d := d) (i := i) (M := M) (Q := Q) (k := k) (by omega) (by omega) (by omega) h (H D L ck h)
  have len := h.len
  have kb := h.kb
  unfold plK at next ⊢
  rw [t_pl2, zip_q]
  have ev := even_q (L := L) (by omega)
  have ck0 : ckOk ck = true := decide_eq_true ⟨by omega, by omega⟩
  have few := h.wf.few t
  have ho : hoOk L t ck = true := decide_eq_true ⟨by omega, by omega, by rw [← h.hs]; omega⟩
  have eE := h.takeE t cc nn
  have eB := h.takeB t cc nn
  have gE := h.giveE t cc nn
  refine Again.mk (br (fun e => ?_) (fun e => br (fun e1 => ?_) (fun e1 => next D L ck (h.mono (by omega)))))
  · refine nd (h.wf.takeOk (by omega) _ _ _) (nd (by rw [ev, ck0, ho]; rfl) (br (fun e2 => ?_) (fun e2 => ?_)))
    · have e2 := of_decide_eq_true e2
      have e3 : takeE D t cc nn = 0 := by rw [eE]; exact e2
      exact bF5 (sameB eB) (bF5 (same_t e3) (next _ _ _ (h.take e3)))
    · have e2 := of_decide_eq_false e2
      have e3 : takeE D t cc nn ≠ 0 := by rw [eE]; exact e2
      have d1 : takeD D t cc nn = D := by unfold takeD; rw [if_neg e3]
      have b1 : takeB D t cc nn = false := by unfold takeB; rw [decide_eq_false e3]; rfl
      rw [d1]
      exact bF5 (by rw [b1]; rfl) (bF5 (same_t eE) (next _ _ _ (h.mono (by omega))))
  · refine nd (h.wf.giveOk (by omega) _ _ _) (nd (by rw [ev, ck0]; rfl) (br (fun e2 => ?_) (fun e2 => ?_)))
    · have e2 := of_decide_eq_true e2
      have e3 : giveE D t cc nn = 0 := by rw [gE]; exact e2
      exact bF5 (same_t e3) (next _ _ _ (h.give e3))
    · have e2 := of_decide_eq_false e2
      have e3 : giveE D t cc nn = 4 := by
        rw [gE]; unfold rgE at e2 ⊢
        by_cases h0 : holB L cc nn = true ∧ holV L cc nn = t
        · rw [if_pos h0] at e2; exact (e2 rfl).elim
        · rw [if_neg h0]
      have d1 : giveD D t cc nn = D := by
        unfold giveD
        rw [if_neg]
        intro h0
        unfold giveE at e3; rw [if_pos h0] at e3; cases e3
      rw [d1]
      exact bF5 (same_t e3) (next _ _ _ (h.mono (by omega)))
theorem pl_loop {a b c d : List Int} {M : Nat} {k : SV → St → Prop} (ha : a.length ≤ 200) (hk : k (.sa (.one (bv true))) [doS a b c d]) :
    ∀ (rem i : Nat) (D : LkD) (L : List Cm) (ck : Int), i + rem = a.length → Rel D L ck i → plH (rem + 460) M a b c d D L ck (i : Int) k := by
  intro rem
  induction rem with
  | zero =>
    intro i D L ck hi h
    unfold plH plK
    rw [show 0 + 460 = 400 + 60 from rfl, t_pl1]
    exact Again.mk (brf (by omega) hk)
  | succ rem ih =>
    intro i D L ck hi h
    unfold plH plK
    rw [show rem + 1 + 460 = (rem + 401) + 60 by omega, t_pl1]
    refine Again.mk (brt (by omega) (ndd (by omega) (ndd (by omega) (ndd (by omega) ?_))))
    refine pl_9 (m := i) (i := i) (by omega) (by omega) (by omega) (by omega) h (fun D' L' ck' h' => ?_)
    have := ih (i + 1) D' L' ck' (by omega) h'
    rw [show rem + 460 = rem + 401 + 59 by omega] at this
    exact this
theorem pl_ex (len : Nat) (a b c d : List Int) (h : a.length = len) (k : SV → St → Prop) (hT : ∀ st, k (.sa (.one (bv true))) st) :
    ∃ N, evCall cxPl (ev cxPl N) 3 [.one (.ref 0)] [some (.own false .ext 0 4 (.tab len [.ints .i64 a, .ints .i64 b, .ints .u8 c, .ints .i64 d]))] k := by
  subst h
  refine ⟨a.length + 407 + 60, ?_⟩
  show evCall cxPl (ev cxPl (a.length + 407 + 60)) 3 [.one (.ref 0)] [doS a b c d] k
  rw [t_pl0]
  refine br (fun _ => hT _) (fun h => ?_)
  have h := of_decide_eq_false h
  exact pl_loop (M := a.length + 407) (by omega) (hT _) a.length 0 newD [] 0 (by omega) Rel.new
end Go.Ev
