/- LockRing: the run. No conditions. -/
import Derived.Test.YtefkhlicocadcaaRnT
import Derived.Test.YtefkhlicocadcaaRnP
import Derived.Test.YtefkhlicocadcaaKnS
set_option linter.unusedVariables false
set_option linter.unusedSimpArgs false
set_option maxHeartbeats 1000000
namespace Go.Ev
open Go Go.Proofs Go.Spec
attribute [local irreducible] ev evCall branch need again
theorem sumsW_ok3 : ∀ x ∈ sumsW, SumOk Try.prog x.1 x.2 := by
  intro x h
  rcases List.mem_cons.1 h with rfl | h
  · exact known_sum
  · exact sumsL_ok x h
theorem cxRn_ok : CxOk Try.prog cxRn := mkCx_ok namesL mixedL sumsW_ok3
theorem bF3 {b : Bool} {p q : Prop} (h : b = false) (h1 : q) : branch b p q := by subst h; unfold branch; exact h1
theorem bT3 {b : Bool} {p q : Prop} (h : b = true) (h1 : p) : branch b p q := by subst h; unfold branch; exact h1
/-! out of a loop -/
theorem ko1 {X : Fr → St → (Exit → Fr → St → Prop) → Prop} {K : Exit → Fr → St → Prop} {fr : Fr} {st : St} {n : Nat} (h : X fr st K) : kBlock n (kSeq X K) (Exit.exit n) fr st := by
  unfold kBlock; simp only [Nat.beq_refl]; exact h
theorem ko2 {X : Fr → St → (Exit → Fr → St → Prop) → Prop} {K : Exit → Fr → St → Prop} {fr : Fr} {st : St} {n m : Nat} (h : X fr st K) : kBlock n (kBlock m (kSeq X K)) (Exit.exit n) fr st := by
  unfold kBlock; simp only [Nat.beq_refl]; exact h
theorem rn_own (a b c d : List Int) (n : Nat) (cs ns : List Int) (D : LkD) (m : Nat) (wf : WF D m) (i : Nat) (j C N : Int) (hw : D.wa j = some (C, N)) (Q q : Nat) (K : Exit → Fr → St → Prop)
    (hK : ev cxRn (Q + 59) 1 4 (codeAt Try.prog 4 [1, 1, 1, 1, 1, 0, 1, 0, 0, 1, 1, 0, 0, 1, 1, 1, 1, 0, 1, 0]) (frm 160 [(0, (.sa (.one (SC.ref 0)))), (3, (.sa (.one (SC.ref 1)))), (4, (.sa (.one (SC.ref 2)))), (30, (.sa (.one (SC.ref 0)))), (31, (.sa (.one (iv .i64 (((a.length : Nat)) : Int))))), (32, (.sa (.one (iv .i64 (i : Int))))), (64, (.sa (.one (iv .i64 (addK .i64 j 1)))))]) [doS a b c d, (some (SO.abs true 0 D)), lrow true n cs ns] K) :
    ∀ (rem h : Nat), h + rem = (D.hs j).length → ev cxRn (rem + q + 60) 1 4 (codeAt Try.prog 4 [1, 1, 1, 1, 1, 0, 1, 0, 0, 1, 1, 0, 0, 1, 1, 1, 1, 0, 1, 0, 0, 1, 1, 0, 0, 1, 1, 1, 1, 1, 1, 0]) (frm 160 [(0, (.sa (.one (SC.ref 0)))), (3, (.sa (.one (SC.ref 1)))), (4, (.sa (.one (SC.ref 2)))), (8, (.sa (.one (SC.ptr 3 0 0)))), (30, (.sa (.one (SC.ref 0)))), (31, (.sa (.one (iv .i64 (((a.length : Nat)) : Int))))), (32, (.sa (.one (iv .i64 (i : Int))))), (64, (.sa (.one (iv .i64 j)))), (90, (.sa (.one (SC.ref 4)))), (91, (.sa (.one (iv .i64 (((D.hs j).length : Nat) : Int))))), (92, (.sa (.one (iv .i64 (h : Int)))))]) [doS a b c d, (some (SO.abs true 0 D)), lrow true n cs ns, lbox true C N, lrow true (D.hs j).length (hsC D j) (hsN D j)] (kBlock 4 (kBlock 3 (kSeq (ev cxRn (Q + 56) 1 4 (codeAt Try.prog 4 [1, 1, 1, 1, 1, 0, 1, 0, 0, 1, 1, 0, 0, 1, 1, 1, 1, 0, 1, 0, 0, 1, 1, 1])) (kSeq (ev cxRn (Q + 59) 1 4 (codeAt Try.prog 4 [1, 1, 1, 1, 1, 0, 1, 0, 0, 1, 1, 0, 0, 1, 1, 1, 1, 0, 1, 0])) K)))) := by
  have few := wf.few j
  have up := (wf.up j _ hw).2
  intro rem
  induction rem with
  | zero =>
    intro h hh
    rw [show 0 + q + 60 = q + 60 by omega, t_rn4]
    obtain rfl : h = (D.hs j).length := by omega
    refine Again.mk (brf (by omega) (ko2 ?_))
    rw [t_rne (R := 0)]
    exact hK
  | succ rem ih =>
    intro h hh
    rw [show rem + 1 + q + 60 = (rem + 1 + q) + 60 by omega, t_rn4]
    have e1 : 0 + ((h : Nat) : Int).toNat = h := by omega
    have e2 : addK .i64 (h : Int) 1 = ((h + 1 : Nat) : Int) := by rw [add64 (by omega)]; omega
    rw [e1, e2]
    have hg := hs_get (D := D) (t := j) (show h < (D.hs j).length by omega)
    have hm : ((hsC D j).getD h 0, (hsN D j).getD h 0) ∈ D.hs j := by rw [hg]; exact List.getElem_mem _
    have hlt := up _ hm
    refine Again.mk (brt (by omega) (ndd (by omega) (ndd (by omega) (ndd (by omega) (brf (fun hge => by have : (hsC D j).getD h 0 < C := hlt; omega) ?_)))))
    have := ih (h + 1) (by omega)
    rw [show rem + q + 60 = rem + 1 + q + 59 by omega] at this
    exact this
theorem rn_tasks (a b c d : List Int) (n : Nat) (cs ns : List Int) (D : LkD) (m : Nat) (wf : WF D m) (i : Nat) (K : Exit → Fr → St → Prop)
    (hK : K (Exit.exit 2) (frm 160 [(0, (.sa (.one (SC.ref 0)))), (3, (.sa (.one (SC.ref 1)))), (4, (.sa (.one (SC.ref 2)))), (30, (.sa (.one (SC.ref 0)))), (31, (.sa (.one (iv .i64 (((a.length : Nat)) : Int))))), (32, (.sa (.one (iv .i64 (i : Int))))), (64, (.sa (.one (iv .i64 51)))), (65, (.sa (.one (bv false))))]) [doS a b c d, (some (SO.abs true 0 D)), lrow true n cs ns]) (q : Nat) :
    ∀ (rem j : Nat), j + rem = 51 → ev cxRn (rem + q + 90) 1 4 (codeAt Try.prog 4 [1, 1, 1, 1, 1, 0, 1, 0, 0, 1, 1, 0, 0, 1, 1, 1, 1, 0, 1, 0]) (frm 160 [(0, (.sa (.one (SC.ref 0)))), (3, (.sa (.one (SC.ref 1)))), (4, (.sa (.one (SC.ref 2)))), (30, (.sa (.one (SC.ref 0)))), (31, (.sa (.one (iv .i64 (((a.length : Nat)) : Int))))), (32, (.sa (.one (iv .i64 (i : Int))))), (64, (.sa (.one (iv .i64 (j : Int)))))]) [doS a b c d, (some (SO.abs true 0 D)), lrow true n cs ns] K := by
  intro rem
  induction rem with
  | zero =>
    intro j hj
    rw [show 0 + q + 90 = (q + 30) + 60 by omega, t_rn3]
    obtain rfl : j = 51 := by omega
    exact Again.mk (brf (by decide) hK)
  | succ rem ih =>
    intro j hj
    rw [show rem + 1 + q + 90 = (rem + q + 31) + 60 by omega, t_rn3]
    have e2 : addK .i64 (j : Int) 1 = ((j + 1 : Nat) : Int) := by rw [add64 (by omega)]; omega
    have next := ih (j + 1) (by omega)
    rw [show rem + q + 90 = rem + q + 31 + 59 by omega, ← e2] at next
    refine Again.mk (brt (by omega) (br (fun e => next) (fun e => ?_)))
    rw [Bool.not_eq_false'] at e
    obtain ⟨l, hw⟩ : ∃ l, D.wa (j : Int) = some l := Option.isSome_iff_exists.1 e
    have hwc : waC D (j : Int) = l.1 := by unfold waC; rw [hw]; rfl
    have hwn : waN D (j : Int) = l.2 := by unfold waN; rw [hw]; rfl
    have hw' : D.wa (j : Int) = some (waC D (j : Int), waN D (j : Int)) := by rw [hwc, hwn, hw]
    obtain ⟨_, y, hy, _⟩ := wf.rise _ _ hw'
    have hne : y ≠ (j : Int) := by
      intro e0
      subst e0
      have := (wf.up _ _ hw').2 _ ((wf.held _ _).1 hy)
      omega
    refine bF3 ?_ (bF3 ?_ (nd (wf.shortH _) ?_))
    · unfold hoB; rw [hy]; rfl
    · rw [eqK_f]; unfold hoV; rw [hy]; exact hne
    · have few := wf.few (j : Int)
      rw [show rem + q + 31 + 48 = (D.hs (j : Int)).length + (rem + q + 19 - (D.hs (j : Int)).length) + 60 by omega]
      exact rn_own a b c d n cs ns D m wf i (j : Int) _ _ hw' _ _ K next (D.hs (j : Int)).length 0 (by omega)
theorem rn_call {a b c d : List Int} {M : Nat} {k : SV → St → Prop} (hl : a.length ≤ 200) (hr : ∀ st, k (.sa (.one (bv true))) st)
    (hK : ∀ D n cs ns, WF D a.length → In50 D → Mz D ≤ a.length → n ≤ 200 → ev cxRn (M + 52) 1 4 (codeAt Try.prog 4 [1, 1, 1, 1, 1, 1, 0, 0]) (frm 160 [(0, (.sa (.one (SC.ref 0)))), (3, (.sa (.one (SC.ref 1)))), (4, (.sa (.one (SC.ref 2))))]) [doS a b c d, (some (SO.abs true 0 D)), lrow true n cs ns] (kSeq (ev cxRn (M + 52) 1 4 (codeAt Try.prog 4 [1, 1, 1, 1, 1, 1, 0, 1])) (kSeq (ev cxRn (M + 53) 1 4 (codeAt Try.prog 4 [1, 1, 1, 1, 1, 1, 1])) (kRet (Cx.P cxRn) [(ResultVar.tmp 2)] 1 k)))) :
    ∀ (rem i : Nat) (D : LkD) (n : Nat) (cs ns : List Int), i + rem = a.length → WF D i → In50 D → Mz D ≤ i → n ≤ i → ev cxRn (rem + 360) 1 4 (codeAt Try.prog 4 [1, 1, 1, 1, 1, 0, 1, 0]) (frm 160 [(0, (.sa (.one (SC.ref 0)))), (3, (.sa (.one (SC.ref 1)))), (4, (.sa (.one (SC.ref 2)))), (30, (.sa (.one (SC.ref 0)))), (31, (.sa (.one (iv .i64 (((a.length : Nat)) : Int))))), (32, (.sa (.one (iv .i64 (i : Int)))))]) [doS a b c d, (some (SO.abs true 0 D)), lrow true n cs ns] (kBlock 0 (kSeq (ev cxRn (M + 54) 1 4 (codeAt Try.prog 4 [1, 1, 1, 1, 1, 1])) (kRet (Cx.P cxRn) [(ResultVar.tmp 2)] 1 k))) := by
  intro rem
  induction rem with
  | zero =>
    intro i D n cs ns hi wf h5 hz hn
    rw [show 0 + 360 = 300 + 60 by rfl, t_rn1]
    obtain rfl : i = a.length := by omega
    exact Again.mk (brf (by omega) (hK D n cs ns wf h5 hz (by omega)))
  | succ rem ih =>
    intro i D n cs ns hi wf h5 hz hn
    rw [show rem + 1 + 360 = (rem + 301) + 60 by omega, t_rn1]
    have e1 : 0 + ((i : Nat) : Int).toNat = i := by omega
    have e2 : addK .i64 (i : Int) 1 = ((i + 1 : Nat) : Int) := by rw [add64 (by omega)]; omega
    rw [e1]
    have leaf : ∀ D' cs' ns', WF D' (i + 1) → In50 D' → Mz D' ≤ i + 1 → ev cxRn (rem + 301 + 49) 1 4 (codeAt Try.prog 4 [1, 1, 1, 1, 1, 0, 1, 0, 0, 1, 1, 0, 0, 1, 1, 1, 1, 0, 0]) (frm 160 [(0, (.sa (.one (SC.ref 0)))), (3, (.sa (.one (SC.ref 1)))), (4, (.sa (.one (SC.ref 2)))), (30, (.sa (.one (SC.ref 0)))), (31, (.sa (.one (iv .i64 (((a.length : Nat)) : Int))))), (32, (.sa (.one (iv .i64 (i : Int)))))]) [doS a b c d, (some (SO.abs true 0 D')), lrow true (n + 1) cs' ns'] (kSeq (ev cxRn (rem + 301 + 49) 1 4 (codeAt Try.prog 4 [1, 1, 1, 1, 1, 0, 1, 0, 0, 1, 1, 0, 0, 1, 1, 1, 1, 0, 1])) (kSeq (ev cxRn (rem + 301 + 50) 1 4 (codeAt Try.prog 4 [1, 1, 1, 1, 1, 0, 1, 0, 0, 1, 1, 0, 0, 1, 1, 1, 1, 1])) (kBlock 1 (kSeq (ev cxRn (rem + 301 + 56) 1 4 (codeAt Try.prog 4 [1, 1, 1, 1, 1, 0, 1, 0, 0, 1, 1, 1])) (kSeq (ev cxRn (rem + 301 + 59) 1 4 (codeAt Try.prog 4 [1, 1, 1, 1, 1, 0, 1, 0])) (kBlock 0 (kSeq (ev cxRn (M + 54) 1 4 (codeAt Try.prog 4 [1, 1, 1, 1, 1, 1])) (kRet (Cx.P cxRn) [(ResultVar.tmp 2)] 1 k)))))))) := by
      intro D' cs' ns' w' h' z'
      rw [show rem + 301 + 49 = (rem + 290) + 60 by omega, t_rn2 (Q := 0)]
      refine Again.mk ?_
      rw [show rem + 290 + 59 = 51 + (rem + 208) + 90 by omega]
      refine rn_tasks a b c d (n + 1) cs' ns' D' (i + 1) w' i _ (ko1 ?_) _ 51 0 (by omega)
      rw [show rem + 301 + 50 = (rem + 291) + 60 by omega, t_rn5 (R := 0), e2]
      refine Again.mk (nd w'.riseB ?_)
      rw [show rem + 301 + 59 = rem + 360 by omega]
      exact ih (i + 1) D' (n + 1) cs' ns' (by omega) w' h' z' (by omega)
    refine Again.mk (brt (by omega) (ndd (by omega) (ndd (by omega) (ndd (by omega) (br (fun _ => hr _) (fun e3 => br (fun _ => hr _) (fun e4 => ndd (by omega) (br (fun e => ?_) (fun e => ?_)))))))))
    all_goals
      have e3 := of_decide_eq_false e3
      have e4 := of_decide_eq_false e4
    · exact nd (wf.takeOk (by omega) _ _ _) (leaf _ _ _ (wf.take _ _ _) (h5.take ⟨by omega, by omega⟩ _ _) (Nat.le_trans (Mz.take ⟨by omega, by omega⟩ _ _) (by omega)))
    · refine nd (wf.giveOk (by omega) _ _ _) (leaf _ _ _ ((wf.give _ _ _).mono (by omega)) (h5.give wf _ _ _) ?_)
      by_cases ho : D.ho (c.getD i 0, d.getD i 0) = some (b.getD i 0)
      · have := Mz.give wf h5 ho; omega
      · unfold giveD; rw [if_neg ho]; omega
theorem rn_give (a b c d : List Int) (n : Nat) (cs ns : List Int) (rl r : Int) (M0 m : Nat) (hm : m ≤ 1000) (j : Int) (xs ys : List Int) (hl Q q : Nat) (h3 : hl ≤ 3) (lx : xs.length = hl) (ly : ys.length = hl) (inc : ∀ p p', p < p' → p' < hl → xs.getD p 0 < xs.getD p' 0) (K : Exit → Fr → St → Prop)
    (hK : ∀ g D, Rd M0 m (j + 1) g D → ev cxRn (Q + 59) 1 4 (codeAt Try.prog 4 [1, 1, 1, 1, 1, 1, 0, 1, 0, 0, 1, 1, 0, 0, 1, 0, 1, 0]) (frm 160 [(0, (.sa (.one (SC.ref 0)))), (3, (.sa (.one (SC.ref 1)))), (4, (.sa (.one (SC.ref 2)))), (14, (.sa (.one (bv g)))), (108, (.sa (.one (iv .i64 rl)))), (109, (.sa (.one (iv .i64 r)))), (111, (.sa (.one (iv .i64 (addK .i64 j 1)))))]) [doS a b c d, (some (SO.abs true 0 D)), lrow true n cs ns] K) :
    ∀ (rem h : Nat) (g : Bool) (D : LkD), h + rem = hl → Rd M0 m j g D → (g = false → h = 0 ∧ (D.hs j).length = hl) → (∀ p, h ≤ p → p < hl → (xs.getD p 0, ys.getD p 0) ∈ D.hs j) → ev cxRn (rem + q + 60) 1 4 (codeAt Try.prog 4 [1, 1, 1, 1, 1, 1, 0, 1, 0, 0, 1, 1, 0, 0, 1, 0, 1, 0, 0, 1, 1, 0, 0, 1, 1, 1, 0]) (frm 160 [(0, (.sa (.one (SC.ref 0)))), (3, (.sa (.one (SC.ref 1)))), (4, (.sa (.one (SC.ref 2)))), (14, (.sa (.one (bv g)))), (15, (.sa (.one (iv .i64 j)))), (108, (.sa (.one (iv .i64 rl)))), (109, (.sa (.one (iv .i64 r)))), (111, (.sa (.one (iv .i64 j)))), (123, (.sa (.one (SC.ref 3)))), (124, (.sa (.one (iv .i64 ((hl : Nat) : Int))))), (125, (.sa (.one (iv .i64 (h : Int)))))]) [doS a b c d, (some (SO.abs true 0 D)), lrow true n cs ns, lrow true hl xs ys] (kBlock 10 (kBlock 9 (kSeq (ev cxRn (Q + 56) 1 4 (codeAt Try.prog 4 [1, 1, 1, 1, 1, 1, 0, 1, 0, 0, 1, 1, 0, 0, 1, 0, 1, 0, 0, 1, 1, 1])) (kSeq (ev cxRn (Q + 59) 1 4 (codeAt Try.prog 4 [1, 1, 1, 1, 1, 1, 0, 1, 0, 0, 1, 1, 0, 0, 1, 0, 1, 0])) K)))) := by
  intro rem
  induction rem with
  | zero =>
    intro h g D hh rdg h0 hin
    rw [show 0 + q + 60 = q + 60 by omega, t_rn9]
    obtain rfl : h = hl := by omega
    refine Again.mk (brf (by omega) (ko2 ?_))
    rw [t_rnf (R := 0)]
    refine hK g D (rdg.end fun e => ?_)
    obtain ⟨z1, z2⟩ := h0 e
    exact List.length_eq_zero_iff.1 (by omega)
  | succ rem ih =>
    intro h g D hh rdg h0 hin
    rw [show rem + 1 + q + 60 = (rem + 1 + q) + 60 by omega, t_rn9]
    have e1 : 0 + ((h : Nat) : Int).toNat = h := by omega
    have e2 : addK .i64 (h : Int) 1 = ((h + 1 : Nat) : Int) := by rw [add64 (by omega)]; omega
    rw [e1, e2]
    have ho : D.ho (xs.getD h 0, ys.getD h 0) = some j := (rdg.wf.held _ _).2 (hin h (by omega) (by omega))
    have hE : giveE D j (xs.getD h 0) (ys.getD h 0) = 0 := by unfold giveE; rw [if_pos ho]
    rw [hE]
    refine Again.mk (brt (by omega) (ndd (by omega) (ndd (by omega) (ndd (by omega) (nd (rdg.wf.giveOk (by omega) _ _ _) (bF3 (by decide) ?_))))))
    have := ih (h + 1) true (giveD D j (xs.getD h 0) (ys.getD h 0)) (by omega) (rdg.give ho) (fun e => by cases e) (fun p hp hpl => give_keep (hin p (by omega) hpl) (fun e => by
      have := inc h p (by omega) hpl
      have := congrArg Prod.fst e
      simp only at this
      omega))
    rw [show rem + q + 60 = rem + 1 + q + 59 by omega] at this
    exact this
theorem rn_round (a b c d : List Int) (n : Nat) (cs ns : List Int) (rl r : Int) (M0 m : Nat) (hm : m ≤ 1000) (K : Exit → Fr → St → Prop)
    (hK : ∀ g D, Rd M0 m 51 g D → K (Exit.exit 8) (frm 160 [(0, (.sa (.one (SC.ref 0)))), (3, (.sa (.one (SC.ref 1)))), (4, (.sa (.one (SC.ref 2)))), (14, (.sa (.one (bv g)))), (108, (.sa (.one (iv .i64 rl)))), (109, (.sa (.one (iv .i64 r)))), (111, (.sa (.one (iv .i64 51)))), (112, (.sa (.one (bv false))))]) [doS a b c d, (some (SO.abs true 0 D)), lrow true n cs ns]) (q : Nat) :
    ∀ (rem j : Nat) (g : Bool) (D : LkD), j + rem = 51 → Rd M0 m (j : Int) g D → ev cxRn (rem + q + 90) 1 4 (codeAt Try.prog 4 [1, 1, 1, 1, 1, 1, 0, 1, 0, 0, 1, 1, 0, 0, 1, 0, 1, 0]) (frm 160 [(0, (.sa (.one (SC.ref 0)))), (3, (.sa (.one (SC.ref 1)))), (4, (.sa (.one (SC.ref 2)))), (14, (.sa (.one (bv g)))), (108, (.sa (.one (iv .i64 rl)))), (109, (.sa (.one (iv .i64 r)))), (111, (.sa (.one (iv .i64 (j : Int)))))]) [doS a b c d, (some (SO.abs true 0 D)), lrow true n cs ns] K := by
  intro rem
  induction rem with
  | zero =>
    intro j g D hj rdg
    rw [show 0 + q + 90 = (q + 30) + 60 by omega, t_rn8]
    obtain rfl : j = 51 := by omega
    exact Again.mk (brf (by decide) (hK g D rdg))
  | succ rem ih =>
    intro j g D hj rdg
    rw [show rem + 1 + q + 90 = (rem + q + 31) + 60 by omega, t_rn8]
    have e2 : addK .i64 (j : Int) 1 = ((j + 1 : Nat) : Int) := by rw [add64 (by omega)]; omega
    have e3 : ((j + 1 : Nat) : Int) = (j : Int) + 1 := by omega
    have next : ∀ g D, Rd M0 m ((j : Int) + 1) g D → _ := fun g D rdg => ih (j + 1) g D (by omega) (e3 ▸ rdg)
    rw [show rem + q + 90 = rem + q + 31 + 59 by omega, ← e2] at next
    refine Again.mk (brt (by omega) (br (fun e => ?_) (fun e => ?_)))
    · refine next g D (rdg.skip fun hn => ?_)
      unfold waB at e; rw [hn] at e; cases e
    · have few := rdg.wf.few (j : Int)
      refine nd (rdg.wf.shortH _) ?_
      rw [show rem + q + 31 + 51 = (D.hs (j : Int)).length + (rem + q + 22 - (D.hs (j : Int)).length) + 60 by omega]
      refine rn_give a b c d n cs ns rl r M0 m hm (j : Int) (hsC D j) (hsN D j) (D.hs j).length _ _ few (by simp [hsC]) (by simp [hsN]) (fun p p' hp hp' => ?_) K next (D.hs (j : Int)).length 0 g D (by omega) rdg (fun _ => ⟨rfl, rfl⟩) (fun p _ hp => ?_)
      · have g1 := congrArg Prod.fst (hs_get (D := D) (t := (j : Int)) (show p < (D.hs (j : Int)).length by omega))
        have g2 := congrArg Prod.fst (hs_get (D := D) (t := (j : Int)) hp')
        simp only at g1 g2
        rw [g1, g2]
        exact List.pairwise_iff_getElem.1 (rdg.wf.sort (j : Int)) p p' (by omega) hp' hp
      · rw [hs_get hp]; exact List.getElem_mem hp
theorem rn_rounds {a b c d : List Int} {n : Nat} {cs ns : List Int} (len m : Nat) (hlen : len ≤ 200) (hm : m ≤ 1000) (K : Exit → Fr → St → Prop)
    (hK : ∀ rl r D, WF D m → (∀ l, D.ho l = none) → K (Exit.exit 6) (frm 160 [(0, (.sa (.one (SC.ref 0)))), (3, (.sa (.one (SC.ref 1)))), (4, (.sa (.one (SC.ref 2)))), (14, (.sa (.one (bv false)))), (108, (.sa (.one (iv .i64 rl)))), (109, (.sa (.one (iv .i64 r)))), (136, (.sa (.one (bv false)))), (137, (.sa (.one (bv true))))]) [doS a b c d, (some (SO.abs true 0 D)), lrow true n cs ns]) :
    ∀ (rem r : Nat) (D : LkD), r + rem = len + 1 → WF D m → In50 D → Mz D + r ≤ len → ev cxRn (rem + 358) 1 4 (codeAt Try.prog 4 [1, 1, 1, 1, 1, 1, 0, 1, 0]) (frm 160 [(0, (.sa (.one (SC.ref 0)))), (3, (.sa (.one (SC.ref 1)))), (4, (.sa (.one (SC.ref 2)))), (108, (.sa (.one (iv .i64 ((len + 1 : Nat) : Int))))), (109, (.sa (.one (iv .i64 (r : Int)))))]) [doS a b c d, (some (SO.abs true 0 D)), lrow true n cs ns] K := by
  intro rem
  induction rem with
  | zero => intro r D hr wf h5 hz; omega
  | succ rem ih =>
    intro r D hr wf h5 hz
    rw [show rem + 1 + 358 = (rem + 299) + 60 by omega, t_rn7]
    refine Again.mk (brt (by omega) ?_)
    rw [show rem + 299 + 51 = 51 + (rem + 209) + 90 by omega]
    refine rn_round a b c d n cs ns _ _ (Mz D) m hm _ (fun g D' rdg => ko1 ?_) _ 51 0 false D (by omega) ⟨wf, h5, by show _ + 0 ≤ _; omega, fun _ t h0 h1 => by omega⟩
    have e2 : addK .i64 (r : Int) 1 = ((r + 1 : Nat) : Int) := by rw [add64 (by omega)]; omega
    rw [show rem + 299 + 53 = (rem + 292) + 60 by omega, t_rna (R := 0), e2]
    cases g with
    | false => exact Again.mk (bT3 rfl (hK _ _ D' rdg.wf (none_held rdg.wf rdg.h5 (rdg.no rfl))))
    | true =>
      refine Again.mk (bF3 rfl ?_)
      rw [show rem + 299 + 59 = rem + 358 by omega]
      have mz : Mz D' + 1 ≤ Mz D := rdg.mz
      exact ih (r + 1) D' (by omega) rdg.wf rdg.h5 (by omega)
theorem rn_last {a b c d : List Int} {D : LkD} {n m : Nat} {cs ns : List Int} (wf : WF D m) (hm : m ≤ 1000) (hn : n ≤ 200) (no : ∀ l, D.ho l = none) (K : Exit → Fr → St → Prop)
    (hK : K (Exit.exit 12) (frm 160 [(0, (.sa (.one (SC.ref 0)))), (3, (.sa (.one (SC.ref 1)))), (139, (.sa (.one (SC.ref 2)))), (140, (.sa (.one (iv .i64 ((n : Nat) : Int))))), (141, (.sa (.one (iv .i64 ((n : Nat) : Int))))), (142, (.sa (.one (bv false))))]) [doS a b c d, (some (SO.abs true 0 D)), lrow true n cs ns]) (q : Nat) :
    ∀ (rem r : Nat), r + rem = n → ev cxRn (rem + q + 60) 1 4 (codeAt Try.prog 4 [1, 1, 1, 1, 1, 1, 1, 0, 1, 0]) (frm 160 [(0, (.sa (.one (SC.ref 0)))), (3, (.sa (.one (SC.ref 1)))), (139, (.sa (.one (SC.ref 2)))), (140, (.sa (.one (iv .i64 ((n : Nat) : Int))))), (141, (.sa (.one (iv .i64 (r : Int)))))]) [doS a b c d, (some (SO.abs true 0 D)), lrow true n cs ns] K := by
  intro rem
  induction rem with
  | zero =>
    intro r hr
    rw [show 0 + q + 60 = q + 60 by omega, t_rnc]
    obtain rfl : r = n := by omega
    exact Again.mk (brf (by omega) hK)
  | succ rem ih =>
    intro r hr
    rw [show rem + 1 + q + 60 = (rem + 1 + q) + 60 by omega, t_rnc]
    have e1 : 0 + ((r : Nat) : Int).toNat = r := by omega
    have e2 : addK .i64 (r : Int) 1 = ((r + 1 : Nat) : Int) := by rw [add64 (by omega)]; omega
    rw [e1, e2]
    refine Again.mk (brt (by omega) (ndd (by omega) (ndd (by omega) (ndd (by omega) (bF3 ?_ (nd (wf.shortQ (by omega) _ _) (brf ?_ ?_)))))))
    · unfold hoB; rw [no]; rfl
    · unfold quL; rw [wf.idle _ (no _)]; decide
    · have := ih (r + 1) (by omega)
      rw [show rem + q + 60 = rem + 1 + q + 59 by omega] at this
      exact this
theorem rn_ex (len : Nat) (a b c d : List Int) (h : a.length = len) (k : SV → St → Prop) (hT : ∀ st, k (.sa (.one (bv true))) st) :
    ∃ N, evCall cxRn (ev cxRn N) 4 [.one (.ref 0)] [some (.own false .ext 0 4 (.tab len [.ints .i64 a, .ints .i64 b, .ints .u8 c, .ints .i64 d]))] k := by
  subst h
  refine ⟨a.length + 308 + 60, ?_⟩
  show evCall cxRn (ev cxRn (a.length + 308 + 60)) 4 [.one (.ref 0)] [doS a b c d] k
  rw [t_rn0]
  refine br (fun _ => hT _) (fun h => ?_)
  have h := of_decide_eq_false h
  rw [show a.length + 308 + 52 = a.length + 360 by omega]
  refine rn_call (by omega) hT (fun D n cs ns wf h5 hz hn => ?_) a.length 0 newD 0 [] [] (by omega) WF.new In50.new (by rw [Mz.new]; exact Nat.le_refl _) (Nat.le_refl _)
  have e2 : addK .i64 ((a.length : Nat) : Int) 1 = ((a.length + 1 : Nat) : Int) := by rw [add64 (by omega)]; omega
  rw [show a.length + 308 + 52 = (a.length + 300) + 60 by omega, t_rn6, e2]
  refine Again.mk ?_
  rw [show a.length + 300 + 59 = (a.length + 1) + 358 by omega]
  refine rn_rounds a.length a.length (by omega) (by omega) _ (fun rl r D' wf' no => ko1 ?_) (a.length + 1) 0 D (by omega) wf h5 (by omega)
  rw [show a.length + 308 + 53 = (a.length + 301) + 60 by omega, t_rnb]
  refine Again.mk ?_
  rw [show a.length + 301 + 57 = n + (a.length + 298 - n) + 60 by omega]
  refine rn_last wf' (by omega) hn no _ (ko1 ?_) _ n 0 (by omega)
  rw [show a.length + 301 + 59 = (a.length + 300) + 60 by omega, t_rnd]
  exact hT _
end Go.Ev
