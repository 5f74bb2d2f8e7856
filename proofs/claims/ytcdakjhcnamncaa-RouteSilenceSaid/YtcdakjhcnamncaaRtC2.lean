/- RouteSilence: the loop over the calls, with 2 paths. No conditions. -/
import Derived.Test.YtcdakjhcnamncaaSiN2
import Derived.Test.YtcdakjhcnamncaaRtS2
set_option linter.unusedVariables false
set_option linter.unusedSimpArgs false
set_option maxRecDepth 100000
set_option maxHeartbeats 4000000
namespace Go.Ev
open Go Go.Proofs Go.Spec
attribute [local irreducible] ev evCall branch need again

attribute [local irreducible] eqK IntKind.wrap addK
theorem nbtS2 {c : Bool} {p q : Prop} (h : c = true) (hq : q) : branch (Bool.not c) p q := br (fun e => by rw [h] at e; cases e) (fun _ => hq)
theorem icase2 (I : Int) : I = 0 ∨ I = 1 ∨ (∃ m : Nat, I = Int.negSucc m) ∨ (∃ m : Nat, I = ((m + 2 : Nat) : Int)) := by
  cases I with
  | negSucc m => exact Or.inr (Or.inr (Or.inl ⟨m, rfl⟩))
  | ofNat i =>
    by_cases h : i < 2
    · have : i = 0 ∨ i = 1 := by omega
      rcases this with rfl | rfl
      · exact Or.inl rfl
      · exact Or.inr (Or.inl rfl)
    · exact Or.inr (Or.inr (Or.inr (⟨i - 2, by show ((i : Nat) : Int) = _; congr 1; omega⟩)))
theorem kcase2 (K : Int) (h : 0 ≤ K) : K = 0 ∨ K = 1 ∨ ∃ e : Nat, K = ((e + 2 : Nat) : Int) := by
  by_cases h0 : K = 0
  · exact Or.inl h0
  · by_cases h1 : K = 1
    · exact Or.inr (Or.inl h1)
    · exact Or.inr (Or.inr ⟨(K - 2).toNat, by omega⟩)
theorem si_loop2 (mtu ss sr rr mm ri rmin rmax it pt al beat life : Int) (n : Nat) (xs ys ks is : List Int) (c M : Nat) (k : SV → St → Prop) (hn : n ≤ 2000) (hks : ∀ j, 0 ≤ ks.getD j 0) (hT : ∀ st, k (.sa (.one (bv true))) st) :
    ∀ (rem idx : Nat) (h : idx + rem = n) (cnt prim f0 t0 m0 f1 t1 m1 : Int) (d0 d1 : Bool), ev cxSi (rem + c + 72) 3 3 (codeAt Try.prog 3 [1, 1, 1, 1, 1, 0, 1, 0]) (frm 94 [(4, (.sa (.one (SC.ptr 3 0 0)))), (9, (.sa (.one (SC.ptr 4 0 0)))), (11, (.sa (.one (iv .i64 cnt)))), (41, (.sa (.one (SC.ref 2)))), (42, (.sa (.one (iv .i64 ((n : Nat) : Int))))), (43, (.sa (.one (iv .i64 (idx : Int)))))]) [exO xs, exO ys, taO n ks is, cfO mtu ss sr rr mm ri rmin rmax it pt al beat life, obj 74 4 [.ref 5, iv .i64 prim, iv .i64 cnt, iv .i64 (IntKind.wrap .i64 al)], some (.own true .row 44 1 (.lst [[.ptr 6 0 0], [.ptr 9 0 0]])), paO f0 t0 7 8 pt m0 d0, tmO rmin rmax ri, wiO mtu, paO f1 t1 10 11 pt m1 d1, tmO rmin rmax ri, wiO mtu] (kBlock 0 (kSeq (ev cxSi (M + 74) 3 3 (codeAt Try.prog 3 [1, 1, 1, 1, 1, 1])) (kRet (Cx.P cxSi) [(ResultVar.tmp 8)] 3 k))) := by
  intro rem
  induction rem with
  | zero =>
    intro idx h cnt prim f0 t0 m0 f1 t1 m1 d0 d1
    rw [t_siA2]
    exact Again.mk (brf (by omega) (hT _))
  | succ rem ih =>
    intro idx h cnt prim f0 t0 m0 f1 t1 m1 d0 d1
    rw [show rem + 1 + c + 72 = (rem + 1 + c) + 72 from rfl, t_siA2]
    refine Again.mk (brt (by omega) (ndd (by omega) (ndd (by omega) (ndd (by omega) ?_))))
    have e2 : addK .i64 (idx : Int) 1 = ((idx + 1 : Nat) : Int) := by rw [add64 (by omega)]; omega
    have hK := hks (0 + Int.toNat (idx : Int))
    generalize ks.getD (0 + Int.toNat (idx : Int)) 0 = K at hK ⊢
    generalize is.getD (0 + Int.toNat (idx : Int)) 0 = I
    rcases kcase2 K hK with rfl | rfl | ⟨e, rfl⟩
    · rcases icase2 I with rfl | rfl | ⟨m, rfl⟩ | ⟨m, rfl⟩
      · rw [t_siB2_0_0 (m := 0) (e := 0), e2]
        refine Again.mk ?_
        repeat' first
          | refine nbtS2 (eqK_t.2 rfl) ?_
          | refine nbtS2 (beq_self_eq_true _) ?_
          | refine brt (Int.negSucc_lt_zero _) ?_
          | refine brt (by omega) ?_
          | exact evFuelR (ih (idx + 1) (by omega) _ _ _ _ _ _ _ _ _ _) (by omega)
      · rw [t_siB2_0_1 (m := 0) (e := 0), e2]
        refine Again.mk ?_
        repeat' first
          | refine nbtS2 (eqK_t.2 rfl) ?_
          | refine nbtS2 (beq_self_eq_true _) ?_
          | refine brt (Int.negSucc_lt_zero _) ?_
          | refine brt (by omega) ?_
          | exact evFuelR (ih (idx + 1) (by omega) _ _ _ _ _ _ _ _ _ _) (by omega)
      · rw [t_siB2_0_n (e := 0), e2]
        refine Again.mk ?_
        repeat' first
          | refine nbtS2 (eqK_t.2 rfl) ?_
          | refine nbtS2 (beq_self_eq_true _) ?_
          | refine brt (Int.negSucc_lt_zero _) ?_
          | refine brt (by omega) ?_
          | exact evFuelR (ih (idx + 1) (by omega) _ _ _ _ _ _ _ _ _ _) (by omega)
      · rw [t_siB2_0_p (e := 0), e2]
        refine Again.mk ?_
        repeat' first
          | refine nbtS2 (eqK_t.2 rfl) ?_
          | refine nbtS2 (beq_self_eq_true _) ?_
          | refine brt (Int.negSucc_lt_zero _) ?_
          | refine brt (by omega) ?_
          | exact evFuelR (ih (idx + 1) (by omega) _ _ _ _ _ _ _ _ _ _) (by omega)
    · rcases icase2 I with rfl | rfl | ⟨m, rfl⟩ | ⟨m, rfl⟩
      · rw [t_siB2_1_0 (m := 0) (e := 0), e2]
        refine Again.mk ?_
        repeat' first
          | refine nbtS2 (eqK_t.2 rfl) ?_
          | refine nbtS2 (beq_self_eq_true _) ?_
          | refine brt (Int.negSucc_lt_zero _) ?_
          | refine brt (by omega) ?_
          | exact evFuelR (ih (idx + 1) (by omega) _ _ _ _ _ _ _ _ _ _) (by omega)
      · rw [t_siB2_1_1 (m := 0) (e := 0), e2]
        refine Again.mk ?_
        repeat' first
          | refine nbtS2 (eqK_t.2 rfl) ?_
          | refine nbtS2 (beq_self_eq_true _) ?_
          | refine brt (Int.negSucc_lt_zero _) ?_
          | refine brt (by omega) ?_
          | exact evFuelR (ih (idx + 1) (by omega) _ _ _ _ _ _ _ _ _ _) (by omega)
      · rw [t_siB2_1_n (e := 0), e2]
        refine Again.mk ?_
        repeat' first
          | refine nbtS2 (eqK_t.2 rfl) ?_
          | refine nbtS2 (beq_self_eq_true _) ?_
          | refine brt (Int.negSucc_lt_zero _) ?_
          | refine brt (by omega) ?_
          | exact evFuelR (ih (idx + 1) (by omega) _ _ _ _ _ _ _ _ _ _) (by omega)
      · rw [t_siB2_1_p (e := 0), e2]
        refine Again.mk ?_
        repeat' first
          | refine nbtS2 (eqK_t.2 rfl) ?_
          | refine nbtS2 (beq_self_eq_true _) ?_
          | refine brt (Int.negSucc_lt_zero _) ?_
          | refine brt (by omega) ?_
          | exact evFuelR (ih (idx + 1) (by omega) _ _ _ _ _ _ _ _ _ _) (by omega)
    · rcases icase2 I with rfl | rfl | ⟨m, rfl⟩ | ⟨m, rfl⟩
      · rw [t_siB2_e_0 (m := 0), e2]
        refine Again.mk ?_
        repeat' first
          | refine nbtS2 (eqK_t.2 rfl) ?_
          | refine nbtS2 (beq_self_eq_true _) ?_
          | refine brt (Int.negSucc_lt_zero _) ?_
          | refine brt (by omega) ?_
          | exact evFuelR (ih (idx + 1) (by omega) _ _ _ _ _ _ _ _ _ _) (by omega)
      · rw [t_siB2_e_1 (m := 0), e2]
        refine Again.mk ?_
        repeat' first
          | refine nbtS2 (eqK_t.2 rfl) ?_
          | refine nbtS2 (beq_self_eq_true _) ?_
          | refine brt (Int.negSucc_lt_zero _) ?_
          | refine brt (by omega) ?_
          | exact evFuelR (ih (idx + 1) (by omega) _ _ _ _ _ _ _ _ _ _) (by omega)
      · rw [t_siB2_e_n, e2]
        refine Again.mk ?_
        repeat' first
          | refine nbtS2 (eqK_t.2 rfl) ?_
          | refine nbtS2 (beq_self_eq_true _) ?_
          | refine brt (Int.negSucc_lt_zero _) ?_
          | refine brt (by omega) ?_
          | exact evFuelR (ih (idx + 1) (by omega) _ _ _ _ _ _ _ _ _ _) (by omega)
      · rw [t_siB2_e_p, e2]
        refine Again.mk ?_
        repeat' first
          | refine nbtS2 (eqK_t.2 rfl) ?_
          | refine nbtS2 (beq_self_eq_true _) ?_
          | refine brt (Int.negSucc_lt_zero _) ?_
          | refine brt (by omega) ?_
          | exact evFuelR (ih (idx + 1) (by omega) _ _ _ _ _ _ _ _ _ _) (by omega)
end Go.Ev
