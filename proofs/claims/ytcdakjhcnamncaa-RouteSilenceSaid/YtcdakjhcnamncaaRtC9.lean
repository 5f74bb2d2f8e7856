/- RouteSilence: the loop over the calls, with 9 paths. No conditions. -/
import Derived.Test.YtcdakjhcnamncaaSiN9
import Derived.Test.YtcdakjhcnamncaaSiO9
import Derived.Test.YtcdakjhcnamncaaRtS2
set_option linter.unusedVariables false
set_option linter.unusedSimpArgs false
set_option maxRecDepth 100000
set_option maxHeartbeats 4000000
namespace Go.Ev
open Go Go.Proofs Go.Spec
attribute [local irreducible] ev evCall branch need again

attribute [local irreducible] eqK IntKind.wrap addK
theorem nbtS9 {c : Bool} {p q : Prop} (h : c = true) (hq : q) : branch (Bool.not c) p q := br (fun e => by rw [h] at e; cases e) (fun _ => hq)
theorem icase9 (I : Int) : I = 0 ∨ I = 1 ∨ I = 2 ∨ I = 3 ∨ I = 4 ∨ I = 5 ∨ I = 6 ∨ I = 7 ∨ I = 8 ∨ (∃ m : Nat, I = Int.negSucc m) ∨ (∃ m : Nat, I = ((m + 9 : Nat) : Int)) := by
  cases I with
  | negSucc m => exact Or.inr (Or.inr (Or.inr (Or.inr (Or.inr (Or.inr (Or.inr (Or.inr (Or.inr (Or.inl ⟨m, rfl⟩)))))))))
  | ofNat i =>
    by_cases h : i < 9
    · have : i = 0 ∨ i = 1 ∨ i = 2 ∨ i = 3 ∨ i = 4 ∨ i = 5 ∨ i = 6 ∨ i = 7 ∨ i = 8 := by omega
      rcases this with rfl | rfl | rfl | rfl | rfl | rfl | rfl | rfl | rfl
      · exact Or.inl rfl
      · exact Or.inr (Or.inl rfl)
      · exact Or.inr (Or.inr (Or.inl rfl))
      · exact Or.inr (Or.inr (Or.inr (Or.inl rfl)))
      · exact Or.inr (Or.inr (Or.inr (Or.inr (Or.inl rfl))))
      · exact Or.inr (Or.inr (Or.inr (Or.inr (Or.inr (Or.inl rfl)))))
      · exact Or.inr (Or.inr (Or.inr (Or.inr (Or.inr (Or.inr (Or.inl rfl))))))
      · exact Or.inr (Or.inr (Or.inr (Or.inr (Or.inr (Or.inr (Or.inr (Or.inl rfl)))))))
      · exact Or.inr (Or.inr (Or.inr (Or.inr (Or.inr (Or.inr (Or.inr (Or.inr (Or.inl rfl))))))))
    · exact Or.inr (Or.inr (Or.inr (Or.inr (Or.inr (Or.inr (Or.inr (Or.inr (Or.inr (Or.inr (⟨i - 9, by show ((i : Nat) : Int) = _; congr 1; omega⟩))))))))))
theorem kcase9 (K : Int) (h : 0 ≤ K) : K = 0 ∨ K = 1 ∨ ∃ e : Nat, K = ((e + 2 : Nat) : Int) := by
  by_cases h0 : K = 0
  · exact Or.inl h0
  · by_cases h1 : K = 1
    · exact Or.inr (Or.inl h1)
    · exact Or.inr (Or.inr ⟨(K - 2).toNat, by omega⟩)
theorem si_loop9 (mtu ss sr rr mm ri rmin rmax it pt al beat life : Int) (n : Nat) (xs ys ks is : List Int) (c M : Nat) (k : SV → St → Prop) (hn : n ≤ 2000) (hks : ∀ j, 0 ≤ ks.getD j 0) (hT : ∀ st, k (.sa (.one (bv true))) st) :
    ∀ (rem idx : Nat) (h : idx + rem = n) (cnt prim f0 t0 m0 f1 t1 m1 f2 t2 m2 f3 t3 m3 f4 t4 m4 f5 t5 m5 f6 t6 m6 f7 t7 m7 f8 t8 m8 : Int) (d0 d1 d2 d3 d4 d5 d6 d7 d8 : Bool), ev cxSi (rem + c + 72) 3 3 (codeAt Try.prog 3 [1, 1, 1, 1, 1, 0, 1, 0]) (frm 94 [(4, (.sa (.one (SC.ptr 3 0 0)))), (9, (.sa (.one (SC.ptr 4 0 0)))), (11, (.sa (.one (iv .i64 cnt)))), (41, (.sa (.one (SC.ref 2)))), (42, (.sa (.one (iv .i64 ((n : Nat) : Int))))), (43, (.sa (.one (iv .i64 (idx : Int)))))]) [exO xs, exO ys, taO n ks is, cfO mtu ss sr rr mm ri rmin rmax it pt al beat life, obj 74 4 [.ref 5, iv .i64 prim, iv .i64 cnt, iv .i64 (IntKind.wrap .i64 al)], some (.own true .row 44 1 (.lst [[.ptr 6 0 0], [.ptr 9 0 0], [.ptr 12 0 0], [.ptr 15 0 0], [.ptr 18 0 0], [.ptr 21 0 0], [.ptr 24 0 0], [.ptr 27 0 0], [.ptr 30 0 0]])), paO f0 t0 7 8 pt m0 d0, tmO rmin rmax ri, wiO mtu, paO f1 t1 10 11 pt m1 d1, tmO rmin rmax ri, wiO mtu, paO f2 t2 13 14 pt m2 d2, tmO rmin rmax ri, wiO mtu, paO f3 t3 16 17 pt m3 d3, tmO rmin rmax ri, wiO mtu, paO f4 t4 19 20 pt m4 d4, tmO rmin rmax ri, wiO mtu, paO f5 t5 22 23 pt m5 d5, tmO rmin rmax ri, wiO mtu, paO f6 t6 25 26 pt m6 d6, tmO rmin rmax ri, wiO mtu, paO f7 t7 28 29 pt m7 d7, tmO rmin rmax ri, wiO mtu, paO f8 t8 31 32 pt m8 d8, tmO rmin rmax ri, wiO mtu] (kBlock 0 (kSeq (ev cxSi (M + 74) 3 3 (codeAt Try.prog 3 [1, 1, 1, 1, 1, 1])) (kRet (Cx.P cxSi) [(ResultVar.tmp 8)] 3 k))) := by
  intro rem
  induction rem with
  | zero =>
    intro idx h cnt prim f0 t0 m0 f1 t1 m1 f2 t2 m2 f3 t3 m3 f4 t4 m4 f5 t5 m5 f6 t6 m6 f7 t7 m7 f8 t8 m8 d0 d1 d2 d3 d4 d5 d6 d7 d8
    rw [t_siA9]
    exact Again.mk (brf (by omega) (hT _))
  | succ rem ih =>
    intro idx h cnt prim f0 t0 m0 f1 t1 m1 f2 t2 m2 f3 t3 m3 f4 t4 m4 f5 t5 m5 f6 t6 m6 f7 t7 m7 f8 t8 m8 d0 d1 d2 d3 d4 d5 d6 d7 d8
    rw [show rem + 1 + c + 72 = (rem + 1 + c) + 72 from rfl, t_siA9]
    refine Again.mk (brt (by omega) (ndd (by omega) (ndd (by omega) (ndd (by omega) ?_))))
    have e2 : addK .i64 (idx : Int) 1 = ((idx + 1 : Nat) : Int) := by rw [add64 (by omega)]; omega
    have hK := hks (0 + Int.toNat (idx : Int))
    generalize ks.getD (0 + Int.toNat (idx : Int)) 0 = K at hK ⊢
    generalize is.getD (0 + Int.toNat (idx : Int)) 0 = I
    rcases kcase9 K hK with rfl | rfl | ⟨e, rfl⟩
    · rcases icase9 I with rfl | rfl | rfl | rfl | rfl | rfl | rfl | rfl | rfl | ⟨m, rfl⟩ | ⟨m, rfl⟩
      · rw [t_siB9_0_0 (m := 0) (e := 0), e2]
        refine Again.mk ?_
        repeat' first
          | refine nbtS9 (eqK_t.2 rfl) ?_
          | refine nbtS9 (beq_self_eq_true _) ?_
          | refine brt (Int.negSucc_lt_zero _) ?_
          | refine brt (by omega) ?_
          | exact evFuelR (ih (idx + 1) (by omega) _ _ _ _ _ _ _ _ _ _ _ _ _ _ _ _ _ _ _ _ _ _ _ _ _ _ _ _ _ _ _ _ _ _ _ _ _ _) (by omega)
      · rw [t_siB9_0_1 (m := 0) (e := 0), e2]
        refine Again.mk ?_
        repeat' first
          | refine nbtS9 (eqK_t.2 rfl) ?_
          | refine nbtS9 (beq_self_eq_true _) ?_
          | refine brt (Int.negSucc_lt_zero _) ?_
          | refine brt (by omega) ?_
          | exact evFuelR (ih (idx + 1) (by omega) _ _ _ _ _ _ _ _ _ _ _ _ _ _ _ _ _ _ _ _ _ _ _ _ _ _ _ _ _ _ _ _ _ _ _ _ _ _) (by omega)
      · rw [t_siB9_0_2 (m := 0) (e := 0), e2]
        refine Again.mk ?_
        repeat' first
          | refine nbtS9 (eqK_t.2 rfl) ?_
          | refine nbtS9 (beq_self_eq_true _) ?_
          | refine brt (Int.negSucc_lt_zero _) ?_
          | refine brt (by omega) ?_
          | exact evFuelR (ih (idx + 1) (by omega) _ _ _ _ _ _ _ _ _ _ _ _ _ _ _ _ _ _ _ _ _ _ _ _ _ _ _ _ _ _ _ _ _ _ _ _ _ _) (by omega)
      · rw [t_siB9_0_3 (m := 0) (e := 0), e2]
        refine Again.mk ?_
        repeat' first
          | refine nbtS9 (eqK_t.2 rfl) ?_
          | refine nbtS9 (beq_self_eq_true _) ?_
          | refine brt (Int.negSucc_lt_zero _) ?_
          | refine brt (by omega) ?_
          | exact evFuelR (ih (idx + 1) (by omega) _ _ _ _ _ _ _ _ _ _ _ _ _ _ _ _ _ _ _ _ _ _ _ _ _ _ _ _ _ _ _ _ _ _ _ _ _ _) (by omega)
      · rw [t_siB9_0_4 (m := 0) (e := 0), e2]
        refine Again.mk ?_
        repeat' first
          | refine nbtS9 (eqK_t.2 rfl) ?_
          | refine nbtS9 (beq_self_eq_true _) ?_
          | refine brt (Int.negSucc_lt_zero _) ?_
          | refine brt (by omega) ?_
          | exact evFuelR (ih (idx + 1) (by omega) _ _ _ _ _ _ _ _ _ _ _ _ _ _ _ _ _ _ _ _ _ _ _ _ _ _ _ _ _ _ _ _ _ _ _ _ _ _) (by omega)
      · rw [t_siB9_0_5 (m := 0) (e := 0), e2]
        refine Again.mk ?_
        repeat' first
          | refine nbtS9 (eqK_t.2 rfl) ?_
          | refine nbtS9 (beq_self_eq_true _) ?_
          | refine brt (Int.negSucc_lt_zero _) ?_
          | refine brt (by omega) ?_
          | exact evFuelR (ih (idx + 1) (by omega) _ _ _ _ _ _ _ _ _ _ _ _ _ _ _ _ _ _ _ _ _ _ _ _ _ _ _ _ _ _ _ _ _ _ _ _ _ _) (by omega)
      · rw [t_siB9_0_6 (m := 0) (e := 0), e2]
        refine Again.mk ?_
        repeat' first
          | refine nbtS9 (eqK_t.2 rfl) ?_
          | refine nbtS9 (beq_self_eq_true _) ?_
          | refine brt (Int.negSucc_lt_zero _) ?_
          | refine brt (by omega) ?_
          | exact evFuelR (ih (idx + 1) (by omega) _ _ _ _ _ _ _ _ _ _ _ _ _ _ _ _ _ _ _ _ _ _ _ _ _ _ _ _ _ _ _ _ _ _ _ _ _ _) (by omega)
      · rw [t_siB9_0_7 (m := 0) (e := 0), e2]
        refine Again.mk ?_
        repeat' first
          | refine nbtS9 (eqK_t.2 rfl) ?_
          | refine nbtS9 (beq_self_eq_true _) ?_
          | refine brt (Int.negSucc_lt_zero _) ?_
          | refine brt (by omega) ?_
          | exact evFuelR (ih (idx + 1) (by omega) _ _ _ _ _ _ _ _ _ _ _ _ _ _ _ _ _ _ _ _ _ _ _ _ _ _ _ _ _ _ _ _ _ _ _ _ _ _) (by omega)
      · rw [t_siB9_0_8 (m := 0) (e := 0), e2]
        refine Again.mk ?_
        repeat' first
          | refine nbtS9 (eqK_t.2 rfl) ?_
          | refine nbtS9 (beq_self_eq_true _) ?_
          | refine brt (Int.negSucc_lt_zero _) ?_
          | refine brt (by omega) ?_
          | exact evFuelR (ih (idx + 1) (by omega) _ _ _ _ _ _ _ _ _ _ _ _ _ _ _ _ _ _ _ _ _ _ _ _ _ _ _ _ _ _ _ _ _ _ _ _ _ _) (by omega)
      · rw [t_siB9_0_n (e := 0), e2]
        refine Again.mk ?_
        repeat' first
          | refine nbtS9 (eqK_t.2 rfl) ?_
          | refine nbtS9 (beq_self_eq_true _) ?_
          | refine brt (Int.negSucc_lt_zero _) ?_
          | refine brt (by omega) ?_
          | exact evFuelR (ih (idx + 1) (by omega) _ _ _ _ _ _ _ _ _ _ _ _ _ _ _ _ _ _ _ _ _ _ _ _ _ _ _ _ _ _ _ _ _ _ _ _ _ _) (by omega)
      · rw [t_siB9_0_p (e := 0), e2]
        refine Again.mk ?_
        repeat' first
          | refine nbtS9 (eqK_t.2 rfl) ?_
          | refine nbtS9 (beq_self_eq_true _) ?_
          | refine brt (Int.negSucc_lt_zero _) ?_
          | refine brt (by omega) ?_
          | exact evFuelR (ih (idx + 1) (by omega) _ _ _ _ _ _ _ _ _ _ _ _ _ _ _ _ _ _ _ _ _ _ _ _ _ _ _ _ _ _ _ _ _ _ _ _ _ _) (by omega)
    · rcases icase9 I with rfl | rfl | rfl | rfl | rfl | rfl | rfl | rfl | rfl | ⟨m, rfl⟩ | ⟨m, rfl⟩
      · rw [t_siB9_1_0 (m := 0) (e := 0), e2]
        refine Again.mk ?_
        repeat' first
          | refine nbtS9 (eqK_t.2 rfl) ?_
          | refine nbtS9 (beq_self_eq_true _) ?_
          | refine brt (Int.negSucc_lt_zero _) ?_
          | refine brt (by omega) ?_
          | exact evFuelR (ih (idx + 1) (by omega) _ _ _ _ _ _ _ _ _ _ _ _ _ _ _ _ _ _ _ _ _ _ _ _ _ _ _ _ _ _ _ _ _ _ _ _ _ _) (by omega)
      · rw [t_siB9_1_1 (m := 0) (e := 0), e2]
        refine Again.mk ?_
        repeat' first
          | refine nbtS9 (eqK_t.2 rfl) ?_
          | refine nbtS9 (beq_self_eq_true _) ?_
          | refine brt (Int.negSucc_lt_zero _) ?_
          | refine brt (by omega) ?_
          | exact evFuelR (ih (idx + 1) (by omega) _ _ _ _ _ _ _ _ _ _ _ _ _ _ _ _ _ _ _ _ _ _ _ _ _ _ _ _ _ _ _ _ _ _ _ _ _ _) (by omega)
      · rw [t_siB9_1_2 (m := 0) (e := 0), e2]
        refine Again.mk ?_
        repeat' first
          | refine nbtS9 (eqK_t.2 rfl) ?_
          | refine nbtS9 (beq_self_eq_true _) ?_
          | refine brt (Int.negSucc_lt_zero _) ?_
          | refine brt (by omega) ?_
          | exact evFuelR (ih (idx + 1) (by omega) _ _ _ _ _ _ _ _ _ _ _ _ _ _ _ _ _ _ _ _ _ _ _ _ _ _ _ _ _ _ _ _ _ _ _ _ _ _) (by omega)
      · rw [t_siB9_1_3 (m := 0) (e := 0), e2]
        refine Again.mk ?_
        repeat' first
          | refine nbtS9 (eqK_t.2 rfl) ?_
          | refine nbtS9 (beq_self_eq_true _) ?_
          | refine brt (Int.negSucc_lt_zero _) ?_
          | refine brt (by omega) ?_
          | exact evFuelR (ih (idx + 1) (by omega) _ _ _ _ _ _ _ _ _ _ _ _ _ _ _ _ _ _ _ _ _ _ _ _ _ _ _ _ _ _ _ _ _ _ _ _ _ _) (by omega)
      · rw [t_siB9_1_4 (m := 0) (e := 0), e2]
        refine Again.mk ?_
        repeat' first
          | refine nbtS9 (eqK_t.2 rfl) ?_
          | refine nbtS9 (beq_self_eq_true _) ?_
          | refine brt (Int.negSucc_lt_zero _) ?_
          | refine brt (by omega) ?_
          | exact evFuelR (ih (idx + 1) (by omega) _ _ _ _ _ _ _ _ _ _ _ _ _ _ _ _ _ _ _ _ _ _ _ _ _ _ _ _ _ _ _ _ _ _ _ _ _ _) (by omega)
      · rw [t_siB9_1_5 (m := 0) (e := 0), e2]
        refine Again.mk ?_
        repeat' first
          | refine nbtS9 (eqK_t.2 rfl) ?_
          | refine nbtS9 (beq_self_eq_true _) ?_
          | refine brt (Int.negSucc_lt_zero _) ?_
          | refine brt (by omega) ?_
          | exact evFuelR (ih (idx + 1) (by omega) _ _ _ _ _ _ _ _ _ _ _ _ _ _ _ _ _ _ _ _ _ _ _ _ _ _ _ _ _ _ _ _ _ _ _ _ _ _) (by omega)
      · rw [t_siB9_1_6 (m := 0) (e := 0), e2]
        refine Again.mk ?_
        repeat' first
          | refine nbtS9 (eqK_t.2 rfl) ?_
          | refine nbtS9 (beq_self_eq_true _) ?_
          | refine brt (Int.negSucc_lt_zero _) ?_
          | refine brt (by omega) ?_
          | exact evFuelR (ih (idx + 1) (by omega) _ _ _ _ _ _ _ _ _ _ _ _ _ _ _ _ _ _ _ _ _ _ _ _ _ _ _ _ _ _ _ _ _ _ _ _ _ _) (by omega)
      · rw [t_siB9_1_7 (m := 0) (e := 0), e2]
        refine Again.mk ?_
        repeat' first
          | refine nbtS9 (eqK_t.2 rfl) ?_
          | refine nbtS9 (beq_self_eq_true _) ?_
          | refine brt (Int.negSucc_lt_zero _) ?_
          | refine brt (by omega) ?_
          | exact evFuelR (ih (idx + 1) (by omega) _ _ _ _ _ _ _ _ _ _ _ _ _ _ _ _ _ _ _ _ _ _ _ _ _ _ _ _ _ _ _ _ _ _ _ _ _ _) (by omega)
      · rw [t_siB9_1_8 (m := 0) (e := 0), e2]
        refine Again.mk ?_
        repeat' first
          | refine nbtS9 (eqK_t.2 rfl) ?_
          | refine nbtS9 (beq_self_eq_true _) ?_
          | refine brt (Int.negSucc_lt_zero _) ?_
          | refine brt (by omega) ?_
          | exact evFuelR (ih (idx + 1) (by omega) _ _ _ _ _ _ _ _ _ _ _ _ _ _ _ _ _ _ _ _ _ _ _ _ _ _ _ _ _ _ _ _ _ _ _ _ _ _) (by omega)
      · rw [t_siB9_1_n (e := 0), e2]
        refine Again.mk ?_
        repeat' first
          | refine nbtS9 (eqK_t.2 rfl) ?_
          | refine nbtS9 (beq_self_eq_true _) ?_
          | refine brt (Int.negSucc_lt_zero _) ?_
          | refine brt (by omega) ?_
          | exact evFuelR (ih (idx + 1) (by omega) _ _ _ _ _ _ _ _ _ _ _ _ _ _ _ _ _ _ _ _ _ _ _ _ _ _ _ _ _ _ _ _ _ _ _ _ _ _) (by omega)
      · rw [t_siB9_1_p (e := 0), e2]
        refine Again.mk ?_
        repeat' first
          | refine nbtS9 (eqK_t.2 rfl) ?_
          | refine nbtS9 (beq_self_eq_true _) ?_
          | refine brt (Int.negSucc_lt_zero _) ?_
          | refine brt (by omega) ?_
          | exact evFuelR (ih (idx + 1) (by omega) _ _ _ _ _ _ _ _ _ _ _ _ _ _ _ _ _ _ _ _ _ _ _ _ _ _ _ _ _ _ _ _ _ _ _ _ _ _) (by omega)
    · rcases icase9 I with rfl | rfl | rfl | rfl | rfl | rfl | rfl | rfl | rfl | ⟨m, rfl⟩ | ⟨m, rfl⟩
      · rw [t_siB9_e_0 (m := 0), e2]
        refine Again.mk ?_
        repeat' first
          | refine nbtS9 (eqK_t.2 rfl) ?_
          | refine nbtS9 (beq_self_eq_true _) ?_
          | refine brt (Int.negSucc_lt_zero _) ?_
          | refine brt (by omega) ?_
          | exact evFuelR (ih (idx + 1) (by omega) _ _ _ _ _ _ _ _ _ _ _ _ _ _ _ _ _ _ _ _ _ _ _ _ _ _ _ _ _ _ _ _ _ _ _ _ _ _) (by omega)
      · rw [t_siB9_e_1 (m := 0), e2]
        refine Again.mk ?_
        repeat' first
          | refine nbtS9 (eqK_t.2 rfl) ?_
          | refine nbtS9 (beq_self_eq_true _) ?_
          | refine brt (Int.negSucc_lt_zero _) ?_
          | refine brt (by omega) ?_
          | exact evFuelR (ih (idx + 1) (by omega) _ _ _ _ _ _ _ _ _ _ _ _ _ _ _ _ _ _ _ _ _ _ _ _ _ _ _ _ _ _ _ _ _ _ _ _ _ _) (by omega)
      · rw [t_siB9_e_2 (m := 0), e2]
        refine Again.mk ?_
        repeat' first
          | refine nbtS9 (eqK_t.2 rfl) ?_
          | refine nbtS9 (beq_self_eq_true _) ?_
          | refine brt (Int.negSucc_lt_zero _) ?_
          | refine brt (by omega) ?_
          | exact evFuelR (ih (idx + 1) (by omega) _ _ _ _ _ _ _ _ _ _ _ _ _ _ _ _ _ _ _ _ _ _ _ _ _ _ _ _ _ _ _ _ _ _ _ _ _ _) (by omega)
      · rw [t_siB9_e_3 (m := 0), e2]
        refine Again.mk ?_
        repeat' first
          | refine nbtS9 (eqK_t.2 rfl) ?_
          | refine nbtS9 (beq_self_eq_true _) ?_
          | refine brt (Int.negSucc_lt_zero _) ?_
          | refine brt (by omega) ?_
          | exact evFuelR (ih (idx + 1) (by omega) _ _ _ _ _ _ _ _ _ _ _ _ _ _ _ _ _ _ _ _ _ _ _ _ _ _ _ _ _ _ _ _ _ _ _ _ _ _) (by omega)
      · rw [t_siB9_e_4 (m := 0), e2]
        refine Again.mk ?_
        repeat' first
          | refine nbtS9 (eqK_t.2 rfl) ?_
          | refine nbtS9 (beq_self_eq_true _) ?_
          | refine brt (Int.negSucc_lt_zero _) ?_
          | refine brt (by omega) ?_
          | exact evFuelR (ih (idx + 1) (by omega) _ _ _ _ _ _ _ _ _ _ _ _ _ _ _ _ _ _ _ _ _ _ _ _ _ _ _ _ _ _ _ _ _ _ _ _ _ _) (by omega)
      · rw [t_siB9_e_5 (m := 0), e2]
        refine Again.mk ?_
        repeat' first
          | refine nbtS9 (eqK_t.2 rfl) ?_
          | refine nbtS9 (beq_self_eq_true _) ?_
          | refine brt (Int.negSucc_lt_zero _) ?_
          | refine brt (by omega) ?_
          | exact evFuelR (ih (idx + 1) (by omega) _ _ _ _ _ _ _ _ _ _ _ _ _ _ _ _ _ _ _ _ _ _ _ _ _ _ _ _ _ _ _ _ _ _ _ _ _ _) (by omega)
      · rw [t_siB9_e_6 (m := 0), e2]
        refine Again.mk ?_
        repeat' first
          | refine nbtS9 (eqK_t.2 rfl) ?_
          | refine nbtS9 (beq_self_eq_true _) ?_
          | refine brt (Int.negSucc_lt_zero _) ?_
          | refine brt (by omega) ?_
          | exact evFuelR (ih (idx + 1) (by omega) _ _ _ _ _ _ _ _ _ _ _ _ _ _ _ _ _ _ _ _ _ _ _ _ _ _ _ _ _ _ _ _ _ _ _ _ _ _) (by omega)
      · rw [t_siB9_e_7 (m := 0), e2]
        refine Again.mk ?_
        repeat' first
          | refine nbtS9 (eqK_t.2 rfl) ?_
          | refine nbtS9 (beq_self_eq_true _) ?_
          | refine brt (Int.negSucc_lt_zero _) ?_
          | refine brt (by omega) ?_
          | exact evFuelR (ih (idx + 1) (by omega) _ _ _ _ _ _ _ _ _ _ _ _ _ _ _ _ _ _ _ _ _ _ _ _ _ _ _ _ _ _ _ _ _ _ _ _ _ _) (by omega)
      · rw [t_siB9_e_8 (m := 0), e2]
        refine Again.mk ?_
        repeat' first
          | refine nbtS9 (eqK_t.2 rfl) ?_
          | refine nbtS9 (beq_self_eq_true _) ?_
          | refine brt (Int.negSucc_lt_zero _) ?_
          | refine brt (by omega) ?_
          | exact evFuelR (ih (idx + 1) (by omega) _ _ _ _ _ _ _ _ _ _ _ _ _ _ _ _ _ _ _ _ _ _ _ _ _ _ _ _ _ _ _ _ _ _ _ _ _ _) (by omega)
      · rw [t_siB9_e_n, e2]
        refine Again.mk ?_
        repeat' first
          | refine nbtS9 (eqK_t.2 rfl) ?_
          | refine nbtS9 (beq_self_eq_true _) ?_
          | refine brt (Int.negSucc_lt_zero _) ?_
          | refine brt (by omega) ?_
          | exact evFuelR (ih (idx + 1) (by omega) _ _ _ _ _ _ _ _ _ _ _ _ _ _ _ _ _ _ _ _ _ _ _ _ _ _ _ _ _ _ _ _ _ _ _ _ _ _) (by omega)
      · rw [t_siB9_e_p, e2]
        refine Again.mk ?_
        repeat' first
          | refine nbtS9 (eqK_t.2 rfl) ?_
          | refine nbtS9 (beq_self_eq_true _) ?_
          | refine brt (Int.negSucc_lt_zero _) ?_
          | refine brt (by omega) ?_
          | exact evFuelR (ih (idx + 1) (by omega) _ _ _ _ _ _ _ _ _ _ _ _ _ _ _ _ _ _ _ _ _ _ _ _ _ _ _ _ _ _ _ _ _ _ _ _ _ _) (by omega)
end Go.Ev
