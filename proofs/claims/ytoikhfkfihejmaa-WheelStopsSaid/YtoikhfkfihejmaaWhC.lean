/- The loops of WheelStops. No conditions. -/
import Derived.Test.YtoikhfkfihejmaaWhG
import Derived.Test.YtoikhfkfihejmaaWhT8
import Derived.Test.YtoikhfkfihejmaaWhT9
import Derived.Test.YtoikhfkfihejmaaWhTA
import Derived.Test.YtoikhfkfihejmaaWhTB
import Derived.Test.YtoikhfkfihejmaaWhTC
import Derived.Test.YtoikhfkfihejmaaWhTD
import Derived.Test.YtoikhfkfihejmaaWhTE
set_option linter.unusedVariables false
namespace Go.Ev
open Go Go.Proofs Go.Spec
attribute [local irreducible] ev evCall branch need again
noncomputable def w1 (L M i : Nat) (now : Int) (is at_ ss us : List Int) (n : Nat) (H : List Tm) (ks bs : List Int) (cl : Nat) (Q : List Tm) (es : List Int) (cm : Nat) (k : SV → St → Prop) : Prop := ev cxWh (L + 52) 3 3 (codeAt Try.prog 3 [1, 1, 1, 1, 1, 0, 1, 0]) (frm 193 [(0, (.sa (.one (SC.ref 0)))), (1, (.sa (.one (SC.ref 1)))), (2, (.sa (.one (iv .u64 now)))), (3, (.sa (.one (SC.ref 2)))), (9, (.sa (.one (SC.ptr 3 0 0)))), (10, (.sa (.one (SC.ref 6)))), (46, (.sa (.one (SC.ref 0)))), (47, (.sa (.one (iv .i64 ((n : Nat) : Int))))), (48, (.sa (.one (iv .i64 ((i : Nat) : Int)))))]) [plO n is at_, seO ss, tuO us, wO 4 5, wT H, wM H ks bs cl, rMu (idsH Q) (atsH Q) es cm] (kBlock 0 (kSeq (ev cxWh (M + 54) 3 3 (codeAt Try.prog 3 [1, 1, 1, 1, 1, 1])) (kRet (Cx.P cxWh) [(ResultVar.tmp 8)] 3 k)))
noncomputable def w2 (L M i : Nat) (now : Int) (is at_ ss us : List Int) (n : Nat) (H : List Tm) (ks bs : List Int) (cl : Nat) (Q : List Tm) (es : List Int) (cm : Nat) (P : List Tm) (k : SV → St → Prop) : Prop := ev cxWh (L + 50) 3 3 (codeAt Try.prog 3 [1, 1, 1, 1, 1, 1, 1, 0, 1, 0]) (frm 193 [(1, (.sa (.one (SC.ref 1)))), (2, (.sa (.one (iv .u64 now)))), (3, (.sa (.one (SC.ref 2)))), (9, (.sa (.one (SC.ptr 3 0 0)))), (10, (.sa (.one (SC.ref 6)))), (13, (.sa (.one (SC.ref 7)))), (64, (.sa (.one (SC.ref 0)))), (65, (.sa (.one (iv .i64 ((n : Nat) : Int))))), (66, (.sa (.one (iv .i64 ((i : Nat) : Int)))))]) [plO n is at_, seO ss, tuO us, wO 4 5, wT H, wM H ks bs cl, rMu (idsH Q) (atsH Q) es cm, lfO P.length (idsH P) (atsH P)] (kBlock 2 (kSeq (ev cxWh (M + 52) 3 3 (codeAt Try.prog 3 [1, 1, 1, 1, 1, 1, 1, 1])) (kRet (Cx.P cxWh) [(ResultVar.tmp 8)] 3 k)))
noncomputable def w3 (L M i : Nat) (now : Int) (is at_ ss us : List Int) (n : Nat) (H : List Tm) (ks bs : List Int) (cl : Nat) (P : List Tm) (k : SV → St → Prop) : Prop := ev cxWh (L + 49) 3 3 (codeAt Try.prog 3 [1, 1, 1, 1, 1, 1, 1, 1, 0, 1, 0]) (frm 193 [(2, (.sa (.one (iv .u64 now)))), (3, (.sa (.one (SC.ref 2)))), (9, (.sa (.one (SC.ptr 3 0 0)))), (13, (.sa (.one (SC.ref 6)))), (89, (.sa (.one (SC.ref 1)))), (90, (.sa (.one (iv .i64 (((List.length ss) : Nat) : Int))))), (91, (.sa (.one (iv .i64 ((i : Nat) : Int)))))]) [plO n is at_, seO ss, tuO us, wO 4 5, wT H, wM H ks bs cl, lfO P.length (idsH P) (atsH P)] (kBlock 4 (kSeq (ev cxWh (M + 51) 3 3 (codeAt Try.prog 3 [1, 1, 1, 1, 1, 1, 1, 1, 1])) (kRet (Cx.P cxWh) [(ResultVar.tmp 8)] 3 k)))
noncomputable def w4 (L A M i j : Nat) (x p : Int) (now : Int) (is at_ ss us : List Int) (n : Nat) (H : List Tm) (ks bs : List Int) (cl : Nat) (P : List Tm) (k : SV → St → Prop) : Prop := ev cxWh (L + 39) 3 3 (codeAt Try.prog 3 [1, 1, 1, 1, 1, 1, 1, 1, 0, 1, 0, 0, 1, 1, 0, 0, 1, 1, 0, 1, 0]) (frm 193 [(2, (.sa (.one (iv .u64 now)))), (3, (.sa (.one (SC.ref 2)))), (9, (.sa (.one (SC.ptr 3 0 0)))), (13, (.sa (.one (SC.ref 6)))), (19, (.sa (.one (iv .i64 x)))), (20, (.sa (.one (iv .i64 p)))), (89, (.sa (.one (SC.ref 1)))), (90, (.sa (.one (iv .i64 (((List.length ss) : Nat) : Int))))), (91, (.sa (.one (iv .i64 ((i : Nat) : Int))))), (95, (.sa (.one (SC.ref 6)))), (96, (.sa (.one (iv .i64 ((P.length : Nat) : Int))))), (97, (.sa (.one (iv .i64 ((j : Nat) : Int)))))]) [plO n is at_, seO ss, tuO us, wO 4 5, wT H, wM H ks bs cl, lfO P.length (idsH P) (atsH P)] (kBlock 6 (kSeq (ev cxWh (A + 41) 3 3 (codeAt Try.prog 3 [1, 1, 1, 1, 1, 1, 1, 1, 0, 1, 0, 0, 1, 1, 0, 0, 1, 1, 1])) (kBlock 5 (kSeq (ev cxWh (A + 45) 3 3 (codeAt Try.prog 3 [1, 1, 1, 1, 1, 1, 1, 1, 0, 1, 0, 0, 1, 1, 1])) (kSeq (ev cxWh (A + 48) 3 3 (codeAt Try.prog 3 [1, 1, 1, 1, 1, 1, 1, 1, 0, 1, 0])) (kBlock 4 (kSeq (ev cxWh (M + 51) 3 3 (codeAt Try.prog 3 [1, 1, 1, 1, 1, 1, 1, 1, 1])) (kRet (Cx.P cxWh) [(ResultVar.tmp 8)] 3 k))))))))
noncomputable def w5 (L M i : Nat) (now : Int) (is at_ ss us : List Int) (n : Nat) (H : List Tm) (ks bs : List Int) (cl : Nat) (P : List Tm) (k : SV → St → Prop) : Prop := ev cxWh (L + 48) 3 3 (codeAt Try.prog 3 [1, 1, 1, 1, 1, 1, 1, 1, 1, 0, 1, 0]) (frm 193 [(2, (.sa (.one (iv .u64 now)))), (9, (.sa (.one (SC.ptr 3 0 0)))), (13, (.sa (.one (SC.ref 6)))), (127, (.sa (.one (SC.ref 2)))), (128, (.sa (.one (iv .i64 (((List.length us) : Nat) : Int))))), (129, (.sa (.one (iv .i64 ((i : Nat) : Int)))))]) [plO n is at_, seO ss, tuO us, wO 4 5, wT H, wM H ks bs cl, lfO P.length (idsH P) (atsH P)] (kBlock 8 (kSeq (ev cxWh (M + 50) 3 3 (codeAt Try.prog 3 [1, 1, 1, 1, 1, 1, 1, 1, 1, 1])) (kRet (Cx.P cxWh) [(ResultVar.tmp 8)] 3 k)))
noncomputable def w6 (L M i : Nat) (now : Int) (is at_ ss us : List Int) (n : Nat) (H : List Tm) (ks bs : List Int) (cl : Nat) (P V : List Tm) (kv bv : List Int) (cv : Nat) (k : SV → St → Prop) : Prop := ev cxWh (L + 46) 3 3 (codeAt Try.prog 3 [1, 1, 1, 1, 1, 1, 1, 1, 1, 1, 1, 0, 1, 0]) (frm 193 [(2, (.sa (.one (iv .u64 now)))), (9, (.sa (.one (SC.ptr 3 0 0)))), (13, (.sa (.one (SC.ref 6)))), (26, (.sa (.one (SC.ptr 7 0 0)))), (159, (.sa (.one (SC.ref 6)))), (160, (.sa (.one (iv .i64 ((P.length : Nat) : Int))))), (161, (.sa (.one (iv .i64 ((i : Nat) : Int)))))]) [plO n is at_, seO ss, tuO us, wO 4 5, wT H, wM H ks bs cl, lfO P.length (idsH P) (atsH P), wO 8 9, wT V, wM V kv bv cv] (kBlock 10 (kSeq (ev cxWh (M + 48) 3 3 (codeAt Try.prog 3 [1, 1, 1, 1, 1, 1, 1, 1, 1, 1, 1, 1])) (kRet (Cx.P cxWh) [(ResultVar.tmp 8)] 3 k)))
theorem zz : ∀ m : Nat, 0 + Int.toNat (m : Int) = m := fun m => by omega
theorem c1 {i : Nat} (h : i ≤ 100000) : addK .i64 (i : Int) 1 = ((i + 1 : Nat) : Int) := by rw [add64 (by omega)]; omega
theorem loop1 (M : Nat) (now : Int) (is at_ ss us : List Int) (n : Nat) (k : SV → St → Prop) (hn : n ≤ 300)
    (fin : ∀ H ks bs cl Q es cm, In1 is n H ks bs cl Q → w2 M M 0 now is at_ ss us n H ks bs cl Q es cm [] k) :
    ∀ (A i L : Nat) (H : List Tm) (ks bs : List Int) (cl : Nat) (Q : List Tm) (es : List Int) (cm : Nat), n = i + A → A < L → In1 is i H ks bs cl Q → w1 L M i now is at_ ss us n H ks bs cl Q es cm k
  | 0, i, L, H, ks, bs, cl, Q, es, cm, hi, hL, s => by
    unfold w1 wT wM
    refine Eq.mpr (t_w1 ..) ⟨?_⟩
    refine brf (by omega) ?_
    obtain rfl : n = i := by omega
    exact fin H ks bs cl Q es cm s
  | A + 1, i, L, H, ks, bs, cl, Q, es, cm, hi, hL, s => by
    obtain ⟨L, rfl⟩ : ∃ B, L = B + 1 := ⟨L - 1, by omega⟩
    have hle := s.le
    unfold w1 wT wM
    refine Eq.mpr (t_w1 ..) ⟨?_⟩
    refine brt (by omega) (ndd (by omega) (ndd (by omega) (ndd (by omega) ?_)))
    rw [s.w.to, decide_eq_true (show H.length ≤ 999 by omega), zz, c1 (by omega), setS_eq]
    refine need_t2 ?_
    have st := s.step (by omega) (at_.getD i 0)
    refine brd (fun h => ?_) (fun h => ?_)
    · have hr := loop1 M now is at_ ss us n k hn fin A (i + 1) L _ _ _ _ (putM Q (is.getD i 0) (at_.getD i 0)) es cm (by omega) (by omega) st
      obtain ⟨e1, e2⟩ := putM_cols (a := at_.getD i 0) h
      unfold w1 at hr
      rw [e1, e2] at hr
      rw [fitL_same 0 (idsH Q).length (atsH Q) (by rw [ats_len, ids_len])]
      exact hr
    · have hr := loop1 M now is at_ ss us n k hn fin A (i + 1) L _ _ _ _ (putM Q (is.getD i 0) (at_.getD i 0)) (es ++ [((cm : Nat) : Int)]) (cm + 1) (by omega) (by omega) st
      obtain ⟨e1, e2⟩ := putM_cols2 (a := at_.getD i 0) h
      unfold w1 at hr
      rw [e1, e2] at hr
      rw [fitL_same 0 (idsH Q).length (atsH Q) (by rw [ats_len, ids_len])]
      exact hr
theorem loop2 (M : Nat) (now : Int) (is at_ ss us : List Int) (n : Nat) (H : List Tm) (ks bs : List Int) (cl : Nat) (k : SV → St → Prop) (hn : n ≤ 300) (hH : H.length ≤ 300)
    (fin : ∀ P, P.Perm H → w3 M M 0 now is at_ ss us n H ks bs cl P k) :
    ∀ (A i L : Nat) (Q : List Tm) (es : List Int) (cm : Nat) (P : List Tm), n = i + A → A < L → In2 is n i H P Q → w2 L M i now is at_ ss us n H ks bs cl Q es cm P k
  | 0, i, L, Q, es, cm, P, hi, hL, s => by
    unfold w2 wT wM
    refine Eq.mpr (t_w2 ..) ⟨?_⟩
    refine brf (by omega) ?_
    obtain rfl : n = i := by omega
    exact fin P s.fin
  | A + 1, i, L, Q, es, cm, P, hi, hL, s => by
    obtain ⟨L, rfl⟩ : ∃ B, L = B + 1 := ⟨L - 1, by omega⟩
    have hpl : P.length ≤ 300 := by
      have := s.p.length_eq
      rw [List.length_append] at this
      omega
    unfold w2 wT wM
    refine Eq.mpr (t_w2 ..) ⟨?_⟩
    refine brt (by omega) (ndd (by omega) (ndd (by omega) (ndd (by omega) ?_)))
    rw [zz, c1 (by omega)]
    refine brd (fun h => ?_) (fun h => ?_)
    · refine ndd (by omega) (brt h ?_)
      have hr := loop2 M now is at_ ss us n H ks bs cl k hn hH fin A (i + 1) L _ (es.eraseIdx (idxI (is.getD i 0) (idsH Q))) cm _ (by omega) (by omega) (s.take h)
      unfold w2 at hr
      rw [← ids_erase, ← ats_erase, List.length_append, ← ids_app, ← ats_app] at hr
      rw [fitL_same 0 P.length (idsH P) (ids_len P), fitL_same 0 P.length (atsH P) (ats_len P)]
      exact hr
    · have hr := loop2 M now is at_ ss us n H ks bs cl k hn hH fin A (i + 1) L Q es cm P (by omega) (by omega) (s.skip h)
      exact hr
theorem er_eq (P : List Tm) (c : Nat) : P.eraseIdx c = P.take c ++ P.drop (c + 1) := List.eraseIdx_eq_take_drop_succ ..
theorem er0 {P : List Tm} {c : Nat} (h : P.length - (c + 1) = 0) (h0 : c = 0) : lfO (P.eraseIdx c).length (idsH (P.eraseIdx c)) (atsH (P.eraseIdx c)) = lfO 0 [] [] := by
  have e : P.eraseIdx c = [] := by
    rw [er_eq, h0, List.take_zero, List.nil_append]
    exact List.drop_eq_nil_of_le (by omega)
  rw [e]; rfl
theorem ids_drop (P : List Tm) (c : Nat) : (idsH P).drop c = idsH (P.drop c) := by unfold idsH; rw [List.map_drop]
theorem ats_drop (P : List Tm) (c : Nat) : (atsH P).drop c = atsH (P.drop c) := by unfold atsH; rw [List.map_drop]
theorem er1 {P : List Tm} {c : Nat} (h0 : c = 0) : lfO (P.eraseIdx c).length (idsH (P.eraseIdx c)) (atsH (P.eraseIdx c)) = lfO (P.length - (c + 1)) ((idsH P).drop (c + 1)) ((atsH P).drop (c + 1)) := by
  have e : P.eraseIdx c = P.drop (c + 1) := by rw [er_eq, h0, List.take_zero, List.nil_append]
  rw [e, ids_drop, ats_drop, List.length_drop]
theorem er2 {P : List Tm} {c : Nat} (h : c < P.length) : lfO (P.eraseIdx c).length (idsH (P.eraseIdx c)) (atsH (P.eraseIdx c)) = lfO (c + (P.length - (c + 1))) (fitL 0 c (idsH P) ++ fitL 0 (P.length - (c + 1)) ((idsH P).drop (c + 1))) (fitL 0 c (atsH P) ++ fitL 0 (P.length - (c + 1)) ((atsH P).drop (c + 1))) := by
  rw [er_eq, fitL_cut 0 c (idsH P) (by rw [ids_len]; omega), fitL_cut 0 c (atsH P) (by rw [ats_len]; omega), fitL_same 0 _ ((idsH P).drop (c + 1)) (by rw [List.length_drop, ids_len]), fitL_same 0 _ ((atsH P).drop (c + 1)) (by rw [List.length_drop, ats_len])]
  rw [ids_take, ats_take, ids_drop, ats_drop, List.length_append, List.length_take, List.length_drop, Nat.min_eq_left (by omega)]
  unfold idsH atsH
  rw [List.map_append, List.map_append]
theorem loop4 (A M i : Nat) (now : Int) (is at_ ss us : List Int) (n : Nat) (H : List Tm) (ks bs : List Int) (cl : Nat) (P : List Tm) (k : SV → St → Prop) (x : Int) (hi : i ≤ 1000) (s : In3 H ks bs cl P)
    (hT : idxI x ks < ks.length → w3 A M (i + 1) now is at_ ss us n (stopH H (idxI x (idsH H))) (stopK ks x) (stopBs bs ks x) cl (P.eraseIdx (idxI x (idsH P))) k)
    (hF : ¬ idxI x ks < ks.length → w3 A M (i + 1) now is at_ ss us n H ks bs cl P k) :
    ∀ (B j L : Nat) (p : Int), P.length = j + B → B < L → p = (if idxI x (idsH P) < j then ((idxI x (idsH P) : Nat) : Int) else -1) → w4 L (A + 1) M i j x p now is at_ ss us n H ks bs cl P k
  | 0, j, L, p, hj, hL, hp => by
    have hpl := s.len
    unfold w4 wT wM
    refine Eq.mpr (t_w4 ..) ⟨?_⟩
    refine brf (by omega) ?_
    obtain rfl : P.length = j := by omega
    rw [s.w.to]
    refine need_t1 ?_
    have hh := s.has x
    rw [ids_len] at hh
    rw [c1 (by omega), stopS_eq]
    refine brd (fun h => ?_) (fun h => ?_)
    · have hc := hh.1 h
      rw [if_pos hc] at hp
      subst hp
      have hr := hT h
      generalize idxI x (idsH P) = c at hr hc ⊢
      have e : Bool.not (true == (decide (((c : Nat) : Int) ≥ 0))) = false := by rw [decide_eq_true (by omega)]; rfl
      rw [e, c1 (by omega)]
      refine branch_f (brt (by omega) ?_)
      simp only [Int.toNat_natCast, Nat.sub_zero, Nat.zero_add]
      refine ndd (by omega) (ndd (by omega) (ndd (by omega) (ndd (by omega) ?_)))
      unfold w3 at hr
      refine brd (fun h0 => ?_) (fun h0 => ?_)
      · refine ndd (by omega) (ndd (by omega) (ndd (by omega) (ndd (by omega) (ndd (by omega) (ndd (by omega) ?_)))))
        refine brd (fun h1 => ?_) (fun h1 => ?_)
        · refine ndd (by omega) ?_
          rw [er0 (by omega) (by omega)] at hr
          exact hr
        · refine ndd (by omega) ?_
          rw [er1 (by omega)] at hr
          exact hr
      · refine ndd (by omega) (ndd (by omega) (ndd (by omega) (ndd (by omega) (ndd (by omega) (ndd (by omega) (ndd (by omega) ?_))))))
        rw [er2 hc] at hr
        exact hr
    · have hc : ¬ idxI x (idsH P) < P.length := fun c => h (hh.2 c)
      rw [if_neg hc] at hp
      subst hp
      have hr := hF h
      have e : Bool.not (false == (decide ((-1 : Int) ≥ 0))) = false := by decide
      rw [e]
      exact branch_f (brf (by omega) hr)
  | B + 1, j, L, p, hj, hL, hp => by
    obtain ⟨L, rfl⟩ : ∃ B, L = B + 1 := ⟨L - 1, by omega⟩
    have hpl := s.len
    unfold w4 wT wM
    refine Eq.mpr (t_w4 ..) ⟨?_⟩
    refine brt (by omega) (ndd (by omega) (ndd (by omega) (ndd (by omega) ?_)))
    rw [zz, c1 (by omega)]
    refine bre (fun h => ?_) (fun h => ?_)
    · have hi' : idxI x (idsH P) = j := idxI_uni s.pn (by rw [ids_len]; omega) h
      exact loop4 A M i now is at_ ss us n H ks bs cl P k x hi s hT hF B (j + 1) L ((j : Nat) : Int) (by omega) (by omega) (by rw [hi', if_pos (by omega)])
    · have hi' : idxI x (idsH P) ≠ j := fun e => h (by rw [← e]; exact idxI_get (by rw [e, ids_len]; omega))
      refine loop4 A M i now is at_ ss us n H ks bs cl P k x hi s hT hF B (j + 1) L p (by omega) (by omega) ?_
      rw [hp]
      by_cases hc : idxI x (idsH P) < j
      · rw [if_pos hc, if_pos (by omega)]
      · rw [if_neg hc, if_neg (by omega)]
theorem loop3 (M : Nat) (now : Int) (is at_ ss us : List Int) (n : Nat) (k : SV → St → Prop) (hs : ss.length ≤ 300)
    (fin : ∀ H ks bs cl P, In3 H ks bs cl P → w5 M M 0 now is at_ ss us n H ks bs cl P k) :
    ∀ (B i L : Nat) (H : List Tm) (ks bs : List Int) (cl : Nat) (P : List Tm), ss.length = i + B → B + 400 < L → In3 H ks bs cl P → w3 L M i now is at_ ss us n H ks bs cl P k
  | 0, i, L, H, ks, bs, cl, P, hi, hL, s => by
    unfold w3 wT wM
    refine Eq.mpr (t_w3 ..) ⟨?_⟩
    exact brf (by omega) (fin H ks bs cl P s)
  | B + 1, i, L, H, ks, bs, cl, P, hi, hL, s => by
    obtain ⟨L, rfl⟩ : ∃ B, L = B + 1 := ⟨L - 1, by omega⟩
    have hpl := s.len
    unfold w3 wT wM
    refine Eq.mpr (t_w3 ..) ⟨?_⟩
    refine brt (by omega) (ndd (by omega) (ndd (by omega) (ndd (by omega) ?_)))
    rw [zz]
    exact loop4 L M i now is at_ ss us n H ks bs cl P k (ss.getD i 0) (by omega) s
      (fun h => loop3 M now is at_ ss us n k hs fin B (i + 1) L _ _ _ _ _ (by omega) (by omega) (s.stop h))
      (fun h => loop3 M now is at_ ss us n k hs fin B (i + 1) L _ _ _ _ _ (by omega) (by omega) s)
      P.length 0 (L + 1) (-1) (by omega) (by omega) (by rw [if_neg (by omega)])
theorem loop5 (M : Nat) (now : Int) (is at_ ss us : List Int) (n : Nat) (H : List Tm) (ks bs : List Int) (cl : Nat) (k : SV → St → Prop) (hs : us.length ≤ 300) (hu : ∀ x ∈ us, 0 ≤ x ∧ x < 65536)
    (fin : ∀ P, In3 H ks bs cl P → w6 M M 0 now is at_ ss us n H ks bs cl P [] [] [] 0 k) :
    ∀ (B i L : Nat) (P : List Tm), us.length = i + B → B < L → In3 H ks bs cl P → w5 L M i now is at_ ss us n H ks bs cl P k
  | 0, i, L, P, hi, hL, s => by
    unfold w5 wT wM
    refine Eq.mpr (t_w5 ..) ⟨?_⟩
    exact brf (by omega) (fin P s)
  | B + 1, i, L, P, hi, hL, s => by
    obtain ⟨L, rfl⟩ : ∃ B, L = B + 1 := ⟨L - 1, by omega⟩
    have hpl := s.len
    unfold w5 wT wM
    refine Eq.mpr (t_w5 ..) ⟨?_⟩
    refine brt (by omega) (ndd (by omega) (ndd (by omega) (ndd (by omega) ?_)))
    rw [zz, c1 (by omega)]
    have hm : us.getD i 0 ∈ us := by
      rw [List.getD_eq_getElem?_getD, List.getElem?_eq_getElem (show i < us.length by omega)]
      exact List.getElem_mem _
    obtain ⟨u1, u2⟩ := hu _ hm
    rw [Go.IntWalk.i64_in (us.getD i 0) (by omega)]
    obtain ⟨u, hu'⟩ : ∃ u : Nat, us.getD i 0 = (u : Int) := ⟨(us.getD i 0).toNat, by omega⟩
    rw [hu']
    refine brd (fun h => ?_) (fun h => ?_)
    · have hq : i < P.length := by omega
      have er : remK ((u : Nat) : Int) ((P.length : Nat) : Int) = ((u % P.length : Nat) : Int) := by
        rw [remK_eq, Int.tmod_eq_emod_of_nonneg (by omega)]; omega
      have hr := Nat.mod_lt u (show 0 < P.length by omega)
      rw [er]
      have e0 : Bool.not (decide (((P.length : Nat) : Int) = 0)) = true := by rw [decide_eq_false (by omega)]; rfl
      rw [e0]
      refine need_t1 ?_
      iterate 12 refine ndd (by omega) ?_
      rw [zz, fit_swI P i (u % P.length) _ rfl, fit_sw P i (u % P.length) _ rfl]
      have hn := loop5 M now is at_ ss us n H ks bs cl k hs hu fin B (i + 1) L (swH P i (u % P.length)) (by omega) (by omega) ⟨s.w, s.h, (swH_perm hq hr).trans s.p, s.le⟩
      unfold w5 at hn
      rw [swH_len] at hn
      exact hn
    · exact loop5 M now is at_ ss us n H ks bs cl k hs hu fin B (i + 1) L P (by omega) (by omega) s
theorem loop6 (M : Nat) (now : Int) (is at_ ss us : List Int) (n : Nat) (H : List Tm) (ks bs : List Int) (cl : Nat) (P : List Tm) (k : SV → St → Prop) (s : In3 H ks bs cl P)
    (hk : k (.sa (.one (bv true))) [plO n is at_, seO ss, tuO us]) :
    ∀ (B i L : Nat) (V : List Tm) (kv bv : List Int) (cv : Nat), P.length = i + B → B < L → In5 P i V kv bv cv → w6 L M i now is at_ ss us n H ks bs cl P V kv bv cv k
  | 0, i, L, V, kv, bv', cv, hi, hL, v => by
    have hpl := s.len
    have hle := s.le
    unfold w6 wT wM
    refine Eq.mpr (t_w6 ..) ⟨?_⟩
    refine brf (by omega) ?_
    have pv : V.Perm H := by
      have := v.p
      rw [show i = P.length by omega, List.take_length] at this
      exact this.trans s.p
    have el := pv.length_eq
    refine bret (by omega) ?_
    rw [s.w.to, decide_eq_true (show ((H.length : Nat) : Int) < 1000 by omega)]
    refine need_t2 ?_
    have ed : ∀ K : List Tm, dueB now K.length (atsH K) = decide (0 < K.length ∧ (hat K 0).1 ≤ now) := fun K => by unfold dueB; rw [ats_at]
    rw [ed, ed, v.w.to, decide_eq_true (show ((V.length : Nat) : Int) < 1000 by omega)]
    unfold tdO tdL
    rw [toH_self, toH_self, ats_len, ats_len]
    obtain ⟨t1, t2⟩ := tdA_told now H.length H ks bs
    obtain ⟨t3, t4⟩ := tdA_told now V.length V kv bv'
    obtain ⟨t5, t6⟩ := told_same now H.length H V s.h v.h pv.symm
    refine brd (fun h => ?_) (fun h => ?_)
    · have htop := heap_top s.h v.h pv.symm h.1
      refine need_t2 (brt ⟨by omega, by rw [← htop]; exact h.2⟩ (ndd ?_ ?_))
      · have := tdA_len now H.length H ks bs
        omega
      · rw [t1, t3, t2, t4, el]
        have e : sameB (toldH now H.length H).1 (toldH now H.length V).1 = true := decide_eq_true t5
        rw [e]
        refine branch_t ?_
        rw [eqK_t.2 (show (((toldH now H.length V).2.length : Nat) : Int) = (((toldH now H.length H).2.length : Nat) : Int) by rw [t6.length_eq])]
        exact hk
    · refine need_t2 (brf (fun c => h ?_) ?_)
      · have htop := heap_top s.h v.h pv.symm (by omega)
        exact ⟨by omega, by rw [htop]; exact c.2⟩
      · rw [eqK_t.2 (show ((V.length : Nat) : Int) = ((H.length : Nat) : Int) by omega)]
        exact hk
  | B + 1, i, L, V, kv, bv', cv, hi, hL, v => by
    obtain ⟨L, rfl⟩ : ∃ B, L = B + 1 := ⟨L - 1, by omega⟩
    have hpl := s.len
    have hvl : V.length ≤ 300 := by rw [v.p.length_eq, List.length_take]; omega
    unfold w6 wT wM
    refine Eq.mpr (t_w6 ..) ⟨?_⟩
    refine brt (by omega) (ndd (by omega) (ndd (by omega) (ndd (by omega) ?_)))
    rw [v.w.to, decide_eq_true (show V.length ≤ 999 by omega), zz, c1 (by omega), setS_eq, ids_at, ats_at]
    refine need_t2 ?_
    exact loop6 M now is at_ ss us n H ks bs cl P k s hk B (i + 1) L _ _ _ _ (by omega) (by omega) (v.step s.pn (by omega) hpl)
theorem stops_run (now : Int) (n : Nat) (is at_ ss us : List Int) (k : SV → St → Prop) (hu : ∀ x ∈ us, 0 ≤ x ∧ x < 65536) (hk : k (.sa (.one (bv true))) [plO n is at_, seO ss, tuO us]) :
    evCall cxWh (ev cxWh 2060) 3 [.one (.ref 0), .one (.ref 1), .one (iv .u64 now), .one (.ref 2)] [plO n is at_, seO ss, tuO us] k := by
  refine Eq.mpr (t_w0 now n is at_ ss us 2000 k) ?_
  refine brd (fun h => hk) (fun h1 => brd (fun h => hk) (fun h2 => brd (fun h => hk) (fun h3 => ?_)))
  have r := loop1 2000 now is at_ ss us n k (by omega) (fun H ks bs cl Q es cm s =>
      loop2 2000 now is at_ ss us n H ks bs cl k (by omega) (by have := s.le; omega) (fun P hp =>
        loop3 2000 now is at_ ss us n k (by omega) (fun H ks bs cl P s3 =>
          loop5 2000 now is at_ ss us n H ks bs cl k (by omega) hu (fun P s5 =>
            loop6 2000 now is at_ ss us n H ks bs cl P k s5 hk P.length 0 2000 [] [] [] 0 (by omega) (by have := s5.len; omega)
              ⟨(In1.nil []).w, (In1.nil []).h, List.Perm.refl _⟩)
            us.length 0 2000 P (by omega) (by omega) s3)
          ss.length 0 2000 H ks bs cl P (by omega) (by omega) ⟨s.w, s.h, hp, by have := s.le; omega⟩)
        n 0 2000 Q es cm [] (by omega) (by omega)
        ⟨by rw [List.nil_append]; exact s.p.symm, s.w.hn, fun x hx => by
          obtain ⟨j, j1, j2⟩ := s.src x hx
          exact ⟨j, by omega, j1, j2⟩⟩)
    n 0 2000 [] [] [] 0 [] [] 0 (by omega) (by omega) (In1.nil is)
  exact r
end Go.Ev
