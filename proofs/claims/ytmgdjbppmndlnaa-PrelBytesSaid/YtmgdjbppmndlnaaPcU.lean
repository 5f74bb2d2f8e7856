/- Things one behind the other: the document's One and All. No conditions. -/
import Derived.Test.YtmgdjbppmndlnaaPcS
import Derived.Test.YtmgdjbppmndlnaaPcT5
import Derived.Test.YtmgdjbppmndlnaaPcT6
import Derived.Test.YtmgdjbppmndlnaaPcT7
set_option linter.unusedVariables false
namespace Go.Ev
open Go Go.Proofs Go.Spec
attribute [local irreducible] ev evCall branch need again
theorem cxOn_ok : CxOk Try.prog cxOn := mkCx_ok namesPb mixedPb (by
  intro x h
  simp only [List.mem_cons, List.not_mem_nil, or_false] at h
  subst h
  exact num_sum)
def noOne (a : Nat) : SV := .tup [.agg [iv .u16 0, iv .u8 0, nilC], .one (iv .i64 ((a : Nat) : Int)), .one (bv false)]
theorem rem4 (n : Nat) : remK ((n : Nat) : Int) 4 = ((n % 4 : Nat) : Int) := by rw [remK_eq, Int.tmod_eq_emod_of_nonneg (by omega)]; omega
theorem num2 {a b : Int} (ha : 0 ≤ a ∧ a ≤ 255) (hb : 0 ≤ b ∧ b ≤ 255) : IntKind.wrap .i64 (numB [a, b]) = 256 * a + b := by
  show IntKind.wrap .i64 (addK .u64 (mulK .u64 256 (addK .u64 (mulK .u64 256 0) (IntKind.wrap .u64 a))) (IntKind.wrap .u64 b)) = _
  rw [Go.IntWalk.u64_in a (by omega), Go.IntWalk.u64_in b (by omega)]
  simp only [addK_eq, mulK_eq]
  rw [Go.IntWalk.u64_in (256 * 0) (by omega), Go.IntWalk.u64_in (256 * 0 + a) (by omega), Go.IntWalk.u64_in (256 * (256 * 0 + a)) (by omega), Go.IntWalk.u64_in _ (by omega), Go.IntWalk.i64_in _ (by omega)]
  omega
theorem two_at {xs : List Int} {a : Nat} (h : a + 4 ≤ xs.length) : List.take 2 (List.drop (a + 2) xs) = [(xs.drop a).getD 2 0, (xs.drop a).getD 3 0] := by
  refine List.ext_getElem (by simp; omega) fun i h1 h2 => ?_
  have hi : i = 0 ∨ i = 1 := by simp at h2; omega
  rcases hi with rfl | rfl
  · simp only [List.getElem_take, List.getElem_drop, List.getElem_cons_zero, List.getD_eq_getElem?_getD, List.getElem?_drop]
    rw [List.getElem?_eq_getElem (by omega)]
    simp
  · simp only [List.getElem_take, List.getElem_drop, List.getElem_cons_succ, List.getElem_cons_zero, List.getD_eq_getElem?_getD, List.getElem?_drop]
    rw [List.getElem?_eq_getElem (by omega)]
    simp
theorem on1_loop (xs : List Int) (a n C M : Nat) (k : SV → St → Prop) (ha : a ≤ 100000) (h4 : a % 4 = 0) (hn : n ≤ 65535)
    (hF : (n < 4 ∨ xs.length < a + up4 n) → k (noOne a) [rdB false .ext 0 xs])
    (hG : 4 ≤ n → a + up4 n ≤ xs.length → ev cxOn (M + 51) 1 37 (codeAt Try.prog 37 [1, 1, 1, 1, 1, 1, 0, 1, 0]) (frm 96 [(0, (.sa (.one (bv true)))), (1, (.sa (.one (SC.ref 0)))), (2, (.sa (.one (iv .i64 ((a : Nat) : Int))))), (6, (.sa (.one (SC.ptr 1 0 0)))), (9, (.sa (.one (iv .i64 ((n : Nat) : Int))))), (10, (.sa (.one (iv .i64 ((a + up4 n : Nat) : Int))))), (11, (.sa (.one (iv .i64 ((a + n : Nat) : Int)))))]) [rdB false .ext 0 xs, obj 61 3 [iv .u16 0, iv .u8 0, nilC]] (kBlock 2 (kSeq (ev cxOn (M + 53) 1 37 (codeAt Try.prog 37 [1, 1, 1, 1, 1, 1, 1])) (kRet (Cx.P cxOn) [(ResultVar.cell 6 61), (ResultVar.tmp 7), (ResultVar.tmp 8)] 1 k)))) :
    ∀ (rem e : Nat), e + rem = a + up4 n → a + n ≤ e → ev cxOn (rem + C + 54) 1 37 (codeAt Try.prog 37 [1, 1, 1, 1, 0, 0]) (frm 96 [(0, (.sa (.one (bv true)))), (1, (.sa (.one (SC.ref 0)))), (2, (.sa (.one (iv .i64 ((a : Nat) : Int))))), (6, (.sa (.one (SC.ptr 1 0 0)))), (9, (.sa (.one (iv .i64 ((n : Nat) : Int))))), (10, (.sa (.one (iv .i64 ((e : Nat) : Int)))))]) [rdB false .ext 0 xs, obj 61 3 [iv .u16 0, iv .u8 0, nilC]] (kBlock 0 (kSeq (ev cxOn (M + 55) 1 37 (codeAt Try.prog 37 [1, 1, 1, 1, 1])) (kRet (Cx.P cxOn) [(ResultVar.cell 6 61), (ResultVar.tmp 7), (ResultVar.tmp 8)] 1 k))) := by
  have hu : n ≤ up4 n ∧ up4 n < n + 4 ∧ up4 n % 4 = 0 := by refine ⟨?_, ?_, ?_⟩ <;> unfold up4 <;> omega
  intro rem
  induction rem with
  | zero =>
    intro e h1 h2
    obtain rfl : e = a + up4 n := by omega
    refine Eq.mpr (t_on1 xs ((a : Nat) : Int) ((n : Nat) : Int) ((a + up4 n : Nat) : Int) (0 + C) M k) ?_
    rw [rem4, rem4]
    refine Again.mk (brN (fun _ => ?_) (fun c => absurd (show (((a + up4 n) % 4 : Nat) : Int) = ((a % 4 : Nat) : Int) by omega) (eqK_f.1 c)))
    refine brd (fun g => hF (.inl (by omega))) (fun g => ?_)
    refine brd (fun g2 => hF (.inr (by omega))) (fun g2 => ?_)
    have e5 : addK .i64 ((a : Nat) : Int) ((n : Nat) : Int) = ((a + n : Nat) : Int) := by rw [add64 (by omega)]; omega
    rw [e5]
    exact hG (by omega) (by omega)
  | succ rem ih =>
    intro e h1 h2
    refine Eq.mpr (t_on1 xs ((a : Nat) : Int) ((n : Nat) : Int) ((e : Nat) : Int) (rem + 1 + C) M k) ?_
    have e3 : addK .i64 (e : Int) 1 = ((e + 1 : Nat) : Int) := by rw [add64 (by omega)]; omega
    rw [rem4, rem4, e3]
    refine Again.mk (brN (fun c => absurd (eqK_t.1 c) (by omega)) (fun _ => ?_))
    exact evFuelP (ih (e + 1) (by omega) (by omega)) (by omega)
theorem on2_loop (xs : List Int) (a n c C M : Nat) (k : SV → St → Prop) (hx : xs.length ≤ 100000) (h8 : ∀ x ∈ xs, 0 ≤ x ∧ x ≤ 255) (hn : 4 ≤ n) (hc : c = up4 n - n) (hl : a + up4 n ≤ xs.length)
    (hF : zerosB (((xs.drop a).drop n).take c) = false → k (noOne a) [rdB false .ext 0 xs])
    (hG : zerosB (((xs.drop a).drop n).take c) = true → k (.tup [.agg [iv .u16 (kindT (xs.drop a)), iv .u8 (flagT (xs.drop a)), .ref 1], .one (iv .i64 ((a + up4 n : Nat) : Int)), .one (bv true)]) [rdB false .ext 0 xs, rdB true .row 5 (((xs.drop a).take n).drop 4)]) :
    ∀ (rem j : Nat), j + rem = c → zerosB (((xs.drop a).drop n).take c) = zerosB ((((xs.drop a).drop n).take c).drop j) →
      ev cxOn (rem + C + 51) 1 37 (codeAt Try.prog 37 [1, 1, 1, 1, 1, 1, 0, 1, 0]) (frm 96 [(0, (.sa (.one (bv true)))), (1, (.sa (.one (SC.ref 0)))), (2, (.sa (.one (iv .i64 ((a : Nat) : Int))))), (6, (.sa (.one (SC.ptr 1 0 0)))), (9, (.sa (.one (iv .i64 ((n : Nat) : Int))))), (10, (.sa (.one (iv .i64 ((a + up4 n : Nat) : Int))))), (11, (.sa (.one (iv .i64 ((a + n + j : Nat) : Int)))))]) [rdB false .ext 0 xs, obj 61 3 [iv .u16 0, iv .u8 0, nilC]] (kBlock 2 (kSeq (ev cxOn (M + 53) 1 37 (codeAt Try.prog 37 [1, 1, 1, 1, 1, 1, 1])) (kRet (Cx.P cxOn) [(ResultVar.cell 6 61), (ResultVar.tmp 7), (ResultVar.tmp 8)] 1 k))) := by
  have hu : n ≤ up4 n ∧ up4 n < n + 4 := by constructor <;> unfold up4 <;> omega
  have hdl : (xs.drop a).length = xs.length - a := List.length_drop
  have hcl : n + c ≤ (xs.drop a).length := by omega
  intro rem
  induction rem with
  | zero =>
    intro j h1 h2
    have hz : zerosB (((xs.drop a).drop n).take c) = true := by
      rw [h2, List.drop_of_length_le (by rw [cut_len hcl]; omega)]; rfl
    have hg := hG hz
    refine Eq.mpr (t_on2 xs ((a : Nat) : Int) ((n : Nat) : Int) ((a + up4 n : Nat) : Int) ((a + n + j : Nat) : Int) (0 + C) M k) ?_
    have e1 : addK .i64 ((a : Nat) : Int) ((n : Nat) : Int) = ((a + n : Nat) : Int) := by rw [add64 (by omega)]; omega
    have e2 : addK .i64 ((a : Nat) : Int) 4 = ((a + 4 : Nat) : Int) := by rw [add64 (by omega)]; omega
    have e3 : addK .i64 ((a : Nat) : Int) 1 = ((a + 1 : Nat) : Int) := by rw [add64 (by omega)]; omega
    rw [e1, e2]
    simp only [Int.toNat_natCast, Nat.zero_add]
    have ev1 : List.take (a + n - (a + 4)) (List.drop (a + 4) xs) = ((xs.drop a).take n).drop 4 := by
      rw [← val_eq, List.drop_drop, show a + n - (a + 4) = n - 4 by omega]
    rw [ev1]
    have hvl : (((xs.drop a).take n).drop 4).length = n - 4 := by rw [List.length_drop, List.length_take]; omega
    refine Again.mk (brf (by omega) ?_)
    iterate 7 refine ndd (by omega) ?_
    have fin : ∀ zs : List Int, zs = ((xs.drop a).take n).drop 4 → ev cxOn (M + 50) 1 37 (codeAt Try.prog 37 [1, 1, 1, 1, 1, 1, 1, 1, 0, 0]) (frm 96 [(0, (.sa (.one (bv true)))), (1, (.sa (.one (SC.ref 0)))), (2, (.sa (.one (iv .i64 ((a : Nat) : Int))))), (6, (.sa (.one (SC.ptr 1 0 0)))), (10, (.sa (.one (iv .i64 ((a + up4 n : Nat) : Int))))), (12, (.sa (.one (SC.ptr 2 0 0))))]) [rdB false .ext 0 xs, obj 61 3 [iv .u16 0, iv .u8 0, nilC], obj 61 3 [iv .u16 0, iv .u8 0, .ref 3], rdB true .row 5 zs] (kSeq (ev cxOn (M + 50) 1 37 (codeAt Try.prog 37 [1, 1, 1, 1, 1, 1, 1, 1, 0, 1])) (kSeq (ev cxOn (M + 51) 1 37 (codeAt Try.prog 37 [1, 1, 1, 1, 1, 1, 1, 1, 1])) (kRet (Cx.P cxOn) [(ResultVar.cell 6 61), (ResultVar.tmp 7), (ResultVar.tmp 8)] 1 k))) := by
      rintro zs rfl
      refine Eq.mpr (t_on3 xs _ ((a : Nat) : Int) ((a + up4 n : Nat) : Int) M M k) ?_
      rw [e3]
      simp only [Int.toNat_natCast, Nat.zero_add]
      refine Again.mk ?_
      iterate 6 refine ndd (by omega) ?_
      have k1 : IntKind.wrap .u16 (xs.getD a 0) = kindT (xs.drop a) := by
        have := by_getD h8 a
        rw [Go.IntWalk.u16_in _ (by omega)]
        unfold kindT
        rw [List.getD_eq_getElem?_getD, List.getD_eq_getElem?_getD, List.getElem?_drop]
        rfl
      have k2 : xs.getD (a + 1) 0 = flagT (xs.drop a) := by
        unfold flagT
        rw [List.getD_eq_getElem?_getD, List.getD_eq_getElem?_getD, List.getElem?_drop]
      rw [k1, k2]
      exact hg
    refine brd (fun g => ndd (by omega) (fin [] ?_)) (fun g => ndd (by omega) (fin _ rfl))
    exact (List.eq_nil_of_length_eq_zero (by omega)).symm
  | succ rem ih =>
    intro j h1 h2
    refine Eq.mpr (t_on2 xs ((a : Nat) : Int) ((n : Nat) : Int) ((a + up4 n : Nat) : Int) ((a + n + j : Nat) : Int) (rem + 1 + C) M k) ?_
    have e3 : addK .i64 ((a + n + j : Nat) : Int) 1 = ((a + n + (j + 1) : Nat) : Int) := by rw [add64 (by omega)]; omega
    rw [e3]
    have hs := zer_step (l := ((xs.drop a).drop n).take c) (j := j) (by rw [cut_len hcl]; omega)
    rw [cut_getD (by omega) hcl] at hs
    rw [← h2] at hs
    have hd : (xs.drop a).getD (n + j) 0 = xs.getD (a + n + j) 0 := by
      rw [List.getD_eq_getElem?_getD, List.getD_eq_getElem?_getD, List.getElem?_drop, Nat.add_assoc]
    rw [hd] at hs
    rw [toN]
    have hb := by_getD h8 (a + n + j)
    refine Again.mk (brt (by omega) (ndd (by omega) (ndd (by omega) (ndd (by omega) (brd (fun g => ?_) (fun g => ?_))))))
    · rw [eqK_f.2 (by omega), Bool.false_and] at hs
      exact hF hs
    · rw [eqK_t.2 (by omega), Bool.true_and] at hs
      exact evFuelP (ih (j + 1) (by omega) hs) (by omega)
theorem sOne_lin (args : List SA) (st : St) : Lin (sOne args st) := by
  intro k h
  unfold sOne at h ⊢
  split at h
  · exact (Lin.need (Lin.branch (Lin.ret _ _) (Lin.ret _ _))) k h
  · exact h.elim
theorem one_sum : SumOk Try.prog 37 sOne := by
  refine sumOk_of cxOn_ok sOne_lin fun args st k h => ?_
  unfold sOne at h
  split at h
  · rename_i a xs
    obtain ⟨h1, hK⟩ := need_iff.1 h
    obtain ⟨h1, h2⟩ := Bool.and_eq_true_iff.1 h1
    obtain ⟨hx, h8⟩ := byB_of h1
    obtain ⟨a0, a1, a4⟩ := of_decide_eq_true h2
    obtain ⟨a, rfl⟩ := Int.eq_ofNat_of_zero_le a0
    rw [Int.toNat_natCast] at hK
    obtain ⟨hT, hF⟩ := br_pick hK
    have hdl : (xs.drop a).length = xs.length - a := List.length_drop
    refine ⟨10 + 60, ?_⟩
    refine Eq.mpr (t_on xs ((a : Nat) : Int) 10 k) ?_
    have e0 : subK .i64 ((xs.length : Nat) : Int) ((a : Nat) : Int) = ((xs.length - a : Nat) : Int) := by rw [sub64 (by omega)]; omega
    have e2 : addK .i64 ((a : Nat) : Int) 2 = ((a + 2 : Nat) : Int) := by rw [add64 (by omega)]; omega
    have e4 : addK .i64 ((a : Nat) : Int) 4 = ((a + 4 : Nat) : Int) := by rw [add64 (by omega)]; omega
    rw [e0, e2, e4]
    simp only [Int.toNat_natCast, Nat.zero_add]
    refine brd (fun g => hF (one_no (by omega))) (fun g => ?_)
    have g4 : a + 4 ≤ xs.length := by omega
    rw [show a + 4 - (a + 2) = 2 by omega, two_at g4, num2 (by_getD (by_drop h8 a) 2) (by_getD (by_drop h8 a) 3)]
    obtain ⟨n1, n2⟩ := lenT_eq (by_drop h8 a)
    rw [← n1]
    have e5 : addK .i64 ((a : Nat) : Int) ((lenT (xs.drop a) : Nat) : Int) = ((a + lenT (xs.drop a) : Nat) : Int) := by rw [add64 (by omega)]; omega
    rw [e5]
    repeat' refine ndd (by first | omega | (simp only [List.length_cons, List.length_nil]; omega)) ?_
    have hu : lenT (xs.drop a) ≤ up4 (lenT (xs.drop a)) ∧ up4 (lenT (xs.drop a)) < lenT (xs.drop a) + 4 := by constructor <;> unfold up4 <;> omega
    have hh := on1_loop xs a (lenT (xs.drop a)) (10 - (up4 (lenT (xs.drop a)) - lenT (xs.drop a))) 10 k (by omega) (by omega) n2 (fun c => hF (one_no (by omega))) (fun g1 g2 => ?_) (up4 (lenT (xs.drop a)) - lenT (xs.drop a)) (a + lenT (xs.drop a)) (by omega) (Nat.le_refl _)
    · exact evFuelP hh (by omega)
    · have one := one_of (ys := xs.drop a) (by omega) g1 (by omega)
      have h3 := on2_loop xs a (lenT (xs.drop a)) (up4 (lenT (xs.drop a)) - lenT (xs.drop a)) (10 - (up4 (lenT (xs.drop a)) - lenT (xs.drop a))) 10 k hx h8 g1 rfl g2 (fun hz => hF (by rw [one]; exact hz)) (fun hz => ?_) (up4 (lenT (xs.drop a)) - lenT (xs.drop a)) 0 (by omega) rfl
      · exact evFuelP h3 (by omega)
      · have h5 := hT (by rw [one]; exact hz)
        unfold nextA valT at h5
        rw [Int.toNat_natCast] at h5
        rw [show ((a + up4 (lenT (xs.drop a)) : Nat) : Int) = (a : Int) + ((up4 (lenT (xs.drop a)) : Nat) : Int) by omega]
        exact h5
  · exact h.elim
theorem cxAl_ok : CxOk Try.prog cxAl := by
  have h := mkCx_ok (P := Try.prog) (sums := [(37, sOne)]) (live := [(23, 3, [0, 1, 6, 7], [⟨6, [], 63⟩])]) (wr := []) namesPb mixedPb (by
    intro x h
    simp only [List.mem_cons, List.not_mem_nil, or_false] at h
    subst h
    exact one_sum)
  exact ⟨h.prog, h.names, h.mixed, h.sum, h.ovl⟩
theorem al_loop (xs : List Int) (M : Nat) (k : SV → St → Prop) (hx : byB xs = true) (hk : k (.tup [.one (.ref 1), .one (bv (endsB xs))]) [rdB false .ext 0 xs, thP (thsB xs)]) :
    ∀ (F a : Nat) (P : List Th), xs.length - a ≤ F → a ≤ xs.length → a % 4 = 0 → 4 * P.length ≤ a → P ++ thsB (xs.drop a) = thsB xs → endsB (xs.drop a) = endsB xs →
      ev cxAl (F + 55) 1 23 (codeAt Try.prog 23 [1, 1, 1, 0, 0]) (frm 32 [(0, (.sa (.one (bv true)))), (1, (.sa (.one (SC.ref 0)))), (6, (.sa (.one (SC.ref 1)))), (7, (.sa (.one (iv .i64 ((a : Nat) : Int)))))]) [rdB false .ext 0 xs, thP P] (kBlock 0 (kSeq (ev cxAl (M + 56) 1 23 (codeAt Try.prog 23 [1, 1, 1, 1])) (kRet (Cx.P cxAl) [(ResultVar.tmp 4), (ResultVar.tmp 5)] 1 k))) := by
  obtain ⟨hl, h8⟩ := byB_of hx
  have done : ∀ (a : Nat) (P : List Th), xs.length ≤ a → P ++ thsB (xs.drop a) = thsB xs → endsB (xs.drop a) = endsB xs → k (.tup [.one (.ref 1), .one (bv true)]) [rdB false .ext 0 xs, thP P] := by
    intro a P h1 h2 h3
    rw [List.drop_of_length_le h1] at h2 h3
    rw [thsB_nil.1, List.append_nil] at h2
    rw [thsB_nil.2] at h3
    rw [← h2, ← h3] at hk
    exact hk
  intro F
  induction F with
  | zero =>
    intro a P h1 h2 h3 h4 h5 h6
    refine Eq.mpr (t_al1 xs (P.map fun x : Th => x.1) (P.map fun x : Th => x.2.1) (P.map fun x : Th => x.2.2) ((a : Nat) : Int) P.length 0 M k) ?_
    exact Again.mk (brf (by omega) (done a P (by omega) h5 h6))
  | succ F ih =>
    intro a P h1 h2 h3 h4 h5 h6
    refine Eq.mpr (t_al1 xs (P.map fun x : Th => x.1) (P.map fun x : Th => x.2.1) (P.map fun x : Th => x.2.2) ((a : Nat) : Int) P.length (F + 1) M k) ?_
    by_cases h0 : xs.length ≤ a
    · exact Again.mk (brf (by omega) (done a P h0 h5 h6))
    · refine Again.mk (brt (by omega) ?_)
      rw [hx, show onB xs ((a : Nat) : Int) = true from decide_eq_true ⟨by omega, by omega, by omega⟩]
      refine nd rfl ?_
      rw [Int.toNat_natCast]
      have hdl : (xs.drop a).length = xs.length - a := List.length_drop
      refine br (fun e => ?_) (fun e => ?_)
      · obtain ⟨o1, o2, o3, o4, o5, o6⟩ := oneB_len e
        obtain ⟨t1, t2⟩ := thsB_one e
        refine ndd (by omega) (ndd (by omega) ?_)
        have en : nextA xs ((a : Nat) : Int) = ((a + up4 (lenT (xs.drop a)) : Nat) : Int) := by unfold nextA; rw [Int.toNat_natCast]; omega
        have f1 := fitL_same (0 : Int) P.length (P.map fun x : Th => x.1) (by rw [List.length_map])
        have f2 := fitL_same (0 : Int) P.length (P.map fun x : Th => x.2.1) (by rw [List.length_map])
        have f3 := fitL_same ([] : List Int) P.length (P.map fun x : Th => x.2.2) (by rw [List.length_map])
        rw [en, f1, f2, f3, List.take_length]
        have hn := ih (a + up4 (lenT (xs.drop a))) (P ++ [thT (xs.drop a)]) (by omega) (by omega) (by omega) (by rw [List.length_append]; simp only [List.length_cons, List.length_nil]; omega) (by rw [← List.drop_drop, List.append_assoc, ← h5, t1]; rfl) (by rw [← List.drop_drop, ← t2]; exact h6)
        unfold thP thR at hn
        rw [List.length_append, List.map_append, List.map_append, List.map_append] at hn
        exact evFuelP hn (by omega)
      · obtain ⟨t1, t2⟩ := thsB_bad (by omega) e
        rw [t1, List.append_nil] at h5
        rw [← h5, ← h6, t2] at hk
        exact hk
theorem sAll_lin (args : List SA) (st : St) : Lin (sAll args st) := by
  intro k h
  unfold sAll at h ⊢
  split at h
  · exact (Lin.need (Lin.ret _ _)) k h
  · exact h.elim
theorem all_sum : SumOk Try.prog 23 sAll := by
  refine sumOk_of cxAl_ok sAll_lin fun args st k h => ?_
  unfold sAll at h
  split at h
  · rename_i xs
    obtain ⟨h1, hK⟩ := need_iff.1 h
    refine ⟨xs.length + 60, ?_⟩
    refine Eq.mpr (t_al xs xs.length k) ?_
    exact al_loop xs xs.length k h1 hK xs.length 0 [] (by omega) (by omega) rfl (by simp) rfl rfl
  · exact h.elim
end Go.Ev
