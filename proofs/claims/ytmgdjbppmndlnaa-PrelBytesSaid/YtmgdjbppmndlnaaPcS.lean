/- Things one behind the other: the program's List. No conditions. -/
import Derived.Test.YtmgdjbppmndlnaaPbS
import Derived.Test.YtmgdjbppmndlnaaPcE
import Derived.Test.YtmgdjbppmndlnaaCl8S
import Derived.Test.YtmgdjbppmndlnaaPcT0
import Derived.Test.YtmgdjbppmndlnaaPcT1
import Derived.Test.YtmgdjbppmndlnaaPcT2
import Derived.Test.YtmgdjbppmndlnaaPcT3
import Derived.Test.YtmgdjbppmndlnaaPcT4
set_option linter.unusedVariables false
namespace Go.Spec
open Go Go.Ev
theorem zer_step {l : List Int} {j : Nat} (h : j < l.length) : zerosB (l.drop j) = (eqK (l.getD j 0) 0 && zerosB (l.drop (j + 1))) := by
  rw [List.drop_eq_getElem_cons h, List.getD_eq_getElem?_getD, List.getElem?_eq_getElem h]
  rfl
theorem cut_getD {ys : List Int} {n c j : Nat} (h : j < c) (hl : n + c ≤ ys.length) : ((ys.drop n).take c).getD j 0 = ys.getD (n + j) 0 := by
  rw [List.getD_eq_getElem?_getD, List.getD_eq_getElem?_getD, List.getElem?_take, if_pos h, List.getElem?_drop]
theorem cut_len {ys : List Int} {n c : Nat} (hl : n + c ≤ ys.length) : ((ys.drop n).take c).length = c := by rw [List.length_take, List.length_drop]; omega
theorem val_eq (ys : List Int) (n : Nat) : (ys.drop 4).take (n - 4) = (ys.take n).drop 4 := by rw [List.drop_take]
theorem one_of {ys : List Int} (h4 : 4 ≤ ys.length) (hn : 4 ≤ lenT ys) (hu : up4 (lenT ys) ≤ ys.length) : oneB ys = zerosB ((ys.drop (lenT ys)).take (up4 (lenT ys) - lenT ys)) := by
  unfold oneB; rw [decide_eq_true ⟨h4, hn, hu⟩, Bool.true_and]
theorem one_no {ys : List Int} (h : ¬ (4 ≤ ys.length ∧ 4 ≤ lenT ys ∧ up4 (lenT ys) ≤ ys.length)) : oneB ys = false := by
  unfold oneB; rw [decide_eq_false h, Bool.false_and]
theorem ths_none {xs : List Int} (h : endsB xs = true) (h2 : thsB xs = []) : xs = [] := by
  by_cases h0 : xs.length = 0
  · exact List.eq_nil_of_length_eq_zero h0
  · cases h1 : oneB xs with
    | true => rw [(thsB_one h1).1] at h2; cases h2
    | false => rw [(thsB_bad h0 h1).2] at h; cases h
end Go.Spec
namespace Go.Ev
open Go Go.Proofs Go.Spec
attribute [local irreducible] ev evCall branch need again
theorem cxLi_ok : CxOk Try.prog cxLi := by
  have h := mkCx_ok (P := Try.prog) (sums := [(46, sClone8)]) (live := [(45, 1, [0, 1, 2, 4], [⟨4, [], 26⟩]), (45, 6, [0, 1, 2, 4, 5, 39, 40, 41], [])]) (wr := []) namesPb mixedPb (by
    intro x h
    simp only [List.mem_cons, List.not_mem_nil, or_false] at h
    subst h
    exact clone8_sum)
  exact ⟨h.prog, h.names, h.mixed, h.sum, h.ovl⟩
def thP (P : List Th) : Option SO := thR P.length (P.map fun x => x.1) (P.map fun x => x.2.1) (P.map fun x => x.2.2)
theorem thP_ths (xs : List Int) : thP (thsB xs) = thR (cntB xs) (kindsB xs) (flagsB xs) (valsB xs) := rfl
theorem lz0_loop (xs ys : List Int) (n a c A C N : Nat) (k : SV → St → Prop) (hn : n = lenT ys) (h4 : 4 ≤ n) (ha : a = n) (hc : c = up4 n - n) (hl : up4 n ≤ ys.length) (h8 : ∀ x ∈ ys, 0 ≤ x ∧ x ≤ 255) (hy : ys.length ≤ 100000)
    (hgood : zerosB ((ys.drop n).take c) = true → ev cxLi (A + 48) 8 45 (codeAt Try.prog 45 [0, 1, 1, 0, 0]) liF (liSt xs (.ref 9) [rdB false .ext 0 (ys.drop (up4 n)), thP [thT ys]]) (liK N k))
    (hbad : zerosB ((ys.drop n).take c) = false → k (.tup [.one nilC, .one (iv .i64 40)]) [rdB false .ext 0 xs]) :
    ∀ (rem j : Nat), j + rem = c → zerosB ((ys.drop n).take c) = zerosB (((ys.drop n).take c).drop j) →
      ev cxLi (rem + C + 40) 8 45 (codeAt Try.prog 45 [0, 1, 1, 0, 0, 0, 1, 0, 1, 1, 1, 0, 1, 0]) (frm 87 [(0, (.sa (.one (SC.ref 7)))), (1, (.sa (.one (SC.ptr 5 0 0)))), (2, (.sa (.one (SC.ptr 6 0 0)))), (4, (.sa (.one (SC.ref 8)))), (5, (.sa (.one (iv .i64 ((n : Nat) : Int))))), (39, (.sa (.one (SC.ref 9)))), (40, (.sa (.one (iv .i64 ((c : Nat) : Int))))), (41, (.sa (.one (iv .i64 ((j : Nat) : Int)))))]) (liSt xs (.raw (.slice none 0 0)) [rdB false .ext 0 ys, some (.part 8 a c)]) (kBlock 2 (kSeq (ev cxLi (A + 42) 8 45 (codeAt Try.prog 45 [0, 1, 1, 0, 0, 0, 1, 0, 1, 1, 1, 1])) (kBlock 1 (kSeq (ev cxLi (A + 48) 8 45 (codeAt Try.prog 45 [0, 1, 1, 0, 0])) (liK N k))))) := by
  have hu : n ≤ up4 n ∧ up4 n < n + 4 := by constructor <;> unfold up4 <;> omega
  have hcl : n + c ≤ ys.length := by omega
  intro rem
  induction rem with
  | zero =>
    intro j h1 h2
    have hz : zerosB ((ys.drop n).take c) = true := by
      rw [h2, List.drop_of_length_le (by rw [cut_len hcl]; omega)]; rfl
    have hg := hgood hz
    refine Eq.mpr (t_lz0 xs ys ((n : Nat) : Int) ((j : Nat) : Int) a c (0 + C) A N k) ?_
    rw [up_k (n := n) (by omega)]
    refine Again.mk (brf (by omega) ?_)
    repeat' refine ndd (by first | omega | (simp only [List.length_take, List.length_drop]; omega)) ?_
    have e1 : List.take (ys.length - Int.toNat ((up4 n : Nat) : Int)) (List.drop (0 + Int.toNat ((up4 n : Nat) : Int)) ys) = ys.drop (up4 n) := by
      rw [Int.toNat_natCast, Nat.zero_add, List.take_of_length_le (by rw [List.length_drop]; omega)]
    have e2 : List.take (List.take (Int.toNat ((n : Nat) : Int) - 4) (List.drop 4 ys)).length (List.take (Int.toNat ((n : Nat) : Int) - 4) (List.drop 4 ys)) = valT ys := by
      rw [List.take_length, Int.toNat_natCast, val_eq, hn]; rfl
    have e3 : IntKind.wrap .u16 (ys.getD 0 0) = kindT ys := by
      have := by_getD h8 0
      exact Go.IntWalk.u16_in _ (by omega)
    rw [e1, e2, e3]
    exact hg
  | succ rem ih =>
    intro j h1 h2
    refine Eq.mpr (t_lz0 xs ys ((n : Nat) : Int) ((j : Nat) : Int) a c (rem + 1 + C) A N k) ?_
    have e3 : addK .i64 (j : Int) 1 = ((j + 1 : Nat) : Int) := by rw [add64 (by omega)]; omega
    rw [e3]
    have hs := zer_step (l := (ys.drop n).take c) (j := j) (by rw [cut_len hcl]; omega)
    rw [cut_getD (by omega) hcl] at hs
    rw [← h2] at hs
    rw [Int.toNat_natCast, ha]
    refine Again.mk (brt (by omega) (ndd (by omega) (ndd (by omega) (ndd (by omega) ?_))))
    refine brN (fun e => ?_) (fun e => ?_)
    · rw [e, Bool.true_and] at hs
      have := ih (j + 1) (by omega) hs
      rw [ha] at this
      exact evFuelP this (by omega)
    · rw [e, Bool.false_and] at hs
      exact brt (by omega) (hbad hs)
theorem lz1_loop (xs ys : List Int) (P : List Th) (n a c A C N : Nat) (k : SV → St → Prop) (hn : n = lenT ys) (h4 : 4 ≤ n) (ha : a = n) (hc : c = up4 n - n) (hl : up4 n ≤ ys.length) (h8 : ∀ x ∈ ys, 0 ≤ x ∧ x ≤ 255) (hy : ys.length ≤ 100000) (hP : P.length ≤ 100000)
    (hgood : zerosB ((ys.drop n).take c) = true → ev cxLi (A + 48) 8 45 (codeAt Try.prog 45 [0, 1, 1, 0, 0]) liF (liSt xs (.ref 9) [rdB false .ext 0 (ys.drop (up4 n)), thP (P ++ [thT ys])]) (liK N k))
    (hbad : zerosB ((ys.drop n).take c) = false → k (.tup [.one nilC, .one (iv .i64 40)]) [rdB false .ext 0 xs]) :
    ∀ (rem j : Nat), j + rem = c → zerosB ((ys.drop n).take c) = zerosB (((ys.drop n).take c).drop j) →
      ev cxLi (rem + C + 40) 8 45 (codeAt Try.prog 45 [0, 1, 1, 0, 0, 0, 1, 0, 1, 1, 1, 0, 1, 0]) (frm 87 [(0, (.sa (.one (SC.ref 7)))), (1, (.sa (.one (SC.ptr 5 0 0)))), (2, (.sa (.one (SC.ptr 6 0 0)))), (4, (.sa (.one (SC.ref 8)))), (5, (.sa (.one (iv .i64 ((n : Nat) : Int))))), (39, (.sa (.one (SC.ref 9)))), (40, (.sa (.one (iv .i64 ((c : Nat) : Int))))), (41, (.sa (.one (iv .i64 ((j : Nat) : Int)))))]) (liSt xs (.ref 10) [rdB false .ext 0 ys, some (.part 8 a c), thP P]) (kBlock 2 (kSeq (ev cxLi (A + 42) 8 45 (codeAt Try.prog 45 [0, 1, 1, 0, 0, 0, 1, 0, 1, 1, 1, 1])) (kBlock 1 (kSeq (ev cxLi (A + 48) 8 45 (codeAt Try.prog 45 [0, 1, 1, 0, 0])) (liK N k))))) := by
  have hu : n ≤ up4 n ∧ up4 n < n + 4 := by constructor <;> unfold up4 <;> omega
  have hcl : n + c ≤ ys.length := by omega
  intro rem
  induction rem with
  | zero =>
    intro j h1 h2
    have hz : zerosB ((ys.drop n).take c) = true := by
      rw [h2, List.drop_of_length_le (by rw [cut_len hcl]; omega)]; rfl
    have hg := hgood hz
    refine Eq.mpr (t_lz1 xs ys (P.map fun x => x.1) (P.map fun x => x.2.1) (P.map fun x => x.2.2) P.length ((n : Nat) : Int) ((j : Nat) : Int) a c (0 + C) A N k) ?_
    rw [up_k (n := n) (by omega)]
    refine Again.mk (brf (by omega) ?_)
    repeat' refine ndd (by first | omega | (simp only [List.length_take, List.length_drop]; omega)) ?_
    have e1 : List.take (ys.length - Int.toNat ((up4 n : Nat) : Int)) (List.drop (0 + Int.toNat ((up4 n : Nat) : Int)) ys) = ys.drop (up4 n) := by
      rw [Int.toNat_natCast, Nat.zero_add, List.take_of_length_le (by rw [List.length_drop]; omega)]
    have e2 : List.take (List.take (Int.toNat ((n : Nat) : Int) - 4) (List.drop 4 ys)).length (List.take (Int.toNat ((n : Nat) : Int) - 4) (List.drop 4 ys)) = valT ys := by
      rw [List.take_length, Int.toNat_natCast, val_eq, hn]; rfl
    have e3 : IntKind.wrap .u16 (ys.getD 0 0) = kindT ys := by
      have := by_getD h8 0
      exact Go.IntWalk.u16_in _ (by omega)
    rw [e1, e2, e3]
    have f1 := fitL_same (0 : Int) P.length (P.map fun x => x.1) (by rw [List.length_map])
    have f2 := fitL_same (0 : Int) P.length (P.map fun x => x.2.1) (by rw [List.length_map])
    have f3 := fitL_same ([] : List Int) P.length (P.map fun x => x.2.2) (by rw [List.length_map])
    rw [f1, f2, f3]
    unfold thP thR at hg
    rw [List.length_append, List.map_append, List.map_append, List.map_append] at hg
    exact hg
  | succ rem ih =>
    intro j h1 h2
    refine Eq.mpr (t_lz1 xs ys (P.map fun x => x.1) (P.map fun x => x.2.1) (P.map fun x => x.2.2) P.length ((n : Nat) : Int) ((j : Nat) : Int) a c (rem + 1 + C) A N k) ?_
    have e3 : addK .i64 (j : Int) 1 = ((j + 1 : Nat) : Int) := by rw [add64 (by omega)]; omega
    rw [e3]
    have hs := zer_step (l := (ys.drop n).take c) (j := j) (by rw [cut_len hcl]; omega)
    rw [cut_getD (by omega) hcl] at hs
    rw [← h2] at hs
    rw [Int.toNat_natCast, ha]
    refine Again.mk (brt (by omega) (ndd (by omega) (ndd (by omega) (ndd (by omega) ?_))))
    refine brN (fun e => ?_) (fun e => ?_)
    · rw [e, Bool.true_and] at hs
      have := ih (j + 1) (by omega) hs
      rw [ha] at this
      exact evFuelP this (by omega)
    · rw [e, Bool.false_and] at hs
      exact brt (by omega) (hbad hs)
theorem li_loop (xs : List Int) (N : Nat) (k : SV → St → Prop) (hx : xs.length ≤ 100000)
    (hOk : endsB xs = true → thsB xs ≠ [] → k (.tup [.one (.ref 1), .one (iv .i64 0)]) [rdB false .ext 0 xs, thP (thsB xs)])
    (hBad : endsB xs = false → k (.tup [.one nilC, .one (iv .i64 40)]) [rdB false .ext 0 xs]) :
    ∀ (F : Nat) (ys : List Int) (P : List Th), ys.length ≤ F → P ≠ [] → 4 * P.length + ys.length ≤ 100000 → (∀ x ∈ ys, 0 ≤ x ∧ x ≤ 255) → P ++ thsB ys = thsB xs → endsB ys = endsB xs →
      ev cxLi (F + 4 + 49) 8 45 (codeAt Try.prog 45 [0, 1, 1, 0, 0]) liF (liSt xs (.ref 9) [rdB false .ext 0 ys, thP P]) (liK N k) := by
  intro F
  induction F with
  | zero =>
    intro ys P h1 hP h5 h8 h6 h7
    have hy : ys = [] := List.eq_nil_of_length_eq_zero (by omega)
    subst hy
    refine Eq.mpr (t_li1 xs [] (P.map fun x => x.1) (P.map fun x => x.2.1) (P.map fun x => x.2.2) P.length (0 + 4) N k) ?_
    refine Again.mk (brf (by decide) (brf (by decide) ?_))
    rw [thsB_nil.1, List.append_nil] at h6
    rw [← h6] at hOk
    exact hOk (by rw [← h7]; exact thsB_nil.2) hP
  | succ F ih =>
    intro ys P h1 hP h5 h8 h6 h7
    by_cases h0 : ys.length = 0
    · have hy : ys = [] := List.eq_nil_of_length_eq_zero h0
      subst hy
      refine Eq.mpr (t_li1 xs [] (P.map fun x => x.1) (P.map fun x => x.2.1) (P.map fun x => x.2.2) P.length (F + 1 + 4) N k) ?_
      refine Again.mk (brf (by decide) (brf (by decide) ?_))
      rw [thsB_nil.1, List.append_nil] at h6
      rw [← h6] at hOk
      exact hOk (by rw [← h7]; exact thsB_nil.2) hP
    refine Eq.mpr (t_li1 xs ys (P.map fun x => x.1) (P.map fun x => x.2.1) (P.map fun x => x.2.2) P.length (F + 1 + 4) N k) ?_
    have bad : oneB ys = false → k (.tup [.one nilC, .one (iv .i64 40)]) [rdB false .ext 0 xs] := fun e => hBad (by rw [← h7]; exact (thsB_bad (by omega) e).2)
    refine Again.mk (brt (by omega) (brd (fun g => brt (by omega) (bad (one_no (by omega)))) (fun g => ?_)))
    obtain ⟨n1, n2⟩ := lenT_eq h8
    rw [ori64 (by_getD h8 2) (by_getD h8 3), ← n1]
    rw [up_k (n := lenT ys) (by omega)]
    iterate 4 refine ndd (by omega) ?_
    refine brd (fun g2 => brt (by omega) (bad (one_no (by omega)))) (fun g2 => ?_)
    refine brd (fun g3 => brt (by omega) (bad (one_no (by omega)))) (fun g3 => ?_)
    have hu : lenT ys ≤ up4 (lenT ys) ∧ up4 (lenT ys) < lenT ys + 4 := by constructor <;> unfold up4 <;> omega
    iterate 6 refine ndd (by omega) ?_
    rw [Int.toNat_natCast, Int.toNat_natCast, Nat.zero_add]
    have one := one_of (by omega) (by omega : 4 ≤ lenT ys) (by omega : up4 (lenT ys) ≤ ys.length)
    have hh := lz1_loop xs ys P (lenT ys) (lenT ys) (up4 (lenT ys) - lenT ys) (F + 1 + 4) (F + 5 - (up4 (lenT ys) - lenT ys)) N k rfl (by omega) rfl rfl (by omega) h8 (by omega) (by omega) (fun hz => ?_) (fun hz => bad (by rw [one]; exact hz)) (up4 (lenT ys) - lenT ys) 0 (by omega) rfl
    · exact evFuelP hh (by omega)
    · rw [← one] at hz
      obtain ⟨t1, t2⟩ := thsB_one hz
      refine evFuelP (ih (ys.drop (up4 (lenT ys))) (P ++ [thT ys]) (by rw [List.length_drop]; omega) (by simp) ?_ (by_drop h8 _) ?_ ?_) (by omega)
      · rw [List.length_drop, List.length_append]
        simp only [List.length_cons, List.length_nil]
        have := (oneB_len hz).2.2.2.2.2
        omega
      · rw [List.append_assoc, ← h6, t1]; rfl
      · rw [← h7, t2]
theorem li_run (xs : List Int) (N : Nat) (k : SV → St → Prop) (hx : xs.length ≤ 100000) (h8 : ∀ x ∈ xs, 0 ≤ x ∧ x ≤ 255)
    (hOk : endsB xs = true → thsB xs ≠ [] → k (.tup [.one (.ref 1), .one (iv .i64 0)]) [rdB false .ext 0 xs, thP (thsB xs)])
    (hNil : xs = [] → k (.tup [.one nilC, .one (iv .i64 0)]) [rdB false .ext 0 xs])
    (hBad : endsB xs = false → k (.tup [.one nilC, .one (iv .i64 40)]) [rdB false .ext 0 xs]) :
      ev cxLi (xs.length + 4 + 49) 8 45 (codeAt Try.prog 45 [0, 1, 1, 0, 0]) liF (liSt xs (.raw (.slice none 0 0)) [rdB false .ext 0 xs]) (liK N k) := by
  by_cases h0 : xs.length = 0
  · have hy : xs = [] := List.eq_nil_of_length_eq_zero h0
    subst hy
    refine Eq.mpr (t_li0 [] [] (0 + 4) N k) ?_
    exact Again.mk (brf (by decide) (brf (by decide) (hNil rfl)))
  · have h7 : endsB xs = endsB xs := rfl
    refine Eq.mpr (t_li0 xs xs (xs.length + 4) N k) ?_
    have bad : oneB xs = false → k (.tup [.one nilC, .one (iv .i64 40)]) [rdB false .ext 0 xs] := fun e => hBad (by rw [← h7]; exact (thsB_bad (by omega) e).2)
    refine Again.mk (brt (by omega) (brd (fun g => brt (by omega) (bad (one_no (by omega)))) (fun g => ?_)))
    obtain ⟨n1, n2⟩ := lenT_eq h8
    rw [ori64 (by_getD h8 2) (by_getD h8 3), ← n1]
    rw [up_k (n := lenT xs) (by omega)]
    iterate 4 refine ndd (by omega) ?_
    refine brd (fun g2 => brt (by omega) (bad (one_no (by omega)))) (fun g2 => ?_)
    refine brd (fun g3 => brt (by omega) (bad (one_no (by omega)))) (fun g3 => ?_)
    have hu : lenT xs ≤ up4 (lenT xs) ∧ up4 (lenT xs) < lenT xs + 4 := by constructor <;> unfold up4 <;> omega
    iterate 6 refine ndd (by omega) ?_
    rw [Int.toNat_natCast, Int.toNat_natCast, Nat.zero_add]
    have one := one_of (by omega) (by omega : 4 ≤ lenT xs) (by omega : up4 (lenT xs) ≤ xs.length)
    have hh := lz0_loop xs xs (lenT xs) (lenT xs) (up4 (lenT xs) - lenT xs) (xs.length + 4) (xs.length + 4 - (up4 (lenT xs) - lenT xs)) N k rfl (by omega) rfl rfl (by omega) h8 (by omega) (fun hz => ?_) (fun hz => bad (by rw [one]; exact hz)) (up4 (lenT xs) - lenT xs) 0 (by omega) rfl
    · exact evFuelP hh (by omega)
    · rw [← one] at hz
      obtain ⟨t1, t2⟩ := thsB_one hz
      refine evFuelP (li_loop xs N k hx hOk hBad (xs.length - 1) (xs.drop (up4 (lenT xs))) [thT xs] (by rw [List.length_drop]; omega) (by simp) ?_ (by_drop h8 _) ?_ ?_) (by omega)
      · rw [List.length_drop]
        simp only [List.length_cons, List.length_nil]
        have := (oneB_len hz).2.2.2.2.2
        omega
      · rw [t1]; rfl
      · rw [t2]
theorem sList_lin (args : List SA) (st : St) : Lin (sList args st) := by
  intro k h
  unfold sList at h ⊢
  split at h
  · exact (Lin.need (Lin.branch (Lin.branch (Lin.ret _ _) (Lin.ret _ _)) (Lin.ret _ _))) k h
  · exact h.elim
theorem list_sum : SumOk Try.prog 22 sList := by
  refine sumOk_of cxLi_ok sList_lin fun args st k h => ?_
  unfold sList at h
  split at h
  · rename_i xs
    obtain ⟨h1, hK⟩ := need_iff.1 h
    obtain ⟨hx, h8⟩ := byB_of h1
    obtain ⟨hT, hF⟩ := br_pick hK
    refine ⟨(xs.length + 4) + 60, ?_⟩
    refine Eq.mpr (t_li xs (xs.length + 4) k) ?_
    refine li_run xs (xs.length + 4) k hx h8 (fun e hne => ?_) (fun e => ?_) hF
    · have := (br_pick (hT e)).2 (decide_eq_false fun c => hne (by rw [List.eq_nil_of_length_eq_zero c]; exact thsB_nil.1))
      rw [thP_ths]
      exact this
    · subst e
      exact (br_pick (hT thsB_nil.2)).1 rfl
  · exact h.elim
end Go.Ev
