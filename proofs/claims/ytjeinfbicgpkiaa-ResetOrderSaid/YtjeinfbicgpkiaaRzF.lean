/- ResetOrder: texts EqT1, IxT0, IxT1, IxS, EqS, Cl16T, Cl16S, WkO, RoN, one behind the other. No conditions. -/
import Derived.Test.YtjeinfbicgpkiaaRzE
import Derived.Test.YtjeinfbicgpkiaaEvD
set_option linter.unusedVariables false
set_option linter.unusedSimpArgs false
section
namespace Go.Ev
open Go Go.Proofs Go.Spec
theorem t_eqS (xs ys : List Int) (n i : Int) (L M : Nat) (k : SV → St → Prop) : ev cxEq (L + 35) 2 22 (codeAt Try.prog 22 [1, 1, 0, 1, 0]) (frm 26 [(0, (.sa (.one (SC.ref 0)))), (1, (.sa (.one (SC.ref 1)))), (12, (.sa (.one (iv .i64 n)))), (13, (.sa (.one (iv .i64 i))))]) [some (.own false .ext 0 1 (.ints .u16 xs)), some (.own false .ext 0 1 (.ints .u16 ys))] (kBlock 0 (kSeq (ev cxEq (M + 37) 2 22 (codeAt Try.prog 22 [1, 1, 1])) (kRet (Cx.P cxEq) [(ResultVar.tmp 4)] 2 k))) =
    (Again (branch (decide ((i < n))) (need (decide (((0) ≤ i))) (need (decide ((i < (((List.length xs) : Nat) : Int)))) (need (decide (((0 + (Int.toNat i)) < (List.length xs)))) (need (decide (((0) ≤ i))) (need (decide ((i < (((List.length ys) : Nat) : Int)))) (need (decide (((0 + (Int.toNat i)) < (List.length ys)))) (branch (Bool.not (eqK (List.getD xs (0 + (Int.toNat i)) (0)) (List.getD ys (0 + (Int.toNat i)) (0)))) (k (.sa (.one (bv false))) [(some (SO.own false MK.ext 0 1 (Ct.ints .u16 xs))), (some (SO.own false MK.ext 0 1 (Ct.ints .u16 ys)))]) (ev cxEq (L + 34) 2 22 (codeAt Try.prog 22 [1, 1, 0, 1, 0]) (frm 26 [(0, (.sa (.one (SC.ref 0)))), (1, (.sa (.one (SC.ref 1)))), (12, (.sa (.one (iv .i64 n)))), (13, (.sa (.one (iv .i64 (addK .i64 i (1))))))]) [(some (SO.own false MK.ext 0 1 (Ct.ints .u16 xs))), (some (SO.own false MK.ext 0 1 (Ct.ints .u16 ys)))] (kBlock 0 (kSeq (ev cxEq (M + 37) 2 22 (codeAt Try.prog 22 [1, 1, 1])) (kRet (Cx.P cxEq) [(ResultVar.tmp 4)] 2 k))))))))))) (k (.sa (.one (bv true))) [(some (SO.own false MK.ext 0 1 (Ct.ints .u16 xs))), (some (SO.own false MK.ext 0 1 (Ct.ints .u16 ys)))]))) := by kernel_rfl
end Go.Ev
end
section
namespace Go.Ev
open Go Go.Proofs Go.Spec
theorem t_idx (xs : List Int) (x : Int) (N : Nat) (k : SV → St → Prop) : evCall cxIx (ev cxIx (N + 40)) 56 [.one (.ref 0), .one (iv .u16 x)] [rd16 xs] k =
    (ev cxIx (N + 36) 1 56 (codeAt Try.prog 56 [1, 0, 1, 0]) (frm 19 [(0, (.sa (.one (SC.ref 0)))), (1, (.sa (.one (iv .u16 x)))), (7, (.sa (.one (iv .i64 (((List.length xs) : Nat) : Int))))), (8, (.sa (.one (iv .i64 (0)))))]) [(some (SO.own false MK.ext 0 1 (Ct.ints .u16 xs)))] (kBlock 0 (kSeq (ev cxIx (N + 38) 1 56 (codeAt Try.prog 56 [1, 1])) (kRet (Cx.P cxIx) [(ResultVar.tmp 4)] 1 k)))) := by kernel_rfl
theorem t_has (xs : List Int) (x : Int) (N : Nat) (k : SV → St → Prop) : evCall cxHa (ev cxHa 20) 50 [.one (.ref 0), .one (iv .u16 x)] [rd16 xs] k =
    (need (decide (((0 + (List.length xs)) ≤ (List.length xs)))) (need (decide (((List.length (List.take (List.length xs) xs)) ≤ 70368744177664))) (k (.sa (.one (bv (decide (((Spec.idxL x (List.take (List.length xs) xs) (0)) ≥ (0))))))) [(some (SO.own false MK.ext 0 1 (Ct.ints .u16 xs)))]))) := by kernel_rfl
end Go.Ev
end
section
namespace Go.Ev
open Go Go.Proofs Go.Spec
theorem t_idxS (xs : List Int) (x n i : Int) (L M : Nat) (k : SV → St → Prop) : ev cxIx (L + 36) 1 56 (codeAt Try.prog 56 [1, 0, 1, 0]) (frm 19 [(0, (.sa (.one (SC.ref 0)))), (1, (.sa (.one (iv .u16 x)))), (7, (.sa (.one (iv .i64 n)))), (8, (.sa (.one (iv .i64 i))))]) [some (.own false .ext 0 1 (.ints .u16 xs))] (kBlock 0 (kSeq (ev cxIx (M + 38) 1 56 (codeAt Try.prog 56 [1, 1])) (kRet (Cx.P cxIx) [(ResultVar.tmp 4)] 1 k))) =
    (Again (branch (decide ((i < n))) (need (decide (((0) ≤ i))) (need (decide ((i < (((List.length xs) : Nat) : Int)))) (need (decide (((0 + (Int.toNat i)) < (List.length xs)))) (branch (eqK x (List.getD xs (0 + (Int.toNat i)) (0))) (k (.sa (.one (iv .i64 i))) [(some (SO.own false MK.ext 0 1 (Ct.ints .u16 xs)))]) (ev cxIx (L + 35) 1 56 (Code.loop (Code.seq (Code.region 2 ([(Oper.mk (some 9) (Op.binOp BinOp.lss 3 (Operand.tmp 8) (Operand.tmp 7) 3) 0 "slices.go:97" ([]).toArray Option.none)]).toArray false) (Code.seq (Code.cond (Operand.tmp 9) Code.skip (Code.exit 0)) (Code.seq (Code.block 1 (Code.seq (Code.region 3 ([(Oper.mk (some 10) (Op.move (Operand.tmp 8)) 3 "slices.go:97" ([]).toArray Option.none), (Oper.mk (some 5) (Op.assign (Operand.tmp 10)) 3 "slices.go:97" ([(Edge.mk 0 Ground.data), (Edge.mk 0 Ground.phase)]).toArray Option.none)]).toArray false) (Code.seq (Code.region 4 ([(Oper.mk (some 11) (Op.move (Operand.tmp 1)) 22 "slices.go:98" ([]).toArray Option.none), (Oper.mk (some 12) (Op.move (Operand.tmp 0)) 32 "slices.go:98" ([]).toArray Option.none), (Oper.mk (some 13) (Op.move (Operand.tmp 5)) 3 "slices.go:98" ([]).toArray Option.none), (Oper.mk (some 14) (Op.indexAddr 32 (Operand.tmp 12) (Operand.tmp 13)) 0 "slices.go:98" ([(Edge.mk 1 Ground.data), (Edge.mk 2 Ground.data)]).toArray Option.none), (Oper.mk (some 15) (Op.load 22 (Operand.tmp 14)) 22 "slices.go:98" ([(Edge.mk 3 Ground.data)]).toArray Option.none), (Oper.mk (some 16) (Op.binOp BinOp.eql 22 (Operand.tmp 11) (Operand.tmp 15) 22) 4 "slices.go:98" ([(Edge.mk 0 Ground.data), (Edge.mk 4 Ground.data)]).toArray Option.none)]).toArray false) (Code.cond (Operand.tmp 16) (Code.seq (Code.region 5 ([(Oper.mk (some 17) (Op.move (Operand.tmp 5)) 3 "slices.go:99" ([]).toArray Option.none), (Oper.mk (some 4) (Op.assign (Operand.tmp 17)) 3 "slices.go:99" ([(Edge.mk 0 Ground.data), (Edge.mk 0 Ground.phase)]).toArray Option.none)]).toArray false) Code.ret) Code.skip)))) (Code.region 6 ([(Oper.mk (some 18) (Op.binOp BinOp.add 3 (Operand.tmp 8) (Operand.const (Value.int .i64 (1))) 3) 3 "slices.go:97" ([]).toArray Option.none), (Oper.mk (some 8) (Op.move (Operand.tmp 18)) 3 "slices.go:97" ([(Edge.mk 0 Ground.data)]).toArray Option.none)]).toArray false))))) (frm 19 [(0, (.sa (.one (SC.ref 0)))), (1, (.sa (.one (iv .u16 x)))), (7, (.sa (.one (iv .i64 n)))), (8, (.sa (.one (iv .i64 (addK .i64 i (1))))))]) [(some (SO.own false MK.ext 0 1 (Ct.ints .u16 xs)))] (kBlock 0 (kSeq (ev cxIx (M + 38) 1 56 (Code.seq (Code.region 7 ([(Oper.mk (some 4) (Op.assign (Operand.const (Value.int .i64 (-(1))))) 3 "slices.go:102" ([]).toArray Option.none)]).toArray false) Code.ret)) (kRet (Cx.P cxIx) [(ResultVar.tmp 4)] 1 k)))))))) (k (.sa (.one (iv .i64 (-(1))))) [(some (SO.own false MK.ext 0 1 (Ct.ints .u16 xs)))]))) := by kernel_rfl
end Go.Ev
end
section
namespace Go.Ev
open Go Go.Proofs Go.Spec
attribute [local irreducible] ev evCall branch need again
theorem take_getD {xs : List Int} {i : Nat} (h : i < xs.length) : xs.take (i + 1) = xs.take i ++ [xs.getD i 0] := by
  rw [List.take_add_one, List.getD_eq_getElem?_getD, List.getElem?_eq_getElem h]
  rfl
theorem cxIx_ok : CxOk Try.prog cxIx := mkCx_ok (by kernel_rfl) (by kernel_rfl) (by simp)
theorem idx_loop (xs : List Int) (x : Int) (c M : Nat) (hl : xs.length ≤ 70368744177664) (k : SV → St → Prop) (hk : k (.sa (.one (iv .i64 (idxL x xs 0)))) [rd16 xs]) :
    ∀ (rem i : Nat), i + rem = xs.length → idxL x (xs.drop i) i = idxL x xs 0 → ev cxIx (rem + c + 36) 1 56 (codeAt Try.prog 56 [1, 0, 1, 0]) (frm 19 [(0, (.sa (.one (SC.ref 0)))), (1, (.sa (.one (iv .u16 x)))), (7, (.sa (.one (iv .i64 ((xs.length : Nat) : Int))))), (8, (.sa (.one (iv .i64 (i : Int)))))]) [some (.own false .ext 0 1 (.ints .u16 xs))] (kBlock 0 (kSeq (ev cxIx (M + 38) 1 56 (codeAt Try.prog 56 [1, 1])) (kRet (Cx.P cxIx) [(ResultVar.tmp 4)] 1 k))) := by
  have out : ∀ r : Int, r = idxL x xs 0 → k (.sa (.one (iv .i64 r))) [rd16 xs] := fun r e => e ▸ hk
  intro rem
  induction rem with
  | zero =>
    intro i h1 h2
    rw [t_idxS]
    refine Again.mk (brf (by omega) (out _ ?_))
    rw [← h2, List.drop_of_length_le (by omega)]
    rfl
  | succ rem ih =>
    intro i h1 h2
    rw [show rem + 1 + c + 36 = (rem + 1 + c) + 36 from rfl, t_idxS]
    have e1 : 0 + ((i : Nat) : Int).toNat = i := by omega
    have e2 : addK .i64 (i : Int) 1 = ((i + 1 : Nat) : Int) := by rw [add64 (by omega)]; omega
    rw [e1, e2]
    rw [drop_getD (by omega), idxL] at h2
    refine Again.mk (brt (by omega) (ndd (by omega) (ndd (by omega) (ndd (by omega) (br (fun e => out _ ?_) (fun e => ?_))))))
    · rw [e] at h2; exact h2
    · rw [e] at h2
      exact evFuelR (ih (i + 1) (by omega) (by simpa using h2)) (by omega)
theorem fIdx_lin (vas : List VA) : Lin (fIdx vas) := by
  intro k h
  unfold fIdx at h ⊢
  split at h
  · exact (Lin.need (Lin.ret _ _)) k h
  · exact h.elim
theorem idx_sum : SumOk Try.prog 56 sIdx := by
  refine pureSum_ok cxIx_ok fIdx_lin fun vas K h => ?_
  unfold fIdx at h
  split at h
  · rename_i xs x
    obtain ⟨h1, hK⟩ := need_iff.1 h
    have h1 := of_decide_eq_true h1
    refine ⟨xs.length + 40, ?_⟩
    show evCall cxIx (ev cxIx (xs.length + 40)) 56 [.one (.ref 0), .one (iv .u16 x)] [rd16 xs] (pureK 1 K)
    rw [t_idx]
    exact idx_loop xs x 0 xs.length h1 (pureK 1 K) hK xs.length 0 (by omega) rfl
  · exact h.elim
theorem idxL_pos (x : Int) : ∀ (l : List Int) (i : Int), 0 ≤ i → (idxL x l i ≥ 0 ↔ x ∈ l)
  | [], i, _ => by simp [idxL]
  | a :: r, i, h => by
    rw [idxL]
    cases e : eqK x a with
    | true => rw [eqK_t] at e; simp [e]; exact h
    | false =>
      rw [eqK_f] at e
      simp only [List.mem_cons, e, false_or]
      exact idxL_pos x r (i + 1) (by omega)
theorem has_idx (xs : List Int) (x : Int) : decide (idxL x xs 0 ≥ 0) = hasL xs x := by
  unfold hasL
  rw [Bool.eq_iff_iff, decide_eq_true_iff, idxL_pos x xs 0 (by omega), List.contains_iff_mem]
theorem cxHa_ok : CxOk Try.prog cxHa := mkCx_ok (by kernel_rfl) (by kernel_rfl) (by
  intro y h
  simp only [List.mem_cons, List.not_mem_nil, or_false] at h
  subst h
  exact idx_sum)
theorem fHas_lin (vas : List VA) : Lin (fHas vas) := by
  intro k h
  unfold fHas at h ⊢
  split at h
  · exact (Lin.need (Lin.ret _ _)) k h
  · exact h.elim
theorem has_sum : SumOk Try.prog 50 sHas := by
  refine pureSum_ok cxHa_ok fHas_lin fun vas K h => ?_
  unfold fHas at h
  split at h
  · rename_i xs x
    obtain ⟨h1, hK⟩ := need_iff.1 h
    have h1 := of_decide_eq_true h1
    refine ⟨20, ?_⟩
    show evCall cxHa (ev cxHa 20) 50 [.one (.ref 0), .one (iv .u16 x)] [rd16 xs] (pureK 1 K)
    rw [t_has xs x 0, List.take_length, has_idx]
    exact ndd (by omega) (ndd (by omega) hK)
  · exact h.elim
end Go.Ev
end
section
namespace Go.Ev
open Go Go.Proofs Go.Spec
attribute [local irreducible] ev evCall branch need again
theorem getD_take_eq {xs ys : List Int} (hl : xs.length = ys.length) {i : Nat} (h : i < xs.length) (ht : xs.take i = ys.take i) (he : xs.getD i 0 = ys.getD i 0) : xs.take (i + 1) = ys.take (i + 1) := by
  rw [take_getD h, take_getD (by omega), ht, he]
theorem ne_of_getD {xs ys : List Int} {i : Nat} (he : xs.getD i 0 ≠ ys.getD i 0) : xs ≠ ys := fun e => he (by rw [e])
theorem cxEq_ok : CxOk Try.prog cxEq := mkCx_ok (by kernel_rfl) (by kernel_rfl) (by simp)
theorem eq_loop (xs ys : List Int) (c M : Nat) (hl : xs.length ≤ 70368744177664) (hxy : xs.length = ys.length) (k : SV → St → Prop) (hk : k (.sa (.one (bv (eqLL xs ys)))) [rd16 xs, rd16 ys]) :
    ∀ (rem i : Nat), i + rem = xs.length → xs.take i = ys.take i → ev cxEq (rem + c + 35) 2 22 (codeAt Try.prog 22 [1, 1, 0, 1, 0]) (frm 26 [(0, (.sa (.one (SC.ref 0)))), (1, (.sa (.one (SC.ref 1)))), (12, (.sa (.one (iv .i64 ((xs.length : Nat) : Int))))), (13, (.sa (.one (iv .i64 (i : Int)))))]) [some (.own false .ext 0 1 (.ints .u16 xs)), some (.own false .ext 0 1 (.ints .u16 ys))] (kBlock 0 (kSeq (ev cxEq (M + 37) 2 22 (codeAt Try.prog 22 [1, 1, 1])) (kRet (Cx.P cxEq) [(ResultVar.tmp 4)] 2 k))) := by
  have out : ∀ r : Bool, r = eqLL xs ys → k (.sa (.one (bv r))) [rd16 xs, rd16 ys] := fun r e => e ▸ hk
  intro rem
  induction rem with
  | zero =>
    intro i h1 h2
    rw [t_eqS]
    refine Again.mk (brf (by omega) (out _ ?_))
    rw [List.take_of_length_le (by omega), List.take_of_length_le (by omega)] at h2
    exact (decide_eq_true h2).symm
  | succ rem ih =>
    intro i h1 h2
    rw [show rem + 1 + c + 35 = (rem + 1 + c) + 35 from rfl, t_eqS]
    have e1 : 0 + ((i : Nat) : Int).toNat = i := by omega
    have e2 : addK .i64 (i : Int) 1 = ((i + 1 : Nat) : Int) := by rw [add64 (by omega)]; omega
    rw [e1, e2]
    refine Again.mk (brt (by omega) (ndd (by omega) (ndd (by omega) (ndd (by omega) (ndd (by omega) (ndd (by omega) (ndd (by omega) (br (fun e => out _ ?_) (fun e => ?_)))))))))
    · rw [Bool.not_eq_true', eqK_f] at e
      exact (decide_eq_false (ne_of_getD e)).symm
    · rw [Bool.not_eq_false', eqK_t] at e
      exact evFuelR (ih (i + 1) (by omega) (getD_take_eq hxy (by omega) h2 e)) (by omega)
theorem fEql_lin (vas : List VA) : Lin (fEql vas) := by
  intro k h
  unfold fEql at h ⊢
  split at h
  · exact (Lin.need (Lin.ret _ _)) k h
  · exact h.elim
theorem eql_sum : SumOk Try.prog 22 sEql := by
  refine pureSum_ok cxEq_ok fEql_lin fun vas K h => ?_
  unfold fEql at h
  split at h
  · rename_i xs ys
    obtain ⟨h1, hK⟩ := need_iff.1 h
    have h1 := of_decide_eq_true h1
    refine ⟨xs.length + 40, ?_⟩
    show evCall cxEq (ev cxEq (xs.length + 40)) 22 [.one (.ref 0), .one (.ref 1)] [rd16 xs, rd16 ys] (pureK 2 K)
    rw [t_eq]
    refine br (fun e => ?_) (fun e => ?_)
    · rw [Bool.not_eq_true', eqK_f] at e
      have : eqLL xs ys = false := decide_eq_false fun h => e (by rw [h])
      rw [this] at hK
      exact hK
    · rw [Bool.not_eq_false', eqK_t] at e
      exact eq_loop xs ys 0 xs.length h1.1 (by omega) (pureK 2 K) hK xs.length 0 (by omega) rfl
  · exact h.elim
end Go.Ev
end
section
namespace Go.Ev
open Go Go.Proofs Go.Spec
theorem t_clone16 (x : Int) (xs : List Int) (k : SV → St → Prop) : evCall cxCl16 (ev cxCl16 40) 40 [.one (.ref 0)] [some (.own false .ext 0 1 (.ints .u16 (x :: xs)))] (tidyK Try.prog 32 1 k) =
    (need (decide (((0 + (List.length (x :: xs))) ≤ (List.length (x :: xs))))) (need (decide ((((0 + (List.length (List.take (List.length (x :: xs)) (x :: xs)))) * 2) ≤ 140737488355328))) (k (.sa (.one (SC.ref 1))) [(some (SO.own false MK.ext 0 1 (Ct.ints .u16 (x :: xs)))), (some (SO.own true MK.row 22 1 (Ct.ints .u16 (List.take (List.length (x :: xs)) (x :: xs)))))]))) := by kernel_rfl
theorem t_clone16n (c : Nat) (k : SV → St → Prop) : evCall cxCl16 (ev cxCl16 40) 40 [.one (.raw (.slice none 0 c))] [] (tidyK Try.prog 32 0 k) =
    (k (.sa (.one (SC.ref 0))) [(some (SO.own true MK.row 22 1 (Ct.ints .u16 [])))]) := by kernel_rfl
theorem t_clone16e (a : Addr) (c : Nat) (k : SV → St → Prop) : evCall cxCl16 (ev cxCl16 40) 40 [.one (.raw (.slice (some a) 0 c))] [] (tidyK Try.prog 32 0 k) =
    (k (.sa (.one (SC.ref 0))) [(some (SO.own true MK.row 22 1 (Ct.ints .u16 [])))]) := by kernel_rfl
end Go.Ev
end
section
namespace Go.Ev
open Go Go.Proofs
attribute [local irreducible] ev evCall branch need again
theorem cxCl16_ok : CxOk Try.prog cxCl16 := mkCx_ok (by kernel_rfl) (by kernel_rfl) (by simp)
theorem fClone16_lin (vas : List VA) : Lin (fClone16 vas) := by
  intro k h
  unfold fClone16 at h ⊢
  split at h
  · obtain ⟨h1, h⟩ := need_iff.1 h
    exact ⟨_, _, h, fun k2 hk => need_iff.2 ⟨h1, hk⟩⟩
  · exact h.elim
theorem clone16_sum : SumOk Try.prog 40 sClone16 := by
  refine pureSum_okN cxCl16_ok 32 fClone16_lin ?_ ?_ ?_
  · intro vas K h
    unfold fClone16 at h
    split at h
    · exact ⟨_, rfl⟩
    · exact h.elim
  · intro a c K h
    refine ⟨40, ?_⟩
    obtain ⟨_, h⟩ := need_iff.1 h
    cases a with
    | none => rw [t_clone16n]; exact h
    | some a => rw [t_clone16e]; exact h
  · intro x xs K h
    refine ⟨40, ?_⟩
    rw [t_clone16]
    obtain ⟨h1, h⟩ := need_iff.1 h
    have h1 := of_decide_eq_true h1
    rw [List.take_of_length_le (Nat.le_refl _)]
    exact ndd (by omega) (ndd (by omega) h)
end Go.Ev
end
section
namespace Go.Ev
open Go Go.Proofs
def wrW : FuncId → Nat := fun f => match hasN f [3,4,5,6,7,8,10,11,12,13,14,15,17,18,19,20,21,25,27,28,29,33,37,41,43,45,47] with | true => 2 | false => 0
theorem namesWk : namesB Try.prog = true := by kernel_rfl
theorem mixedWk : Try.prog.follows .mixedOrders = true := by kernel_rfl
noncomputable def cxW : Cx := mkCxF Try.prog [] wrW
theorem cxW_ok : CxOk Try.prog cxW := mkCxF_ok namesWk mixedWk (by intro x h; cases h)
theorem t_known (k : SV → St → Prop) : evCall cxW (ev cxW 3000) 8 [] [] k = k (.sa (.one (bv true))) [] := by kernel_rfl
theorem known_sum : SumOk Try.prog 8 sTrue := by
  refine sumOk_of cxW_ok ?_ ?_
  · intro args st k h
    unfold sTrue at h ⊢
    split at h
    · exact Lin.ret _ _ k h
    · exact h.elim
  · intro args st k h
    unfold sTrue at h
    split at h
    · exact ⟨3000, by rw [t_known]; exact h⟩
    · exact h.elim
end Go.Ev
end
section
namespace Go.Ev
open Go Go.Proofs Go.Spec
attribute [local irreducible] ev evCall branch need again
theorem cxRo_ok : CxOk Try.prog cxRo := by
  have h := mkCx_ok (P := Try.prog) (sums := sumsO) (live := [(5, 7, [7, 32, 33, 34], tidO 7), (5, 1000009, [7, 9, 32, 33, 34], []), (5, 1000010, [7, 32, 33, 34], tidO 7),
  (5, 14, [7, 10], tidO 7), (5, 1000019, [7, 10], []), (5, 1000020, [7, 10], []), (5, 1000021, [7], []), (5, 24, [7], tidO 7), (5, 1000025, [7], []), (5, 1000026, [7], []),
  (28, 1000027, [0, 3, 13], [⟨0, [3], 73⟩]), (28, 1000041, [0, 3, 16], [⟨0, [4], 74⟩])]) (wr := wrO) namesR mixedR (by
    intro y h
    unfold sumsO at h
    simp only [List.mem_cons, List.not_mem_nil, or_false] at h
    rcases h with rfl | rfl | rfl | rfl | rfl | rfl | rfl | rfl | rfl | rfl | rfl | rfl | rfl
    · exact known_sum
    · exact there_sum
    · exact all_sum
    · exact coM_sum
    · exact has_sum
    · exact ma_sum
    · exact ahead_sum
    · exact eql_sum
    · exact clone16_sum
    · exact hasG_sum
    · exact addG_sum
    · exact does_sum
    · exact ans_sum)
  exact { h with }
theorem getD_p {α : Type} {p : α → Prop} {z : α} {l : List α} (hz : p z) (h : ∀ x ∈ l, p x) (i : Nat) : p (l.getD i z) := by
  by_cases hi : i < l.length
  · rw [List.getD_eq_getElem?_getD, List.getElem?_eq_getElem hi]; exact h _ (List.getElem_mem hi)
  · rw [List.getD_eq_getElem?_getD, List.getElem?_eq_none (by omega)]; exact hz
def w0R (n : Nat) (c : Int) : Wy := ⟨⟨List.replicate n 0, List.replicate n 0, [], 0, [], [], 0, 5, 0, none, none⟩, ⟨[], [], List.replicate n 0, c, [], [], 0, 0, 5, none, none⟩, c, ⟨0, [], [], [], [], [], [], [], []⟩, ⟨0, [], [], [], [], []⟩, ⟨[], [], [], [], [], 0, [], [], 0, [], [], 0⟩, false⟩
def p0R (n : Nat) : Ro.P := ⟨[], [], [], List.replicate n 0, List.replicate n 0, 5, none, List.replicate n 0, 5, none, [], []⟩
theorem rel0 {n : Nat} {c : Int} (hc : 0 ≤ c ∧ c ≤ 4294967295) : Rel c (w0R n c) (p0R n) :=
  ⟨hc, rfl, rfl, rfl, rfl, rfl, rfl, rfl, rfl, rfl, rfl, ⟨0, ⟨by omega, (tn_zero hc).symm, by simp [w0R], fun k h1 h2 => by simp [w0R]; omega⟩⟩, by simp [w0R], (tn_zero hc).symm, rfl, rfl, rfl, rfl, rfl, rfl, rfl, rfl, rfl⟩
theorem sz0 {n : Nat} : SzO (p0R n) 0 :=
  ⟨by omega, by simp [p0R], by simp [p0R], by simp [p0R], fun s => by show (List.replicate n (0 : Int)).getD s 0 ≤ _; rw [Ro.getD_zeros]; omega, fun s => by show 0 ≤ (List.replicate n (0 : Int)).getD s 0; rw [Ro.getD_zeros]; omega, (fun c h => by cases h), (fun x h => by simp [p0R] at h), (fun n v h => by simp [p0R] at h), (fun c h => by cases h)⟩
theorem ro_run (s c : Int) (n : Nat) (kds ns sids wks : List Int) (wss : List (List Int)) (wms : List Int) (hs : 0 ≤ s ∧ s ≤ 65535) (hc : 0 ≤ c ∧ c ≤ 4294967295)
    (w1 : ∀ x ∈ kds, 0 ≤ x ∧ x ≤ 255) (w2 : ∀ x ∈ ns, 0 ≤ x ∧ x ≤ 65535) (w3 : ∀ x ∈ sids, 0 ≤ x ∧ x ≤ 65535) (w5 : ∀ x ∈ wms, 0 ≤ x ∧ x ≤ 65535) (w6 : ∀ xs ∈ wss, xs.length ≤ 70368744177664 ∧ ∀ x ∈ xs, 0 ≤ x ∧ x ≤ 65535) (K : SV → St → Prop) (hT : ∀ st, K (.sa (.one (bv true))) st) :
    ∃ N, evCall cxRo (ev cxRo N) 5 [.one (iv .u16 s), .one (iv .u32 c), .one (.ref 0)] [mvO n kds ns sids wks wss wms] K := by
  refine ⟨99997 + 100, Eq.mpr (t_ro0 s c 99997 n kds ns sids wks wss wms K) ?_⟩
  have htk : ∀ m : Nat, (List.replicate m (0 : Int)).take m = List.replicate m 0 := fun m => List.take_of_length_le (by simp)
  refine brd (fun _ => hT _) (fun e1 => brd (fun _ => hT _) (fun e2 => brd (fun _ => hT _) (fun e3 => ?_)))
  have H : goH1 (99997 + 3) (kE1 99997 K) ⟨n, kds, ns, sids, wks, wss, wms⟩ 0 (w0R s.toNat c) := by
    have := loop1 (f := c) (v := ⟨n, kds, ns, sids, wks, wss, wms⟩) (M := 99995 + 2) (K := K) (fun j hj => ?_) (by dsimp only; omega) (fun w p h hI hz => ?_) (99999 - n) n 0 (w0R s.toNat c) (p0R s.toNat) (by simp) (rel0 hc) (Ro.Inv.init (by omega)) sz0
    · have hle : n + (99999 - n) + 1 + 90 = 99997 + 3 + 90 := by omega
      exact evFuelR this hle
    · exact ⟨getD_p (p := fun x => 0 ≤ x ∧ x ≤ 255) (by omega) w1 _, getD_p (p := fun x => 0 ≤ x ∧ x ≤ 65535) (by omega) w2 _, getD_p (p := fun x => 0 ≤ x ∧ x ≤ 65535) (by omega) w3 _, getD_p (p := fun x => 0 ≤ x ∧ x ≤ 65535) (by omega) w5 _, (getD_p (p := fun xs => xs.length ≤ 70368744177664 ∧ ∀ x ∈ xs, 0 ≤ x ∧ x ≤ 65535) (z := []) ⟨by simp, by simp⟩ w6 _).2, (getD_p (p := fun xs => xs.length ≤ 70368744177664 ∧ ∀ x ∈ xs, 0 ≤ x ∧ x ≤ 65535) (z := []) ⟨by simp, by simp⟩ w6 _).1⟩
    · exact loop2 (m := 300) (fun w p h hI hz ht hb => goZ3_end h hI hz ht hb (hT _)) 100000 0 w p (Ro.turns_few (by have := hz.tb; omega)) (by omega) h hI hz
  have h0 : (if (0 : Int) > s then 0 else s) = s := by rw [if_neg (by omega)]
  have h1 : (if s > 0 then s else 0) = s := by rw [if_pos (by omega)]
  simp only [htk, List.length_replicate, h0, h1]
  repeat' first
    | exact H
    | refine ndd (by omega) ?_
    | refine nd rfl ?_
    | refine brf (by omega) ?_
end Go.Ev
end
