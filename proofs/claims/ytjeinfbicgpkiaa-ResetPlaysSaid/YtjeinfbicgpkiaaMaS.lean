/- Whether a side may ask. No conditions. -/
import Derived.Test.YtjeinfbicgpkiaaMaT
import Derived.Test.YtjeinfbicgpkiaaRfS
set_option linter.unusedVariables false
set_option linter.unusedSimpArgs false
namespace Go.Ev
open Go Go.Proofs Go.Spec
attribute [local irreducible] ev evCall branch need again
theorem brTe {a b : Prop} : branch true a b = a := propext (Iff.intro (fun h => (branch_or h).elim (fun h => h.2) (fun h => nomatch h.1)) brT)
theorem brFe {a b : Prop} : branch false a b = b := propext (Iff.intro (fun h => (branch_or h).elim (fun h => nomatch h.1) (fun h => h.2)) brF)
theorem cxMa_ok : CxOk Try.prog cxMa := mkCx_ok namesR mixedR (by
  intro y h
  simp only [List.mem_cons, List.not_mem_nil, or_false] at h
  rcases h with rfl | rfl | rfl
  · exact there_sum
  · exact all_sum
  · exact coM_sum)
theorem maK_lin (wk : Int) (j : Nat) (wm : Int) (s : Sr) (r : St) : Lin (maK wk j wm s r) := by
  intro k h
  unfold maK at h ⊢
  split at h
  · exact Lin.need (Lin.ret _ _) k h
  · exact h.elim
theorem sMa_lin (args : List SA) (st : St) : Lin (sMa args st) := by
  intro k h
  unfold sMa at h ⊢
  split at h
  · rename_i wk j wm
    exact lin0 (F := fun s r => maK wk j wm s r) (fun s r => maK_lin wk j wm s r) k h
  · exact h.elim
theorem allLt_of {n : Nat} {xs : List Int} (h : okU16 xs = true) (h2 : thereB (n : Int) xs = true) : allLt n xs = true :=
  List.all_eq_true.2 fun x hx => decide_eq_true ⟨(u16_all h x hx).1, there_lt h2 x hx⟩
theorem allLt_up (n : Nat) : allLt n (upI 0 n) = true :=
  List.all_eq_true.2 fun x hx => by have := upI_mem hx; exact decide_eq_true ⟨this.1, by omega⟩
theorem ma_sum : SumOk Try.prog 39 sMa := by
  refine sumOk_of cxMa_ok sMa_lin fun args st k h => ?_
  unfold sMa at h
  split at h
  · rename_i kd j more
    obtain ⟨s, r, rfl, h'⟩ := rdSd_spec h
    clear h
    unfold maK at h'
    split at h'
    · rename_i xs
      obtain ⟨h1, hK⟩ := need_iff.1 h'
      clear h'
      rw [Bool.and_eq_true_iff] at h1
      obtain ⟨h1, hu⟩ := h1
      obtain ⟨g1, g2, g3, g4, g5, g6⟩ := of_decide_eq_true h1
      subst g1
      refine ⟨60, Eq.mpr (t_ma s kd more xs 0 k) ?_⟩
      have two : argB kd more xs.length = true → k (.sa (.one (iv .i64 2))) (sideW 0 s [rd16 xs]) := fun e => by
        unfold mayR at hK; rw [e] at hK; exact hK
      have main : argB kd more xs.length = false → (branch (decide (((addK .i64 (((List.length s.os) : Nat) : Int) (IntKind.wrap .i64 more)) > (16)))) (k (.sa (.one (iv .i64 (7)))) (sideW 0 s [rd16 xs])) (need (decide (((0 + (List.length xs)) ≤ (List.length xs)))) (need ((decide (((List.length (List.take (List.length xs) xs)) ≤ 1000000))) && (okU16 (List.take (List.length xs) xs))) (branch (Bool.not (thereB (((List.length s.os) : Nat) : Int) (List.take (List.length xs) xs))) (k (.sa (.one (iv .i64 (4)))) (sideW 0 s [rd16 xs])) (branch (eqK kd (1)) (need (decide ((((0) ≤ (((List.length s.os) : Nat) : Int)) ∧ ((((List.length s.os) : Nat) : Int) ≤ (65535))))) (branch (decide ((0 < (List.length xs)))) (need ((decide ((((List.length s.ps) ≤ 1000000) ∧ ((List.length xs) ≤ 1000000)))) && (allLt (List.length s.ps) xs)) (branch (decide (((idxOp s.ps xs (0)) ≥ (0)))) (k (.sa (.one (iv .i64 (6)))) (sideW 0 s [rd16 xs])) (k (.sa (.one (iv .i64 (0)))) (sideW 0 s [rd16 xs])))) (need ((decide ((((List.length s.ps) ≤ 1000000) ∧ ((List.length (upI (0) (Int.toNat (((List.length s.os) : Nat) : Int)))) ≤ 1000000)))) && (allLt (List.length s.ps) (upI (0) (Int.toNat (((List.length s.os) : Nat) : Int))))) (branch (decide (((idxOp s.ps (upI (0) (Int.toNat (((List.length s.os) : Nat) : Int))) (0)) ≥ (0)))) (k (.sa (.one (iv .i64 (6)))) (sideW 0 s [rd16 xs])) (k (.sa (.one (iv .i64 (0)))) (sideW 0 s [rd16 xs])))))) (k (.sa (.one (iv .i64 (0)))) (sideW 0 s [rd16 xs]))))))) := fun e => by
        have htk : xs.take xs.length = xs := List.take_of_length_le (Nat.le_refl _)
        have wm' : IntKind.wrap .i64 more = more := wrap16 ⟨g4, g5⟩
        have am : addK .i64 ((s.os.length : Nat) : Int) more = (s.os.length : Int) + more := by rw [add64 (by omega)]
        have e5 : ((s.os.length : Nat) : Int).toNat = s.os.length := by omega
        have hlen := upI_len s.os.length 0
        rw [htk, wm', am, e5]
        unfold mayR at hK
        rw [e] at hK
        refine br (fun e2 => ?_) (fun e2 => ?_)
        · rw [e2] at hK; exact hK
        rw [e2] at hK
        refine ndd (by omega) (nd (Bool.and_eq_true_iff.2 ⟨decide_eq_true g6, hu⟩) (br (fun e3 => ?_) (fun e3 => ?_)))
        · rw [Bool.not_eq_true'] at e3
          rw [e3] at hK; exact hK
        · rw [Bool.not_eq_false'] at e3
          rw [e3] at hK
          have hal := allLt_of hu e3
          rw [g3] at hal
          have hup := allLt_up s.os.length
          rw [g3] at hup
          refine br (fun e4 => ?_) (fun e4 => ?_)
          · rw [e4] at hK
            refine ndd (by omega) (brd (fun e6 => ?_) (fun e6 => ?_))
            · refine nd (Bool.and_eq_true_iff.2 ⟨decide_eq_true (by omega), hal⟩) (br (fun e7 => ?_) (fun e7 => ?_))
              · unfold allOf at hK; rw [decide_eq_true e6] at hK; dsimp only at hK; rw [e7] at hK; exact hK
              · unfold allOf at hK; rw [decide_eq_true e6] at hK; dsimp only at hK; rw [e7] at hK; exact hK
            · refine nd (Bool.and_eq_true_iff.2 ⟨decide_eq_true (by omega), by rw [g3]; exact hup⟩) (br (fun e7 => ?_) (fun e7 => ?_))
              · unfold allOf at hK; rw [decide_eq_false e6] at hK; dsimp only at hK; rw [e7] at hK; exact hK
              · unfold allOf at hK; rw [decide_eq_false e6] at hK; dsimp only at hK; rw [e7] at hK; exact hK
          · rw [e4] at hK
            exact hK
      unfold argB at two main
      cases h1 : eqK kd 1 <;> cases h2 : eqK kd 2 <;> rw [h1] at two main <;> simp only [h1, h2, brTe, brFe, Bool.not_true, Bool.not_false]
      · rw [h2] at two
        exact two rfl
      · rw [h2] at two main
        cases h3 : eqK more 0
        · rw [h3] at two main
          simp only [brTe, brFe] at main
          refine brF (brd (fun e => two ?_) (fun e => main ?_))
          · have : xs.length ≠ 0 := by omega
            rw [eqK_f.2 (by omega)] <;> rfl
          · have : xs.length = 0 := by omega
            rw [eqK_t.2 (by omega)] <;> rfl
        · rw [h3] at two
          exact brT (two rfl)
      · simp only [brTe, brFe] at main
        refine brd (fun e => two ?_) (fun e => main ?_)
        · rw [eqK_f.2 (by omega)] <;> rfl
        · rw [eqK_t.2 (by omega)] <;> rfl
      · rw [eqK_t] at h1 h2
        omega
    · exact h'.elim
  · exact h.elim
end Go.Ev
