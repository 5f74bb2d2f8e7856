/- outq.Queue.Accept, summarised. No conditions. -/
import Derived.Test.YtipmphkcbhjinaaOqS
import Derived.Test.YtipmphkcbhjinaaFcP
set_option linter.unusedVariables false
set_option linter.unusedSimpArgs false
namespace Go.Ev
open Go Go.Proofs Go.Spec
attribute [local irreducible] ev evCall branch need again
theorem sAcc_lin (args : List SA) (st : St) : Lin (sAcc args st) := by
  intro k h
  unfold sAcc at h ⊢
  split at h
  · unfold qAll q13 at h ⊢
    split at h
    · unfold q9 at h ⊢
      split at h
      · unfold q11 at h ⊢
        split at h
        · exact (Lin.need (Lin.branch (Lin.ret _ _) (Lin.branch (Lin.ret _ _) (Lin.branch (Lin.ret _ _) (Lin.branch (Lin.ret _ _) (Lin.ret _ _)))))) k h
        · exact h.elim
      · exact h.elim
    · exact h.elim
  · exact h.elim
theorem cxAc_ok : CxOk Try.prog cxAc := mkCx_ok namesC mixedC (by
  intro x h
  simp only [List.mem_cons, List.not_mem_nil, or_false] at h
  subst h
  exact cut_sum)
theorem pieOk_iff {n : Nat} {ts fs ss ns ps : List Int} {ds : List (List Int)} : pieOk n ts fs ss ns ps ds = true ↔ ts.length = n ∧ fs.length = n ∧ ss.length = n ∧ ns.length = n ∧ ps.length = n ∧ ds.length = n ∧ n ≤ 1000000 := by unfold pieOk; exact decide_eq_true_iff
theorem cutD_len (size : Int) (xs : List Int) : (cutD size xs).length = cutN (cutS size xs.length) xs.length := by unfold cutD; rw [partsL_len]
theorem cutN_geA {s len : Nat} (hs : 1 ≤ s) (h : 1 ≤ len) : 1 ≤ cutN s len ∧ (cutN s len - 1) * s < len ∧ len ≤ cutN s len * s := by
  unfold cutN
  have h1 := Nat.div_add_mod (len + s - 1) s
  have h2 := Nat.mod_lt (len + s - 1) (show 0 < s by omega)
  generalize (len + s - 1) / s = q at *
  generalize (len + s - 1) % s = r at *
  rw [Nat.mul_comm] at h1
  have hq : 1 ≤ q := by
    rcases Nat.eq_zero_or_pos q with e | e
    · subst e; simp at h1; omega
    · exact e
  obtain ⟨p, rfl⟩ : ∃ p, q = p + 1 := ⟨q - 1, by omega⟩
  rw [Nat.succ_mul] at h1
  refine ⟨hq, ?_, ?_⟩
  · rw [Nat.add_sub_cancel]; omega
  · rw [Nat.succ_mul]; omega
theorem cutN_le {size : Int} {n : Nat} (h1 : 1 ≤ size) (h2 : 1 ≤ n) : 1 ≤ cutN (cutS size n) n ∧ cutN (cutS size n) n ≤ n := by
  have hq := cutN_geA (s := cutS size n) (len := n) (by unfold cutS; omega) h2
  have hq2 : cutN (cutS size n) n - 1 ≤ (cutN (cutS size n) n - 1) * cutS size n := Nat.le_mul_of_pos_right _ (by unfold cutS; omega)
  exact ⟨hq.1, by omega⟩
set_option maxHeartbeats 4000000 in
theorem acc_sum : SumOk Try.prog 11 sAcc := by
  refine sumOk_of cxAc_ok sAcc_lin fun args st k h => ?_
  unfold sAcc at h
  split at h
  · rename_i sid uno ppid row n ts fs ss ns ps ds xs
    unfold qAll q13 at h
    split at h
    case h_2 => exact h.elim
    rename_i mtu st sr rr mm ri rmin rmax it pt al beat life rest
    unfold q9 at h
    split at h
    case h_2 => exact h.elim
    rename_i tsn s0 s1 s2 s3 s4 s5 s6 s7 rest
    unfold q11 at h
    split at h
    case h_2 => exact h.elim
    rename_i s8 s9 sa sb sc sd se sf r by_ tk
    obtain ⟨h0, hk⟩ := need_iff.1 h
    clear h
    obtain ⟨hr, h3⟩ := Bool.and_eq_true_iff.1 h0
    clear h0
    obtain rfl := Nat.eq_of_beq_eq_true hr
    clear hr
    obtain ⟨h1, h2⟩ := Bool.and_eq_true_iff.1 h3
    clear h3
    obtain ⟨l1, l2, l3, l4, l5, l6, l7⟩ := pieOk_iff.1 h1
    obtain ⟨c1, c2, c3, c4, c5, c6, c7, c8, c9⟩ := of_decide_eq_true h2
    obtain ⟨N, hN⟩ : ∃ N, N = (cutN (cutS (mtu - 28) xs.length) xs.length) := ⟨_, rfl⟩
    refine ⟨N + 2 + 60, ?_⟩
    have hd := t_acc0 sid ppid mtu st sr rr mm ri rmin rmax it pt al beat life tsn s0 s1 s2 s3 s4 s5 s6 s7 s8 s9 sa sb sc sd se sf by_ tk uno xs n ts fs ss ns ps ds (N + 2) k
    unfold rdB obj iv bv at hd
    unfold iv at hk
    rw [hd]
    rcases branch_or hk with ⟨e1, hk⟩ | ⟨e1, hk⟩
    · have e1 := of_decide_eq_true e1
      exact bret (by omega) hk
    have e1 := of_decide_eq_false e1
    refine bref (by omega) ?_
    rcases branch_or hk with ⟨e2, hk⟩ | ⟨e2, hk⟩
    · exact brt (of_decide_eq_true e2) hk
    have e2 := of_decide_eq_false e2
    refine brf e2 ?_
    rcases branch_or hk with ⟨e3, hk⟩ | ⟨e3, hk⟩
    · exact brt (of_decide_eq_true e3) hk
    have e3 := of_decide_eq_false e3
    refine brf e3 ?_
    rcases branch_or hk with ⟨e4, hk⟩ | ⟨e4, hk⟩
    · exact brt (of_decide_eq_true e4) hk
    have e4 := of_decide_eq_false e4
    refine brf e4 ?_
    obtain ⟨j, rfl⟩ : ∃ j : Nat, sid = (j : Int) := ⟨sid.toNat, by omega⟩
    have hj : j < 16 := by omega
    have hA := t_accA (j : Int) ppid mtu st sr rr mm ri rmin rmax it pt al beat life tsn s0 s1 s2 s3 s4 s5 s6 s7 s8 s9 sa sb sc sd se sf by_ tk uno xs n ts fs ss ns ps ds (N + 2) k
    unfold rdB obj iv bv at hA
    rw [hA]
    have hm : subK .i64 mtu 28 = mtu - 28 := sub64 (by omega)
    rw [hm]
    refine Again.mk (ndd (by omega) (brf (by omega) ?_))
    have hNb := cutN_le (size := mtu - 28) (n := xs.length) (by omega) (by omega)
    rw [← hN] at hNb ⊢
    have hU := u_accF j hj 0 ppid mtu st sr rr mm ri rmin rmax it pt al beat life tsn s0 s1 s2 s3 s4 s5 s6 s7 s8 s9 sa sb sc sd se sf by_ tk uno xs n N ts fs ss ns ps (List.replicate N 0) (cutF uno N) (List.replicate N (j : Int)) (List.replicate N 0) (List.replicate N ppid) ds (cutD (mtu - 28) xs) (N + 2) (N + 2) k
    unfold rdB obj iv bv at hU
    rw [hU]
    have hcd : (cutD (mtu - 28) xs).length = N := by rw [cutD_len, hN]
    have g := acc_loop j hj ppid mtu st sr rr mm ri rmin rmax it pt al beat life tsn s0 s1 s2 s3 s4 s5 s6 s7 s8 s9 sa sb sc sd se sf by_ tk uno xs n ts fs ss ns ps ds N 2 (N + 2) k l1 l2 l3 l4 l5 l6 hcd (by omega) c1 (kSt hk rfl (by
      unfold pieAdd iv
      rw [← hN, List.take_of_length_le (Nat.le_of_eq (cutF_len uno N)), List.take_of_length_le (Nat.le_of_eq hcd)])) (N - 1) 1 (Nat.le_refl _) (by omega)
    have e0 : 0 + ((0 : Int)).toNat = 0 := rfl
    have e9 : addK .i64 (0 : Int) 1 = ((1 : Nat) : Int) := by decide
    have t1 : addK .u32 tsn 1 = tsnAdd tsn 1 := by have := tsnAdd_succ tsn 0; rwa [tsnAdd_zero ⟨c8, c9⟩] at this
    have hdl : ((cutD (mtu - 28) xs).getD 0 []).length ≤ 1000000 := Nat.le_trans (cutD_get_len 0) c1
    have f1 : (cutF uno N).take 1 = [(cutF uno N).getD 0 0] := (take_snoc (cutF uno N) 0 0 (by rw [cutF_len]; omega)).symm
    have f2 : (cutD (mtu - 28) xs).take 1 = [(cutD (mtu - 28) xs).getD 0 []] := (take_snoc (cutD (mtu - 28) xs) 0 [] (by rw [hcd]; omega)).symm
    have f3 : tsnL tsn 1 = [tsn] := by rw [tsnL_succ, show tsnL tsn 0 = [] from rfl, tsnAdd_zero ⟨c8, c9⟩]; rfl
    rw [e0, e9, List.take_of_length_le (Nat.le_refl ((cutD (mtu - 28) xs).getD 0 []).length), getD_repl _ _ (show 0 < N by omega), getD_repl _ _ (show 0 < N by omega), t1, fitL_same _ _ _ l1, fitL_same _ _ _ l2, fitL_same _ _ _ l3, fitL_same _ _ _ l4, fitL_same _ _ _ l5, fitL_same _ _ _ l6]
    refine Again.mk (brt (by omega) (ndd (by omega) (ndd (by omega) (ndd (by omega) ?_))))
    cases uno with
    | true =>
      refine br (fun h => by cases h) (fun _ => ndd (by omega) (ndd (by omega) (evFuel (evFr g rfl ?_) (by omega))))
      rw [getD_repl _ _ (show 0 < N by omega)]
      simp only [piecesO, rdB, f1, f2, f3, ssnOf, if_true, List.replicate_one]
      rfl
    | false =>
      refine br (fun _ => ndd (by omega) (ndd (by omega) (evFuel (evFr g rfl ?_) (by omega)))) (fun h => by cases h)
      simp only [piecesO, rdB, f1, f2, f3, ssnOf, Bool.false_eq_true, if_false, Int.toNat_natCast, List.replicate_one]
      rfl
  · exact h.elim
end Go.Ev
