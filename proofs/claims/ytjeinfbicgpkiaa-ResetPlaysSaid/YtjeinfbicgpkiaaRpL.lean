/- ResetPlays: call 0 (Send). No conditions. -/
import Derived.Test.YtjeinfbicgpkiaaRpK
import Derived.Test.YtjeinfbicgpkiaaRpW0n
import Derived.Test.YtjeinfbicgpkiaaRpW0s
set_option linter.unusedVariables false
set_option linter.unusedSimpArgs false
namespace Go.Ev
open Go Go.Proofs Go.Spec
attribute [local irreducible] ev evCall branch need again
theorem eqK_self (x : Int) : eqK x x = true := eqK_t.2 rfl
theorem round0 {L M : Nat} {l : Ls} {cum i : Int} {k : SV → St → Prop} {r : Nat} {s : Sr} {d : Dr} {sid ssn tsn by_ wk wm a : Int} {ws : List Int} (I : RI cum r s d) (hG : Fine L M l cum i k r) (hs : 0 ≤ sid ∧ sid ≤ 65535) : goA L M l cum i k s d ⟨0, sid, ssn, tsn, by_, wk, ws, wm, a⟩ := by
  obtain ⟨n, kds, sids, ssns, tsns, bys, wks, wss, wms, rs⟩ := l
  obtain ⟨os, ps, qs, cm, zs, bs, cl, nx, ex, o, kp⟩ := s
  obtain ⟨dos, dps, dqs, dcs, dis, dkd, dss, dmo, dnu, dnx, dex, dkp⟩ := d
  have h1 := I.eo
  have h2 := I.ep
  have h3 := I.lo
  have h4 := I.l1
  have h6 := I.q
  dsimp only at h1 h2 h3 h4
  subst h1 h2
  unfold QI at h6
  have J := I.mono
  have w := wrap16 hs
  have e1 : 0 + sid.toNat = sid.toNat := by omega
  have J1 : ∀ (m v1 v2 : Int), (0 ≤ v2 ∧ v2 ≤ 65535) → RI cum (r + 1) ⟨dos.set sid.toNat v1, dps.set sid.toNat v2, qs, cm, zs, bs, cl, nx, ex, o, kp⟩ ⟨dos.set sid.toNat v1, dps.set sid.toNat v2, dqs, dcs, dis, dkd, dss, dmo, dnu, dnx, dex, dkp⟩ := fun m v1 v2 hv => by
    refine ⟨rfl, rfl, J.eq, ?_, ?_, J.l2, okU16_set J.up hv, J.enx, J.nxr, J.eex, J.exr, ?_, J.kpt, J.g, J.lx, J.lc⟩
    · show (List.set _ _ _).length = (List.set _ _ _).length
      rw [List.length_set, List.length_set]; exact h3
    · show (List.set _ _ _).length ≤ 16
      rw [List.length_set]; exact h4
    · have hq := J.q
      unfold QI at hq ⊢
      dsimp only at hq ⊢
      rw [List.length_set]
      exact hq
  cases o with
  | none =>
    dsimp only at h6
    subst h6
    refine Eq.mpr (t_B0n ..) (Again.mk ?_)
    simp only [w, e1, brTe, brFe, eqK_self]
    by_cases h : sid ≥ (dos.length : Int)
    · exact brt h (brt h (hG _ _ J))
    · have hG1 := hG _ _ (J1 0 (addK .u16 (dos.getD sid.toNat 0) 1) (addK .u16 (dps.getD sid.toNat 0) 1) (add16 _ _))
      refine brf h ?_
      repeat' first
        | exact hG1
        | refine ndd (by omega) ?_
        | refine brf h ?_
  | some c =>
    obtain ⟨qn, qk, qss, qm⟩ := c
    dsimp only at h6
    obtain ⟨h6, q1, q2, q3, q4, q5, q6, q7, q8, q9, q10, q11⟩ := h6
    subst h6 q1 q3 q4 q5
    have htk : qss.take qss.length = qss := List.take_of_length_le (Nat.le_refl _)
    have hok : (decide (qss.length ≤ 1000000) && okU16 qss) = true := Bool.and_eq_true_iff.2 ⟨decide_eq_true q8, q7⟩
    have e5 : ((dos.length : Nat) : Int).toNat = dos.length := by omega
    have hup := upI_len dos.length 0
    have htu : (upI 0 dos.length).take dos.length = upI 0 dos.length := List.take_of_length_le (by omega)
    have G0 := hG _ _ J
    have G1 := hG _ _ (J1 0 (addK .u16 (dos.getD sid.toNat 0) 1) (addK .u16 (dps.getD sid.toNat 0) 1) (add16 _ _))
    refine Eq.mpr (t_B0s ..) (Again.mk ?_)
    simp only [w, e1, htk, e5, hup, htu, brTe, brFe, eqK_self]
    by_cases h : sid ≥ (dos.length : Int)
    · exact brt h (brt h G0)
    · refine brf h ?_
      have hA := hasAll (xs := qss) (n := dos.length) (v := sid) (by omega)
      cases hk : eqK qk 1
      · simp only [brTe, brFe]
        repeat' first
          | exact G1
          | refine ndd (by omega) ?_
          | refine brf h ?_
      · simp only [brTe, brFe]
        refine ndd (by omega) (brd (fun hp => ?_) (fun hp => ?_))
        · unfold allOf at hA
          rw [decide_eq_true hp] at hA
          dsimp only at hA
          rw [hA]
          cases hB : inB qss sid <;> simp only [brTe, brFe]
          · repeat' first
              | exact G1
              | refine ndd (by omega) ?_
              | refine nd hok ?_
              | refine brf h ?_
          · repeat' first
              | exact G0
              | refine ndd (by omega) ?_
              | refine nd hok ?_
              | refine brf h ?_
        · unfold allOf at hA
          rw [decide_eq_false hp] at hA
          dsimp only at hA
          rw [hA]
          cases hB : inB qss sid <;> simp only [brTe, brFe]
          · repeat' first
              | exact G1
              | refine ndd (by omega) ?_
              | refine nd hok ?_
              | refine brf h ?_
          · repeat' first
              | exact G0
              | refine ndd (by omega) ?_
              | refine nd hok ?_
              | refine brf h ?_
end Go.Ev
