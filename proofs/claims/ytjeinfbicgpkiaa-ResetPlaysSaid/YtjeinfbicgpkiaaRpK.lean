/- ResetPlays: call 5 (Answer). No conditions. -/
import Derived.Test.YtjeinfbicgpkiaaRpJ
set_option linter.unusedVariables false
set_option linter.unusedSimpArgs false
namespace Go.Ev
open Go Go.Proofs Go.Spec
attribute [local irreducible] ev evCall branch need again
theorem add0 {x : Int} (h : 0 ≤ x ∧ x ≤ 4294967295) : addK .u32 x 0 = x := by rw [addK_eq, IntKind.wrap_u32]; omega
theorem addne {x y : Int} (h : 0 ≤ x ∧ x ≤ 4294967295) (hy : 0 ≤ y ∧ y ≤ 4294967295) (h0 : y ≠ 0) : addK .u32 x y ≠ x := by rw [addK_eq, IntKind.wrap_u32]; omega
theorem round5 {L M : Nat} {l : Ls} {cum i : Int} {k : SV → St → Prop} {r : Nat} {s : Sr} {d : Dr} {sid ssn tsn by_ wk wm a : Int} {ws : List Int} (I : RI cum r s d) (hG : Fine L M l cum i k r) (hb : 0 ≤ by_ ∧ by_ ≤ 4294967295) : goA L M l cum i k s d ⟨5, sid, ssn, tsn, by_, wk, ws, wm, a⟩ := by
  obtain ⟨n, kds, sids, ssns, tsns, bys, wks, wss, wms, rs⟩ := l
  obtain ⟨os, ps, qs, cm, zs, bs, cl, nx, ex, o, kp⟩ := s
  obtain ⟨dos, dps, dqs, dcs, dis, dkd, dss, dmo, dnu, dnx, dex, dkp⟩ := d
  have h1 := I.eo
  have h2 := I.ep
  have h3 := I.lo
  have h4 := I.l1
  have h6 := I.q
  dsimp only at h1 h2 h3 h4
  subst h1 h2
  unfold QI at h6
  have J := I.mono
  cases o with
  | none =>
    dsimp only at h6
    subst h6
    exact Eq.mpr (t_B5n ..) (Again.mk (brT (hG _ _ J)))
  | some c =>
    obtain ⟨qn, qk, qss, qm⟩ := c
    dsimp only at h6
    obtain ⟨h6, q1, q2, q3, q4, q5, q6, q7, q8, q9, q10, q11⟩ := h6
    subst h6 q1 q3 q4 q5
    refine Eq.mpr (t_B5s ..) (Again.mk ?_)
    refine nd (Bool.and_eq_true_iff.2 ⟨decide_eq_true (by omega), q6⟩) ?_
    by_cases hb0 : by_ = 0
    · subst hb0
      rw [add0 q2]
      have hbef : befQ qn qn = false := by
        unfold befQ
        have : subK .u32 qn qn = 0 := by rw [subK_eq, IntKind.wrap_u32]; omega
        rw [this]; rfl
      rw [hbef, show eqK qn qn = true from eqK_t.2 rfl]
      have hmk : moreOk qk qm = true := by
        unfold moreOk
        rcases q11 with rfl | ⟨rfl, h, _⟩
        · rfl
        · exact decide_eq_true h
      have c2 : (decide (0 ≤ qm ∧ qm ≤ 65535 ∧ qss.length ≤ 1000000 ∧ dos.length ≤ 16 ∧ dps.length ≤ 16) && (okU16 qss && moreOk qk qm)) = true := Bool.and_eq_true_iff.2 ⟨decide_eq_true (by omega), Bool.and_eq_true_iff.2 ⟨q7, hmk⟩⟩
      refine brF (brT ?_)
      by_cases ha : a = 1
      · rw [eqK_t.2 ha]
        by_cases hk : qk = 2
        · rw [eqK_t.2 hk]
          refine brT (brT (brF (brT (nd c2 (brT (brT ?_))))))
          rcases q11 with h | ⟨_, hm0, hm1⟩
          · omega
          refine hG _ _ ⟨rfl, rfl, J.eq, ?_, ?_, J.l2, okU16_app J.up _, J.enx, J.nxr, J.eex, J.exr, rfl, J.kpt, J.g, J.lx, J.lc⟩
          · show (dos ++ _).length = (dps ++ _).length
            rw [List.length_append, List.length_append, h3]
          · show (dos ++ _).length ≤ 16
            rw [List.length_append, List.length_replicate]; omega
        · rw [eqK_f.2 hk]
          refine brT (brF (brF (brT (nd c2 (brT (brF ?_))))))
          refine hG _ _ ⟨(reset_clr q6).symm, rfl, J.eq, ?_, ?_, J.l2, J.up, J.enx, J.nxr, J.eex, J.exr, rfl, J.kpt, J.g, J.lx, J.lc⟩
          · show (resetL _ dos).length = dps.length
            rw [resetL_len]; exact h3
          · show (resetL _ dos).length ≤ 16
            rw [resetL_len]; exact h4
      · rw [eqK_f.2 ha]
        refine brF (brF (brT (nd c2 (brF ?_))))
        exact hG _ _ ⟨rfl, rfl, J.eq, J.lo, J.l1, J.l2, J.up, J.enx, J.nxr, J.eex, J.exr, rfl, J.kpt, J.g, J.lx, J.lc⟩
    · rw [eqK_f.2 (addne q2 hb hb0), eqK_f.2 hb0]
      exact br (fun _ => brF (brF (hG _ _ J))) (fun _ => brF (brF (brF (hG _ _ J))))
end Go.Ev
