/- ResetPlays: what holds ahead of each call; the first kinds of calls. No conditions. -/
import Derived.Test.YtjeinfbicgpkiaaRpQ
import Derived.Test.YtjeinfbicgpkiaaRpV
import Derived.Test.YtjeinfbicgpkiaaRpW6n
import Derived.Test.YtjeinfbicgpkiaaRpW5n
import Derived.Test.YtjeinfbicgpkiaaRpW3n
import Derived.Test.YtjeinfbicgpkiaaRpW3s
set_option linter.unusedVariables false
set_option linter.unusedSimpArgs false
namespace Go.Ev
open Go Go.Proofs Go.Spec
attribute [local irreducible] ev evCall branch need again
def QI (s : Sr) (d : Dr) : Prop := match s.o with
  | none => d.is = false
  | some (n, kd, ss, mo) => d.is = true ∧ n = d.nu ∧ (0 ≤ n ∧ n ≤ 4294967295) ∧ kd = d.kd ∧ ss = d.ss ∧ mo = d.mo ∧ allLt s.os.length ss = true ∧ okU16 ss = true ∧ ss.length ≤ 1000000 ∧ 0 ≤ mo ∧ mo ≤ 65535 ∧ (kd = 1 ∨ (kd = 2 ∧ 0 < mo ∧ (s.os.length : Int) + mo ≤ 16))
def KI (s : Sr) (d : Dr) : Prop := match s.kp with
  | none => d.kp = 0
  | some (rn, ra) => rn = subK .u32 s.ex 1 ∧ ra = d.kp ∧ 0 < d.kp
structure RI (c0 : Int) (r : Nat) (s : Sr) (d : Dr) : Prop where
  eo : d.os = s.os
  ep : d.ps = s.ps
  eq : d.qs = s.qs
  lo : s.os.length = s.ps.length
  l1 : s.os.length ≤ 16
  l2 : s.qs.length ≤ 16
  up : okU16 s.ps = true
  enx : d.nx = s.nx
  nxr : 0 ≤ s.nx ∧ s.nx ≤ 4294967295
  eex : d.ex = s.ex
  exr : 0 ≤ s.ex ∧ s.ex ≤ 4294967295
  q : QI s d
  kpt : KI s d
  g : ∃ m, GI c0 m s.cum s.xs d.cs
  lx : s.xs.length ≤ r
  lc : d.cs.length ≤ r
theorem RI.mono {c0 : Int} {r : Nat} {s : Sr} {d : Dr} (h : RI c0 r s d) : RI c0 (r + 1) s d :=
  ⟨h.eo, h.ep, h.eq, h.lo, h.l1, h.l2, h.up, h.enx, h.nxr, h.eex, h.exr, h.q, h.kpt, h.g, by have := h.lx; omega, by have := h.lc; omega⟩
/-- Each call leads to a state of that sort, and what is looked at is right. -/
def Fine (L M : Nat) (l : Ls) (cum i : Int) (k : SV → St → Prop) (r : Nat) : Prop := ∀ s d, RI cum (r + 1) s d → goB L M l cum i k s d true
theorem round6 {L M : Nat} {l : Ls} {cum i : Int} {k : SV → St → Prop} {r : Nat} {s : Sr} {d : Dr} {m : Nat} {sid ssn tsn by_ wk wm a : Int} {ws : List Int} (I : RI cum r s d) (hG : Fine L M l cum i k r) : goA L M l cum i k s d ⟨((m + 6 : Nat) : Int), sid, ssn, tsn, by_, wk, ws, wm, a⟩ := by
  obtain ⟨n, kds, sids, ssns, tsns, bys, wks, wss, wms, rs⟩ := l
  obtain ⟨os, ps, qs, cm, zs, bs, cl, nx, ex, o, kp⟩ := s
  obtain ⟨dos, dps, dqs, dcs, dis, dkd, dss, dmo, dnu, dnx, dex, dkp⟩ := d
  exact Eq.mpr (t_B6n ..) (Again.mk (hG _ _ I.mono))
theorem round3 {L M : Nat} {l : Ls} {cum i : Int} {k : SV → St → Prop} {r : Nat} {s : Sr} {d : Dr} {sid ssn tsn by_ wk wm a : Int} {ws : List Int} (I : RI cum r s d) (hG : Fine L M l cum i k r) (hm : 0 ≤ wm ∧ wm ≤ 65535) (hl : ws.length ≤ 500) (hu : okU16 ws = true) : goA L M l cum i k s d ⟨3, sid, ssn, tsn, by_, wk, ws, wm, a⟩ := by
  obtain ⟨n, kds, sids, ssns, tsns, bys, wks, wss, wms, rs⟩ := l
  obtain ⟨os, ps, qs, cm, zs, bs, cl, nx, ex, o, kp⟩ := s
  obtain ⟨dos, dps, dqs, dcs, dis, dkd, dss, dmo, dnu, dnx, dex, dkp⟩ := d
  have h1 := I.eo
  have h2 := I.ep
  have h3 := I.lo
  have h4 := I.l1
  have h5 := I.enx
  have h6 := I.q
  dsimp only at h1 h2 h3 h4 h5
  subst h1 h2 h5
  unfold QI at h6
  have htk : ws.take ws.length = ws := List.take_of_length_le (Nat.le_refl _)
  have n1 : ∀ x : Nat, (decide (x = x ∧ dos.length ≤ 16 ∧ dos.length = dps.length ∧ 0 ≤ wm ∧ wm ≤ 65535 ∧ ws.length ≤ 1000000) && okU16 ws) = true := fun x => Bool.and_eq_true_iff.2 ⟨decide_eq_true (by omega), hu⟩
  have n2 : (decide (6 = 6 ∧ 0 ≤ wm ∧ wm ≤ 65535 ∧ ws.length ≤ 1000000 ∧ dos.length ≤ 16 ∧ dos.length = dps.length) && okU16 ws) = true := Bool.and_eq_true_iff.2 ⟨decide_eq_true (by omega), hu⟩
  cases o with
  | none =>
    dsimp only at h6
    subst h6
    have hme := may_eq (s := ⟨dos, dps, qs, cm, zs, bs, cl, dnx, ex, none, kp⟩) (d := ⟨dos, dps, dqs, dcs, false, dkd, dss, dmo, dnu, dnx, dex, dkp⟩) (wk := wk) (wm := wm) hu rfl rfl
    rw [Bool.and_false] at hme
    dsimp only at hme
    refine Eq.mpr (t_B3n ..) (Again.mk ?_)
    rw [hme, htk]
    generalize hM : mayR ⟨dos, dps, qs, cm, zs, bs, cl, dnx, ex, none, kp⟩ wk ws wm = R
    refine nd (n1 _) (br (fun e => nd n2 (br (fun e2 => ?_) (fun e2 => ?_))) (fun e => ndd (by omega) (ndd (by omega) (nd n2 (br (fun e2 => br (fun e3 => ?_) (fun e3 => ?_)) (fun e2 => ?_))))))
    · rw [e2] at e; cases e
    · rw [show eqK R R = true from eqK_t.2 rfl]
      exact hG _ _ I.mono
    · rw [show eqK dnx dnx = true from eqK_t.2 rfl]
      have eR := eqK_t.1 e2
      subst eR
      have J := I.mono
      refine hG _ _ ⟨rfl, rfl, J.eq, J.lo, J.l1, J.l2, J.up, rfl, ?_, J.eex, J.exr, ?_, J.kpt, J.g, J.lx, J.lc⟩
      · show 0 ≤ addK .u32 dnx 1 ∧ addK .u32 dnx 1 ≤ 4294967295
        rw [addK_eq, IntKind.wrap_u32]; omega
      · show true = true ∧ dnx = dnx ∧ (0 ≤ dnx ∧ dnx ≤ 4294967295) ∧ wk = wk ∧ ws = ws ∧ wm = wm ∧ allLt dos.length ws = true ∧ okU16 ws = true ∧ ws.length ≤ 1000000 ∧ 0 ≤ wm ∧ wm ≤ 65535 ∧ (wk = 1 ∨ (wk = 2 ∧ 0 < wm ∧ (dos.length : Int) + wm ≤ 16))
        unfold mayR at hM
        dsimp only at hM
        cases hA : argB wk wm ws.length with
        | true => rw [hA] at hM; cases hM
        | false =>
          rw [hA] at hM
          dsimp only at hM
          cases hB : decide ((dos.length : Int) + wm > 16) with
          | true => rw [hB] at hM; cases hM
          | false =>
            rw [hB] at hM
            dsimp only at hM
            cases hC : thereB ((dos.length : Nat) : Int) ws with
            | false => rw [hC] at hM; cases hM
            | true =>
              refine ⟨rfl, rfl, I.nxr, rfl, rfl, rfl, allLt_of hu hC, hu, by omega, hm.1, hm.2, ?_⟩
              have hB := of_decide_eq_false hB
              unfold argB at hA
              by_cases w1 : wk = 1
              · exact Or.inl w1
              · rw [eqK_f.2 w1] at hA
                dsimp only at hA
                by_cases w2 : wk = 2
                · rw [eqK_t.2 w2] at hA
                  dsimp only at hA
                  by_cases w3 : wm = 0
                  · rw [eqK_t.2 w3] at hA; cases hA
                  · exact Or.inr ⟨w2, by omega, by omega⟩
                · rw [eqK_f.2 w2] at hA; cases hA
    · have := eqK_t.1 e2; subst this; rw [eqK_f] at e3; exact absurd rfl e3
    · rw [e2] at e; cases e
  | some c =>
    obtain ⟨qn, qk, qss, qm⟩ := c
    dsimp only at h6
    obtain ⟨h6, h7⟩ := h6
    subst h6
    have hme := may_eq (s := ⟨dos, dps, qs, cm, zs, bs, cl, dnx, ex, some (qn, qk, qss, qm), kp⟩) (d := ⟨dos, dps, dqs, dcs, true, dkd, dss, dmo, dnu, dnx, dex, dkp⟩) (wk := wk) (wm := wm) hu rfl rfl
    rw [Bool.and_true] at hme
    refine Eq.mpr (t_B3s ..) (Again.mk ?_)
    rw [hme]
    generalize hM : mayR ⟨dos, dps, qs, cm, zs, bs, cl, dnx, ex, some (qn, qk, qss, qm), kp⟩ wk ws wm = R
    by_cases hR : R = 0
    · subst hR
      rw [show decide ((0 : Int) = 0) = true from rfl]
      dsimp only
      refine nd (n1 _) (br (fun e => by cases e) (fun e => ndd (by omega) (ndd (by rw [htk]; omega) (nd n2 (br (fun e2 => by cases e2) (fun e2 => ?_))))))
      exact hG _ _ I.mono
    · rw [decide_eq_false hR]
      dsimp only
      refine nd (n1 _) (br (fun e => nd n2 (br (fun e2 => absurd (eqK_t.1 e2) hR) (fun e2 => ?_))) (fun e => ?_))
      · rw [show eqK R R = true from eqK_t.2 rfl]
        exact hG _ _ I.mono
      · rw [eqK_f.2 hR] at e; cases e
end Go.Ev
