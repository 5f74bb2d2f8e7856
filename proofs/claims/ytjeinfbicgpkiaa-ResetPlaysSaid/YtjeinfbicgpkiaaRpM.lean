/- ResetPlays: call 4 (Take). No conditions. -/
import Derived.Test.YtjeinfbicgpkiaaRpL
import Derived.Test.YtjeinfbicgpkiaaRpWC
import Derived.Test.YtjeinfbicgpkiaaRpW4n
import Derived.Test.YtjeinfbicgpkiaaRpW4s
set_option linter.unusedVariables false
set_option linter.unusedSimpArgs false
namespace Go.Ev
open Go Go.Proofs Go.Spec
attribute [local irreducible] ev evCall branch need again
theorem sub_add {x : Int} (h : 0 ≤ x ∧ x ≤ 4294967295) : subK .u32 (addK .u32 x 1) 1 = x := by rw [subK_eq, addK_eq, IntKind.wrap_u32, IntKind.wrap_u32]; omega
theorem add_r (x y : Int) : 0 ≤ addK .u32 x y ∧ addK .u32 x y ≤ 4294967295 := by rw [addK_eq, IntKind.wrap_u32]; omega
theorem sub_r (x y : Int) : 0 ≤ subK .u32 x y ∧ subK .u32 x y ≤ 4294967295 := by rw [subK_eq, IntKind.wrap_u32]; omega
theorem pred_iff {x y : Int} (h : 0 ≤ x ∧ x ≤ 4294967295) (hy : 0 ≤ y ∧ y ≤ 4294967295) : addK .u32 x 1 = y ↔ x = subK .u32 y 1 := by rw [subK_eq, addK_eq, IntKind.wrap_u32, IntKind.wrap_u32]; omega
theorem doB_mo {kd m : Int} {xs : List Int} {wm : Int} (h : doB kd m xs = true) : thereB m xs = true := by
  unfold doB at h
  rw [Bool.and_eq_true_iff] at h
  exact h.2
theorem moB_le {kd m wm : Int} (h : moB kd m wm = true) : m + wm ≤ 16 := by
  unfold moB at h
  rw [Bool.and_eq_true_iff] at h
  exact of_decide_eq_true h.2
/-- What may not be answered. -/
theorem goC_err {L M : Nat} {l : Ls} {cum i : Int} {k : SV → St → Prop} {s : Sr} {d : Dr} {wk wm nn e : Int} {ws : List Int} (he : e = 8 ∨ e = 5) (h1 : nn ≠ d.ex) (h2 : addK .u32 nn 1 ≠ d.ex ∨ d.kp = 0) (hG : goB L M l cum i k s d true) : goC L M l cum i k s d wk ws wm nn 0 0 e := by
  obtain ⟨n, kds, sids, ssns, tsns, bys, wks, wss, wms, rs⟩ := l
  obtain ⟨os, ps, qs, cm, zs, bs, cl, nx, ex, o, kp⟩ := s
  obtain ⟨dos, dps, dqs, dcs, dis, dkd, dss, dmo, dnu, dnx, dex, dkp⟩ := d
  dsimp only at h1 h2
  refine Eq.mpr (t_BC o kp ..) (Again.mk ?_)
  rw [eqK_f.2 h1, eqK_self]
  refine brF ?_
  have fin : branch (eqK e 8) (goB L M ⟨n, kds, sids, ssns, tsns, bys, wks, wss, wms, rs⟩ cum i k ⟨os, ps, qs, cm, zs, bs, cl, nx, ex, o, kp⟩ ⟨dos, dps, dqs, dcs, dis, dkd, dss, dmo, dnu, dnx, dex, dkp⟩ true) (branch (eqK e 5) (goB L M ⟨n, kds, sids, ssns, tsns, bys, wks, wss, wms, rs⟩ cum i k ⟨os, ps, qs, cm, zs, bs, cl, nx, ex, o, kp⟩ ⟨dos, dps, dqs, dcs, dis, dkd, dss, dmo, dnu, dnx, dex, dkp⟩ true) (goB L M ⟨n, kds, sids, ssns, tsns, bys, wks, wss, wms, rs⟩ cum i k ⟨os, ps, qs, cm, zs, bs, cl, nx, ex, o, kp⟩ ⟨dos, dps, dqs, dcs, dis, dkd, dss, dmo, dnu, dnx, dex, dkp⟩ false)) := by
    rcases he with rfl | rfl
    · exact brT hG
    · exact brF (brT hG)
  rcases h2 with h2 | h2
  · rw [eqK_f.2 h2]
    exact brF fin
  · subst h2
    exact br (fun _ => brf (by omega) fin) (fun _ => fin)
/-- What was answered before. -/
theorem goC_kept {L M : Nat} {l : Ls} {cum i : Int} {k : SV → St → Prop} {s : Sr} {d : Dr} {wk wm nn : Int} {ws : List Int} (h1 : nn ≠ d.ex) (h2 : addK .u32 nn 1 = d.ex) (h3 : 0 < d.kp) (hG : goB L M l cum i k s d true) : goC L M l cum i k s d wk ws wm nn nn d.kp 0 := by
  obtain ⟨n, kds, sids, ssns, tsns, bys, wks, wss, wms, rs⟩ := l
  obtain ⟨os, ps, qs, cm, zs, bs, cl, nx, ex, o, kp⟩ := s
  obtain ⟨dos, dps, dqs, dcs, dis, dkd, dss, dmo, dnu, dnx, dex, dkp⟩ := d
  dsimp only at h1 h2 h3
  refine Eq.mpr (t_BC o kp ..) (Again.mk ?_)
  rw [eqK_f.2 h1, h2]
  simp only [eqK_self, brTe, brFe]
  exact brt h3 hG
/-- What is done now. -/
theorem goC_do {L M : Nat} {l : Ls} {cum i : Int} {k : SV → St → Prop} {r : Nat} {s : Sr} {d : Dr} {wk wm : Int} {ws : List Int} {kp0 : Option (Int × Int)} (I : RI cum r { s with kp := kp0 } d) (hG : Fine L M l cum i k r) (hm : 0 ≤ wm ∧ wm ≤ 65535) (hl : ws.length ≤ 500) (hu : okU16 ws = true) :
    (doB wk ((s.qs.length : Nat) : Int) ws = true → goC L M l cum i k { s with qs := resetL (allOf ws s.qs.length) s.qs, ex := addK .u32 s.ex 1, kp := some (s.ex, 1) } d wk ws wm s.ex s.ex 1 0) ∧
    (doB wk ((s.qs.length : Nat) : Int) ws = false → moB wk ((s.qs.length : Nat) : Int) wm = true → goC L M l cum i k { s with qs := s.qs ++ List.replicate wm.toNat 0, ex := addK .u32 s.ex 1, kp := some (s.ex, 1) } d wk ws wm s.ex s.ex 1 0) ∧
    (doB wk ((s.qs.length : Nat) : Int) ws = false → moB wk ((s.qs.length : Nat) : Int) wm = false → goC L M l cum i k { s with ex := addK .u32 s.ex 1, kp := some (s.ex, 2) } d wk ws wm s.ex s.ex 2 0) := by
  obtain ⟨n, kds, sids, ssns, tsns, bys, wks, wss, wms, rs⟩ := l
  obtain ⟨os, ps, qs, cm, zs, bs, cl, nx, ex, o, kp⟩ := s
  obtain ⟨dos, dps, dqs, dcs, dis, dkd, dss, dmo, dnu, dnx, dex, dkp⟩ := d
  have J := I.mono
  have h1 := I.eq
  have h2 := I.eex
  have h3 := I.l2
  have h4 := I.exr
  dsimp only at h1 h2 h3 h4 ⊢
  subst h1 h2
  have c2 : (decide (6 = 6 ∧ 0 ≤ wm ∧ wm ≤ 65535 ∧ ws.length ≤ 1000000 ∧ dqs.length ≤ 16) && okU16 ws) = true := Bool.and_eq_true_iff.2 ⟨decide_eq_true (by omega), hu⟩
  have base : ∀ (qs' : List Int) (v : Int), qs'.length ≤ 16 → 0 < v → RI cum (r + 1) ⟨os, ps, qs', cm, zs, bs, cl, nx, addK .u32 dex 1, o, some (dex, v)⟩ ⟨dos, dps, qs', dcs, dis, dkd, dss, dmo, dnu, dnx, addK .u32 dex 1, v⟩ := fun qs' v hq hv =>
    ⟨J.eo, J.ep, rfl, J.lo, J.l1, hq, J.up, J.enx, J.nxr, rfl, add_r _ _, J.q, ⟨(sub_add h4).symm, rfl, hv⟩, J.g, J.lx, J.lc⟩
  refine ⟨fun hd => ?_, fun hd hmo => ?_, fun hd hmo => ?_⟩
  · have hr := reset_clr (allLt_of hu (doB_mo (wm := wm) hd))
    refine Eq.mpr (t_BC o _ ..) (Again.mk ?_)
    rw [hd]
    simp only [eqK_self, brTe, brFe]
    refine nd (Bool.and_eq_true_iff.2 ⟨decide_eq_true (by simp only [true_and]; omega), hu⟩) ?_
    have := hG _ _ (base (clrR ws dqs.length 0 dqs) 1 (by rw [clrR_len]; exact h3) (by omega))
    rw [hr]
    exact this
  · have hle := moB_le hmo
    refine Eq.mpr (t_BC o _ ..) (Again.mk ?_)
    rw [hd, hmo]
    simp only [eqK_self, brTe, brFe]
    refine nd (Bool.and_eq_true_iff.2 ⟨decide_eq_true (by simp only [true_and]; omega), hu⟩) ?_
    have := hG _ _ (base (dqs ++ List.replicate wm.toNat 0) 1 (by rw [List.length_append, List.length_replicate]; omega) (by omega))
    refine brd (fun _ => this) (fun h0 => ?_)
    have : wm.toNat = 0 := by omega
    rw [this, List.replicate_zero, List.append_nil]
    exact hG _ _ (base dqs 1 h3 (by omega))
  · refine Eq.mpr (t_BC o _ ..) (Again.mk ?_)
    rw [hd, hmo]
    simp only [eqK_self, brTe, brFe]
    refine nd (Bool.and_eq_true_iff.2 ⟨decide_eq_true (by simp only [true_and]; omega), hu⟩) ?_
    exact hG _ _ (base dqs 2 h3 (by omega))
theorem round4 {L M : Nat} {l : Ls} {cum i : Int} {k : SV → St → Prop} {r : Nat} {s : Sr} {d : Dr} {sid ssn tsn by_ wk wm a : Int} {ws : List Int} (I : RI cum r s d) (hG : Fine L M l cum i k r) (hm : 0 ≤ wm ∧ wm ≤ 65535) (hl : ws.length ≤ 500) (hu : okU16 ws = true) : goA L M l cum i k s d ⟨4, sid, ssn, tsn, by_, wk, ws, wm, a⟩ := by
  have G := goC_do (wk := wk) (s := s) (kp0 := s.kp) I hG hm hl hu
  have J := hG _ _ I.mono
  obtain ⟨os, ps, qs, cm, zs, bs, cl, nx, ex, o, kp⟩ := s
  obtain ⟨dos, dps, dqs, dcs, dis, dkd, dss, dmo, dnu, dnx, dex, dkp⟩ := d
  have h2 := I.eex
  have h3 := I.l2
  have h4 := I.exr
  have h5 := I.kpt
  dsimp only at h2 h3 h4 G
  subst h2
  unfold KI at h5
  obtain ⟨G1, G2, G3⟩ := G
  have hnn := add_r dex by_
  generalize hN : addK .u32 dex by_ = nn at hnn
  have c1 : ∀ x : Nat, (decide (x = x ∧ qs.length ≤ 16 ∧ 0 ≤ wm ∧ wm ≤ 65535 ∧ ws.length ≤ 1000000) && okU16 ws) = true := fun x => Bool.and_eq_true_iff.2 ⟨decide_eq_true (by omega), hu⟩
  obtain ⟨n, kds, sids, ssns, tsns, bys, wks, wss, wms, rs⟩ := l
  cases kp with
  | none =>
    dsimp only at h5
    subst h5
    refine Eq.mpr (t_B4n ..) (Again.mk ?_)
    rw [hN]
    refine bre (fun e => ?_) (fun e => ?_)
    · subst e
      exact nd (c1 _) (br (fun e => G1 e) (fun e => br (fun e2 => G2 e e2) (fun e2 => G3 e e2)))
    · have E : ∀ e' : Int, e' = 8 ∨ e' = 5 → _ := fun e' he => goC_err (wk := wk) (wm := wm) (ws := ws) (nn := nn) he e (Or.inr rfl) J
      exact br (fun _ => br (fun _ => br (fun _ => E 8 (Or.inl rfl)) (fun _ => E 5 (Or.inr rfl))) (fun _ => E 5 (Or.inr rfl))) (fun _ => br (fun _ => br (fun _ => E 8 (Or.inl rfl)) (fun _ => E 5 (Or.inr rfl))) (fun _ => E 5 (Or.inr rfl)))
  | some c =>
    obtain ⟨rn, ra⟩ := c
    dsimp only at h5
    obtain ⟨h5, h6, h7⟩ := h5
    subst h6
    refine Eq.mpr (t_B4s ..) (Again.mk ?_)
    rw [hN]
    refine bre (fun e => ?_) (fun e => bre (fun e2 => ?_) (fun e2 => ?_))
    · subst e
      exact nd (c1 _) (br (fun e => G1 e) (fun e => br (fun e2 => G2 e e2) (fun e2 => G3 e e2)))
    · have h8 : rn = nn := by rw [h5, e2]
      subst h8
      exact goC_kept (wk := wk) (wm := wm) (ws := ws) e ((pred_iff hnn h4).2 e2) h7 J
    · have E : ∀ e' : Int, e' = 8 ∨ e' = 5 → _ := fun e' he => goC_err (wk := wk) (wm := wm) (ws := ws) (nn := nn) he e (Or.inl (fun h => e2 ((pred_iff hnn h4).1 h))) J
      exact br (fun _ => br (fun _ => E 8 (Or.inl rfl)) (fun _ => E 5 (Or.inr rfl))) (fun _ => E 5 (Or.inr rfl))
end Go.Ev
