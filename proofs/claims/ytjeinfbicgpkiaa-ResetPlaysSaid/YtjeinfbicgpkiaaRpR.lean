/- The law ResetPlays, run whole. No conditions. -/
import Derived.Test.YtjeinfbicgpkiaaRpM
import Derived.Test.YtjeinfbicgpkiaaRpH
import Derived.Test.YtjeinfbicgpkiaaWkR
import Derived.Test.YtjeinfbicgpkiaaGpS
set_option linter.unusedVariables false
set_option linter.unusedSimpArgs false
namespace Go.Ev
open Go Go.Proofs Go.Spec
attribute [local irreducible] ev evCall branch need again
theorem cxRp_ok : CxOk Try.prog cxRp := by
  have h := mkCx_ok (P := Try.prog) (sums := sumsR) (live := [(3, 8, [2, 9, 11, 69, 70, 71], tidR), (3, 1000012, [2, 9, 11, 13, 14, 15, 69, 70, 71], []), (3, 1000037, [2, 9, 11, 14, 24, 25, 26, 69, 70, 71], []), (3, 1000051, [2, 9, 11, 15, 69, 70, 71], tidR)]) (wr := wrX) namesR mixedR (by
    intro y h
    unfold sumsR at h
    simp only [List.mem_cons, List.not_mem_nil, or_false] at h
    rcases h with rfl | rfl | rfl | rfl | rfl | rfl | rfl | rfl | rfl | rfl | rfl | rfl | rfl | rfl | rfl | rfl | rfl | rfl | rfl
    · exact known_sum
    · exact heavy_sum
    · exact there_sum
    · exact all_sum
    · exact coM_sum
    · exact has_sum
    · exact eql_sum
    · exact clone16_sum
    · exact hasG_sum
    · exact addG_sum
    · exact does_sum
    · exact ma_sum
    · exact ans_sum
    · exact in_sum
    · exact thR_sum
    · exact came_sum
    · exact mayD_sum
    · exact doD_sum
    · exact back_sum)
  exact { h with }
theorem getD_p {α : Type} {p : α → Prop} {z : α} {l : List α} (hz : p z) (h : ∀ x ∈ l, p x) (i : Nat) : p (l.getD i z) := by
  by_cases hi : i < l.length
  · rw [List.getD_eq_getElem?_getD, List.getElem?_eq_getElem hi]; exact h _ (List.getElem_mem hi)
  · rw [List.getD_eq_getElem?_getD, List.getElem?_eq_none (by omega)]; exact hz
theorem look {L M : Nat} {l : Ls} {cum i : Int} {k : SV → St → Prop} {r : Nat} {s : Sr} {d : Dr} (I : RI cum r s d) (h : goH L M l cum (addK .i64 i 1) k s d) : goB (L + 1) M l cum i k s d true := by
  obtain ⟨n, kds, sids, ssns, tsns, bys, wks, wss, wms, rs⟩ := l
  obtain ⟨os, ps, qs, cm, zs, bs, cl, nx, ex, o, kp⟩ := s
  obtain ⟨dos, dps, dqs, dcs, dis, dkd, dss, dmo, dnu, dnx, dex, dkp⟩ := d
  have h1 := I.eo
  have h2 := I.eq
  have h3 := I.l1
  have h4 := I.l2
  dsimp only at h1 h2 h3 h4
  subst h1 h2
  refine Eq.mpr (t_G ..) (Again.mk ?_)
  simp only [List.take_length]
  have e : ∀ xs : List Int, eqLL xs xs = true := fun xs => decide_eq_true rfl
  rw [e, e]
  exact brF (ndd (by omega) (ndd (by omega) (ndd (by omega) (ndd (by omega) (ndd (by omega) (brF (ndd (by omega) (ndd (by omega) (ndd (by omega) (ndd (by omega) (ndd (by omega) (brF h))))))))))))
theorem rp_loop (l : Ls) (cum : Int) (c M : Nat) (k : SV → St → Prop) (hk : k (.sa (.one (bv true))) [lsO l]) (hn : l.n ≤ 500) (hc : 0 ≤ cum ∧ cum ≤ 4294967295)
    (w1 : ∀ i : Nat, 0 ≤ l.kds.getD i 0) (w2 : ∀ i : Nat, 0 ≤ l.sids.getD i 0 ∧ l.sids.getD i 0 ≤ 65535) (w3 : ∀ i : Nat, 0 ≤ l.tsns.getD i 0 ∧ l.tsns.getD i 0 ≤ 4294967295) (w4 : ∀ i : Nat, 0 ≤ l.bys.getD i 0 ∧ l.bys.getD i 0 ≤ 4294967295) (w5 : ∀ i : Nat, 0 ≤ l.wms.getD i 0 ∧ l.wms.getD i 0 ≤ 65535) (w6 : ∀ i : Nat, (l.wss.getD i []).length ≤ 500 ∧ okU16 (l.wss.getD i []) = true) :
    ∀ (rem i : Nat) (s : Sr) (d : Dr), i + rem = l.n → RI cum i s d → goH (rem + c) M l cum i k s d := by
  intro rem
  induction rem with
  | zero =>
    intro i s d h1 I
    obtain ⟨n, kds, sids, ssns, tsns, bys, wks, wss, wms, rs⟩ := l
    obtain ⟨os, ps, qs, cm, zs, bs, cl, nx, ex, o, kp⟩ := s
    obtain ⟨dos, dps, dqs, dcs, dis, dkd, dss, dmo, dnu, dnx, dex, dkp⟩ := d
    dsimp only at h1
    exact Eq.mpr (t_H ..) (Again.mk (brf (by omega) hk))
  | succ rem ih =>
    intro i s d h1 I
    have hF : Fine (rem + 1 + c) M l cum i k i := fun s' d' J => by
      have e2 : addK .i64 (i : Int) 1 = ((i + 1 : Nat) : Int) := by rw [add64 (by omega)]; omega
      have := ih (i + 1) s' d' (by omega) J
      rw [← e2] at this
      rw [show rem + 1 + c = (rem + c) + 1 from by omega]
      exact look J this
    have A : goA (rem + 1 + c) M l cum i k s d ⟨l.kds.getD i 0, l.sids.getD i 0, l.ssns.getD i 0, l.tsns.getD i 0, l.bys.getD i 0, l.wks.getD i 0, l.wss.getD i [], l.wms.getD i 0, l.rs.getD i 0⟩ := by
      have hk0 := w1 i
      generalize l.kds.getD i 0 = kd at hk0
      by_cases k0 : kd = 0
      · subst k0; exact round0 I hF (w2 i)
      by_cases k1 : kd = 1
      · subst k1; exact round1 I hF (w2 i)
      by_cases k2 : kd = 2
      · subst k2; exact round2 I hF (by omega) hc (w2 i) (w3 i)
      by_cases k3 : kd = 3
      · subst k3; exact round3 I hF (w5 i) (w6 i).1 (w6 i).2
      by_cases k4 : kd = 4
      · subst k4; exact round4 I hF (w5 i) (w6 i).1 (w6 i).2
      by_cases k5 : kd = 5
      · subst k5; exact round5 I hF (w4 i)
      · obtain ⟨m, rfl⟩ : ∃ m : Nat, kd = ((m + 6 : Nat) : Int) := ⟨(kd - 6).toNat, by omega⟩
        exact round6 I hF
    obtain ⟨n, kds, sids, ssns, tsns, bys, wks, wss, wms, rs⟩ := l
    obtain ⟨os, ps, qs, cm, zs, bs, cl, nx, ex, o, kp⟩ := s
    obtain ⟨dos, dps, dqs, dcs, dis, dkd, dss, dmo, dnu, dnx, dex, dkp⟩ := d
    dsimp only at h1 hn A
    refine Eq.mpr (t_H ..) (Again.mk ?_)
    have e1 : 0 + ((i : Nat) : Int).toNat = i := by omega
    rw [e1]
    exact brt (by omega) (ndd (by omega) (ndd (by omega) (ndd (by omega) A)))
theorem rp_run (out inn cum : Int) (n : Nat) (kds sids ssns tsns bys wks wms rs : List Int) (wss : List (List Int)) (ho : 0 ≤ out ∧ out ≤ 65535) (hi : 0 ≤ inn ∧ inn ≤ 65535) (hc : 0 ≤ cum ∧ cum ≤ 4294967295) (hl : wss.length = n) (hn : n ≤ 140737488355328)
    (w1 : ∀ x ∈ kds, 0 ≤ x ∧ x ≤ 255) (w2 : ∀ x ∈ sids, 0 ≤ x ∧ x ≤ 65535) (w3 : ∀ x ∈ tsns, 0 ≤ x ∧ x ≤ 4294967295) (w4 : ∀ x ∈ bys, 0 ≤ x ∧ x ≤ 4294967295) (w5 : ∀ x ∈ wms, 0 ≤ x ∧ x ≤ 65535) (w6 : ∀ xs ∈ wss, xs.length ≤ 140737488355328 ∧ ∀ x ∈ xs, 0 ≤ x ∧ x ≤ 65535) (k : SV → St → Prop) (hT : ∀ st, k (.sa (.one (bv true))) st) :
    ∃ N, evCall cxRp (ev cxRp N) 3 [.one (iv .u16 out), .one (iv .u16 inn), .one (iv .u32 cum), .one (.ref 0)] [lsO ⟨n, kds, sids, ssns, tsns, bys, wks, wss, wms, rs⟩] k := by
  refine ⟨n + 10 + 90, Eq.mpr (t_rp out inn cum n kds sids ssns tsns bys wks wms rs wss (n + 10) k) ?_⟩
  have hif : ((if inn > out then inn else out) > 16) ↔ (out > 16 ∨ inn > 16) := by split <;> omega
  have hok : okWs wss = true := List.all_eq_true.2 fun x hx => decide_eq_true (w6 x hx).1
  have htk : ∀ m : Nat, (List.replicate m (0 : Int)).take m = List.replicate m 0 := fun m => List.take_of_length_le (by simp)
  simp only [htk, List.length_replicate]
  refine brd (fun e => ?_) (fun e => ?_)
  · rw [hif] at e
    refine brd (fun _ => hT _) (fun _ => brt (by omega) (hT _))
  · rw [hif] at e
    refine ndd (by omega) (ndd (by omega) (ndd (by omega) (ndd (by omega) (ndd (by omega) (ndd (by omega) (ndd (by omega) (ndd (by omega) (ndd (by omega) (ndd (by omega) (ndd (by omega) (ndd (by omega) (brf (by omega) (brf (by omega) (nd (Bool.and_eq_true_iff.2 ⟨decide_eq_true ⟨hl, hn⟩, hok⟩) (br (fun _ => hT _) (fun hh => ?_))))))))))))))))
    obtain ⟨a1, a2⟩ := light (by omega) (by omega) hh
    have H : goH (n + 10) (n + 10) ⟨n, kds, sids, ssns, tsns, bys, wks, wss, wms, rs⟩ cum 0 k ⟨List.replicate out.toNat 0, List.replicate out.toNat 0, List.replicate inn.toNat 0, cum, [], [], 0, 5, 9, none, none⟩ ⟨List.replicate out.toNat 0, List.replicate out.toNat 0, List.replicate inn.toNat 0, [], false, 0, [], 0, 0, 5, 9, 0⟩ := by
      refine rp_loop ⟨n, kds, sids, ssns, tsns, bys, wks, wss, wms, rs⟩ cum 10 (n + 10) k (hT _) (by dsimp only; omega) hc (fun i => (getD_p (p := fun x => 0 ≤ x ∧ x ≤ 255) (by omega) w1 i).1) (getD_p (p := fun x => 0 ≤ x ∧ x ≤ 65535) (by omega) w2) (getD_p (p := fun x => 0 ≤ x ∧ x ≤ 4294967295) (by omega) w3) (getD_p (p := fun x => 0 ≤ x ∧ x ≤ 4294967295) (by omega) w4) (getD_p (p := fun x => 0 ≤ x ∧ x ≤ 65535) (by omega) w5) (getD_p (p := fun xs => xs.length ≤ 500 ∧ okU16 xs = true) ⟨by simp, rfl⟩ (fun xs hx => ⟨a2 xs hx, List.all_eq_true.2 fun x hx' => decide_eq_true ((w6 xs hx).2 x hx')⟩)) n 0 _ _ (by dsimp only; omega) ?_
      refine ⟨rfl, rfl, rfl, rfl, ?_, ?_, ?_, rfl, by dsimp only; omega, rfl, by dsimp only; omega, rfl, rfl, ⟨0, ⟨by omega, (tn_zero hc).symm, by simp, fun k h1 h2 => ?_⟩⟩, Nat.le_refl _, Nat.le_refl _⟩
      · show (List.replicate _ _).length ≤ 16
        rw [List.length_replicate]; omega
      · show (List.replicate _ _).length ≤ 16
        rw [List.length_replicate]; omega
      · exact okU16_app (ps := []) rfl out.toNat
      · simp; omega
    repeat' first
      | exact H
      | refine ndd (by omega) ?_
      | refine nd rfl ?_
end Go.Ev
