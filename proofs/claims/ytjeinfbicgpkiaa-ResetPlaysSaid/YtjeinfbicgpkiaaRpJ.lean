/- ResetPlays: calls 1 (Acked), 2 (Got) and 5 (Answer). No conditions. -/
import Derived.Test.YtjeinfbicgpkiaaRpI
import Derived.Test.YtjeinfbicgpkiaaRpW1n
import Derived.Test.YtjeinfbicgpkiaaRpW2n
import Derived.Test.YtjeinfbicgpkiaaRpW5s
set_option linter.unusedVariables false
set_option linter.unusedSimpArgs false
namespace Go.Ev
open Go Go.Proofs Go.Spec
attribute [local irreducible] ev evCall branch need again
theorem okU16_set {ps : List Int} (h : okU16 ps = true) {j : Nat} {v : Int} (hv : 0 ≤ v ∧ v ≤ 65535) : okU16 (ps.set j v) = true := by
  refine List.all_eq_true.2 fun x hx => ?_
  rcases List.mem_or_eq_of_mem_set hx with hx | rfl
  · exact List.all_eq_true.1 h x hx
  · exact decide_eq_true hv
theorem okU16_app {ps : List Int} (h : okU16 ps = true) (m : Nat) : okU16 (ps ++ List.replicate m 0) = true := by
  refine List.all_eq_true.2 fun x hx => ?_
  rcases List.mem_append.1 hx with hx | hx
  · exact List.all_eq_true.1 h x hx
  · have := List.eq_of_mem_replicate hx
    subst this
    rfl
theorem sub16 (a b : Int) : 0 ≤ subK .u16 a b ∧ subK .u16 a b ≤ 65535 := by rw [subK_eq, IntKind.wrap_u16]; omega
theorem add16 (a b : Int) : 0 ≤ addK .u16 a b ∧ addK .u16 a b ≤ 65535 := by rw [addK_eq, IntKind.wrap_u16]; omega
theorem round1 {L M : Nat} {l : Ls} {cum i : Int} {k : SV → St → Prop} {r : Nat} {s : Sr} {d : Dr} {sid ssn tsn by_ wk wm a : Int} {ws : List Int} (I : RI cum r s d) (hG : Fine L M l cum i k r) (hs : 0 ≤ sid ∧ sid ≤ 65535) : goA L M l cum i k s d ⟨1, sid, ssn, tsn, by_, wk, ws, wm, a⟩ := by
  obtain ⟨n, kds, sids, ssns, tsns, bys, wks, wss, wms, rs⟩ := l
  obtain ⟨os, ps, qs, cm, zs, bs, cl, nx, ex, o, kp⟩ := s
  obtain ⟨dos, dps, dqs, dcs, dis, dkd, dss, dmo, dnu, dnx, dex, dkp⟩ := d
  have h2 := I.ep
  have h3 := I.lo
  have hu := u16_at I.up sid.toNat
  dsimp only at h2 h3 hu
  subst h2
  have w := wrap16 hs
  refine Eq.mpr (t_B1n ..) (Again.mk ?_)
  rw [w]
  have e1 : 0 + sid.toNat = sid.toNat := by omega
  rw [e1]
  refine brd (fun h => brf (by omega) (hG _ _ I.mono)) (fun h => ndd (by omega) (ndd (by omega) (ndd (by omega) (br (fun e => ?_) (fun e => ?_)))))
  · rw [eqK_t] at e
    refine brt (by omega) (ndd (by omega) (ndd (by omega) (ndd (by omega) (brf (by omega) (hG _ _ I.mono)))))
  · rw [eqK_f] at e
    refine ndd (by omega) (ndd (by omega) (ndd (by omega) (ndd (by omega) (ndd (by omega) (ndd (by omega) (brt (by omega) (ndd (by omega) (ndd (by omega) (ndd (by omega) (brt (by omega) (ndd (by omega) (ndd (by omega) (ndd (by omega) (ndd (by omega) (ndd (by omega) (ndd (by omega) ?_))))))))))))))))
    have J := I.mono
    refine hG _ _ ⟨J.eo, rfl, J.eq, ?_, J.l1, J.l2, okU16_set J.up (sub16 _ _), J.enx, J.nxr, J.eex, J.exr, J.q, J.kpt, J.g, J.lx, J.lc⟩
    show os.length = (List.set _ _ _).length
    rw [List.length_set]; exact h3
theorem tt_eq {cum tsn : Int} (hc : 0 ≤ cum ∧ cum ≤ 4294967295) (ht : 0 ≤ tsn ∧ tsn ≤ 4294967295) : ∃ j : Nat, j ≤ 999 ∧ addK .u32 cum (remK tsn 1000) = tn cum j := by
  have : remK tsn 1000 = tsn % 1000 := by rw [remK_eq, Int.tmod_eq_emod_of_nonneg ht.1]
  refine ⟨(tsn % 1000).toNat, by omega, ?_⟩
  rw [this, addK_eq, IntKind.wrap_u32]
  unfold tn
  omega
theorem round2 {L M : Nat} {l : Ls} {cum i : Int} {k : SV → St → Prop} {r : Nat} {s : Sr} {d : Dr} {sid ssn tsn by_ wk wm a : Int} {ws : List Int} (I : RI cum r s d) (hG : Fine L M l cum i k r) (hr : r ≤ 500) (hc : 0 ≤ cum ∧ cum ≤ 4294967295) (hs : 0 ≤ sid ∧ sid ≤ 65535) (ht : 0 ≤ tsn ∧ tsn ≤ 4294967295) : goA L M l cum i k s d ⟨2, sid, ssn, tsn, by_, wk, ws, wm, a⟩ := by
  obtain ⟨n, kds, sids, ssns, tsns, bys, wks, wss, wms, rs⟩ := l
  obtain ⟨os, ps, qs, cm, zs, bs, cl, nx, ex, o, kp⟩ := s
  obtain ⟨dos, dps, dqs, dcs, dis, dkd, dss, dmo, dnu, dnx, dex, dkp⟩ := d
  have h2 := I.eq
  have h3 := I.l2
  have h4 := I.lc
  have h5 := I.lx
  obtain ⟨m, g⟩ := I.g
  dsimp only at h2 h3 h4 h5 g
  subst h2
  have w := wrap16 hs
  obtain ⟨j, hj, htt⟩ := tt_eq hc ht
  have hh := g.has hc hj
  refine Eq.mpr (t_B2n ..) (Again.mk ?_)
  rw [w, htt, hh]
  have e1 : 0 + sid.toNat = sid.toNat := by omega
  rw [e1]
  have J := I.mono
  cases e : cameB dcs (tn cum j) cum
  · refine brF (brd (fun h => ndd (by omega) (brF (brt (by omega) (hG _ _ J)))) (fun h => ?_))
    refine ndd (by omega) (ndd (by omega) (ndd (by omega) (br (fun e2 => ?_) (fun e2 => ?_))))
    · refine ndd (by omega) (brF (brf (by omega) (ndd (by omega) (ndd (by omega) (ndd (by omega) ?_)))))
      rw [e2]
      exact brT (hG _ _ J)
    · have hj0 : 1 ≤ j := by
        rcases Nat.eq_zero_or_pos j with h0 | h0
        · subst h0
          unfold cameB at e
          rw [tn_zero hc] at e
          have : subK .u32 cum cum = 0 := by rw [subK_eq, IntKind.wrap_u32]; omega
          rw [this] at e
          cases e
        · exact h0
      have hsub : subK .u32 (tn cum j) cm ≤ 65535 := by
        have hm := g.hm
        rw [g.hc, tn_sub (by omega) (by omega)]
        split
        · omega
        · rename_i hlt
          have : cameB dcs (tn cum j) cum = true := by
            unfold cameB
            rw [inR_mem.2 ((g.hs j hj0 hj).2 (Or.inl (by omega)))]
            split <;> rfl
          rw [this] at e; cases e
      refine nd (Bool.and_eq_true_iff.2 ⟨rfl, decide_eq_true ⟨hsub, by omega⟩⟩) ?_
      refine ndd (by omega) (ndd (by omega) (ndd (by omega) (ndd (by omega) (ndd (by omega) (ndd (by omega) (ndd (by omega) (brF (brf (by omega) (ndd (by omega) (ndd (by omega) (ndd (by omega) ?_)))))))))))
      rw [e2]
      refine brF (ndd (by omega) (ndd (by omega) (ndd (by omega) (ndd (by omega) (ndd (by omega) (ndd (by omega) (ndd (by omega) ?_)))))))
      obtain ⟨m', g1, g2⟩ := g.add (bs := bs) (cl := cl) hj0 hj
      refine hG _ _ ⟨J.eo, J.ep, rfl, J.lo, J.l1, ?_, J.up, J.enx, J.nxr, J.eex, J.exr, J.q, J.kpt, ⟨m', g1⟩, ?_, ?_⟩
      · show (List.set _ _ _).length ≤ 16
        rw [List.length_set]; exact h3
      · show (advA (tn cum j) cm zs bs cl).2.1.length ≤ r + 1
        omega
      · show (dcs ++ [tn cum j]).length ≤ r + 1
        rw [List.length_append]; simp only [List.length_cons, List.length_nil]; omega
  · exact brT (ndd (by omega) (brT (hG _ _ J)))
end Go.Ev
