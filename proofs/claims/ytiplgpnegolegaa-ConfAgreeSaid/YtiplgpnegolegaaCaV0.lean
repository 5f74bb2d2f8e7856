/- ConfAgree: what a move of side 0 makes of what both know. No conditions. -/
import Derived.Test.YtiplgpnegolegaaCaQ
import Derived.Test.YtiplgpnegolegaaCaI
import Derived.Test.YtiplgpnegolegaaCaXA
import Derived.Test.YtiplgpnegolegaaCaM05
import Derived.Test.YtiplgpnegolegaaCaM02n
import Derived.Test.YtiplgpnegolegaaCaM02s
import Derived.Test.YtiplgpnegolegaaCaM0x
import Derived.Test.YtiplgpnegolegaaCaM15
import Derived.Test.YtiplgpnegolegaaCaM12n
import Derived.Test.YtiplgpnegolegaaCaM12s
import Derived.Test.YtiplgpnegolegaaCaM1x
set_option linter.unusedVariables false
set_option linter.unusedSimpArgs false
set_option maxHeartbeats 4000000
set_option maxRecDepth 100000
namespace Go.Ev
open Go Go.Proofs Go.Spec
attribute [local irreducible] ev evCall branch need again caD caG caH caZ
theorem mv0k0 {E : Ag} {p : Pr} {F G : Int} {u : Nat} {i xn ck ca : Int} {L M : Nat} {k : SV → St → Prop} (h : Both F G u p) (hu : u ≤ 900) (hx : 0 ≤ xn ∧ xn ≤ 65535) (hk : 0 ≤ ck) (ha : 0 ≤ ca) (hn : ∀ p', Both F G (u + 1) p' → caG E p' i L M k) : caD E p false 0 xn ck ca i L M k := by
  obtain ⟨⟨f0, g0, nx0, ex0, os0, ps0, o0, p0⟩, ⟨f1, g1, nx1, ex1, os1, ps1, o1, p1⟩, ⟨m0, qn0, qk0, qa0⟩, ⟨m1, qn1, qk1, qa1⟩, ⟨w0, rn0, ra0⟩, ⟨w1, rn1, ra1⟩⟩ := p
  obtain ⟨T, D, T', D', h0, h1⟩ := h
  change Half F u T D f0 os0 nx0 o0 g1 ps1 ex1 p1 ⟨m1, qn1, qk1, qa1⟩ ⟨w0, rn0, ra0⟩ at h0
  change Half G u T' D' f1 os1 nx1 o1 g0 ps0 ex0 p0 ⟨m0, qn0, qk0, qa0⟩ ⟨w1, rn1, ra1⟩ at h1
  have b0 : m0 ≤ u := h1.qm
  have b1 : m1 ≤ u := h0.qm
  have c0 : w0 ≤ u := h0.rm
  have c1 : w1 ≤ u := h1.rm
  have hu2 : u ≤ 1000 := by omega
  rcases o0 with _ | ⟨un, uk, ua⟩
  · refine Eq.mpr (t_m00n ..) (Again.mk ?_)
    simp only [List.take_length, Nat.zero_add]
    refine ndd (Nat.le_refl _) (ndd ⟨by have := may_len h0.may; omega, hk⟩ ?_)
    refine br (fun e => ?_) (fun e => ?_)
    · refine br (fun e' => absurd e (by rw [e']; decide)) fun _ => hn _ ⟨_, _, _, _, h0.later, h1.later⟩
    · refine ndd (by omega) ?_
      rw [sn_q h0.qs.1]
      exact hn _ ⟨_, _, _, _, h0.ask hu2 hk ha (eqK_t.1 (by simpa using e)), h1.later⟩
  · refine Eq.mpr (t_m00s ..) (Again.mk ?_)
    simp only [List.take_length, Nat.zero_add]
    refine ndd (Nat.le_refl _) (ndd ⟨by have := may_len h0.may; omega, hk⟩ ?_)
    refine br (fun e => ?_) (fun e => hn _ ⟨_, _, _, _, h0.later, h1.later⟩)
    exact br (fun e' => absurd e (by rw [e']; decide)) fun _ => hn _ ⟨_, _, _, _, h0.later, h1.later⟩
theorem mv0k1 {E : Ag} {p : Pr} {F G : Int} {u : Nat} {i xn ck ca : Int} {L M : Nat} {k : SV → St → Prop} (h : Both F G u p) (hu : u ≤ 900) (hx : 0 ≤ xn ∧ xn ≤ 65535) (hk : 0 ≤ ck) (ha : 0 ≤ ca) (hn : ∀ p', Both F G (u + 1) p' → caG E p' i L M k) : caD E p false 1 xn ck ca i L M k := by
  obtain ⟨⟨f0, g0, nx0, ex0, os0, ps0, o0, p0⟩, ⟨f1, g1, nx1, ex1, os1, ps1, o1, p1⟩, ⟨m0, qn0, qk0, qa0⟩, ⟨m1, qn1, qk1, qa1⟩, ⟨w0, rn0, ra0⟩, ⟨w1, rn1, ra1⟩⟩ := p
  obtain ⟨T, D, T', D', h0, h1⟩ := h
  change Half F u T D f0 os0 nx0 o0 g1 ps1 ex1 p1 ⟨m1, qn1, qk1, qa1⟩ ⟨w0, rn0, ra0⟩ at h0
  change Half G u T' D' f1 os1 nx1 o1 g0 ps0 ex0 p0 ⟨m0, qn0, qk0, qa0⟩ ⟨w1, rn1, ra1⟩ at h1
  have b0 : m0 ≤ u := h1.qm
  have b1 : m1 ≤ u := h0.qm
  have c0 : w0 ≤ u := h0.rm
  have c1 : w1 ≤ u := h1.rm
  have hu2 : u ≤ 1000 := by omega
  rcases o0 with _ | ⟨un, uk, ua⟩
  · exact Eq.mpr (t_m01n ..) (Again.mk (hn _ ⟨_, _, _, _, h0.later, h1.later⟩))
  · refine Eq.mpr (t_m01s ..) (Again.mk (ndd (by omega) ?_))
    rw [sn_q h0.qs.1]
    exact hn _ ⟨_, _, _, _, h0.again, h1.later⟩
theorem mv0k2 {E : Ag} {p : Pr} {F G : Int} {u : Nat} {i xn ck ca : Int} {L M : Nat} {k : SV → St → Prop} (h : Both F G u p) (hu : u ≤ 900) (hx : 0 ≤ xn ∧ xn ≤ 65535) (hk : 0 ≤ ck) (ha : 0 ≤ ca) (hn : ∀ p', Both F G (u + 1) p' → caG E p' i L M k) : caD E p false 2 xn ck ca i L M k := by
  obtain ⟨⟨f0, g0, nx0, ex0, os0, ps0, o0, p0⟩, ⟨f1, g1, nx1, ex1, os1, ps1, o1, p1⟩, ⟨m0, qn0, qk0, qa0⟩, ⟨m1, qn1, qk1, qa1⟩, ⟨w0, rn0, ra0⟩, ⟨w1, rn1, ra1⟩⟩ := p
  obtain ⟨T, D, T', D', h0, h1⟩ := h
  change Half F u T D f0 os0 nx0 o0 g1 ps1 ex1 p1 ⟨m1, qn1, qk1, qa1⟩ ⟨w0, rn0, ra0⟩ at h0
  change Half G u T' D' f1 os1 nx1 o1 g0 ps0 ex0 p0 ⟨m0, qn0, qk0, qa0⟩ ⟨w1, rn1, ra1⟩ at h1
  have b0 : m0 ≤ u := h1.qm
  have b1 : m1 ≤ u := h0.qm
  have c0 : w0 ≤ u := h0.rm
  have c1 : w1 ≤ u := h1.rm
  have hu2 : u ≤ 1000 := by omega
  rcases p0 with _ | ⟨kn, ka⟩
  · refine Eq.mpr (t_m02n ..) (Again.mk ?_)
    rcases Nat.eq_zero_or_pos m0 with hz | hz
    · exact brf (by omega) (hn _ ⟨_, _, _, _, h0.later, h1.later⟩)
    obtain ⟨j, hj, hp⟩ := plc_at hx hz
    have hp1 := plc_add hj (show m0 ≤ 1000 by omega)
    simp only [gtC, hp, hp1, Int.toNat_natCast, Nat.zero_add, Nat.sub_zero, List.take_length]
    refine brt (by omega) (nd (by simp; omega) (ndd (by omega) (ndd (by omega) (ndd (by omega) (ndd (by omega) (ndd (by omega) (ndd (by omega) (ndd (by omega) ?_))))))))
    refine brd (fun c1 => ?_) (fun c1 => ?_)
    · refine ndd (by omega) (ndd (by omega) (ndd (by omega) (ndd (by omega) (ndd (by omega) (ndd (by omega) ?_)))))
      refine brd (fun c2 => ndd (by omega) ?_) (fun c2 => ndd (by omega) ?_)
      · simp only [wo_1 (m := m0) (n := qn0) (k := qk0) (a := qa0) h1.qs.1 hj (by omega) (by omega)]
        have hq := h1.qs.2 j hj
        refine bre (fun e => ?_) (fun e => ?_)
        · obtain ⟨d1, d2, d3, d4, d5, d6⟩ := h1.due hu2 hq e
          refine ndd (Nat.le_refl _) (ndd ⟨by have := may_len h1.may; rw [d6]; omega, d1⟩ ?_)
          refine br (fun e2 => absurd e2 (by rw [d2]; decide)) fun _ => ndd (by omega) ?_
          rw [sn_r h1.rs.1]
          exact hn _ ⟨_, _, _, _, h0.later, h1.takeNew hu2 hq e (h1.qwo hj).qm (h1.qs.wo hj)⟩
        · repeat' first | exact hn _ ⟨_, _, _, _, h0.later, h1.qwo hj⟩ | refine br (fun _ => ?_) (fun _ => ?_)
      · simp only [wo_2 (m := m0) (n := qn0) (k := qk0) (a := qa0) (j := j) (by omega)]
        have hq := h1.qs.2 j hj
        refine bre (fun e => ?_) (fun e => ?_)
        · obtain ⟨d1, d2, d3, d4, d5, d6⟩ := h1.due hu2 hq e
          refine ndd (Nat.le_refl _) (ndd ⟨by have := may_len h1.may; rw [d6]; omega, d1⟩ ?_)
          refine br (fun e2 => absurd e2 (by rw [d2]; decide)) fun _ => ndd (by omega) ?_
          rw [sn_r h1.rs.1]
          exact hn _ ⟨_, _, _, _, h0.later, h1.takeNew hu2 hq e (h1.qwo hj).qm (h1.qs.wo hj)⟩
        · repeat' first | exact hn _ ⟨_, _, _, _, h0.later, h1.qwo hj⟩ | refine br (fun _ => ?_) (fun _ => ?_)
    · refine ndd (by omega) (ndd (by omega) (ndd (by omega) (ndd (by omega) (ndd (by omega) (ndd (by omega) (ndd (by omega) ?_))))))
      simp only [wo_3 (m := m0) (n := qn0) (k := qk0) (a := qa0) h1.qs.1 hj]
      have hq := h1.qs.2 j hj
      refine bre (fun e => ?_) (fun e => ?_)
      · obtain ⟨d1, d2, d3, d4, d5, d6⟩ := h1.due hu2 hq e
        refine ndd (Nat.le_refl _) (ndd ⟨by have := may_len h1.may; rw [d6]; omega, d1⟩ ?_)
        refine br (fun e2 => absurd e2 (by rw [d2]; decide)) fun _ => ndd (by omega) ?_
        rw [sn_r h1.rs.1]
        exact hn _ ⟨_, _, _, _, h0.later, h1.takeNew hu2 hq e (h1.qwo hj).qm (h1.qs.wo hj)⟩
      · repeat' first | exact hn _ ⟨_, _, _, _, h0.later, h1.qwo hj⟩ | refine br (fun _ => ?_) (fun _ => ?_)
  · refine Eq.mpr (t_m02s ..) (Again.mk ?_)
    rcases Nat.eq_zero_or_pos m0 with hz | hz
    · exact brf (by omega) (hn _ ⟨_, _, _, _, h0.later, h1.later⟩)
    obtain ⟨j, hj, hp⟩ := plc_at hx hz
    have hp1 := plc_add hj (show m0 ≤ 1000 by omega)
    simp only [gtC, hp, hp1, Int.toNat_natCast, Nat.zero_add, Nat.sub_zero, List.take_length]
    refine brt (by omega) (nd (by simp; omega) (ndd (by omega) (ndd (by omega) (ndd (by omega) (ndd (by omega) (ndd (by omega) (ndd (by omega) (ndd (by omega) ?_))))))))
    refine brd (fun c1 => ?_) (fun c1 => ?_)
    · refine ndd (by omega) (ndd (by omega) (ndd (by omega) (ndd (by omega) (ndd (by omega) (ndd (by omega) ?_)))))
      refine brd (fun c2 => ndd (by omega) ?_) (fun c2 => ndd (by omega) ?_)
      · simp only [wo_1 (m := m0) (n := qn0) (k := qk0) (a := qa0) h1.qs.1 hj (by omega) (by omega)]
        have hq := h1.qs.2 j hj
        refine bre (fun e => ?_) (fun e => ?_)
        · obtain ⟨d1, d2, d3, d4, d5, d6⟩ := h1.due hu2 hq e
          refine ndd (Nat.le_refl _) (ndd ⟨by have := may_len h1.may; rw [d6]; omega, d1⟩ ?_)
          refine br (fun e2 => absurd e2 (by rw [d2]; decide)) fun _ => ndd (by omega) ?_
          rw [sn_r h1.rs.1]
          exact hn _ ⟨_, _, _, _, h0.later, h1.takeNew hu2 hq e (h1.qwo hj).qm (h1.qs.wo hj)⟩
        · refine br (fun _ => ndd (by omega) ?_) (fun _ => ?_)
          · rw [sn_r h1.rs.1]
            exact hn _ ⟨_, _, _, _, h0.later, h1.takeOld (h1.qwo hj).qm (h1.qs.wo hj)⟩
          · repeat' first | exact hn _ ⟨_, _, _, _, h0.later, h1.qwo hj⟩ | refine br (fun _ => ?_) (fun _ => ?_)
      · simp only [wo_2 (m := m0) (n := qn0) (k := qk0) (a := qa0) (j := j) (by omega)]
        have hq := h1.qs.2 j hj
        refine bre (fun e => ?_) (fun e => ?_)
        · obtain ⟨d1, d2, d3, d4, d5, d6⟩ := h1.due hu2 hq e
          refine ndd (Nat.le_refl _) (ndd ⟨by have := may_len h1.may; rw [d6]; omega, d1⟩ ?_)
          refine br (fun e2 => absurd e2 (by rw [d2]; decide)) fun _ => ndd (by omega) ?_
          rw [sn_r h1.rs.1]
          exact hn _ ⟨_, _, _, _, h0.later, h1.takeNew hu2 hq e (h1.qwo hj).qm (h1.qs.wo hj)⟩
        · refine br (fun _ => ndd (by omega) ?_) (fun _ => ?_)
          · rw [sn_r h1.rs.1]
            exact hn _ ⟨_, _, _, _, h0.later, h1.takeOld (h1.qwo hj).qm (h1.qs.wo hj)⟩
          · repeat' first | exact hn _ ⟨_, _, _, _, h0.later, h1.qwo hj⟩ | refine br (fun _ => ?_) (fun _ => ?_)
    · refine ndd (by omega) (ndd (by omega) (ndd (by omega) (ndd (by omega) (ndd (by omega) (ndd (by omega) (ndd (by omega) ?_))))))
      simp only [wo_3 (m := m0) (n := qn0) (k := qk0) (a := qa0) h1.qs.1 hj]
      have hq := h1.qs.2 j hj
      refine bre (fun e => ?_) (fun e => ?_)
      · obtain ⟨d1, d2, d3, d4, d5, d6⟩ := h1.due hu2 hq e
        refine ndd (Nat.le_refl _) (ndd ⟨by have := may_len h1.may; rw [d6]; omega, d1⟩ ?_)
        refine br (fun e2 => absurd e2 (by rw [d2]; decide)) fun _ => ndd (by omega) ?_
        rw [sn_r h1.rs.1]
        exact hn _ ⟨_, _, _, _, h0.later, h1.takeNew hu2 hq e (h1.qwo hj).qm (h1.qs.wo hj)⟩
      · refine br (fun _ => ndd (by omega) ?_) (fun _ => ?_)
        · rw [sn_r h1.rs.1]
          exact hn _ ⟨_, _, _, _, h0.later, h1.takeOld (h1.qwo hj).qm (h1.qs.wo hj)⟩
        · repeat' first | exact hn _ ⟨_, _, _, _, h0.later, h1.qwo hj⟩ | refine br (fun _ => ?_) (fun _ => ?_)
theorem mv0k3 {E : Ag} {p : Pr} {F G : Int} {u : Nat} {i xn ck ca : Int} {L M : Nat} {k : SV → St → Prop} (h : Both F G u p) (hu : u ≤ 900) (hx : 0 ≤ xn ∧ xn ≤ 65535) (hk : 0 ≤ ck) (ha : 0 ≤ ca) (hn : ∀ p', Both F G (u + 1) p' → caG E p' i L M k) : caD E p false 3 xn ck ca i L M k := by
  obtain ⟨⟨f0, g0, nx0, ex0, os0, ps0, o0, p0⟩, ⟨f1, g1, nx1, ex1, os1, ps1, o1, p1⟩, ⟨m0, qn0, qk0, qa0⟩, ⟨m1, qn1, qk1, qa1⟩, ⟨w0, rn0, ra0⟩, ⟨w1, rn1, ra1⟩⟩ := p
  obtain ⟨T, D, T', D', h0, h1⟩ := h
  change Half F u T D f0 os0 nx0 o0 g1 ps1 ex1 p1 ⟨m1, qn1, qk1, qa1⟩ ⟨w0, rn0, ra0⟩ at h0
  change Half G u T' D' f1 os1 nx1 o1 g0 ps0 ex0 p0 ⟨m0, qn0, qk0, qa0⟩ ⟨w1, rn1, ra1⟩ at h1
  have b0 : m0 ≤ u := h1.qm
  have b1 : m1 ≤ u := h0.qm
  have c0 : w0 ≤ u := h0.rm
  have c1 : w1 ≤ u := h1.rm
  have hu2 : u ≤ 1000 := by omega
  refine Eq.mpr (t_m03 ..) (Again.mk ?_)
  rcases Nat.eq_zero_or_pos m0 with hz | hz
  · exact brf (by omega) (hn _ ⟨_, _, _, _, h0.later, h1.later⟩)
  obtain ⟨j, hj, hp⟩ := plc_at hx hz
  have hp1 := plc_add hj (show m0 ≤ 1000 by omega)
  simp only [gtC, hp, hp1, Int.toNat_natCast, Nat.zero_add, Nat.sub_zero, List.take_length]
  refine brt (by omega) (nd (by simp; omega) (ndd (by omega) (ndd (by omega) (ndd (by omega) (ndd (by omega) (ndd (by omega) (ndd (by omega) (ndd (by omega) ?_))))))))
  refine brd (fun c1 => ?_) (fun c1 => ?_)
  · refine ndd (by omega) (ndd (by omega) (ndd (by omega) (ndd (by omega) (ndd (by omega) (ndd (by omega) ?_)))))
    refine brd (fun c2 => ndd (by omega) ?_) (fun c2 => ndd (by omega) ?_)
    · simp only [wo_1 (m := m0) (n := qn0) (k := qk0) (a := qa0) h1.qs.1 hj (by omega) (by omega)]
      exact hn _ ⟨_, _, _, _, h0.later, h1.qwo hj⟩
    · simp only [wo_2 (m := m0) (n := qn0) (k := qk0) (a := qa0) (j := j) (by omega)]
      exact hn _ ⟨_, _, _, _, h0.later, h1.qwo hj⟩
  · refine ndd (by omega) (ndd (by omega) (ndd (by omega) (ndd (by omega) (ndd (by omega) (ndd (by omega) (ndd (by omega) ?_))))))
    simp only [wo_3 (m := m0) (n := qn0) (k := qk0) (a := qa0) h1.qs.1 hj]
    exact hn _ ⟨_, _, _, _, h0.later, h1.qwo hj⟩
theorem mv0k4 {E : Ag} {p : Pr} {F G : Int} {u : Nat} {i xn ck ca : Int} {L M : Nat} {k : SV → St → Prop} (h : Both F G u p) (hu : u ≤ 900) (hx : 0 ≤ xn ∧ xn ≤ 65535) (hk : 0 ≤ ck) (ha : 0 ≤ ca) (hn : ∀ p', Both F G (u + 1) p' → caG E p' i L M k) : caD E p false 4 xn ck ca i L M k := by
  obtain ⟨⟨f0, g0, nx0, ex0, os0, ps0, o0, p0⟩, ⟨f1, g1, nx1, ex1, os1, ps1, o1, p1⟩, ⟨m0, qn0, qk0, qa0⟩, ⟨m1, qn1, qk1, qa1⟩, ⟨w0, rn0, ra0⟩, ⟨w1, rn1, ra1⟩⟩ := p
  obtain ⟨T, D, T', D', h0, h1⟩ := h
  change Half F u T D f0 os0 nx0 o0 g1 ps1 ex1 p1 ⟨m1, qn1, qk1, qa1⟩ ⟨w0, rn0, ra0⟩ at h0
  change Half G u T' D' f1 os1 nx1 o1 g0 ps0 ex0 p0 ⟨m0, qn0, qk0, qa0⟩ ⟨w1, rn1, ra1⟩ at h1
  have b0 : m0 ≤ u := h1.qm
  have b1 : m1 ≤ u := h0.qm
  have c0 : w0 ≤ u := h0.rm
  have c1 : w1 ≤ u := h1.rm
  have hu2 : u ≤ 1000 := by omega
  refine Eq.mpr (t_m04 ..) (Again.mk ?_)
  rcases Nat.eq_zero_or_pos m0 with hz | hz
  · exact brf (by omega) (hn _ ⟨_, _, _, _, h0.later, h1.later⟩)
  obtain ⟨j, hj, hp⟩ := plc_at hx hz
  simp only [gtC, hp, Int.toNat_natCast, Nat.zero_add]
  refine brt (by omega) (nd (by simp; omega) (ndd (by omega) (ndd (by omega) (ndd hj (ndd (by omega) ?_)))))
  rw [sn_q h1.qs.1]
  exact hn _ ⟨_, _, _, _, h0.later, h1.qdup hj⟩
theorem mv0k5 {E : Ag} {p : Pr} {F G : Int} {u : Nat} {i xn ck ca : Int} {L M : Nat} {k : SV → St → Prop} (h : Both F G u p) (hu : u ≤ 900) (hx : 0 ≤ xn ∧ xn ≤ 65535) (hk : 0 ≤ ck) (ha : 0 ≤ ca) (hn : ∀ p', Both F G (u + 1) p' → caG E p' i L M k) : caD E p false 5 xn ck ca i L M k := by
  obtain ⟨⟨f0, g0, nx0, ex0, os0, ps0, o0, p0⟩, ⟨f1, g1, nx1, ex1, os1, ps1, o1, p1⟩, ⟨m0, qn0, qk0, qa0⟩, ⟨m1, qn1, qk1, qa1⟩, ⟨w0, rn0, ra0⟩, ⟨w1, rn1, ra1⟩⟩ := p
  obtain ⟨T, D, T', D', h0, h1⟩ := h
  change Half F u T D f0 os0 nx0 o0 g1 ps1 ex1 p1 ⟨m1, qn1, qk1, qa1⟩ ⟨w0, rn0, ra0⟩ at h0
  change Half G u T' D' f1 os1 nx1 o1 g0 ps0 ex0 p0 ⟨m0, qn0, qk0, qa0⟩ ⟨w1, rn1, ra1⟩ at h1
  have b0 : m0 ≤ u := h1.qm
  have b1 : m1 ≤ u := h0.qm
  have c0 : w0 ≤ u := h0.rm
  have c1 : w1 ≤ u := h1.rm
  have hu2 : u ≤ 1000 := by omega
  rcases o0 with _ | ⟨un, uk, ua⟩
  · refine Eq.mpr (t_m05n ..) (Again.mk ?_)
    rcases Nat.eq_zero_or_pos w0 with hz | hz
    · exact brf (by omega) (hn _ ⟨_, _, _, _, h0.later, h1.later⟩)
    obtain ⟨j, hj, hp⟩ := plc_at hx hz
    have hp1 := plc_add hj (show w0 ≤ 1000 by omega)
    simp only [gtC, hp, hp1, Int.toNat_natCast, Nat.zero_add, Nat.sub_zero, List.take_length]
    refine brt (by omega) (nd (by simp; omega) (ndd (by omega) (ndd (by omega) (ndd (by omega) (ndd (by omega) (ndd (by omega) (ndd (by omega) (ndd (by omega) ?_))))))))
    refine brd (fun c1 => ?_) (fun c1 => ?_)
    · refine ndd (by omega) (ndd (by omega) (ndd (by omega) (ndd (by omega) (ndd (by omega) (ndd (by omega) ?_)))))
      refine brd (fun c2 => ndd (by omega) ?_) (fun c2 => ndd (by omega) ?_)
      · simp only [ro_1 (m := w0) (n := rn0) (a := ra0) h0.rs.1 hj (by omega) (by omega)]
        exact hn _ ⟨_, _, _, _, h0.rwo hj, h1.later⟩
      · simp only [ro_2 (m := w0) (n := rn0) (a := ra0) (j := j) (by omega)]
        exact hn _ ⟨_, _, _, _, h0.rwo hj, h1.later⟩
    · refine ndd (by omega) (ndd (by omega) (ndd (by omega) (ndd (by omega) (ndd (by omega) (ndd (by omega) (ndd (by omega) ?_))))))
      simp only [ro_3 (m := w0) (n := rn0) (a := ra0) h0.rs.1 hj]
      exact hn _ ⟨_, _, _, _, h0.rwo hj, h1.later⟩
  · refine Eq.mpr (t_m05s ..) (Again.mk ?_)
    rcases Nat.eq_zero_or_pos w0 with hz | hz
    · exact brf (by omega) (hn _ ⟨_, _, _, _, h0.later, h1.later⟩)
    obtain ⟨j, hj, hp⟩ := plc_at hx hz
    have hp1 := plc_add hj (show w0 ≤ 1000 by omega)
    simp only [gtC, hp, hp1, Int.toNat_natCast, Nat.zero_add, Nat.sub_zero, List.take_length]
    refine brt (by omega) (nd (by simp; omega) (ndd (by omega) (ndd (by omega) (ndd (by omega) (ndd (by omega) (ndd (by omega) (ndd (by omega) (ndd (by omega) ?_))))))))
    refine brd (fun c1 => ?_) (fun c1 => ?_)
    · refine ndd (by omega) (ndd (by omega) (ndd (by omega) (ndd (by omega) (ndd (by omega) (ndd (by omega) ?_)))))
      refine brd (fun c2 => ndd (by omega) ?_) (fun c2 => ndd (by omega) ?_)
      · simp only [ro_1 (m := w0) (n := rn0) (a := ra0) h0.rs.1 hj (by omega) (by omega)]
        have hr := h0.rs.2 j hj
        refine br (fun _ => ?_) (fun _ => ?_)
        · refine br (fun _ => hn _ ⟨_, _, _, _, h0.rwo hj, h1.later⟩) (fun _ => ?_)
          refine br (fun _ => hn _ ⟨_, _, _, _, h0.rwo hj, h1.later⟩) (fun e => ?_)
          have ee : rn0.getD j 0 = un := eqK_t.1 (by simpa using e)
          obtain ⟨d1, d2, d3, d4, d5⟩ := h0.answer hu2 hr ee
          refine bret d1 ?_
          refine ndd (Nat.le_refl _) (ndd ⟨by have := may_len h0.may; omega, d5⟩ ?_)
          exact hn _ ⟨_, _, _, _, h0.answered hu2 hr ee (h0.rwo hj).rm (h0.rs.wo hj), h1.later⟩
        · skip
          refine br (fun _ => hn _ ⟨_, _, _, _, h0.rwo hj, h1.later⟩) (fun e => ?_)
          have ee : rn0.getD j 0 = un := eqK_t.1 (by simpa using e)
          obtain ⟨d1, d2, d3, d4, d5⟩ := h0.answer hu2 hr ee
          refine bret d1 ?_
          refine ndd (Nat.le_refl _) (ndd ⟨by have := may_len h0.may; omega, d5⟩ ?_)
          exact hn _ ⟨_, _, _, _, h0.answered hu2 hr ee (h0.rwo hj).rm (h0.rs.wo hj), h1.later⟩
      · simp only [ro_2 (m := w0) (n := rn0) (a := ra0) (j := j) (by omega)]
        have hr := h0.rs.2 j hj
        refine br (fun _ => ?_) (fun _ => ?_)
        · refine br (fun _ => hn _ ⟨_, _, _, _, h0.rwo hj, h1.later⟩) (fun _ => ?_)
          refine br (fun _ => hn _ ⟨_, _, _, _, h0.rwo hj, h1.later⟩) (fun e => ?_)
          have ee : rn0.getD j 0 = un := eqK_t.1 (by simpa using e)
          obtain ⟨d1, d2, d3, d4, d5⟩ := h0.answer hu2 hr ee
          refine bret d1 ?_
          refine ndd (Nat.le_refl _) (ndd ⟨by have := may_len h0.may; omega, d5⟩ ?_)
          exact hn _ ⟨_, _, _, _, h0.answered hu2 hr ee (h0.rwo hj).rm (h0.rs.wo hj), h1.later⟩
        · skip
          refine br (fun _ => hn _ ⟨_, _, _, _, h0.rwo hj, h1.later⟩) (fun e => ?_)
          have ee : rn0.getD j 0 = un := eqK_t.1 (by simpa using e)
          obtain ⟨d1, d2, d3, d4, d5⟩ := h0.answer hu2 hr ee
          refine bret d1 ?_
          refine ndd (Nat.le_refl _) (ndd ⟨by have := may_len h0.may; omega, d5⟩ ?_)
          exact hn _ ⟨_, _, _, _, h0.answered hu2 hr ee (h0.rwo hj).rm (h0.rs.wo hj), h1.later⟩
    · refine ndd (by omega) (ndd (by omega) (ndd (by omega) (ndd (by omega) (ndd (by omega) (ndd (by omega) (ndd (by omega) ?_))))))
      simp only [ro_3 (m := w0) (n := rn0) (a := ra0) h0.rs.1 hj]
      have hr := h0.rs.2 j hj
      refine br (fun _ => ?_) (fun _ => ?_)
      · refine br (fun _ => hn _ ⟨_, _, _, _, h0.rwo hj, h1.later⟩) (fun _ => ?_)
        refine br (fun _ => hn _ ⟨_, _, _, _, h0.rwo hj, h1.later⟩) (fun e => ?_)
        have ee : rn0.getD j 0 = un := eqK_t.1 (by simpa using e)
        obtain ⟨d1, d2, d3, d4, d5⟩ := h0.answer hu2 hr ee
        refine bret d1 ?_
        refine ndd (Nat.le_refl _) (ndd ⟨by have := may_len h0.may; omega, d5⟩ ?_)
        exact hn _ ⟨_, _, _, _, h0.answered hu2 hr ee (h0.rwo hj).rm (h0.rs.wo hj), h1.later⟩
      · skip
        refine br (fun _ => hn _ ⟨_, _, _, _, h0.rwo hj, h1.later⟩) (fun e => ?_)
        have ee : rn0.getD j 0 = un := eqK_t.1 (by simpa using e)
        obtain ⟨d1, d2, d3, d4, d5⟩ := h0.answer hu2 hr ee
        refine bret d1 ?_
        refine ndd (Nat.le_refl _) (ndd ⟨by have := may_len h0.may; omega, d5⟩ ?_)
        exact hn _ ⟨_, _, _, _, h0.answered hu2 hr ee (h0.rwo hj).rm (h0.rs.wo hj), h1.later⟩
theorem mv0k6 {E : Ag} {p : Pr} {F G : Int} {u : Nat} {i xn ck ca : Int} {L M : Nat} {k : SV → St → Prop} (h : Both F G u p) (hu : u ≤ 900) (hx : 0 ≤ xn ∧ xn ≤ 65535) (hk : 0 ≤ ck) (ha : 0 ≤ ca) (hn : ∀ p', Both F G (u + 1) p' → caG E p' i L M k) : caD E p false 6 xn ck ca i L M k := by
  obtain ⟨⟨f0, g0, nx0, ex0, os0, ps0, o0, p0⟩, ⟨f1, g1, nx1, ex1, os1, ps1, o1, p1⟩, ⟨m0, qn0, qk0, qa0⟩, ⟨m1, qn1, qk1, qa1⟩, ⟨w0, rn0, ra0⟩, ⟨w1, rn1, ra1⟩⟩ := p
  obtain ⟨T, D, T', D', h0, h1⟩ := h
  change Half F u T D f0 os0 nx0 o0 g1 ps1 ex1 p1 ⟨m1, qn1, qk1, qa1⟩ ⟨w0, rn0, ra0⟩ at h0
  change Half G u T' D' f1 os1 nx1 o1 g0 ps0 ex0 p0 ⟨m0, qn0, qk0, qa0⟩ ⟨w1, rn1, ra1⟩ at h1
  have b0 : m0 ≤ u := h1.qm
  have b1 : m1 ≤ u := h0.qm
  have c0 : w0 ≤ u := h0.rm
  have c1 : w1 ≤ u := h1.rm
  have hu2 : u ≤ 1000 := by omega
  refine Eq.mpr (t_m06 ..) (Again.mk ?_)
  rcases Nat.eq_zero_or_pos w0 with hz | hz
  · exact brf (by omega) (hn _ ⟨_, _, _, _, h0.later, h1.later⟩)
  obtain ⟨j, hj, hp⟩ := plc_at hx hz
  have hp1 := plc_add hj (show w0 ≤ 1000 by omega)
  simp only [gtC, hp, hp1, Int.toNat_natCast, Nat.zero_add, Nat.sub_zero, List.take_length]
  refine brt (by omega) (nd (by simp; omega) (ndd (by omega) (ndd (by omega) (ndd (by omega) (ndd (by omega) (ndd (by omega) (ndd (by omega) (ndd (by omega) ?_))))))))
  refine brd (fun c1 => ?_) (fun c1 => ?_)
  · refine ndd (by omega) (ndd (by omega) (ndd (by omega) (ndd (by omega) (ndd (by omega) (ndd (by omega) ?_)))))
    refine brd (fun c2 => ndd (by omega) ?_) (fun c2 => ndd (by omega) ?_)
    · simp only [ro_1 (m := w0) (n := rn0) (a := ra0) h0.rs.1 hj (by omega) (by omega)]
      exact hn _ ⟨_, _, _, _, h0.rwo hj, h1.later⟩
    · simp only [ro_2 (m := w0) (n := rn0) (a := ra0) (j := j) (by omega)]
      exact hn _ ⟨_, _, _, _, h0.rwo hj, h1.later⟩
  · refine ndd (by omega) (ndd (by omega) (ndd (by omega) (ndd (by omega) (ndd (by omega) (ndd (by omega) (ndd (by omega) ?_))))))
    simp only [ro_3 (m := w0) (n := rn0) (a := ra0) h0.rs.1 hj]
    exact hn _ ⟨_, _, _, _, h0.rwo hj, h1.later⟩
theorem mv0k7 {E : Ag} {p : Pr} {F G : Int} {u : Nat} {i xn ck ca : Int} {L M : Nat} {k : SV → St → Prop} (h : Both F G u p) (hu : u ≤ 900) (hx : 0 ≤ xn ∧ xn ≤ 65535) (hk : 0 ≤ ck) (ha : 0 ≤ ca) (hn : ∀ p', Both F G (u + 1) p' → caG E p' i L M k) : caD E p false 7 xn ck ca i L M k := by
  obtain ⟨⟨f0, g0, nx0, ex0, os0, ps0, o0, p0⟩, ⟨f1, g1, nx1, ex1, os1, ps1, o1, p1⟩, ⟨m0, qn0, qk0, qa0⟩, ⟨m1, qn1, qk1, qa1⟩, ⟨w0, rn0, ra0⟩, ⟨w1, rn1, ra1⟩⟩ := p
  obtain ⟨T, D, T', D', h0, h1⟩ := h
  change Half F u T D f0 os0 nx0 o0 g1 ps1 ex1 p1 ⟨m1, qn1, qk1, qa1⟩ ⟨w0, rn0, ra0⟩ at h0
  change Half G u T' D' f1 os1 nx1 o1 g0 ps0 ex0 p0 ⟨m0, qn0, qk0, qa0⟩ ⟨w1, rn1, ra1⟩ at h1
  have b0 : m0 ≤ u := h1.qm
  have b1 : m1 ≤ u := h0.qm
  have c0 : w0 ≤ u := h0.rm
  have c1 : w1 ≤ u := h1.rm
  have hu2 : u ≤ 1000 := by omega
  refine Eq.mpr (t_m07 ..) (Again.mk ?_)
  rcases Nat.eq_zero_or_pos w0 with hz | hz
  · exact brf (by omega) (hn _ ⟨_, _, _, _, h0.later, h1.later⟩)
  obtain ⟨j, hj, hp⟩ := plc_at hx hz
  simp only [gtC, hp, Int.toNat_natCast, Nat.zero_add]
  refine brt (by omega) (nd (by simp; omega) (ndd (by omega) (ndd (by omega) (ndd hj (ndd (by omega) ?_)))))
  rw [sn_r h0.rs.1]
  exact hn _ ⟨_, _, _, _, h0.rdup hj, h1.later⟩
theorem mv0k8 {E : Ag} {p : Pr} {F G : Int} {u : Nat} {i xn ck ca : Int} {k8 : Nat} {L M : Nat} {k : SV → St → Prop} (h : Both F G u p) (hu : u ≤ 900) (hx : 0 ≤ xn ∧ xn ≤ 65535) (hk : 0 ≤ ck) (ha : 0 ≤ ca) (hn : ∀ p', Both F G (u + 1) p' → caG E p' i L M k) : caD E p false (((k8 + 8) : Nat) : Int) xn ck ca i L M k := by
  obtain ⟨⟨f0, g0, nx0, ex0, os0, ps0, o0, p0⟩, ⟨f1, g1, nx1, ex1, os1, ps1, o1, p1⟩, ⟨m0, qn0, qk0, qa0⟩, ⟨m1, qn1, qk1, qa1⟩, ⟨w0, rn0, ra0⟩, ⟨w1, rn1, ra1⟩⟩ := p
  obtain ⟨T, D, T', D', h0, h1⟩ := h
  change Half F u T D f0 os0 nx0 o0 g1 ps1 ex1 p1 ⟨m1, qn1, qk1, qa1⟩ ⟨w0, rn0, ra0⟩ at h0
  change Half G u T' D' f1 os1 nx1 o1 g0 ps0 ex0 p0 ⟨m0, qn0, qk0, qa0⟩ ⟨w1, rn1, ra1⟩ at h1
  have b0 : m0 ≤ u := h1.qm
  have b1 : m1 ≤ u := h0.qm
  have c0 : w0 ≤ u := h0.rm
  have c1 : w1 ≤ u := h1.rm
  have hu2 : u ≤ 1000 := by omega
  exact Eq.mpr (t_m08 ..) (Again.mk (hn _ ⟨_, _, _, _, h0.later, h1.later⟩))
theorem mv0 {E : Ag} {p : Pr} {F G : Int} {u : Nat} {i kd xn ck ca : Int} {L M : Nat} {k : SV → St → Prop} (h : Both F G u p) (hu : u ≤ 900) (hkd : 0 ≤ kd) (hx : 0 ≤ xn ∧ xn ≤ 65535) (hk : 0 ≤ ck) (ha : 0 ≤ ca) (hn : ∀ p', Both F G (u + 1) p' → caG E p' i L M k) : caD E p false kd xn ck ca i L M k := by
  by_cases h8 : 8 ≤ kd
  · obtain ⟨k8, rfl⟩ : ∃ k8 : Nat, kd = ((k8 + 8 : Nat) : Int) := ⟨(kd - 8).toNat, by omega⟩
    exact mv0k8 h hu hx hk ha hn
  have hc : kd = 0 ∨ kd = 1 ∨ kd = 2 ∨ kd = 3 ∨ kd = 4 ∨ kd = 5 ∨ kd = 6 ∨ kd = 7 := by omega
  rcases hc with rfl | rfl | rfl | rfl | rfl | rfl | rfl | rfl
  · exact mv0k0 h hu hx hk ha hn
  · exact mv0k1 h hu hx hk ha hn
  · exact mv0k2 h hu hx hk ha hn
  · exact mv0k3 h hu hx hk ha hn
  · exact mv0k4 h hu hx hk ha hn
  · exact mv0k5 h hu hx hk ha hn
  · exact mv0k6 h hu hx hk ha hn
  · exact mv0k7 h hu hx hk ha hn
end Go.Ev
set_option linter.unusedVariables false
set_option linter.unusedSimpArgs false
set_option maxHeartbeats 4000000
set_option maxRecDepth 100000
namespace Go.Ev
open Go Go.Proofs Go.Spec
attribute [local irreducible] ev evCall branch need again caD caG caH caZ
theorem mv1k0 {E : Ag} {p : Pr} {F G : Int} {u : Nat} {i xn ck ca : Int} {L M : Nat} {k : SV → St → Prop} (h : Both F G u p) (hu : u ≤ 900) (hx : 0 ≤ xn ∧ xn ≤ 65535) (hk : 0 ≤ ck) (ha : 0 ≤ ca) (hn : ∀ p', Both F G (u + 1) p' → caG E p' i L M k) : caD E p true 0 xn ck ca i L M k := by
  obtain ⟨⟨f0, g0, nx0, ex0, os0, ps0, o0, p0⟩, ⟨f1, g1, nx1, ex1, os1, ps1, o1, p1⟩, ⟨m0, qn0, qk0, qa0⟩, ⟨m1, qn1, qk1, qa1⟩, ⟨w0, rn0, ra0⟩, ⟨w1, rn1, ra1⟩⟩ := p
  obtain ⟨T, D, T', D', h0, h1⟩ := h
  change Half F u T D f0 os0 nx0 o0 g1 ps1 ex1 p1 ⟨m1, qn1, qk1, qa1⟩ ⟨w0, rn0, ra0⟩ at h0
  change Half G u T' D' f1 os1 nx1 o1 g0 ps0 ex0 p0 ⟨m0, qn0, qk0, qa0⟩ ⟨w1, rn1, ra1⟩ at h1
  have b0 : m0 ≤ u := h1.qm
  have b1 : m1 ≤ u := h0.qm
  have c0 : w0 ≤ u := h0.rm
  have c1 : w1 ≤ u := h1.rm
  have hu2 : u ≤ 1000 := by omega
  rcases o1 with _ | ⟨un, uk, ua⟩
  · refine Eq.mpr (t_m10n ..) (Again.mk ?_)
    simp only [List.take_length, Nat.zero_add]
    refine ndd (Nat.le_refl _) (ndd ⟨by have := may_len h1.may; omega, hk⟩ ?_)
    refine br (fun e => ?_) (fun e => ?_)
    · refine br (fun e' => absurd e (by rw [e']; decide)) fun _ => hn _ ⟨_, _, _, _, h0.later, h1.later⟩
    · refine ndd (by omega) ?_
      rw [sn_q h1.qs.1]
      exact hn _ ⟨_, _, _, _, h0.later, h1.ask hu2 hk ha (eqK_t.1 (by simpa using e))⟩
  · refine Eq.mpr (t_m10s ..) (Again.mk ?_)
    simp only [List.take_length, Nat.zero_add]
    refine ndd (Nat.le_refl _) (ndd ⟨by have := may_len h1.may; omega, hk⟩ ?_)
    refine br (fun e => ?_) (fun e => hn _ ⟨_, _, _, _, h0.later, h1.later⟩)
    exact br (fun e' => absurd e (by rw [e']; decide)) fun _ => hn _ ⟨_, _, _, _, h0.later, h1.later⟩
theorem mv1k1 {E : Ag} {p : Pr} {F G : Int} {u : Nat} {i xn ck ca : Int} {L M : Nat} {k : SV → St → Prop} (h : Both F G u p) (hu : u ≤ 900) (hx : 0 ≤ xn ∧ xn ≤ 65535) (hk : 0 ≤ ck) (ha : 0 ≤ ca) (hn : ∀ p', Both F G (u + 1) p' → caG E p' i L M k) : caD E p true 1 xn ck ca i L M k := by
  obtain ⟨⟨f0, g0, nx0, ex0, os0, ps0, o0, p0⟩, ⟨f1, g1, nx1, ex1, os1, ps1, o1, p1⟩, ⟨m0, qn0, qk0, qa0⟩, ⟨m1, qn1, qk1, qa1⟩, ⟨w0, rn0, ra0⟩, ⟨w1, rn1, ra1⟩⟩ := p
  obtain ⟨T, D, T', D', h0, h1⟩ := h
  change Half F u T D f0 os0 nx0 o0 g1 ps1 ex1 p1 ⟨m1, qn1, qk1, qa1⟩ ⟨w0, rn0, ra0⟩ at h0
  change Half G u T' D' f1 os1 nx1 o1 g0 ps0 ex0 p0 ⟨m0, qn0, qk0, qa0⟩ ⟨w1, rn1, ra1⟩ at h1
  have b0 : m0 ≤ u := h1.qm
  have b1 : m1 ≤ u := h0.qm
  have c0 : w0 ≤ u := h0.rm
  have c1 : w1 ≤ u := h1.rm
  have hu2 : u ≤ 1000 := by omega
  rcases o1 with _ | ⟨un, uk, ua⟩
  · exact Eq.mpr (t_m11n ..) (Again.mk (hn _ ⟨_, _, _, _, h0.later, h1.later⟩))
  · refine Eq.mpr (t_m11s ..) (Again.mk (ndd (by omega) ?_))
    rw [sn_q h1.qs.1]
    exact hn _ ⟨_, _, _, _, h0.later, h1.again⟩
theorem mv1k2 {E : Ag} {p : Pr} {F G : Int} {u : Nat} {i xn ck ca : Int} {L M : Nat} {k : SV → St → Prop} (h : Both F G u p) (hu : u ≤ 900) (hx : 0 ≤ xn ∧ xn ≤ 65535) (hk : 0 ≤ ck) (ha : 0 ≤ ca) (hn : ∀ p', Both F G (u + 1) p' → caG E p' i L M k) : caD E p true 2 xn ck ca i L M k := by
  obtain ⟨⟨f0, g0, nx0, ex0, os0, ps0, o0, p0⟩, ⟨f1, g1, nx1, ex1, os1, ps1, o1, p1⟩, ⟨m0, qn0, qk0, qa0⟩, ⟨m1, qn1, qk1, qa1⟩, ⟨w0, rn0, ra0⟩, ⟨w1, rn1, ra1⟩⟩ := p
  obtain ⟨T, D, T', D', h0, h1⟩ := h
  change Half F u T D f0 os0 nx0 o0 g1 ps1 ex1 p1 ⟨m1, qn1, qk1, qa1⟩ ⟨w0, rn0, ra0⟩ at h0
  change Half G u T' D' f1 os1 nx1 o1 g0 ps0 ex0 p0 ⟨m0, qn0, qk0, qa0⟩ ⟨w1, rn1, ra1⟩ at h1
  have b0 : m0 ≤ u := h1.qm
  have b1 : m1 ≤ u := h0.qm
  have c0 : w0 ≤ u := h0.rm
  have c1 : w1 ≤ u := h1.rm
  have hu2 : u ≤ 1000 := by omega
  rcases p1 with _ | ⟨kn, ka⟩
  · refine Eq.mpr (t_m12n ..) (Again.mk ?_)
    rcases Nat.eq_zero_or_pos m1 with hz | hz
    · exact brf (by omega) (hn _ ⟨_, _, _, _, h0.later, h1.later⟩)
    obtain ⟨j, hj, hp⟩ := plc_at hx hz
    have hp1 := plc_add hj (show m1 ≤ 1000 by omega)
    simp only [gtC, hp, hp1, Int.toNat_natCast, Nat.zero_add, Nat.sub_zero, List.take_length]
    refine brt (by omega) (nd (by simp; omega) (ndd (by omega) (ndd (by omega) (ndd (by omega) (ndd (by omega) (ndd (by omega) (ndd (by omega) (ndd (by omega) ?_))))))))
    refine brd (fun c1 => ?_) (fun c1 => ?_)
    · refine ndd (by omega) (ndd (by omega) (ndd (by omega) (ndd (by omega) (ndd (by omega) (ndd (by omega) ?_)))))
      refine brd (fun c2 => ndd (by omega) ?_) (fun c2 => ndd (by omega) ?_)
      · simp only [wo_1 (m := m1) (n := qn1) (k := qk1) (a := qa1) h0.qs.1 hj (by omega) (by omega)]
        have hq := h0.qs.2 j hj
        refine bre (fun e => ?_) (fun e => ?_)
        · obtain ⟨d1, d2, d3, d4, d5, d6⟩ := h0.due hu2 hq e
          refine ndd (Nat.le_refl _) (ndd ⟨by have := may_len h0.may; rw [d6]; omega, d1⟩ ?_)
          refine br (fun e2 => absurd e2 (by rw [d2]; decide)) fun _ => ndd (by omega) ?_
          rw [sn_r h0.rs.1]
          exact hn _ ⟨_, _, _, _, h0.takeNew hu2 hq e (h0.qwo hj).qm (h0.qs.wo hj), h1.later⟩
        · repeat' first | exact hn _ ⟨_, _, _, _, h0.qwo hj, h1.later⟩ | refine br (fun _ => ?_) (fun _ => ?_)
      · simp only [wo_2 (m := m1) (n := qn1) (k := qk1) (a := qa1) (j := j) (by omega)]
        have hq := h0.qs.2 j hj
        refine bre (fun e => ?_) (fun e => ?_)
        · obtain ⟨d1, d2, d3, d4, d5, d6⟩ := h0.due hu2 hq e
          refine ndd (Nat.le_refl _) (ndd ⟨by have := may_len h0.may; rw [d6]; omega, d1⟩ ?_)
          refine br (fun e2 => absurd e2 (by rw [d2]; decide)) fun _ => ndd (by omega) ?_
          rw [sn_r h0.rs.1]
          exact hn _ ⟨_, _, _, _, h0.takeNew hu2 hq e (h0.qwo hj).qm (h0.qs.wo hj), h1.later⟩
        · repeat' first | exact hn _ ⟨_, _, _, _, h0.qwo hj, h1.later⟩ | refine br (fun _ => ?_) (fun _ => ?_)
    · refine ndd (by omega) (ndd (by omega) (ndd (by omega) (ndd (by omega) (ndd (by omega) (ndd (by omega) (ndd (by omega) ?_))))))
      simp only [wo_3 (m := m1) (n := qn1) (k := qk1) (a := qa1) h0.qs.1 hj]
      have hq := h0.qs.2 j hj
      refine bre (fun e => ?_) (fun e => ?_)
      · obtain ⟨d1, d2, d3, d4, d5, d6⟩ := h0.due hu2 hq e
        refine ndd (Nat.le_refl _) (ndd ⟨by have := may_len h0.may; rw [d6]; omega, d1⟩ ?_)
        refine br (fun e2 => absurd e2 (by rw [d2]; decide)) fun _ => ndd (by omega) ?_
        rw [sn_r h0.rs.1]
        exact hn _ ⟨_, _, _, _, h0.takeNew hu2 hq e (h0.qwo hj).qm (h0.qs.wo hj), h1.later⟩
      · repeat' first | exact hn _ ⟨_, _, _, _, h0.qwo hj, h1.later⟩ | refine br (fun _ => ?_) (fun _ => ?_)
  · refine Eq.mpr (t_m12s ..) (Again.mk ?_)
    rcases Nat.eq_zero_or_pos m1 with hz | hz
    · exact brf (by omega) (hn _ ⟨_, _, _, _, h0.later, h1.later⟩)
    obtain ⟨j, hj, hp⟩ := plc_at hx hz
    have hp1 := plc_add hj (show m1 ≤ 1000 by omega)
    simp only [gtC, hp, hp1, Int.toNat_natCast, Nat.zero_add, Nat.sub_zero, List.take_length]
    refine brt (by omega) (nd (by simp; omega) (ndd (by omega) (ndd (by omega) (ndd (by omega) (ndd (by omega) (ndd (by omega) (ndd (by omega) (ndd (by omega) ?_))))))))
    refine brd (fun c1 => ?_) (fun c1 => ?_)
    · refine ndd (by omega) (ndd (by omega) (ndd (by omega) (ndd (by omega) (ndd (by omega) (ndd (by omega) ?_)))))
      refine brd (fun c2 => ndd (by omega) ?_) (fun c2 => ndd (by omega) ?_)
      · simp only [wo_1 (m := m1) (n := qn1) (k := qk1) (a := qa1) h0.qs.1 hj (by omega) (by omega)]
        have hq := h0.qs.2 j hj
        refine bre (fun e => ?_) (fun e => ?_)
        · obtain ⟨d1, d2, d3, d4, d5, d6⟩ := h0.due hu2 hq e
          refine ndd (Nat.le_refl _) (ndd ⟨by have := may_len h0.may; rw [d6]; omega, d1⟩ ?_)
          refine br (fun e2 => absurd e2 (by rw [d2]; decide)) fun _ => ndd (by omega) ?_
          rw [sn_r h0.rs.1]
          exact hn _ ⟨_, _, _, _, h0.takeNew hu2 hq e (h0.qwo hj).qm (h0.qs.wo hj), h1.later⟩
        · refine br (fun _ => ndd (by omega) ?_) (fun _ => ?_)
          · rw [sn_r h0.rs.1]
            exact hn _ ⟨_, _, _, _, h0.takeOld (h0.qwo hj).qm (h0.qs.wo hj), h1.later⟩
          · repeat' first | exact hn _ ⟨_, _, _, _, h0.qwo hj, h1.later⟩ | refine br (fun _ => ?_) (fun _ => ?_)
      · simp only [wo_2 (m := m1) (n := qn1) (k := qk1) (a := qa1) (j := j) (by omega)]
        have hq := h0.qs.2 j hj
        refine bre (fun e => ?_) (fun e => ?_)
        · obtain ⟨d1, d2, d3, d4, d5, d6⟩ := h0.due hu2 hq e
          refine ndd (Nat.le_refl _) (ndd ⟨by have := may_len h0.may; rw [d6]; omega, d1⟩ ?_)
          refine br (fun e2 => absurd e2 (by rw [d2]; decide)) fun _ => ndd (by omega) ?_
          rw [sn_r h0.rs.1]
          exact hn _ ⟨_, _, _, _, h0.takeNew hu2 hq e (h0.qwo hj).qm (h0.qs.wo hj), h1.later⟩
        · refine br (fun _ => ndd (by omega) ?_) (fun _ => ?_)
          · rw [sn_r h0.rs.1]
            exact hn _ ⟨_, _, _, _, h0.takeOld (h0.qwo hj).qm (h0.qs.wo hj), h1.later⟩
          · repeat' first | exact hn _ ⟨_, _, _, _, h0.qwo hj, h1.later⟩ | refine br (fun _ => ?_) (fun _ => ?_)
    · refine ndd (by omega) (ndd (by omega) (ndd (by omega) (ndd (by omega) (ndd (by omega) (ndd (by omega) (ndd (by omega) ?_))))))
      simp only [wo_3 (m := m1) (n := qn1) (k := qk1) (a := qa1) h0.qs.1 hj]
      have hq := h0.qs.2 j hj
      refine bre (fun e => ?_) (fun e => ?_)
      · obtain ⟨d1, d2, d3, d4, d5, d6⟩ := h0.due hu2 hq e
        refine ndd (Nat.le_refl _) (ndd ⟨by have := may_len h0.may; rw [d6]; omega, d1⟩ ?_)
        refine br (fun e2 => absurd e2 (by rw [d2]; decide)) fun _ => ndd (by omega) ?_
        rw [sn_r h0.rs.1]
        exact hn _ ⟨_, _, _, _, h0.takeNew hu2 hq e (h0.qwo hj).qm (h0.qs.wo hj), h1.later⟩
      · refine br (fun _ => ndd (by omega) ?_) (fun _ => ?_)
        · rw [sn_r h0.rs.1]
          exact hn _ ⟨_, _, _, _, h0.takeOld (h0.qwo hj).qm (h0.qs.wo hj), h1.later⟩
        · repeat' first | exact hn _ ⟨_, _, _, _, h0.qwo hj, h1.later⟩ | refine br (fun _ => ?_) (fun _ => ?_)
theorem mv1k3 {E : Ag} {p : Pr} {F G : Int} {u : Nat} {i xn ck ca : Int} {L M : Nat} {k : SV → St → Prop} (h : Both F G u p) (hu : u ≤ 900) (hx : 0 ≤ xn ∧ xn ≤ 65535) (hk : 0 ≤ ck) (ha : 0 ≤ ca) (hn : ∀ p', Both F G (u + 1) p' → caG E p' i L M k) : caD E p true 3 xn ck ca i L M k := by
  obtain ⟨⟨f0, g0, nx0, ex0, os0, ps0, o0, p0⟩, ⟨f1, g1, nx1, ex1, os1, ps1, o1, p1⟩, ⟨m0, qn0, qk0, qa0⟩, ⟨m1, qn1, qk1, qa1⟩, ⟨w0, rn0, ra0⟩, ⟨w1, rn1, ra1⟩⟩ := p
  obtain ⟨T, D, T', D', h0, h1⟩ := h
  change Half F u T D f0 os0 nx0 o0 g1 ps1 ex1 p1 ⟨m1, qn1, qk1, qa1⟩ ⟨w0, rn0, ra0⟩ at h0
  change Half G u T' D' f1 os1 nx1 o1 g0 ps0 ex0 p0 ⟨m0, qn0, qk0, qa0⟩ ⟨w1, rn1, ra1⟩ at h1
  have b0 : m0 ≤ u := h1.qm
  have b1 : m1 ≤ u := h0.qm
  have c0 : w0 ≤ u := h0.rm
  have c1 : w1 ≤ u := h1.rm
  have hu2 : u ≤ 1000 := by omega
  refine Eq.mpr (t_m13 ..) (Again.mk ?_)
  rcases Nat.eq_zero_or_pos m1 with hz | hz
  · exact brf (by omega) (hn _ ⟨_, _, _, _, h0.later, h1.later⟩)
  obtain ⟨j, hj, hp⟩ := plc_at hx hz
  have hp1 := plc_add hj (show m1 ≤ 1000 by omega)
  simp only [gtC, hp, hp1, Int.toNat_natCast, Nat.zero_add, Nat.sub_zero, List.take_length]
  refine brt (by omega) (nd (by simp; omega) (ndd (by omega) (ndd (by omega) (ndd (by omega) (ndd (by omega) (ndd (by omega) (ndd (by omega) (ndd (by omega) ?_))))))))
  refine brd (fun c1 => ?_) (fun c1 => ?_)
  · refine ndd (by omega) (ndd (by omega) (ndd (by omega) (ndd (by omega) (ndd (by omega) (ndd (by omega) ?_)))))
    refine brd (fun c2 => ndd (by omega) ?_) (fun c2 => ndd (by omega) ?_)
    · simp only [wo_1 (m := m1) (n := qn1) (k := qk1) (a := qa1) h0.qs.1 hj (by omega) (by omega)]
      exact hn _ ⟨_, _, _, _, h0.qwo hj, h1.later⟩
    · simp only [wo_2 (m := m1) (n := qn1) (k := qk1) (a := qa1) (j := j) (by omega)]
      exact hn _ ⟨_, _, _, _, h0.qwo hj, h1.later⟩
  · refine ndd (by omega) (ndd (by omega) (ndd (by omega) (ndd (by omega) (ndd (by omega) (ndd (by omega) (ndd (by omega) ?_))))))
    simp only [wo_3 (m := m1) (n := qn1) (k := qk1) (a := qa1) h0.qs.1 hj]
    exact hn _ ⟨_, _, _, _, h0.qwo hj, h1.later⟩
theorem mv1k4 {E : Ag} {p : Pr} {F G : Int} {u : Nat} {i xn ck ca : Int} {L M : Nat} {k : SV → St → Prop} (h : Both F G u p) (hu : u ≤ 900) (hx : 0 ≤ xn ∧ xn ≤ 65535) (hk : 0 ≤ ck) (ha : 0 ≤ ca) (hn : ∀ p', Both F G (u + 1) p' → caG E p' i L M k) : caD E p true 4 xn ck ca i L M k := by
  obtain ⟨⟨f0, g0, nx0, ex0, os0, ps0, o0, p0⟩, ⟨f1, g1, nx1, ex1, os1, ps1, o1, p1⟩, ⟨m0, qn0, qk0, qa0⟩, ⟨m1, qn1, qk1, qa1⟩, ⟨w0, rn0, ra0⟩, ⟨w1, rn1, ra1⟩⟩ := p
  obtain ⟨T, D, T', D', h0, h1⟩ := h
  change Half F u T D f0 os0 nx0 o0 g1 ps1 ex1 p1 ⟨m1, qn1, qk1, qa1⟩ ⟨w0, rn0, ra0⟩ at h0
  change Half G u T' D' f1 os1 nx1 o1 g0 ps0 ex0 p0 ⟨m0, qn0, qk0, qa0⟩ ⟨w1, rn1, ra1⟩ at h1
  have b0 : m0 ≤ u := h1.qm
  have b1 : m1 ≤ u := h0.qm
  have c0 : w0 ≤ u := h0.rm
  have c1 : w1 ≤ u := h1.rm
  have hu2 : u ≤ 1000 := by omega
  refine Eq.mpr (t_m14 ..) (Again.mk ?_)
  rcases Nat.eq_zero_or_pos m1 with hz | hz
  · exact brf (by omega) (hn _ ⟨_, _, _, _, h0.later, h1.later⟩)
  obtain ⟨j, hj, hp⟩ := plc_at hx hz
  simp only [gtC, hp, Int.toNat_natCast, Nat.zero_add]
  refine brt (by omega) (nd (by simp; omega) (ndd (by omega) (ndd (by omega) (ndd hj (ndd (by omega) ?_)))))
  rw [sn_q h0.qs.1]
  exact hn _ ⟨_, _, _, _, h0.qdup hj, h1.later⟩
theorem mv1k5 {E : Ag} {p : Pr} {F G : Int} {u : Nat} {i xn ck ca : Int} {L M : Nat} {k : SV → St → Prop} (h : Both F G u p) (hu : u ≤ 900) (hx : 0 ≤ xn ∧ xn ≤ 65535) (hk : 0 ≤ ck) (ha : 0 ≤ ca) (hn : ∀ p', Both F G (u + 1) p' → caG E p' i L M k) : caD E p true 5 xn ck ca i L M k := by
  obtain ⟨⟨f0, g0, nx0, ex0, os0, ps0, o0, p0⟩, ⟨f1, g1, nx1, ex1, os1, ps1, o1, p1⟩, ⟨m0, qn0, qk0, qa0⟩, ⟨m1, qn1, qk1, qa1⟩, ⟨w0, rn0, ra0⟩, ⟨w1, rn1, ra1⟩⟩ := p
  obtain ⟨T, D, T', D', h0, h1⟩ := h
  change Half F u T D f0 os0 nx0 o0 g1 ps1 ex1 p1 ⟨m1, qn1, qk1, qa1⟩ ⟨w0, rn0, ra0⟩ at h0
  change Half G u T' D' f1 os1 nx1 o1 g0 ps0 ex0 p0 ⟨m0, qn0, qk0, qa0⟩ ⟨w1, rn1, ra1⟩ at h1
  have b0 : m0 ≤ u := h1.qm
  have b1 : m1 ≤ u := h0.qm
  have c0 : w0 ≤ u := h0.rm
  have c1 : w1 ≤ u := h1.rm
  have hu2 : u ≤ 1000 := by omega
  rcases o1 with _ | ⟨un, uk, ua⟩
  · refine Eq.mpr (t_m15n ..) (Again.mk ?_)
    rcases Nat.eq_zero_or_pos w1 with hz | hz
    · exact brf (by omega) (hn _ ⟨_, _, _, _, h0.later, h1.later⟩)
    obtain ⟨j, hj, hp⟩ := plc_at hx hz
    have hp1 := plc_add hj (show w1 ≤ 1000 by omega)
    simp only [gtC, hp, hp1, Int.toNat_natCast, Nat.zero_add, Nat.sub_zero, List.take_length]
    refine brt (by omega) (nd (by simp; omega) (ndd (by omega) (ndd (by omega) (ndd (by omega) (ndd (by omega) (ndd (by omega) (ndd (by omega) (ndd (by omega) ?_))))))))
    refine brd (fun c1 => ?_) (fun c1 => ?_)
    · refine ndd (by omega) (ndd (by omega) (ndd (by omega) (ndd (by omega) (ndd (by omega) (ndd (by omega) ?_)))))
      refine brd (fun c2 => ndd (by omega) ?_) (fun c2 => ndd (by omega) ?_)
      · simp only [ro_1 (m := w1) (n := rn1) (a := ra1) h1.rs.1 hj (by omega) (by omega)]
        exact hn _ ⟨_, _, _, _, h0.later, h1.rwo hj⟩
      · simp only [ro_2 (m := w1) (n := rn1) (a := ra1) (j := j) (by omega)]
        exact hn _ ⟨_, _, _, _, h0.later, h1.rwo hj⟩
    · refine ndd (by omega) (ndd (by omega) (ndd (by omega) (ndd (by omega) (ndd (by omega) (ndd (by omega) (ndd (by omega) ?_))))))
      simp only [ro_3 (m := w1) (n := rn1) (a := ra1) h1.rs.1 hj]
      exact hn _ ⟨_, _, _, _, h0.later, h1.rwo hj⟩
  · refine Eq.mpr (t_m15s ..) (Again.mk ?_)
    rcases Nat.eq_zero_or_pos w1 with hz | hz
    · exact brf (by omega) (hn _ ⟨_, _, _, _, h0.later, h1.later⟩)
    obtain ⟨j, hj, hp⟩ := plc_at hx hz
    have hp1 := plc_add hj (show w1 ≤ 1000 by omega)
    simp only [gtC, hp, hp1, Int.toNat_natCast, Nat.zero_add, Nat.sub_zero, List.take_length]
    refine brt (by omega) (nd (by simp; omega) (ndd (by omega) (ndd (by omega) (ndd (by omega) (ndd (by omega) (ndd (by omega) (ndd (by omega) (ndd (by omega) ?_))))))))
    refine brd (fun c1 => ?_) (fun c1 => ?_)
    · refine ndd (by omega) (ndd (by omega) (ndd (by omega) (ndd (by omega) (ndd (by omega) (ndd (by omega) ?_)))))
      refine brd (fun c2 => ndd (by omega) ?_) (fun c2 => ndd (by omega) ?_)
      · simp only [ro_1 (m := w1) (n := rn1) (a := ra1) h1.rs.1 hj (by omega) (by omega)]
        have hr := h1.rs.2 j hj
        refine br (fun _ => ?_) (fun _ => ?_)
        · refine br (fun _ => hn _ ⟨_, _, _, _, h0.later, h1.rwo hj⟩) (fun _ => ?_)
          refine br (fun _ => hn _ ⟨_, _, _, _, h0.later, h1.rwo hj⟩) (fun e => ?_)
          have ee : rn1.getD j 0 = un := eqK_t.1 (by simpa using e)
          obtain ⟨d1, d2, d3, d4, d5⟩ := h1.answer hu2 hr ee
          refine bret d1 ?_
          refine ndd (Nat.le_refl _) (ndd ⟨by have := may_len h1.may; omega, d5⟩ ?_)
          exact hn _ ⟨_, _, _, _, h0.later, h1.answered hu2 hr ee (h1.rwo hj).rm (h1.rs.wo hj)⟩
        · skip
          refine br (fun _ => hn _ ⟨_, _, _, _, h0.later, h1.rwo hj⟩) (fun e => ?_)
          have ee : rn1.getD j 0 = un := eqK_t.1 (by simpa using e)
          obtain ⟨d1, d2, d3, d4, d5⟩ := h1.answer hu2 hr ee
          refine bret d1 ?_
          refine ndd (Nat.le_refl _) (ndd ⟨by have := may_len h1.may; omega, d5⟩ ?_)
          exact hn _ ⟨_, _, _, _, h0.later, h1.answered hu2 hr ee (h1.rwo hj).rm (h1.rs.wo hj)⟩
      · simp only [ro_2 (m := w1) (n := rn1) (a := ra1) (j := j) (by omega)]
        have hr := h1.rs.2 j hj
        refine br (fun _ => ?_) (fun _ => ?_)
        · refine br (fun _ => hn _ ⟨_, _, _, _, h0.later, h1.rwo hj⟩) (fun _ => ?_)
          refine br (fun _ => hn _ ⟨_, _, _, _, h0.later, h1.rwo hj⟩) (fun e => ?_)
          have ee : rn1.getD j 0 = un := eqK_t.1 (by simpa using e)
          obtain ⟨d1, d2, d3, d4, d5⟩ := h1.answer hu2 hr ee
          refine bret d1 ?_
          refine ndd (Nat.le_refl _) (ndd ⟨by have := may_len h1.may; omega, d5⟩ ?_)
          exact hn _ ⟨_, _, _, _, h0.later, h1.answered hu2 hr ee (h1.rwo hj).rm (h1.rs.wo hj)⟩
        · skip
          refine br (fun _ => hn _ ⟨_, _, _, _, h0.later, h1.rwo hj⟩) (fun e => ?_)
          have ee : rn1.getD j 0 = un := eqK_t.1 (by simpa using e)
          obtain ⟨d1, d2, d3, d4, d5⟩ := h1.answer hu2 hr ee
          refine bret d1 ?_
          refine ndd (Nat.le_refl _) (ndd ⟨by have := may_len h1.may; omega, d5⟩ ?_)
          exact hn _ ⟨_, _, _, _, h0.later, h1.answered hu2 hr ee (h1.rwo hj).rm (h1.rs.wo hj)⟩
    · refine ndd (by omega) (ndd (by omega) (ndd (by omega) (ndd (by omega) (ndd (by omega) (ndd (by omega) (ndd (by omega) ?_))))))
      simp only [ro_3 (m := w1) (n := rn1) (a := ra1) h1.rs.1 hj]
      have hr := h1.rs.2 j hj
      refine br (fun _ => ?_) (fun _ => ?_)
      · refine br (fun _ => hn _ ⟨_, _, _, _, h0.later, h1.rwo hj⟩) (fun _ => ?_)
        refine br (fun _ => hn _ ⟨_, _, _, _, h0.later, h1.rwo hj⟩) (fun e => ?_)
        have ee : rn1.getD j 0 = un := eqK_t.1 (by simpa using e)
        obtain ⟨d1, d2, d3, d4, d5⟩ := h1.answer hu2 hr ee
        refine bret d1 ?_
        refine ndd (Nat.le_refl _) (ndd ⟨by have := may_len h1.may; omega, d5⟩ ?_)
        exact hn _ ⟨_, _, _, _, h0.later, h1.answered hu2 hr ee (h1.rwo hj).rm (h1.rs.wo hj)⟩
      · skip
        refine br (fun _ => hn _ ⟨_, _, _, _, h0.later, h1.rwo hj⟩) (fun e => ?_)
        have ee : rn1.getD j 0 = un := eqK_t.1 (by simpa using e)
        obtain ⟨d1, d2, d3, d4, d5⟩ := h1.answer hu2 hr ee
        refine bret d1 ?_
        refine ndd (Nat.le_refl _) (ndd ⟨by have := may_len h1.may; omega, d5⟩ ?_)
        exact hn _ ⟨_, _, _, _, h0.later, h1.answered hu2 hr ee (h1.rwo hj).rm (h1.rs.wo hj)⟩
theorem mv1k6 {E : Ag} {p : Pr} {F G : Int} {u : Nat} {i xn ck ca : Int} {L M : Nat} {k : SV → St → Prop} (h : Both F G u p) (hu : u ≤ 900) (hx : 0 ≤ xn ∧ xn ≤ 65535) (hk : 0 ≤ ck) (ha : 0 ≤ ca) (hn : ∀ p', Both F G (u + 1) p' → caG E p' i L M k) : caD E p true 6 xn ck ca i L M k := by
  obtain ⟨⟨f0, g0, nx0, ex0, os0, ps0, o0, p0⟩, ⟨f1, g1, nx1, ex1, os1, ps1, o1, p1⟩, ⟨m0, qn0, qk0, qa0⟩, ⟨m1, qn1, qk1, qa1⟩, ⟨w0, rn0, ra0⟩, ⟨w1, rn1, ra1⟩⟩ := p
  obtain ⟨T, D, T', D', h0, h1⟩ := h
  change Half F u T D f0 os0 nx0 o0 g1 ps1 ex1 p1 ⟨m1, qn1, qk1, qa1⟩ ⟨w0, rn0, ra0⟩ at h0
  change Half G u T' D' f1 os1 nx1 o1 g0 ps0 ex0 p0 ⟨m0, qn0, qk0, qa0⟩ ⟨w1, rn1, ra1⟩ at h1
  have b0 : m0 ≤ u := h1.qm
  have b1 : m1 ≤ u := h0.qm
  have c0 : w0 ≤ u := h0.rm
  have c1 : w1 ≤ u := h1.rm
  have hu2 : u ≤ 1000 := by omega
  refine Eq.mpr (t_m16 ..) (Again.mk ?_)
  rcases Nat.eq_zero_or_pos w1 with hz | hz
  · exact brf (by omega) (hn _ ⟨_, _, _, _, h0.later, h1.later⟩)
  obtain ⟨j, hj, hp⟩ := plc_at hx hz
  have hp1 := plc_add hj (show w1 ≤ 1000 by omega)
  simp only [gtC, hp, hp1, Int.toNat_natCast, Nat.zero_add, Nat.sub_zero, List.take_length]
  refine brt (by omega) (nd (by simp; omega) (ndd (by omega) (ndd (by omega) (ndd (by omega) (ndd (by omega) (ndd (by omega) (ndd (by omega) (ndd (by omega) ?_))))))))
  refine brd (fun c1 => ?_) (fun c1 => ?_)
  · refine ndd (by omega) (ndd (by omega) (ndd (by omega) (ndd (by omega) (ndd (by omega) (ndd (by omega) ?_)))))
    refine brd (fun c2 => ndd (by omega) ?_) (fun c2 => ndd (by omega) ?_)
    · simp only [ro_1 (m := w1) (n := rn1) (a := ra1) h1.rs.1 hj (by omega) (by omega)]
      exact hn _ ⟨_, _, _, _, h0.later, h1.rwo hj⟩
    · simp only [ro_2 (m := w1) (n := rn1) (a := ra1) (j := j) (by omega)]
      exact hn _ ⟨_, _, _, _, h0.later, h1.rwo hj⟩
  · refine ndd (by omega) (ndd (by omega) (ndd (by omega) (ndd (by omega) (ndd (by omega) (ndd (by omega) (ndd (by omega) ?_))))))
    simp only [ro_3 (m := w1) (n := rn1) (a := ra1) h1.rs.1 hj]
    exact hn _ ⟨_, _, _, _, h0.later, h1.rwo hj⟩
theorem mv1k7 {E : Ag} {p : Pr} {F G : Int} {u : Nat} {i xn ck ca : Int} {L M : Nat} {k : SV → St → Prop} (h : Both F G u p) (hu : u ≤ 900) (hx : 0 ≤ xn ∧ xn ≤ 65535) (hk : 0 ≤ ck) (ha : 0 ≤ ca) (hn : ∀ p', Both F G (u + 1) p' → caG E p' i L M k) : caD E p true 7 xn ck ca i L M k := by
  obtain ⟨⟨f0, g0, nx0, ex0, os0, ps0, o0, p0⟩, ⟨f1, g1, nx1, ex1, os1, ps1, o1, p1⟩, ⟨m0, qn0, qk0, qa0⟩, ⟨m1, qn1, qk1, qa1⟩, ⟨w0, rn0, ra0⟩, ⟨w1, rn1, ra1⟩⟩ := p
  obtain ⟨T, D, T', D', h0, h1⟩ := h
  change Half F u T D f0 os0 nx0 o0 g1 ps1 ex1 p1 ⟨m1, qn1, qk1, qa1⟩ ⟨w0, rn0, ra0⟩ at h0
  change Half G u T' D' f1 os1 nx1 o1 g0 ps0 ex0 p0 ⟨m0, qn0, qk0, qa0⟩ ⟨w1, rn1, ra1⟩ at h1
  have b0 : m0 ≤ u := h1.qm
  have b1 : m1 ≤ u := h0.qm
  have c0 : w0 ≤ u := h0.rm
  have c1 : w1 ≤ u := h1.rm
  have hu2 : u ≤ 1000 := by omega
  refine Eq.mpr (t_m17 ..) (Again.mk ?_)
  rcases Nat.eq_zero_or_pos w1 with hz | hz
  · exact brf (by omega) (hn _ ⟨_, _, _, _, h0.later, h1.later⟩)
  obtain ⟨j, hj, hp⟩ := plc_at hx hz
  simp only [gtC, hp, Int.toNat_natCast, Nat.zero_add]
  refine brt (by omega) (nd (by simp; omega) (ndd (by omega) (ndd (by omega) (ndd hj (ndd (by omega) ?_)))))
  rw [sn_r h1.rs.1]
  exact hn _ ⟨_, _, _, _, h0.later, h1.rdup hj⟩
theorem mv1k8 {E : Ag} {p : Pr} {F G : Int} {u : Nat} {i xn ck ca : Int} {k8 : Nat} {L M : Nat} {k : SV → St → Prop} (h : Both F G u p) (hu : u ≤ 900) (hx : 0 ≤ xn ∧ xn ≤ 65535) (hk : 0 ≤ ck) (ha : 0 ≤ ca) (hn : ∀ p', Both F G (u + 1) p' → caG E p' i L M k) : caD E p true (((k8 + 8) : Nat) : Int) xn ck ca i L M k := by
  obtain ⟨⟨f0, g0, nx0, ex0, os0, ps0, o0, p0⟩, ⟨f1, g1, nx1, ex1, os1, ps1, o1, p1⟩, ⟨m0, qn0, qk0, qa0⟩, ⟨m1, qn1, qk1, qa1⟩, ⟨w0, rn0, ra0⟩, ⟨w1, rn1, ra1⟩⟩ := p
  obtain ⟨T, D, T', D', h0, h1⟩ := h
  change Half F u T D f0 os0 nx0 o0 g1 ps1 ex1 p1 ⟨m1, qn1, qk1, qa1⟩ ⟨w0, rn0, ra0⟩ at h0
  change Half G u T' D' f1 os1 nx1 o1 g0 ps0 ex0 p0 ⟨m0, qn0, qk0, qa0⟩ ⟨w1, rn1, ra1⟩ at h1
  have b0 : m0 ≤ u := h1.qm
  have b1 : m1 ≤ u := h0.qm
  have c0 : w0 ≤ u := h0.rm
  have c1 : w1 ≤ u := h1.rm
  have hu2 : u ≤ 1000 := by omega
  exact Eq.mpr (t_m18 ..) (Again.mk (hn _ ⟨_, _, _, _, h0.later, h1.later⟩))
theorem mv1 {E : Ag} {p : Pr} {F G : Int} {u : Nat} {i kd xn ck ca : Int} {L M : Nat} {k : SV → St → Prop} (h : Both F G u p) (hu : u ≤ 900) (hkd : 0 ≤ kd) (hx : 0 ≤ xn ∧ xn ≤ 65535) (hk : 0 ≤ ck) (ha : 0 ≤ ca) (hn : ∀ p', Both F G (u + 1) p' → caG E p' i L M k) : caD E p true kd xn ck ca i L M k := by
  by_cases h8 : 8 ≤ kd
  · obtain ⟨k8, rfl⟩ : ∃ k8 : Nat, kd = ((k8 + 8 : Nat) : Int) := ⟨(kd - 8).toNat, by omega⟩
    exact mv1k8 h hu hx hk ha hn
  have hc : kd = 0 ∨ kd = 1 ∨ kd = 2 ∨ kd = 3 ∨ kd = 4 ∨ kd = 5 ∨ kd = 6 ∨ kd = 7 := by omega
  rcases hc with rfl | rfl | rfl | rfl | rfl | rfl | rfl | rfl
  · exact mv1k0 h hu hx hk ha hn
  · exact mv1k1 h hu hx hk ha hn
  · exact mv1k2 h hu hx hk ha hn
  · exact mv1k3 h hu hx hk ha hn
  · exact mv1k4 h hu hx hk ha hn
  · exact mv1k5 h hu hx hk ha hn
  · exact mv1k6 h hu hx hk ha hn
  · exact mv1k7 h hu hx hk ha hn
end Go.Ev
