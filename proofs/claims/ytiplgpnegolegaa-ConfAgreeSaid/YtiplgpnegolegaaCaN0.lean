/- ConfAgree: turn 0 of the end: what is out is asked again, done, and answered. No conditions. -/
import Derived.Test.YtiplgpnegolegaaCaI
import Derived.Test.YtiplgpnegolegaaCaXE
import Derived.Test.YtiplgpnegolegaaCaME010
import Derived.Test.YtiplgpnegolegaaCaME011
import Derived.Test.YtiplgpnegolegaaCaME110
import Derived.Test.YtiplgpnegolegaaCaME111
set_option linter.unusedVariables false
set_option linter.unusedSimpArgs false
set_option maxHeartbeats 4000000
set_option maxRecDepth 100000
namespace Go.Ev
open Go Go.Proofs Go.Spec
attribute [local irreducible] ev evCall branch need again caD caG caH caZ caE
theorem eqK_self (x : Int) : eqK x x = true := eqK_t.2 rfl
theorem sub_self (x : Int) : subK .u32 x x = 0 := by rw [subK_eq, IntKind.wrap_u32]; omega
theorem rnone {P : Int → Int → Prop} : RAll P ⟨0, [], []⟩ := ⟨⟨rfl, rfl⟩, fun j hj => absurd hj (Nat.not_lt_zero _)⟩
theorem end0 {E : Ag} {p : Pr} {F G : Int} {u M : Nat} {k : SV → St → Prop} (h : Both F G u p) (hu : u ≤ 900) (hn : ∀ p', Both F G (u + 2) p' → p'.a.o = none → caE E p' 1 (M + 69) M k) : caE E p 0 (M + 70) M k := by
  obtain ⟨⟨f0, g0, nx0, ex0, os0, ps0, o0, p0⟩, ⟨f1, g1, nx1, ex1, os1, ps1, o1, p1⟩, Q0, Q1, R0, R1⟩ := p
  obtain ⟨T, D, T', D', h0, h1⟩ := h
  change Half F u T D f0 os0 nx0 o0 g1 ps1 ex1 p1 Q1 R0 at h0
  change Half G u T' D' f1 os1 nx1 o1 g0 ps0 ex0 p0 Q0 R1 at h1
  have hu2 : u ≤ 1000 := by omega
  rcases o0 with _ | ⟨un, uk, ua⟩
  · obtain ⟨x1, x2, x3, x4, x5, x6⟩ := h0.lookN
    obtain ⟨y1, y2⟩ := bigC x1
    obtain ⟨y3, y4⟩ := bigC x3
    rcases p1 with _ | ⟨kn, ka⟩
    · refine Eq.mpr (t_e000 ..) (Again.mk ?_)
      simp only [List.take_length, Nat.zero_add, Nat.le_refl, Int.le_refl, decide_true, and_self, Bool.not_true, Bool.not_false, br_t, br_f, nd_t, eqK_self, sub_self, same_refl, y1, y2, y3, y4, x6]
      exact hn _ ⟨_, _, _, _, h0.clear.later.later, h1.later.later⟩ rfl
    · refine Eq.mpr (t_e001 ..) (Again.mk ?_)
      simp only [List.take_length, Nat.zero_add, Nat.le_refl, Int.le_refl, decide_true, and_self, Bool.not_true, Bool.not_false, br_t, br_f, nd_t, eqK_self, sub_self, same_refl, y1, y2, y3, y4, x6]
      exact hn _ ⟨_, _, _, _, h0.clear.later.later, h1.later.later⟩ rfl
  · have hc := h0.clear.again
    have hq := hc.qs.2 0 (Nat.succ_pos _)
    change ∃ t, t < T ∧ un = nm F t ∧ 0 ≤ uk ∧ ∀ c, some (un, uk, ua) = some c → t + 1 = T → uk = c.2.1 ∧ ua = c.2.2 at hq
    obtain ⟨x1, x2, x3, x4, x5, x6⟩ := h0.lookS
    obtain ⟨y1, y2⟩ := bigC x1
    by_cases e : un = ex1
    · obtain ⟨d1, d2, d3, d4, d5, d6⟩ := h0.due hu2 hq e
      have hA := h0.clear.takeNew hu2 hq e (q' := ⟨0, [], [], []⟩) (Nat.zero_le _) h0.clear.qs
      have hr := hA.rs.2 0 (Nat.succ_pos _)
      have hB := hA.answered (by omega) (x := un) (y := 1) hr rfl (r' := ⟨0, [], []⟩) (Nat.zero_le _) rnone
      have d7 : eqK (doE f0 os0 uk ua) 0 = true := eqK_t.2 (by rw [← d5, ← d6]; exact d2)
      obtain ⟨z1, z2⟩ := bigC (may_len hB.may)
      have e' := eqK_t.2 e
      rw [d5, d6] at hB
      rcases p1 with _ | ⟨kn, ka⟩
      · refine Eq.mpr (t_e010 ..) (Again.mk ?_)
        simp only [d5, d6]
        simp only [List.take_length, Nat.zero_add, Nat.le_refl, Int.le_refl, decide_true, and_self, Bool.not_true, Bool.not_false, br_t, br_f, nd_t, eqK_self, sub_self, same_refl, e', d1, d7, y1, y2, z1, z2]
        exact hn _ ⟨_, _, _, _, hB, h1.later.later⟩ rfl
      · refine Eq.mpr (t_e011 ..) (Again.mk ?_)
        simp only [d5, d6]
        simp only [List.take_length, Nat.zero_add, Nat.le_refl, Int.le_refl, decide_true, and_self, Bool.not_true, Bool.not_false, br_t, br_f, nd_t, eqK_self, sub_self, same_refl, e', d1, d7, y1, y2, z1, z2]
        exact hn _ ⟨_, _, _, _, hB, h1.later.later⟩ rfl
    · obtain ⟨w1, e1, e2, e3, e4, e5, e6⟩ := h0.so _ rfl
      rcases e6 with ⟨e7, _⟩ | ⟨e7, e8, e9, e10⟩
      · exact absurd (e2.trans (by rw [h0.hex, e7])) e
      rcases p1 with _ | ⟨kn, ka⟩
      · exact absurd rfl e10
      obtain ⟨v, k1, k2, k3⟩ := h0.hkp _ rfl
      have hv : v = w1 := by omega
      have hkn : kn = un := by rw [show kn = nm F v from k2, hv]; exact e2.symm
      have hka : ka = 1 := k3 (by simp) e7
      have hpx : subK .u32 ex1 1 = un := by rw [h0.hex, k1, nm_pred, hv]; exact e2.symm
      have hA := h0.clear.takeOld (q' := ⟨0, [], [], []⟩) (Nat.zero_le _) h0.clear.qs
      have hr := hA.rs.2 0 (Nat.succ_pos _)
      have hB := hA.answered (by omega) (x := kn) (y := ka) hr hkn (r' := ⟨0, [], []⟩) (Nat.zero_le _) rnone
      obtain ⟨z1, z2⟩ := bigC (may_len hB.may)
      have e' := eqK_f.2 e
      rw [e8, e9, hkn, hka] at hB
      have e8' : g1 = doA f0 os0 uk ua := e8
      have e9' : ps1 = doL f0 os0 uk ua := e9
      have e3' : 0 ≤ uk := e3
      refine Eq.mpr (t_e011 ..) (Again.mk ?_)
      simp only [e8', e9', hkn, hka]
      simp only [List.take_length, Nat.zero_add, Nat.le_refl, Int.le_refl, decide_true, and_self, Bool.not_true, Bool.not_false, br_t, br_f, nd_t, eqK_self, sub_self, same_refl, e', hpx, e3', y1, y2, z1, z2]
      exact hn _ ⟨_, _, _, _, hB, h1.later.later⟩ rfl
end Go.Ev
set_option linter.unusedVariables false
set_option linter.unusedSimpArgs false
set_option maxHeartbeats 4000000
set_option maxRecDepth 100000
namespace Go.Ev
open Go Go.Proofs Go.Spec
attribute [local irreducible] ev evCall branch need again caD caG caH caZ caE
theorem end1 {E : Ag} {p : Pr} {F G : Int} {u M : Nat} {k : SV → St → Prop} (h : Both F G u p) (hu : u ≤ 900) (ho : p.a.o = none) (hn : ∀ p', Both F G (u + 2) p' → p'.a.o = none ∧ p'.b.o = none → caE E p' 2 (M + 68) M k) : caE E p 1 (M + 69) M k := by
  obtain ⟨⟨f0, g0, nx0, ex0, os0, ps0, o0, p0⟩, ⟨f1, g1, nx1, ex1, os1, ps1, o1, p1⟩, Q0, Q1, R0, R1⟩ := p
  obtain ⟨T, D, T', D', h0, h1⟩ := h
  change Half F u T D f0 os0 nx0 o0 g1 ps1 ex1 p1 Q1 R0 at h0
  change Half G u T' D' f1 os1 nx1 o1 g0 ps0 ex0 p0 Q0 R1 at h1
  have hu2 : u ≤ 1000 := by omega
  change o0 = none at ho
  rcases o1 with _ | ⟨un, uk, ua⟩
  · obtain ⟨x1, x2, x3, x4, x5, x6⟩ := h1.lookN
    obtain ⟨y1, y2⟩ := bigC x1
    obtain ⟨y3, y4⟩ := bigC x3
    rcases p0 with _ | ⟨kn, ka⟩
    · refine Eq.mpr (t_e100 ..) (Again.mk ?_)
      simp only [List.take_length, Nat.zero_add, Nat.le_refl, Int.le_refl, decide_true, and_self, Bool.not_true, Bool.not_false, br_t, br_f, nd_t, eqK_self, sub_self, same_refl, y1, y2, y3, y4, x6]
      exact hn _ ⟨_, _, _, _, h0.later.later, h1.clear.later.later⟩ ⟨ho, rfl⟩
    · refine Eq.mpr (t_e101 ..) (Again.mk ?_)
      simp only [List.take_length, Nat.zero_add, Nat.le_refl, Int.le_refl, decide_true, and_self, Bool.not_true, Bool.not_false, br_t, br_f, nd_t, eqK_self, sub_self, same_refl, y1, y2, y3, y4, x6]
      exact hn _ ⟨_, _, _, _, h0.later.later, h1.clear.later.later⟩ ⟨ho, rfl⟩
  · have hc := h1.clear.again
    have hq := hc.qs.2 0 (Nat.succ_pos _)
    change ∃ t, t < T' ∧ un = nm G t ∧ 0 ≤ uk ∧ ∀ c, some (un, uk, ua) = some c → t + 1 = T' → uk = c.2.1 ∧ ua = c.2.2 at hq
    obtain ⟨x1, x2, x3, x4, x5, x6⟩ := h1.lookS
    obtain ⟨y1, y2⟩ := bigC x1
    by_cases e : un = ex0
    · obtain ⟨d1, d2, d3, d4, d5, d6⟩ := h1.due hu2 hq e
      have hA := h1.clear.takeNew hu2 hq e (q' := ⟨0, [], [], []⟩) (Nat.zero_le _) h1.clear.qs
      have hr := hA.rs.2 0 (Nat.succ_pos _)
      have hB := hA.answered (by omega) (x := un) (y := 1) hr rfl (r' := ⟨0, [], []⟩) (Nat.zero_le _) rnone
      have d7 : eqK (doE f1 os1 uk ua) 0 = true := eqK_t.2 (by rw [← d5, ← d6]; exact d2)
      obtain ⟨z1, z2⟩ := bigC (may_len hB.may)
      have e' := eqK_t.2 e
      rw [d5, d6] at hB
      rcases p0 with _ | ⟨kn, ka⟩
      · refine Eq.mpr (t_e110 ..) (Again.mk ?_)
        simp only [d5, d6]
        simp only [List.take_length, Nat.zero_add, Nat.le_refl, Int.le_refl, decide_true, and_self, Bool.not_true, Bool.not_false, br_t, br_f, nd_t, eqK_self, sub_self, same_refl, e', d1, d7, y1, y2, z1, z2]
        exact hn _ ⟨_, _, _, _, h0.later.later, hB⟩ ⟨ho, rfl⟩
      · refine Eq.mpr (t_e111 ..) (Again.mk ?_)
        simp only [d5, d6]
        simp only [List.take_length, Nat.zero_add, Nat.le_refl, Int.le_refl, decide_true, and_self, Bool.not_true, Bool.not_false, br_t, br_f, nd_t, eqK_self, sub_self, same_refl, e', d1, d7, y1, y2, z1, z2]
        exact hn _ ⟨_, _, _, _, h0.later.later, hB⟩ ⟨ho, rfl⟩
    · obtain ⟨w1, e1, e2, e3, e4, e5, e6⟩ := h1.so _ rfl
      rcases e6 with ⟨e7, _⟩ | ⟨e7, e8, e9, e10⟩
      · exact absurd (e2.trans (by rw [h1.hex, e7])) e
      rcases p0 with _ | ⟨kn, ka⟩
      · exact absurd rfl e10
      obtain ⟨v, k1, k2, k3⟩ := h1.hkp _ rfl
      have hv : v = w1 := by omega
      have hkn : kn = un := by rw [show kn = nm G v from k2, hv]; exact e2.symm
      have hka : ka = 1 := k3 (by simp) e7
      have hpx : subK .u32 ex0 1 = un := by rw [h1.hex, k1, nm_pred, hv]; exact e2.symm
      have hA := h1.clear.takeOld (q' := ⟨0, [], [], []⟩) (Nat.zero_le _) h1.clear.qs
      have hr := hA.rs.2 0 (Nat.succ_pos _)
      have hB := hA.answered (by omega) (x := kn) (y := ka) hr hkn (r' := ⟨0, [], []⟩) (Nat.zero_le _) rnone
      obtain ⟨z1, z2⟩ := bigC (may_len hB.may)
      have e' := eqK_f.2 e
      rw [e8, e9, hkn, hka] at hB
      have e8' : g0 = doA f1 os1 uk ua := e8
      have e9' : ps0 = doL f1 os1 uk ua := e9
      have e3' : 0 ≤ uk := e3
      refine Eq.mpr (t_e111 ..) (Again.mk ?_)
      simp only [e8', e9', hkn, hka]
      simp only [List.take_length, Nat.zero_add, Nat.le_refl, Int.le_refl, decide_true, and_self, Bool.not_true, Bool.not_false, br_t, br_f, nd_t, eqK_self, sub_self, same_refl, e', hpx, e3', y1, y2, z1, z2]
      exact hn _ ⟨_, _, _, _, h0.later.later, hB⟩ ⟨ho, rfl⟩
end Go.Ev
