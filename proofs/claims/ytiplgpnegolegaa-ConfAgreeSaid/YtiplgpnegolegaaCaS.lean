/- ConfAgree: the look at both sides. No conditions. -/
import Derived.Test.YtiplgpnegolegaaCaI
import Derived.Test.YtiplgpnegolegaaCaXG
set_option linter.unusedVariables false
set_option linter.unusedSimpArgs false
set_option maxHeartbeats 4000000
set_option maxRecDepth 100000
namespace Go.Ev
open Go Go.Proofs Go.Spec
attribute [local irreducible] ev evCall branch need again
theorem agree_step {E : Ag} {p : Pr} {F G : Int} {u : Nat} {i : Int} {L M : Nat} {k : SV → St → Prop} (h : Both F G u p) (hn : caH E p (addK .i64 i 1) L M k) : caG E p i (L + 1) M k := by
  obtain ⟨⟨f0, g0, nx0, ex0, os0, ps0, o0, p0⟩, ⟨f1, g1, nx1, ex1, os1, ps1, o1, p1⟩, Q0, Q1, R0, R1⟩ := p
  obtain ⟨T, D, T', D', h0, h1⟩ := h
  change Half F u T D f0 os0 nx0 o0 g1 ps1 ex1 p1 Q1 R0 at h0
  change Half G u T' D' f1 os1 nx1 o1 g0 ps0 ex0 p0 Q0 R1 at h1
  rcases o0 with _ | ⟨un0, uk0, ua0⟩
  · rcases o1 with _ | ⟨un1, uk1, ua1⟩
    · obtain ⟨x01, x02, x03, x04, x05, x06⟩ := h0.lookN
      obtain ⟨y01, y02⟩ := bigC x01
      obtain ⟨y03, y04⟩ := bigC x03
      obtain ⟨x11, x12, x13, x14, x15, x16⟩ := h1.lookN
      obtain ⟨y11, y12⟩ := bigC x11
      obtain ⟨y13, y14⟩ := bigC x13
      refine Eq.mpr (t_g00 ..) (Again.mk ?_)
      simp only [List.take_length, Nat.zero_add, Nat.le_refl, decide_true, and_self, Bool.not_true, Bool.not_false, br_t, br_f, nd_t, x02, x04, x05, x12, x14, x15, y01, y02, y03, y04, y11, y12, y13, y14, x06, x16]
      exact hn
    · obtain ⟨x01, x02, x03, x04, x05, x06⟩ := h0.lookN
      obtain ⟨y01, y02⟩ := bigC x01
      obtain ⟨y03, y04⟩ := bigC x03
      obtain ⟨x11, x12, x13, x14, x15, x16⟩ := h1.lookS
      obtain ⟨y11, y12⟩ := bigC x11
      obtain ⟨y13, y14⟩ := bigC x13
      refine Eq.mpr (t_g01 ..) (Again.mk ?_)
      rcases x16 with x16 | ⟨n1, z11, z12, z13⟩
      · simp only [List.take_length, Nat.zero_add, Nat.le_refl, decide_true, and_self, Bool.not_true, Bool.not_false, br_t, br_f, nd_t, x02, x04, x05, x12, x14, x15, y01, y02, y03, y04, y11, y12, y13, y14, x06, x16]
        exact hn
      · have z14 := (bigC z12).1
        simp only [List.take_length, Nat.zero_add, Nat.le_refl, decide_true, and_self, Bool.not_true, Bool.not_false, br_t, br_f, nd_t, x02, x04, x05, x12, x14, x15, y01, y02, y03, y04, y11, y12, y13, y14, x06, n1, z11, z13, z14]
        exact hn
  · rcases o1 with _ | ⟨un1, uk1, ua1⟩
    · obtain ⟨x01, x02, x03, x04, x05, x06⟩ := h0.lookS
      obtain ⟨y01, y02⟩ := bigC x01
      obtain ⟨y03, y04⟩ := bigC x03
      obtain ⟨x11, x12, x13, x14, x15, x16⟩ := h1.lookN
      obtain ⟨y11, y12⟩ := bigC x11
      obtain ⟨y13, y14⟩ := bigC x13
      refine Eq.mpr (t_g10 ..) (Again.mk ?_)
      rcases x06 with x06 | ⟨n0, z01, z02, z03⟩
      · simp only [List.take_length, Nat.zero_add, Nat.le_refl, decide_true, and_self, Bool.not_true, Bool.not_false, br_t, br_f, nd_t, x02, x04, x05, x12, x14, x15, y01, y02, y03, y04, y11, y12, y13, y14, x06, x16]
        exact hn
      · have z04 := (bigC z02).1
        simp only [List.take_length, Nat.zero_add, Nat.le_refl, decide_true, and_self, Bool.not_true, Bool.not_false, br_t, br_f, nd_t, x02, x04, x05, x12, x14, x15, y01, y02, y03, y04, y11, y12, y13, y14, n0, z01, z03, z04, x16]
        exact hn
    · obtain ⟨x01, x02, x03, x04, x05, x06⟩ := h0.lookS
      obtain ⟨y01, y02⟩ := bigC x01
      obtain ⟨y03, y04⟩ := bigC x03
      obtain ⟨x11, x12, x13, x14, x15, x16⟩ := h1.lookS
      obtain ⟨y11, y12⟩ := bigC x11
      obtain ⟨y13, y14⟩ := bigC x13
      refine Eq.mpr (t_g11 ..) (Again.mk ?_)
      rcases x06 with x06 | ⟨n0, z01, z02, z03⟩
      · rcases x16 with x16 | ⟨n1, z11, z12, z13⟩
        · simp only [List.take_length, Nat.zero_add, Nat.le_refl, decide_true, and_self, Bool.not_true, Bool.not_false, br_t, br_f, nd_t, x02, x04, x05, x12, x14, x15, y01, y02, y03, y04, y11, y12, y13, y14, x06, x16]
          exact hn
        · have z14 := (bigC z12).1
          simp only [List.take_length, Nat.zero_add, Nat.le_refl, decide_true, and_self, Bool.not_true, Bool.not_false, br_t, br_f, nd_t, x02, x04, x05, x12, x14, x15, y01, y02, y03, y04, y11, y12, y13, y14, x06, n1, z11, z13, z14]
          exact hn
      · have z04 := (bigC z02).1
        rcases x16 with x16 | ⟨n1, z11, z12, z13⟩
        · simp only [List.take_length, Nat.zero_add, Nat.le_refl, decide_true, and_self, Bool.not_true, Bool.not_false, br_t, br_f, nd_t, x02, x04, x05, x12, x14, x15, y01, y02, y03, y04, y11, y12, y13, y14, n0, z01, z03, z04, x16]
          exact hn
        · have z14 := (bigC z12).1
          simp only [List.take_length, Nat.zero_add, Nat.le_refl, decide_true, and_self, Bool.not_true, Bool.not_false, br_t, br_f, nd_t, x02, x04, x05, x12, x14, x15, y01, y02, y03, y04, y11, y12, y13, y14, n0, z01, z03, z04, n1, z11, z13, z14]
          exact hn
end Go.Ev
