/- ConfAgree: both ways; small words for the trees. No conditions. -/
import Derived.Test.YtiplgpnegolegaaCaQ
import Derived.Test.YtiplgpnegolegaaCaB
set_option linter.unusedVariables false
set_option linter.unusedSimpArgs false
set_option maxHeartbeats 4000000
set_option maxRecDepth 100000
namespace Go.Spec
open Go Go.Ev
theorem may_len {f : Int} {xs : List Int} (h : mayB f xs = true) : xs.length ≤ 3 := by
  rcases mayB_len h with ⟨a, rfl, _⟩ | ⟨a, b, rfl, _⟩ | ⟨a, b, c, rfl, _⟩ <;> simp
theorem same_refl (f : Int) (xs : List Int) : sameB f f xs xs = true := by unfold sameB; rw [eqK_t.2 rfl, decide_eq_true rfl]; rfl
variable {F : Int} {u T D : Nat} {f nx g ex : Int} {os ps : List Int} {o : Option (Int × Int × Int)} {kp : Option (Int × Int)} {q : Qt} {r : Rt}
theorem Half.look0 (h : Half F u T D f os nx none g ps ex kp q r) : os.length ≤ 3 ∧ mayR f os = true ∧ okUs os = true ∧ g = f ∧ ps = os := by
  obtain ⟨_, h2, h3⟩ := h.no rfl
  exact ⟨may_len h.may, by rw [mayR_eq h.ok]; exact h.may, h.ok, h2, h3⟩
theorem Half.look1 {c : Int × Int × Int} (h : Half F u T D f os nx (some c) g ps ex kp q r) : os.length ≤ 3 ∧ mayR f os = true ∧ okUs os = true ∧ ps.length ≤ 3 ∧ mayR g ps = true ∧ 0 ≤ c.2.1 ∧ eqK (doE f os c.2.1 c.2.2) 0 = true ∧ (doL f os c.2.1 c.2.2).length ≤ 3 ∧ (sameB f g os ps = true ∨ sameB (doA f os c.2.1 c.2.2) g (doL f os c.2.1 c.2.2) ps = true) := by
  obtain ⟨s, e1, e2, e3, e4, e5, e6⟩ := h.so c rfl
  have m := may_do h.may e5
  have k := okUs_doL (f := f) (kd := c.2.1) h.ok e4
  refine ⟨may_len h.may, by rw [mayR_eq h.ok]; exact h.may, h.ok, ?_, ?_, e3, eqK_t.2 e5, may_len m, ?_⟩
  · rcases e6 with ⟨_, rfl, rfl⟩ | ⟨_, rfl, rfl, _⟩
    · exact may_len h.may
    · exact may_len m
  · rcases e6 with ⟨_, rfl, rfl⟩ | ⟨_, rfl, rfl, _⟩
    · rw [mayR_eq h.ok]; exact h.may
    · rw [mayR_eq k]; exact m
  · rcases e6 with ⟨_, rfl, rfl⟩ | ⟨_, rfl, rfl, _⟩
    · exact .inl (same_refl _ _)
    · exact .inr (same_refl _ _)
theorem Half.lookN (h : Half F u T D f os nx none g ps ex kp q r) : os.length ≤ 3 ∧ mayR f os = true ∧ ps.length ≤ 3 ∧ mayR g ps = true ∧ okDo os 0 = true ∧ sameB f g os ps = true := by
  obtain ⟨a1, a2, a3, rfl, rfl⟩ := h.look0
  exact ⟨a1, a2, a1, a2, okDo_iff.2 ⟨⟨by omega, by omega⟩, a3⟩, same_refl _ _⟩
theorem Half.lookS {x y z : Int} (h : Half F u T D f os nx (some (x, y, z)) g ps ex kp q r) : os.length ≤ 3 ∧ mayR f os = true ∧ ps.length ≤ 3 ∧ mayR g ps = true ∧ okDo os y = true ∧
    (sameB f g os ps = true ∨ (sameB f g os ps = false ∧ eqK (doE f os y z) 0 = true ∧ (doL f os y z).length ≤ 3 ∧ sameB (doA f os y z) g (doL f os y z) ps = true)) := by
  obtain ⟨a1, a2, a3, a4, a5, a6, a7, a8, a9⟩ := h.look1
  refine ⟨a1, a2, a4, a5, okDo_iff.2 ⟨⟨by omega, a6⟩, a3⟩, ?_⟩
  cases hs : sameB f g os ps with
  | true => exact .inl rfl
  | false => exact .inr ⟨rfl, a7, a8, a9.resolve_left (by rw [hs]; decide)⟩
/-- Both ways. -/
def Both (F G : Int) (u : Nat) (p : Pr) : Prop := ∃ T D T' D', Half F u T D p.a.f p.a.os p.a.nx p.a.o p.b.g p.b.ps p.b.ex p.b.kp p.q1 p.r0 ∧ Half G u T' D' p.b.f p.b.os p.b.nx p.b.o p.a.g p.a.ps p.a.ex p.a.kp p.q0 p.r1
end Go.Spec
namespace Go.Ev
open Go Go.Proofs Go.Spec
attribute [local irreducible] ev evCall branch need again
theorem br_t {p q : Prop} : branch true p q = p := by unfold branch; exact propext ⟨fun h => h, fun h => h⟩
theorem br_f {p q : Prop} : branch false p q = q := by unfold branch; exact propext ⟨fun h => h, fun h => h⟩
theorem nd_t {p : Prop} : need true p = p := by unfold need; exact propext ⟨fun h => h, fun h => h⟩
theorem bigC {n : Nat} (h : n ≤ 3) : n ≤ 1000000 ∧ n ≤ 35184372088832 := by omega
end Go.Ev
