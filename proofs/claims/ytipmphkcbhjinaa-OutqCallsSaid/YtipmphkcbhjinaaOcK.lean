/- Two ways more to make a summary: of an argument whose slice is frozen first; of a function of one slice of rows that may look whether it is nil. No conditions. -/
import Derived.Test.YtipmphkcbhjinaaEvD
import Derived.Test.YtipmphkcbhjinaaOcD
set_option linter.unusedVariables false
namespace Go.Ev
open Go Go.Proofs
theorem frzS_ok {P : Program} {g : FuncId} {s : SumT} (T : TypeId) (hs : SumOk P g s) : SumOk P g (frzS P T s) := by
  refine fun args st => ⟨?_, ?_⟩
  · intro k h
    unfold frzS at h ⊢
    split at h
    · obtain ⟨c, s1, h1, h2⟩ := lin_ownOfT _ h
      obtain ⟨v, s2, h3, h4⟩ := lin_onPart (fun a s => (hs a s).1) _ h1
      exact ⟨v, s2, h3, fun k2 hk => h2 _ (h4 _ hk)⟩
    · exact h.elim
  · intro k h α w vals hR ha
    unfold frzS at h
    split at h
    · rename_i p a b c d
      match vals, ha with
      | [v1, v2], ha =>
        obtain ⟨y1, ⟨vs, y2, e2⟩, _⟩ := ha
        match vs, y2, e2 with
        | [va, vb, vc, vd], y2, e2 =>
          obtain ⟨α', c', st', g1, g2, g3, _⟩ := ownOfT_sound hR (show d.val? α = some vd from y2.2.2.2.1) h
          have hle := g2.le hR
          have ha' : RepsA α' [p, .agg [a, b, c, c']] [v1, v2] :=
            ⟨SA.rep_mono hle y1, ⟨[va, vb, vc, vd], ⟨SC.val?_mono hle y2.1, SC.val?_mono hle y2.2.1, SC.val?_mono hle y2.2.2.1, g3, trivial⟩, e2⟩, trivial⟩
          exact (onPart_sound hs g1 g2.rep ha').mono fun e w' ⟨v, st2, β, val, he, hv, hk, hto⟩ => ⟨v, st2, β, val, he, hv, hk, g2.trans hto⟩
    · exact h.elim
/-- A function of one row of its own that may look whether it is nil: of no elements it is told by itself. -/
theorem sumOk_own {P : Program} {cx : Cx} (hx : CxOk P cx) {g : FuncId} {s : SumT} (T : TypeId) (hl : ∀ args st, Lin (s args st))
    (hs : ∀ args st k, s args st k → ∃ T' m ct, args = [.one (.ref 0)] ∧ st = [some (.own true .row T' m ct)] ∧ (ct.len ≠ 0 → ∃ n, evCall cx (ev cx n) g [.one (.ref 0)] st k) ∧ (ct.len = 0 → ∀ a c, ∃ n, evCall cx (ev cx n) g [.one (.raw (.slice a 0 c))] st (tidyK P T 1 k)))
    (hb : g < big := by decide) : SumOk P g s := by
  refine fun args st => ⟨hl args st, fun k hk α w vals hR ha => ?_⟩
  obtain ⟨T', m, ct, rfl, rfl, h1, h0⟩ := hs args st k hk
  have hC : ∀ n, CallOk P (evCall cx (ev cx n)) := fun n => evCall_ok (run := ev cx n) hx (ev_sound hx n).1
  by_cases hz : ct.len = 0
  · match vals, ha with
    | [v], ha =>
      have hv : (SC.ref 0).val? α = some v := ha.1
      obtain ⟨d, hd, hg⟩ := hR.good 0 _ rfl
      have e : d.val = v := by
        simp only [SC.val?, hd] at hv
        exact Option.some.inj hv
      have e2 : ∃ a c, v = .slice a 0 c := by
        obtain ⟨_, _, h | h⟩ := hg
        · obtain ⟨_, _, a, c, e3, _⟩ := h
          exact ⟨a, c, by rw [← e, e3]⟩
        · obtain ⟨_, e3, _⟩ := h
          rw [hz] at e3
          exact ⟨_, _, by rw [← e, e3]⟩
      obtain ⟨a, c, rfl⟩ := e2
      obtain ⟨n, hn⟩ := h0 hz a c
      have ha' : RepsA α [.one (.raw (.slice a 0 c))] [.slice a 0 c] := ⟨rfl, trivial⟩
      refine (((hC n).1 g _ _ _ hb hn).2 α w _ hR ha').mono fun e w' ⟨v, st', β1, val, he, hvr, hk', hto⟩ => ?_
      unfold tidyK at hk'
      split at hk'
      · rename_i c
        obtain ⟨β2, c', st2, g1, g2, g3, _⟩ := ownOf_sound hto.rep (show c.val? β1 = some val from hvr) hk'
        obtain ⟨β3, v3, st3, q1, q2, q3⟩ := collect_sound (hto.trans g2) (show SV.rep β2 (.sa (.one c')) val from g3) g1
        exact ⟨v3, st3, β3, val, he, q2, q1, q3⟩
      · exact hk'.elim
  · obtain ⟨n, hn⟩ := h1 hz
    exact ((hC n).1 g _ _ _ hb hn).2 α w vals hR ha
end Go.Ev
