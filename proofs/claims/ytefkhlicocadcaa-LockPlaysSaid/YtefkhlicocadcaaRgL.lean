/- Ranging over a map that nobody writes meanwhile: the loop. No conditions. -/
import Derived.Test.YtefkhlicocadcaaRgB
set_option linter.unusedVariables false
set_option linter.unusedSimpArgs false
namespace Go.Ev
open Go
open Go.ChangeMaps (setBlock)
variable {P : Program}

theorem eval_put_same {a : Act} {t : Nat} {v : Value} (h : t < a.tmps.size) : (a.put (some t) v).eval (.tmp t) = v := by
  simp [Act.put, Act.eval, h]
theorem eval_put_other {a : Act} {t t' : Nat} {v : Value} (h : t ≠ t') : (a.put (some t') v).eval (.tmp t) = a.eval (.tmp t) := by
  simp [Act.put, Act.eval, Array.getD_eq_getD_getElem?, Array.getElem?_setIfInBounds, Ne.symm h]
theorem put_size {a : Act} {d : Option Nat} {v : Value} : (a.put d v).tmps.size = a.tmps.size := by cases d <;> simp [Act.put]

/-- The iterator's step. -/
theorem RgF.step {w0 w w1 : World} {ob ob' : Obj} {it : Nat} {ds : List Deferred} (hF : RgF w0 w ob it ds) (h1 : w1 = w ∨ w1 = w.drew) (hob : ob ≠ .deferred (some [])) : RgF w0 (setBlock w1 it ob') ob' it ds := by
  have hh : w1.heap = w.heap := by rcases h1 with rfl | rfl <;> rfl
  have hlt : it < w.heap.size := (Array.getElem?_eq_some_iff.1 hF.ob).1
  have hk : ∀ b, b ≠ it → (setBlock w1 it ob').heap[b]? = w.heap[b]? := fun b hb => by
    simp only [setBlock, hh, Array.getElem?_setIfInBounds]
    rw [if_neg (fun e => hb e.symm)]
  refine ⟨fun b hb => (hk b (by have := hF.new; omega)).trans (hF.kept b hb), ?_, ?_, ?_, ?_, ?_, hF.new, ?_⟩
  · simp only [setBlock, hh, Array.size_setIfInBounds]; exact hF.size
  · rcases h1 with rfl | rfl <;> exact hF.tape
  · rcases h1 with rfl | rfl <;> exact hF.os
  · rcases h1 with rfl | rfl <;> exact hF.output
  · simp [setBlock, hh, Array.getElem?_setIfInBounds, hlt]
  · obtain ⟨ms, m1, m2, m3⟩ := hF.marks
    refine ⟨ms, m1, m2, fun b hb => ⟨(m3 b hb).1, ?_⟩⟩
    by_cases e : b = it
    · subst e
      have := (m3 _ hb).2
      rw [hF.ob] at this
      exact absurd (Option.some.inj this) hob
    · rw [hk b e]; exact (m3 b hb).2

/-- The loop of a range over a map. -/
theorem range_loop {b0 id4 d1 d2 : Nat} {ops : Array Oper} {B : Code} {o1 o2 : Oper} {itT : Nat} {Q : Exit → Act → World → Prop} {a : Act} {w : World} {bm cl : Nat} {es : List MapEntry}
    (hs : ops.size = 2) (h1 : ops[0]? = some o1) (h2 : ops[1]? = some o2) (g1 : o1.guard = none) (g2 : o2.guard = none) (p1 : o1.op = .next (.tmp itT) false) (p2 : o2.op = .extract (.tmp d1) 0) (e1 : o1.dst = some d1) (e2 : o2.dst = some d2) (hd : d1 ≠ d2)
    (hyoung : ∀ x ∈ es, x.born < cl) (Inv : Array Nat → Act → World → Prop)
    (hI : ∀ seen a w, Inv seen a w → ∃ it, a.eval (.tmp itT) = .pointer (some ⟨it, 0, none⟩) ∧ w.heap[it]? = some (.mapIter (some bm) cl seen cl) ∧ w.heap[bm]? = some (.map es.toArray cl) ∧ d1 < a.tmps.size ∧ d2 < a.tmps.size)
    (h0 : ∃ seen, Inv seen a w)
    (over : ∀ seen a w, Inv seen a w → (∀ e ∈ es, seen.contains e.born = true) → Q .normal ((a.put (some d1) (.tuple #[.bool false])).put (some d2) (.bool false)) w)
    (step : ∀ seen a w it e w1, Inv seen a w → a.eval (.tmp itT) = .pointer (some ⟨it, 0, none⟩) → e ∈ es → seen.contains e.born = false → (w1 = w ∨ w1 = w.drew) →
      B.wpIn (Wide none) 0 P (Exit.then (fun a w => Inv (seen.push e.born) a w) (Exit.inBlock b0 Q)) ((a.put (some d1) (.tuple #[.bool true, e.key, e.val])).put (some d2) (.bool true)) (setBlock w1 it (.mapIter (some bm) cl (seen.push e.born) cl))) :
    (Code.block b0 (.loop (.seq (.region id4 ops false) (.seq (.cond (.tmp d2) .skip (.exit b0)) B)))).wpIn (Wide none) 0 P Q a w := by
  refine wpIn_block ?_
  refine wpIn_loop (fun a w => ∃ seen, Inv seen a w) (fun a w => match a.eval (.tmp itT) with
    | .pointer (some p) => (match w.heap[p.block]? with
      | some (.mapIter _ _ seen _) => (es.filter fun e => !seen.contains e.born).length
      | _ => 0)
    | _ => 0) h0 fun a w ⟨seen, hinv⟩ => ?_
  obtain ⟨it, q1, q2, q3, q4, q5⟩ := hI seen a w hinv
  simp only [q1, q2]
  refine wpIn_seq (wpIn_region ?_)
  have hr : List.range ops.size = [0, 1] := by rw [hs]; rfl
  rw [hr]
  have q5' : d2 < (a.put (some d1) (.tuple #[.bool false])).tmps.size := by rw [put_size]; exact q5
  rcases run_next_at (P := P) w o1.type it bm cl cl seen es.toArray cl q2 q3 (by simpa using hyoung) (Nat.le_refl _) with ⟨hz, hrun⟩ | ⟨e, he, w1, hw1, hrun⟩
  · refine op_value h1 g1 (semAt_next p1 (by rw [q1]; exact hrun)) (op_value h2 g2 (semAt_extract (v := .bool false) p2 (by rw [e1]; exact eval_put_same q4) rfl) ?_)
    rw [e1, e2]
    refine wpIn_seq (wpIn_cond_false (by exact eval_put_same (by rw [put_size]; exact q5)) (wpIn_exit ?_))
    show Exit.inBlock b0 Q (.exit b0) _ _
    simp only [Exit.inBlock, if_true]
    refine over seen a w hinv fun e he => ?_
    cases hc : seen.contains e.born with
    | true => rfl
    | false =>
      exfalso
      have : e ∈ (leftOf es.toArray seen).toList := by
        simp only [leftOf]
        rw [Array.toList_filter, List.mem_filter]
        exact ⟨by simpa using he, by rw [hc]; rfl⟩
      have hl : (leftOf es.toArray seen).toList.length = 0 := by simpa using hz
      rw [List.length_eq_zero_iff] at hl
      rw [hl] at this; cases this
  · have hmem : e ∈ es ∧ seen.contains e.born = false := by
      simp only [leftOf] at he
      rw [Array.toList_filter, List.mem_filter] at he
      exact ⟨by simpa using he.1, by simpa using he.2⟩
    refine op_value h1 g1 (semAt_next p1 (by rw [q1]; exact hrun)) (op_value h2 g2 (semAt_extract (v := .bool true) p2 (by rw [e1]; exact eval_put_same q4) rfl) ?_)
    rw [e1, e2]
    refine wpIn_seq (wpIn_cond_true (by exact eval_put_same (by rw [put_size]; exact q5)) (wpIn_skip ?_))
    refine wpIn_mono (step seen a w it e w1 hinv q1 hmem.1 hmem.2 hw1) fun ex a' w' hq => ?_
    cases ex with
    | normal =>
      refine ⟨⟨_, hq⟩, ?_⟩
      obtain ⟨it', r1, r2, _, _, _⟩ := hI _ _ _ hq
      simp only [r1, r2]
      have hsub : ∀ l : List MapEntry, (l.filter fun x => !(seen.push e.born).contains x.born).length ≤ (l.filter fun x => !seen.contains x.born).length := by
        intro l
        induction l with
        | nil => simp
        | cons x r ih =>
          simp only [List.filter_cons]
          by_cases hx : seen.contains x.born = true
          · have : (seen.push e.born).contains x.born = true := by simp only [Array.contains_push, Bool.or_eq_true]; first | exact .inl hx | exact .inr hx
            rw [if_neg (by rw [this]; simp), if_neg (by rw [hx]; simp)]; exact ih
          · rw [if_pos (show (!seen.contains x.born) = true by simpa using hx)]
            split
            · simp only [List.length_cons]; omega
            · simp only [List.length_cons]; omega
      have hstr : ∀ l : List MapEntry, e ∈ l → (l.filter fun x => !(seen.push e.born).contains x.born).length < (l.filter fun x => !seen.contains x.born).length := by
        intro l hl
        induction l with
        | nil => cases hl
        | cons x r ih =>
          simp only [List.filter_cons]
          by_cases hxe : x = e
          · subst hxe
            rw [if_neg (by simp), if_pos (show (!seen.contains x.born) = true by rw [hmem.2]; rfl)]
            have := hsub r
            simp only [List.length_cons]; omega
          · have hr := ih ((List.mem_cons.1 hl).resolve_left fun h => hxe h.symm)
            by_cases hx : seen.contains x.born = true
            · have : (seen.push e.born).contains x.born = true := by simp only [Array.contains_push, Bool.or_eq_true]; first | exact .inl hx | exact .inr hx
              rw [if_neg (by rw [this]; simp), if_neg (by rw [hx]; simp)]; exact hr
            · rw [if_pos (show (!seen.contains x.born) = true by simpa using hx)]
              split
              · simp only [List.length_cons]; omega
              · simp only [List.length_cons]; omega
      exact hstr es hmem.1
    | _ => exact hq
end Go.Ev
