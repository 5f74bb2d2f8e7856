/- A call told to both: what is kept. Plain facts. No conditions. -/
import Derived.Test.YtcdakjhcnamncaaRkS
import Derived.Test.YtcdakjhcnamncaaRkE
set_option linter.unusedVariables false
set_option linter.unusedSimpArgs false
set_option maxRecDepth 100000
namespace Go.Ev
open Go Go.Proofs Go.Spec
attribute [local irreducible] ev evCall branch need again
theorem relB_of {b : Int} {p : Pa} {r : Ra} (h : relB b p r = true) : r.f = p.f ∧ r.t = p.t ∧ r.tr = p.tr ∧ r.m = p.m ∧ r.a = Bool.not p.d ∧ p.d = gtB p.m p.tr ∧ 0 ≤ p.m ∧ p.m ≤ b ∧ 0 ≤ p.tr := of_decide_eq_true h
theorem relS_cons {b : Int} {p : Pa} {r : Ra} {a : List Pa} {c : List Ra} (h : relS b (p :: a) (r :: c) = true) : relB b p r = true ∧ relS b a c = true := Bool.and_eq_true_iff.1 h
theorem rel_len {b : Int} : ∀ {ps : List Pa} {rs : List Ra}, relS b ps rs = true → lenR rs = lenP ps
 | [], [], _ => rfl
 | p :: a, r :: c, h => by show lenR c + 1 = lenP a + 1; rw [rel_len (relS_cons h).2]
 | [], _ :: _, h => by cases h
 | _ :: _, [], h => by cases h
theorem rel_mono {b b' : Int} (hb : b ≤ b') : ∀ {ps : List Pa} {rs : List Ra}, relS b ps rs = true → relS b' ps rs = true
 | [], [], _ => rfl
 | p :: a, r :: c, h => by
   obtain ⟨h1, h2⟩ := relS_cons h
   obtain ⟨e1, e2, e3, e4, e5, e6, e7, e8, e9⟩ := relB_of h1
   exact Bool.and_eq_true_iff.2 ⟨decide_eq_true ⟨e1, e2, e3, e4, e5, e6, e7, by omega, e9⟩, rel_mono hb h2⟩
 | [], _ :: _, h => by cases h
 | _ :: _, [], h => by cases h
theorem rel_downs {b : Int} : ∀ {ps : List Pa} {rs : List Ra}, relS b ps rs = true → downR rs = downs ps
 | [], [], _ => rfl
 | p :: a, r :: c, h => by
   obtain ⟨h1, h2⟩ := relS_cons h
   have e := (relB_of h1).2.2.2.2.1
   show Bool.not r.a :: downR c = p.d :: downs a
   rw [e, Bool.not_not, rel_downs h2]
 | [], _ :: _, h => by cases h
 | _ :: _, [], h => by cases h
/-- One miss more: both say the same. -/
theorem miss_one {b : Int} {p : Pa} {r : Ra} (h : relB b p r = true) (hb : b ≤ 1000000) : (Bool.not (p.d == gtB (addK .i64 p.m 1) p.tr)) = (Bool.not (r.a == offB (gtB (addK .i64 r.m 1) r.tr) r.a)) ∧ offB (gtB (addK .i64 r.m 1) r.tr) r.a = Bool.not (gtB (addK .i64 p.m 1) p.tr) := by
 obtain ⟨e1, e2, e3, e4, e5, e6, e7, e8, e9⟩ := relB_of h
 rw [e3, e4, e5]
 rw [add64 (by omega)]
 unfold gtB at e6 ⊢
 by_cases h1 : p.m > p.tr
 · rw [decide_eq_true h1] at e6
   rw [decide_eq_true (show p.m + 1 > p.tr by omega), e6]
   exact ⟨rfl, rfl⟩
 · rw [decide_eq_false h1] at e6
   rw [e6]
   by_cases h2 : p.m + 1 > p.tr
   · rw [decide_eq_true h2]; exact ⟨rfl, rfl⟩
   · rw [decide_eq_false h2]; exact ⟨rfl, rfl⟩
theorem miss_same {b : Int} (hb : b ≤ 1000000) (I : Int) : ∀ {ps : List Pa} {rs : List Ra} (j : Nat), relS b ps rs = true → missT I ps j = missRT I rs j
 | [], [], j, _ => rfl
 | p :: a, r :: c, j, h => by
   obtain ⟨h1, h2⟩ := relS_cons h
   unfold missT missRT
   rw [(miss_one h1 hb).1, miss_same hb I (j + 1) h2]
 | [], _ :: _, _, h => by cases h
 | _ :: _, [], _, h => by cases h
theorem hear_same {b : Int} (I : Int) : ∀ {ps : List Pa} {rs : List Ra} (j : Nat), relS b ps rs = true → hearT I ps j = hearRT I rs j
 | [], [], j, _ => rfl
 | p :: a, r :: c, j, h => by
   obtain ⟨h1, h2⟩ := relS_cons h
   have e := (relB_of h1).2.2.2.2.1
   unfold hearT hearRT
   rw [e, hear_same I (j + 1) h2]
   cases p.d <;> rfl
 | [], _ :: _, _, h => by cases h
 | _ :: _, [], _, h => by cases h
theorem tellP_0 (I : Int) : ∀ (ps : List Pa) (j : Nat), tellP 0 I ps j = missP I ps j
 | [], _ => rfl
 | p :: r, j => by unfold tellP missP tellM tellD; rw [if_pos rfl, if_pos rfl, tellP_0 I r]
theorem tellP_1 (I : Int) : ∀ (ps : List Pa) (j : Nat), tellP 1 I ps j = hearP I ps j
 | [], _ => rfl
 | p :: r, j => by unfold tellP hearP tellM tellD; rw [if_neg (show ¬ (1 : Int) = 0 by decide), if_pos rfl, if_neg (show ¬ (1 : Int) = 0 by decide), if_pos rfl, tellP_1 I r]
theorem tellP_o {kd : Int} (h0 : kd ≠ 0) (h1 : kd ≠ 1) (I : Int) : ∀ (ps : List Pa) (j : Nat), tellP kd I ps j = ps
 | [], _ => rfl
 | p :: r, j => by unfold tellP tellM tellD; rw [if_neg h0, if_neg h0, if_neg h1, if_neg h1, tellP_o h0 h1 I r]
theorem tellR_0 (I : Int) : ∀ (ps : List Ra) (j : Nat), tellR 0 I ps j = missR I ps j
 | [], _ => rfl
 | p :: r, j => by unfold tellR missR tellM tellA; rw [if_pos rfl, if_pos rfl, tellR_0 I r]
theorem tellR_1 (I : Int) : ∀ (ps : List Ra) (j : Nat), tellR 1 I ps j = hearR I ps j
 | [], _ => rfl
 | p :: r, j => by unfold tellR hearR tellM tellA; rw [if_neg (show ¬ (1 : Int) = 0 by decide), if_pos rfl, if_neg (show ¬ (1 : Int) = 0 by decide), if_pos rfl, tellR_1 I r]
theorem tellR_o {kd : Int} (h0 : kd ≠ 0) (h1 : kd ≠ 1) (I : Int) : ∀ (ps : List Ra) (j : Nat), tellR kd I ps j = ps
 | [], _ => rfl
 | p :: r, j => by unfold tellR tellM tellA; rw [if_neg h0, if_neg h0, if_neg h1, if_neg h1, tellR_o h0 h1 I r]
theorem tell_one {b : Int} {p : Pa} {r : Ra} (h : relB b p r = true) (hb : b < 1000000) (kd I : Int) (j : Nat) : relB (b + 1) (paW p (tellM kd I j p.m) (tellD kd I j p.m p.tr p.d)) (raW r (tellM kd I j r.m) (tellA kd I j r.m r.tr r.a)) = true := by
 obtain ⟨m1, m2⟩ := miss_one h (by omega)
 obtain ⟨e1, e2, e3, e4, e5, e6, e7, e8, e9⟩ := relB_of h
 refine decide_eq_true ?_
 show r.f = p.f ∧ r.t = p.t ∧ r.tr = p.tr ∧ tellM kd I j r.m = tellM kd I j p.m ∧ tellA kd I j r.m r.tr r.a = Bool.not (tellD kd I j p.m p.tr p.d) ∧ tellD kd I j p.m p.tr p.d = gtB (tellM kd I j p.m) p.tr ∧ 0 ≤ tellM kd I j p.m ∧ tellM kd I j p.m ≤ b + 1 ∧ 0 ≤ p.tr
 refine ⟨e1, e2, e3, by rw [e4], ?_⟩
 unfold tellM tellA tellD selI selB
 by_cases h0 : kd = 0
 · rw [if_pos h0, if_pos h0, if_pos h0]
   by_cases hI : I = (j : Int)
   · rw [if_pos hI, if_pos hI, if_pos hI, m2]
     have ha : addK .i64 p.m 1 = p.m + 1 := add64 (by omega)
     exact ⟨rfl, rfl, by omega, by omega, e9⟩
   · rw [if_neg hI, if_neg hI, if_neg hI]
     exact ⟨e5, e6, by omega, by omega, e9⟩
 · rw [if_neg h0, if_neg h0, if_neg h0]
   by_cases h1 : kd = 1
   · rw [if_pos h1, if_pos h1, if_pos h1]
     by_cases hI : I = (j : Int)
     · rw [if_pos hI, if_pos hI, if_pos hI]
       refine ⟨rfl, ?_, by omega, by omega, e9⟩
       unfold gtB; rw [decide_eq_false (show ¬ (0 : Int) > p.tr by omega)]
     · rw [if_neg hI, if_neg hI, if_neg hI]
       exact ⟨e5, e6, by omega, by omega, e9⟩
   · rw [if_neg h1, if_neg h1, if_neg h1]
     exact ⟨e5, e6, by omega, by omega, e9⟩
theorem rel_tell {b : Int} (hb : b < 1000000) (kd I : Int) : ∀ {ps : List Pa} {rs : List Ra} (j : Nat), relS b ps rs = true → relS (b + 1) (tellP kd I ps j) (tellR kd I rs j) = true
 | [], [], j, _ => rfl
 | p :: a, r :: c, j, h => by
   obtain ⟨h1, h2⟩ := relS_cons h
   exact Bool.and_eq_true_iff.2 ⟨tell_one h1 hb kd I j, rel_tell hb kd I (j + 1) h2⟩
 | [], _ :: _, _, h => by cases h
 | _ :: _, [], _, h => by cases h
theorem rs1 {rs : List Ra} (h : lenR rs = 1) : ∃ r0, rs = [r0] := by
 match rs, h with
 | [], h => exact absurd h (by decide)
 | [r0], _ => exact ⟨r0, rfl⟩
 | _ :: _ :: r, h => exact absurd h (by show lenR r + 2 ≠ 1; omega)
theorem rs2 {rs : List Ra} (h : lenR rs = 2) : ∃ r0 r1, rs = [r0, r1] := by
 match rs, h with
 | [], h => exact absurd h (by decide)
 | [_], h => exact absurd h (by show 1 ≠ 2; decide)
 | [r0, r1], _ => exact ⟨r0, r1, rfl⟩
 | _ :: _ :: _ :: r, h => exact absurd h (by show lenR r + 3 ≠ 2; omega)
theorem rs3 {rs : List Ra} (h : lenR rs = 3) : ∃ r0 r1 r2, rs = [r0, r1, r2] := by
 match rs, h with
 | [], h => exact absurd h (by decide)
 | [_], h => exact absurd h (by show 1 ≠ 3; decide)
 | [_, _], h => exact absurd h (by show 2 ≠ 3; decide)
 | [r0, r1, r2], _ => exact ⟨r0, r1, r2, rfl⟩
 | _ :: _ :: _ :: _ :: r, h => exact absurd h (by show lenR r + 4 ≠ 3; omega)
theorem rs4 {rs : List Ra} (h : lenR rs = 4) : ∃ r0 r1 r2 r3, rs = [r0, r1, r2, r3] := by
 match rs, h with
 | [], h => exact absurd h (by decide)
 | [_], h => exact absurd h (by show 1 ≠ 4; decide)
 | [_, _], h => exact absurd h (by show 2 ≠ 4; decide)
 | [_, _, _], h => exact absurd h (by show 3 ≠ 4; decide)
 | [r0, r1, r2, r3], _ => exact ⟨r0, r1, r2, r3, rfl⟩
 | _ :: _ :: _ :: _ :: _ :: r, h => exact absurd h (by show lenR r + 5 ≠ 4; omega)
theorem rs6 {rs : List Ra} (h : lenR rs = 6) : ∃ r0 r1 r2 r3 r4 r5, rs = [r0, r1, r2, r3, r4, r5] := by
 match rs, h with
 | [], h => exact absurd h (by decide)
 | [_], h => exact absurd h (by show 1 ≠ 6; decide)
 | [_, _], h => exact absurd h (by show 2 ≠ 6; decide)
 | [_, _, _], h => exact absurd h (by show 3 ≠ 6; decide)
 | [_, _, _, _], h => exact absurd h (by show 4 ≠ 6; decide)
 | [_, _, _, _, _], h => exact absurd h (by show 5 ≠ 6; decide)
 | [r0, r1, r2, r3, r4, r5], _ => exact ⟨r0, r1, r2, r3, r4, r5, rfl⟩
 | _ :: _ :: _ :: _ :: _ :: _ :: _ :: r, h => exact absurd h (by show lenR r + 7 ≠ 6; omega)
theorem rs9 {rs : List Ra} (h : lenR rs = 9) : ∃ r0 r1 r2 r3 r4 r5 r6 r7 r8, rs = [r0, r1, r2, r3, r4, r5, r6, r7, r8] := by
 match rs, h with
 | [], h => exact absurd h (by decide)
 | [_], h => exact absurd h (by show 1 ≠ 9; decide)
 | [_, _], h => exact absurd h (by show 2 ≠ 9; decide)
 | [_, _, _], h => exact absurd h (by show 3 ≠ 9; decide)
 | [_, _, _, _], h => exact absurd h (by show 4 ≠ 9; decide)
 | [_, _, _, _, _], h => exact absurd h (by show 5 ≠ 9; decide)
 | [_, _, _, _, _, _], h => exact absurd h (by show 6 ≠ 9; decide)
 | [_, _, _, _, _, _, _], h => exact absurd h (by show 7 ≠ 9; decide)
 | [_, _, _, _, _, _, _, _], h => exact absurd h (by show 8 ≠ 9; decide)
 | [r0, r1, r2, r3, r4, r5, r6, r7, r8], _ => exact ⟨r0, r1, r2, r3, r4, r5, r6, r7, r8, rfl⟩
 | _ :: _ :: _ :: _ :: _ :: _ :: _ :: _ :: _ :: _ :: r, h => exact absurd h (by show lenR r + 10 ≠ 9; omega)
end Go.Ev
