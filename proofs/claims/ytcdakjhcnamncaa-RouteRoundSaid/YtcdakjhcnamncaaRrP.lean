/- Going round the paths: what the run needs. Plain facts. No conditions. -/
import Derived.Test.YtcdakjhcnamncaaRpP
import Derived.Test.YtcdakjhcnamncaaRpR
set_option linter.unusedVariables false
set_option linter.unusedSimpArgs false
namespace Go.Ev
open Go Go.Proofs Go.Spec
theorem there_iff {I : Int} {n : Nat} : thereB I n = true ↔ 0 ≤ I ∧ I < (n : Int) := by
  unfold thereB
  simp only [Bool.and_eq_true, decide_eq_true_eq]
theorem thI_in {I p : Int} {n : Nat} (h : thereB p n = true) : thereB (thI I n I p) n = true := by
  unfold thI
  by_cases e : thereB I n = true
  · rw [if_pos e]; exact e
  · rw [if_neg e]; exact h
theorem seenOk_at : ∀ {any : Bool} {s d : List Bool}, seenOk any s d = true → ∀ j : Nat, j < s.length → j < d.length → (s.getD j false || (d.getD j false && any)) = true
  | any, [], d, _, j, h, _ => by cases h
  | any, s :: r, [], _, j, _, h => by cases h
  | any, s :: r, d :: q, h, j, h1, h2 => by
    obtain ⟨a, b⟩ := Bool.and_eq_true_iff.1 h
    cases j with
    | zero => exact a
    | succ j => exact seenOk_at b j (by simpa using h1) (by simpa using h2)
theorem seenF_len (ds : List Bool) : ∀ (c a : Nat) (s : List Bool), (seenF ds c a s).length = s.length
  | 0, _, s => rfl
  | c + 1, a, s => by unfold seenF; rw [seenF_len ds c, List.length_set]
theorem next_at {n : Nat} (hn : okN n = true) {ds : List Bool} (hl : ds.length = n) {I : Int} (h : thereB I n = true) : nextI ds I = ((nextN ds I.toNat : Nat) : Int) ∧ nextN ds I.toNat < n := by
  have h2 := there_iff.1 h
  refine ⟨?_, (good_at hn hl (i := I.toNat) (by omega)).2.2⟩
  unfold nextI
  rw [hl, if_pos h]
theorem ch_at {n : Nat} (hn : okN n = true) {ds : List Bool} (hl : ds.length = n) {P : Int} (h : thereB P n = true) : chooseI ds P = ((chooseN ds P.toNat : Nat) : Int) ∧ chooseN ds P.toNat < n := by
  have h2 := there_iff.1 h
  obtain ⟨a, b⟩ := next_at hn hl h
  unfold chooseI chooseN
  by_cases e : ds.getD P.toNat false = true
  · rw [if_pos e, if_pos e]; exact ⟨a, b⟩
  · rw [if_neg e, if_neg e]; exact ⟨by omega, by omega⟩
theorem ch_good {n : Nat} (hn : okN n = true) {ds : List Bool} (hl : ds.length = n) {P : Int} (h : thereB P n = true) {j : Nat} (e : chooseI ds P = (j : Int)) (h1 : ds.getD j false = true) (h2 : anyUp ds = true) : False := by
  obtain ⟨a, b⟩ := ch_at hn hl h
  have h3 := there_iff.1 h
  have hg := (good_at hn hl (i := P.toNat) (by omega)).2.1
  unfold goodC at hg
  rw [show chooseN ds P.toNat = j by omega, h1, h2] at hg
  cases hg
theorem rep_len (n : Nat) : (List.replicate n false).length = n := List.length_replicate ..
def mP (I : Int) (j : Nat) (p : Pa) : Pa := ⟨p.f, p.t, p.tr, selI I j (addK .i64 p.m 1) p.m, selB I j (gtB (addK .i64 p.m 1) p.tr) p.d, p.x1, p.x2, p.x3, p.x4, p.x5, p.b, p.w1, p.w2, p.w3, p.w4⟩
def hP (I : Int) (j : Nat) (p : Pa) : Pa := ⟨p.f, p.t, p.tr, selI I j 0 p.m, selB I j false p.d, p.x1, p.x2, p.x3, p.x4, p.x5, p.b, p.w1, p.w2, p.w3, p.w4⟩
theorem evF {c : Cx} {N m f f' : Nat} {co : Code} {fr : Fr} {st : St} {k : Exit → Fr → St → Prop} (h : ev c f m N co fr st k) (e : f = f') : ev c f' m N co fr st k := e ▸ h
theorem bN_f {b : Bool} (h : (Bool.not b) = true) : b = false := by cases b <;> first | rfl | cases h
theorem bN_t {b : Bool} (h : (Bool.not b) = false) : b = true := by cases b <;> first | rfl | cases h
end Go.Ev
