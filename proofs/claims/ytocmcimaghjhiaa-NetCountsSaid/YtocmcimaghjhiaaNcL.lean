/- Counts of names: plain facts. No conditions. -/
import Derived.Test.YtocmcimaghjhiaaNcD
import Derived.Test.YtocmcimaghjhiaaEvD
set_option linter.unusedVariables false
namespace Go.Spec
open Go Go.Ev
/-- A datagram on its way. -/
structure Fl where
  f : Int
  t : Int
  b : List Int
  u : Int
def fz : Fl := ⟨0, 0, [], 0⟩
def woX (p : Nat) (l : List Fl) : List Fl := l.take p ++ l.drop (p + 1)
def cntN (s : ByteArray) (l : List Fl) : Nat := l.countP fun x => strEqD s (nmS x.f x.t x.b)
def valM (kk : List ByteArray) (vs : List Int) (s : ByteArray) : Int := if idxS s kk < kk.length then vs.getD (idxS s kk) 0 else 0
def InvM (kk : List ByteArray) (vs : List Int) (l : List Fl) : Prop := vs.length = kk.length ∧ ∀ s, valM kk vs s = (cntN s l : Nat)
theorem getD_mapF {α β : Type} (f : α → β) (d : α) (l : List α) (i : Nat) : (l.map f).getD i (f d) = f (l.getD i d) := by
  simp only [List.getD_eq_getElem?_getD, List.getElem?_map]
  cases l[i]? <;> rfl
theorem gf (l : List Fl) (i : Nat) : (l.map Fl.f).getD i 0 = (l.getD i fz).f := getD_mapF Fl.f fz l i
theorem gt (l : List Fl) (i : Nat) : (l.map Fl.t).getD i 0 = (l.getD i fz).t := getD_mapF Fl.t fz l i
theorem gb (l : List Fl) (i : Nat) : (l.map Fl.b).getD i [] = (l.getD i fz).b := getD_mapF Fl.b fz l i
theorem gu (l : List Fl) (i : Nat) : (l.map Fl.u).getD i 0 = (l.getD i fz).u := getD_mapF Fl.u fz l i
theorem woI_map (g : Fl → Int) (p : Nat) (l : List Fl) : woI p (l.map g) = (woX p l).map g := by
  unfold woI woX; rw [List.map_append, List.map_take, List.map_drop]
theorem woD_map (g : Fl → List Int) (p : Nat) (l : List Fl) : woD p (l.map g) = (woX p l).map g := by
  unfold woD woX; rw [List.map_append, List.map_take, List.map_drop]
theorem woX_len {p : Nat} {l : List Fl} (h : p < l.length) : (woX p l).length = l.length - 1 := by
  unfold woX; rw [List.length_append, List.length_take, List.length_drop]; omega
theorem eqD_t {a b : ByteArray} : strEqD a b = true ↔ a = b := ⟨strEq_t, fun h => by subst h; simp [strEqD]⟩
theorem idxS_at {s : ByteArray} {kk : List ByteArray} (h : idxS s kk < kk.length) : kk.getD (idxS s kk) ByteArray.empty = s := idxS_spec.1 h
theorem idxS_t {s y : ByteArray} (r : List ByteArray) (h : strEqD s y = true) : idxS s (y :: r) = 0 := by simp only [idxS, h]
theorem idxS_f {s y : ByteArray} (r : List ByteArray) (h : strEqD s y = false) : idxS s (y :: r) = idxS s r + 1 := by simp only [idxS, h]
theorem idxS_app (s : ByteArray) (r : List ByteArray) : ∀ kk : List ByteArray, idxS s (kk ++ r) = if idxS s kk < kk.length then idxS s kk else kk.length + idxS s r
  | [] => by simp [idxS]
  | y :: kk => by
    rw [List.cons_append]
    by_cases h : strEqD s y = true
    · rw [idxS_t _ h, idxS_t _ h, if_pos (by simp)]
    · have h : strEqD s y = false := by cases hh : strEqD s y with | true => exact absurd hh h | false => rfl
      rw [idxS_f _ h, idxS_f _ h, idxS_app s r kk, List.length_cons]
      by_cases h2 : idxS s kk < kk.length
      · rw [if_pos h2, if_pos (by omega)]
      · rw [if_neg h2, if_neg (by omega)]; omega
theorem val_set {kk : List ByteArray} {vs : List Int} {s : ByteArray} (hl : vs.length = kk.length) (h : idxS s kk < kk.length) (v : Int) (s' : ByteArray) : valM kk (vs.set (idxS s kk) v) s' = if s' = s then v else valM kk vs s' := by
  unfold valM
  by_cases e : s' = s
  · subst e
    rw [if_pos h, if_pos rfl, List.getD_eq_getElem?_getD, List.getElem?_set_self (by omega)]; rfl
  · rw [if_neg e]
    by_cases h2 : idxS s' kk < kk.length
    · rw [if_pos h2, if_pos h2, List.getD_eq_getElem?_getD, List.getElem?_set_ne, ← List.getD_eq_getElem?_getD]
      intro e2
      have a := idxS_at h
      rw [e2, idxS_at h2] at a
      exact e a
    · rw [if_neg h2, if_neg h2]
theorem val_push {kk : List ByteArray} {vs : List Int} {s : ByteArray} (hl : vs.length = kk.length) (h : ¬ idxS s kk < kk.length) (v : Int) (s' : ByteArray) : valM (kk ++ [s]) (vs ++ [v]) s' = if s' = s then v else valM kk vs s' := by
  unfold valM
  rw [idxS_app, List.length_append]
  simp only [List.length_cons, List.length_nil]
  by_cases e : s' = s
  · subst e
    rw [if_neg h, if_pos rfl]
    have : idxS s' [s'] = 0 := by unfold idxS; rw [eqD_t.2 rfl]
    rw [this, if_pos (by omega), Nat.add_zero, List.getD_eq_getElem?_getD, List.getElem?_append_right (by omega)]
    simp [hl]
  · rw [if_neg e]
    by_cases h2 : idxS s' kk < kk.length
    · rw [if_pos h2, if_pos (by omega), if_pos h2, List.getD_eq_getElem?_getD, List.getElem?_append_left (by omega), ← List.getD_eq_getElem?_getD]
    · have : idxS s' [s] = 1 := by
        unfold idxS
        cases hh : strEqD s' s with
        | true => exact absurd (eqD_t.1 hh) e
        | false => rfl
      rw [if_neg h2, this, if_neg (by omega), if_neg h2]
theorem cnt_snoc (s : ByteArray) (l : List Fl) (x : Fl) : cntN s (l ++ [x]) = cntN s l + (if s = nmS x.f x.t x.b then 1 else 0) := by
  unfold cntN
  rw [List.countP_append, List.countP_singleton]
  by_cases h : s = nmS x.f x.t x.b
  · rw [if_pos (eqD_t.2 h), if_pos h]
  · rw [if_neg (fun e => h (eqD_t.1 e)), if_neg h]
theorem cnt_wo {s : ByteArray} {l : List Fl} {p : Nat} (h : p < l.length) : cntN s (woX p l) + (if s = nmS (l.getD p fz).f (l.getD p fz).t (l.getD p fz).b then 1 else 0) = cntN s l := by
  have e : l = l.take p ++ (l.getD p fz :: l.drop (p + 1)) := by
    rw [List.getD_eq_getElem?_getD, List.getElem?_eq_getElem h]
    simp only [Option.getD_some]
    rw [← List.drop_eq_getElem_cons h, List.take_append_drop]
  generalize l.getD p fz = x at e ⊢
  unfold woX cntN
  conv => rhs; rw [e]
  rw [List.countP_append, List.countP_append, List.countP_cons]
  by_cases h : s = nmS x.f x.t x.b
  · rw [if_pos h, if_pos (eqD_t.2 h)]; omega
  · rw [if_neg h, if_neg (fun e => h (eqD_t.1 e))]; omega
theorem inv_set {kk : List ByteArray} {vs : List Int} {l l' : List Fl} {s : ByteArray} (h : InvM kk vs l) (hit : idxS s kk < kk.length) (v : Int) (hv : v = (cntN s l' : Nat)) (ho : ∀ s', s' ≠ s → cntN s' l' = cntN s' l) : InvM kk (vs.set (idxS s kk) v) l' := by
  refine ⟨by rw [List.length_set]; exact h.1, fun s' => ?_⟩
  rw [val_set h.1 hit]
  by_cases e : s' = s
  · subst e; rw [if_pos rfl, hv]
  · rw [if_neg e, h.2, ho s' e]
theorem inv_push {kk : List ByteArray} {vs : List Int} {l l' : List Fl} {s : ByteArray} (h : InvM kk vs l) (hit : ¬ idxS s kk < kk.length) (v : Int) (hv : v = (cntN s l' : Nat)) (ho : ∀ s', s' ≠ s → cntN s' l' = cntN s' l) : InvM (kk ++ [s]) (vs ++ [v]) l' := by
  refine ⟨by simp [h.1], fun s' => ?_⟩
  rw [val_push h.1 hit]
  by_cases e : s' = s
  · subst e; rw [if_pos rfl, hv]
  · rw [if_neg e, h.2, ho s' e]
theorem inv_hit {kk : List ByteArray} {vs : List Int} {l : List Fl} (h : InvM kk vs l) {p : Nat} (hp : p < l.length) : idxS (nmS (l.getD p fz).f (l.getD p fz).t (l.getD p fz).b) kk < kk.length ∧ vs.getD (idxS (nmS (l.getD p fz).f (l.getD p fz).t (l.getD p fz).b) kk) 0 = (cntN (nmS (l.getD p fz).f (l.getD p fz).t (l.getD p fz).b) l : Nat) ∧ 1 ≤ cntN (nmS (l.getD p fz).f (l.getD p fz).t (l.getD p fz).b) l := by
  have h1 := cnt_wo (s := nmS (l.getD p fz).f (l.getD p fz).t (l.getD p fz).b) hp
  rw [if_pos rfl] at h1
  have h2 := h.2 (nmS (l.getD p fz).f (l.getD p fz).t (l.getD p fz).b)
  unfold valM at h2
  split at h2
  · rename_i hh; exact ⟨hh, h2, by omega⟩
  · omega
end Go.Spec
