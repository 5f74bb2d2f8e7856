/- Messages that come one behind the other: one more of them. Plain facts. No conditions. -/
import Derived.Test.YtipmphkcbhjinaaFbH
set_option linter.unusedVariables false
namespace Go.Spec
open Go Go.Ev
/-- The messages so far, in pieces of z bytes. -/
def mkI (tsn z : Int) (ss : List Int) (us : List Bool) (ps : List Int) (ds : List (List Int)) (ns : List Int) : Inp := ⟨tsn, ss.length, ss, us, ps, ds, ns, List.replicate ss.length z⟩
theorem getD_app {α : Type} (l : List α) (a d : α) {i : Nat} (h : i < l.length) : (l ++ [a]).getD i d = l.getD i d := by
  rw [List.getD_eq_getElem?_getD, List.getD_eq_getElem?_getD, List.getElem?_append_left h]
theorem getD_end {α : Type} (l : List α) (a d : α) {n : Nat} (h : l.length = n) : (l ++ [a]).getD n d = a := by
  subst h
  rw [List.getD_eq_getElem?_getD, List.getElem?_append_right (Nat.le_refl _)]
  simp
theorem getD_rep {α : Type} {n j : Nat} (a d : α) (h : j < n) : (List.replicate n a).getD j d = a := by
  rw [List.getD_eq_getElem?_getD, List.getElem?_replicate, if_pos h]; rfl
section
variable (tsn z : Int) (ss : List Int) (us : List Bool) (ps : List Int) (ds : List (List Int)) (ns : List Int) (s p nn : Int) (u : Bool) (d : List Int)
theorem grow_ct (h4 : ds.length = ss.length) {i : Nat} (hi : i < ss.length) : (mkI tsn z (ss ++ [s]) (us ++ [u]) (ps ++ [p]) (ds ++ [d]) (ns ++ [nn])).ct i = (mkI tsn z ss us ps ds ns).ct i := by
  unfold Inp.ct Inp.sz mkI
  simp only
  rw [getD_app ds d [] (by omega), getD_rep z 0 hi, getD_rep z 0 (by rw [List.length_append]; simp; omega)]
theorem grow_ctn (h4 : ds.length = ss.length) : (mkI tsn z (ss ++ [s]) (us ++ [u]) (ps ++ [p]) (ds ++ [d]) (ns ++ [nn])).ct ss.length = cutN (cutS z d.length) d.length := by
  unfold Inp.ct Inp.sz mkI
  simp only
  rw [getD_end ds d [] h4, getD_rep z 0 (by rw [List.length_append]; simp)]
theorem grow_st (h4 : ds.length = ss.length) : ∀ {i : Nat}, i ≤ ss.length → (mkI tsn z (ss ++ [s]) (us ++ [u]) (ps ++ [p]) (ds ++ [d]) (ns ++ [nn])).st i = (mkI tsn z ss us ps ds ns).st i
  | 0, _ => rfl
  | i + 1, h => by
    show Inp.st _ i + Inp.ct _ i = Inp.st _ i + Inp.ct _ i
    rw [grow_st h4 (by omega), grow_ct tsn z ss us ps ds ns s p nn u d h4 (by omega)]
theorem grow_O (h4 : ds.length = ss.length) {g : Nat} (hg : g < (mkI tsn z ss us ps ds ns).st ss.length) : (mkI tsn z (ss ++ [s]) (us ++ [u]) (ps ++ [p]) (ds ++ [d]) (ns ++ [nn])).O g = (mkI tsn z ss us ps ds ns).O g := by
  obtain ⟨a, b, c⟩ := (mkI tsn z ss us ps ds ns).O_in hg
  have a : (mkI tsn z ss us ps ds ns).O g < ss.length := a
  refine Inp.O_eq _ ?_ ?_ ?_
  · show _ < (ss ++ [s]).length
    rw [List.length_append]
    omega
  · rw [grow_st tsn z ss us ps ds ns s p nn u d h4 (by omega)]; exact b
  · rw [grow_st tsn z ss us ps ds ns s p nn u d h4 (by omega)]; exact c
theorem grow_G (h2 : us.length = ss.length) (h3 : ps.length = ss.length) (h4 : ds.length = ss.length) (h5 : ns.length = ss.length) {g : Nat} (hg : g < (mkI tsn z ss us ps ds ns).st ss.length) : (mkI tsn z (ss ++ [s]) (us ++ [u]) (ps ++ [p]) (ds ++ [d]) (ns ++ [nn])).G g = (mkI tsn z ss us ps ds ns).G g := by
  obtain ⟨a, b, c⟩ := (mkI tsn z ss us ps ds ns).O_in hg
  have a : (mkI tsn z ss us ps ds ns).O g < ss.length := a
  unfold Inp.G
  rw [grow_O tsn z ss us ps ds ns s p nn u d h4 hg]
  generalize (mkI tsn z ss us ps ds ns).O g = i at a
  unfold Inp.Gi
  rw [grow_ct tsn z ss us ps ds ns s p nn u d h4 a, grow_st tsn z ss us ps ds ns s p nn u d h4 (by omega)]
  simp only [mkI]
  rw [getD_app us u false (by omega), getD_app ss s 0 a, getD_app ns nn 0 (by omega), getD_app ps p 0 (by omega), getD_app ds d [] (by omega), getD_rep z 0 a, getD_rep z 0 (by rw [List.length_append]; simp; omega)]
theorem grow_new (h2 : us.length = ss.length) (h3 : ps.length = ss.length) (h4 : ds.length = ss.length) (h5 : ns.length = ss.length) {j : Nat} (hj : j < cutN (cutS z d.length) d.length) :
    (mkI tsn z (ss ++ [s]) (us ++ [u]) (ps ++ [p]) (ds ++ [d]) (ns ++ [nn])).G ((mkI tsn z ss us ps ds ns).st ss.length + j) = ⟨(tsn + (((mkI tsn z ss us ps ds ns).st ss.length + j : Nat) : Int)) % 4294967296, cutF1 u (cutN (cutS z d.length) d.length) j, s, nn, p, 0, (cutD z d).getD j []⟩ := by
  have hc := grow_ctn tsn z ss us ps ds ns s p nn u d h4
  have hs := grow_st tsn z ss us ps ds ns s p nn u d h4 (Nat.le_refl ss.length)
  have hn : ss.length < (mkI tsn z (ss ++ [s]) (us ++ [u]) (ps ++ [p]) (ds ++ [d]) (ns ++ [nn])).n := by
    show _ < (ss ++ [s]).length
    rw [List.length_append]; simp
  have ho : (mkI tsn z (ss ++ [s]) (us ++ [u]) (ps ++ [p]) (ds ++ [d]) (ns ++ [nn])).O ((mkI tsn z ss us ps ds ns).st ss.length + j) = ss.length := by
    refine Inp.O_eq _ hn (by rw [hs]; omega) ?_
    show _ < Inp.st _ ss.length + Inp.ct _ ss.length
    rw [hs, hc]; omega
  unfold Inp.G
  rw [ho]
  unfold Inp.Gi
  rw [hc, hs, Nat.add_sub_cancel_left]
  simp only [mkI]
  rw [getD_end us u false h2, getD_end ss s 0 rfl, getD_end ns nn 0 h5, getD_end ps p 0 h3, getD_end ds d [] h4, getD_rep z 0 (by rw [List.length_append]; simp)]
theorem grow_PP (h4 : ds.length = ss.length) {T : List Nat} (hT : ∀ g ∈ T, g < (mkI tsn z ss us ps ds ns).st ss.length) (g : Nat) : (mkI tsn z (ss ++ [s]) (us ++ [u]) (ps ++ [p]) (ds ++ [d]) (ns ++ [nn])).PP T g ↔ (mkI tsn z ss us ps ds ns).PP T g := by
  unfold Inp.PP
  constructor
  · rintro ⟨h1, y, h2, h3, h5⟩
    obtain ⟨a, b, c⟩ := (mkI tsn z ss us ps ds ns).O_in (hT g h1)
    have a : (mkI tsn z ss us ps ds ns).O g < ss.length := a
    rw [grow_O tsn z ss us ps ds ns s p nn u d h4 (hT g h1)] at h2 h3
    rw [grow_st tsn z ss us ps ds ns s p nn u d h4 (by omega)] at h2 h3
    exact ⟨h1, y, h2, h3, h5⟩
  · rintro ⟨h1, y, h2, h3, h5⟩
    obtain ⟨a, b, c⟩ := (mkI tsn z ss us ps ds ns).O_in (hT g h1)
    have a : (mkI tsn z ss us ps ds ns).O g < ss.length := a
    refine ⟨h1, y, ?_, ?_, h5⟩
    · rw [grow_O tsn z ss us ps ds ns s p nn u d h4 (hT g h1), grow_st tsn z ss us ps ds ns s p nn u d h4 (by omega)]; exact h2
    · rw [grow_O tsn z ss us ps ds ns s p nn u d h4 (hT g h1), grow_st tsn z ss us ps ds ns s p nn u d h4 (by omega)]; exact h3
end
theorem Kp.congrG {G G' : Nat → Pc} {l : List Pc} {P : Nat → Prop} (h : Kp G l P) (e : ∀ g, P g → G' g = G g) : Kp G' l P := by
  obtain ⟨K, h1, h2, h3⟩ := h
  exact ⟨K, by rw [h1]; exact List.map_congr_left fun g hg => (e g ((h3 g).1 hg)).symm, h2, h3⟩
/-- A column of the queue: the pieces from t to m. -/
def qc {α : Type} (f : Nat → α) (t m : Nat) : List α := (List.range' t (m - t)).map f
theorem qc_len {α : Type} (f : Nat → α) (t m : Nat) : (qc f t m).length = m - t := by unfold qc; simp
theorem qc_cons {α : Type} (f : Nat → α) {t m : Nat} (h : t < m) : qc f t m = f t :: qc f (t + 1) m := by
  unfold qc
  rw [show m - t = (m - (t + 1)) + 1 by omega, List.range'_succ, List.map_cons]
theorem qc_drop {α : Type} (f : Nat → α) {t m : Nat} (h : t < m) : (qc f t m).drop 1 = qc f (t + 1) m := by rw [qc_cons f h]; rfl
theorem qc_head {α : Type} (f : Nat → α) (d : α) {t m : Nat} (h : t < m) : (qc f t m).getD 0 d = f t := by rw [qc_cons f h]; rfl
theorem qc_app {α : Type} {f f' : Nat → α} {t m N : Nat} {l : List α} (h : t ≤ m) (e : ∀ g, t ≤ g → g < m → f' g = f g) (hl : l.length = N) (hN : ∀ j (hj : j < l.length), f' (m + j) = l[j]) : qc f' t (m + N) = qc f t m ++ l := by
  unfold qc
  rw [show m + N - t = (m - t) + N by omega, ← List.range'_append_1, List.map_append]
  congr 1
  · exact List.map_congr_left fun g hg => by
      have := List.mem_range'_1.1 hg
      exact e g this.1 (by omega)
  · refine List.ext_getElem (by simp [hl]) fun j h1 h2 => ?_
    rw [List.getElem_map, List.getElem_range', Nat.one_mul, ← hN j h2]
    congr 1
    omega
theorem Inp.last (x : Inp) {g : Nat} (hg : g < x.st x.n) : (∀ y, x.st (x.O g) ≤ y → y < x.st (x.O g + 1) → y ∈ List.range g ∨ y = g) ↔ g + 1 = x.st (x.O g + 1) := by
  obtain ⟨a, b, c⟩ := x.O_in hg
  constructor
  · intro h
    rcases h (x.st (x.O g + 1) - 1) (by omega) (by omega) with h | h
    · have := List.mem_range.1 h; omega
    · omega
  · intro h y h1 h2
    by_cases e : y = g
    · exact .inr e
    · exact .inl (List.mem_range.2 (by omega))
end Go.Spec
