/- LockPlays: the locks and the document's claims go together. Plain; no program. No conditions. -/
import Derived.Test.YtefkhlicocadcaaLkP
import Derived.Test.YtefkhlicocadcaaLpZ
set_option linter.unusedVariables false
set_option linter.unusedSimpArgs false
namespace Go.Spec
open Go Go.Ev
/-- The claims of a lock. -/
def fl (L : List Cm) (l : Lk) : List Cm := L.filter fun x => decide (x.l = l)
theorem fl_app {L M : List Cm} {l : Lk} : fl (L ++ M) l = fl L l ++ fl M l := List.filter_append ..
theorem fl_same {L : List Cm} {x : Cm} {l : Lk} (h : x.l = l) : fl (x :: L) l = x :: fl L l := by simp [fl, h]
theorem fl_other {L : List Cm} {x : Cm} {l : Lk} (h : x.l ≠ l) : fl (x :: L) l = fl L l := by simp [fl, h]
theorem fl_no {L : List Cm} {l : Lk} (h : fl L l = []) {x : Cm} (hx : x ∈ L) : x.l ≠ l := fun e => by
  have : x ∈ fl L l := List.mem_filter.2 ⟨hx, by simp [e]⟩
  rw [h] at this; cases this
theorem fl_l {L : List Cm} {l : Lk} {x : Cm} (h : x ∈ fl L l) : x.l = l := by simpa using (List.mem_filter.1 h).2
theorem fl_split {l : Lk} : ∀ {L : List Cm} {x : Cm} {r : List Cm}, fl L l = x :: r → ∃ p q, L = p ++ x :: q ∧ fl p l = [] ∧ fl q l = r ∧ x.l = l
  | [], x, r, h => by cases h
  | y :: L, x, r, h => by
    by_cases e : y.l = l
    · rw [fl_same e] at h
      injection h with h1 h2
      subst h1
      exact ⟨[], L, rfl, rfl, h2, e⟩
    · rw [fl_other e] at h
      obtain ⟨p, q, h1, h2, h3, h4⟩ := fl_split h
      exact ⟨y :: p, q, by rw [h1]; rfl, by rw [fl_other e]; exact h2, h3, h4⟩
theorem lk_iff {x : Cm} {c n : Int} : (x.c = c ∧ x.n = n) ↔ x.l = (c, n) := by simp [Cm.l]
theorem fstI_app {c n : Int} {suf : List Cm} : ∀ (pre : List Cm) (i : Int), (fl pre (c, n) = [] → fstI (pre ++ suf) i c n = fstI suf (i + pre.length) c n) ∧ (fl pre (c, n) ≠ [] → i ≤ fstI (pre ++ suf) i c n ∧ fstI (pre ++ suf) i c n < i + pre.length)
  | [], i => ⟨fun _ => by simp, fun h => (h rfl).elim⟩
  | x :: pre, i => by
    have ih := fstI_app (c := c) (n := n) (suf := suf) pre (i + 1)
    by_cases e : x.l = (c, n)
    · refine ⟨fun h => (by rw [fl_same e] at h; cases h), fun _ => ?_⟩
      show i ≤ (if x.c = c ∧ x.n = n then i else _) ∧ (if x.c = c ∧ x.n = n then i else _) < _
      rw [if_pos (lk_iff.2 e)]
      simp only [List.length_cons]; omega
    · rw [fl_other e]
      have s : fstI (x :: pre ++ suf) i c n = fstI (pre ++ suf) (i + 1) c n := by
        show (if x.c = c ∧ x.n = n then i else _) = _
        rw [if_neg fun h => e (lk_iff.1 h)]; rfl
      rw [s]
      refine ⟨fun h => ?_, fun h => ?_⟩
      · rw [ih.1 h, show i + 1 + (pre.length : Int) = i + ((x :: pre).length : Int) by simp only [List.length_cons]; omega]
      · have := ih.2 h
        simp only [List.length_cons]; omega
theorem first_none {L : List Cm} {c n : Int} (h : fl L (c, n) = []) : firstI L c n = -1 := by
  have := (fstI_app (suf := []) (c := c) (n := n) L 0).1 h
  rw [List.append_nil] at this
  exact this
theorem first_at {p q : List Cm} {x : Cm} {c n : Int} (h : fl p (c, n) = []) (e : x.l = (c, n)) : firstI (p ++ x :: q) c n = p.length := by
  have := (fstI_app (suf := x :: q) (c := c) (n := n) p 0).1 h
  unfold firstI
  rw [this]
  show (if x.c = c ∧ x.n = n then _ else _) = _
  rw [if_pos (lk_iff.2 e)]; omega
theorem first_ne {p q : List Cm} {x : Cm} {c n : Int} (e : x.l = (c, n)) : firstI (p ++ x :: q) c n ≠ p.length ↔ fl p (c, n) ≠ [] := by
  refine ⟨fun h h0 => h (first_at h0 e), fun h => ?_⟩
  have := ((fstI_app (suf := x :: q) (c := c) (n := n) p 0).2 h).2
  unfold firstI; omega
theorem at_len {p q : List Cm} {x : Cm} : atI (p ++ x :: q) p.length = x := by simp [atI, List.getD_eq_getElem?_getD]
theorem hol_eq (L : List Cm) (c n : Int) : holB L c n = ((fl L (c, n)).head?.map Cm.t).isSome ∧ holV L c n = ((fl L (c, n)).head?.map Cm.t).getD 0 := by
  cases h : fl L (c, n) with
  | nil => unfold holB holV; rw [first_none h]; exact ⟨rfl, rfl⟩
  | cons x r =>
    obtain ⟨p, q, rfl, h2, h3, h4⟩ := fl_split h
    unfold holB holV
    rw [first_at h2 h4, if_neg (by omega), at_len]
    exact ⟨decide_eq_true (by omega), rfl⟩
theorem que_eq (L : List Cm) (c n : Int) : queI L c n = (fl L (c, n)).tail.map Cm.t := by
  have key : ∀ (suf pre : List Cm), L = pre ++ suf → quI L suf pre.length c n = if fl pre (c, n) = [] then (fl suf (c, n)).tail.map Cm.t else (fl suf (c, n)).map Cm.t := by
    intro suf
    induction suf with
    | nil => intro pre e; by_cases h : fl pre (c, n) = [] <;> simp [quI, h, fl]
    | cons x r ih =>
      intro pre e
      have ih := ih (pre ++ [x]) (by rw [e]; simp)
      rw [show ((pre ++ [x]).length : Int) = (pre.length : Int) + 1 by simp] at ih
      unfold quI
      rw [ih, fl_app]
      by_cases e1 : x.l = (c, n)
      · have s : fl [x] (c, n) = [x] := fl_same e1
        rw [s, fl_same (L := r) e1]
        by_cases h : fl pre (c, n) = []
        · rw [if_neg (fun hh => (first_ne e1).1 (by have := hh.2; rw [e] at this; exact this) h), if_neg (by simp), if_pos h]; rfl
        · rw [if_pos ⟨lk_iff.2 e1, by rw [e]; exact (first_ne e1).2 h⟩, if_neg (by simp), if_neg h]; rfl
      · have s : fl [x] (c, n) = [] := fl_other e1
        rw [s, fl_other (L := r) e1, List.append_nil, if_neg (fun hh => e1 (lk_iff.1 hh.1))]
  exact key L [] rfl
theorem wt_some {L : List Cm} {t : Int} : ∀ (suf pre : List Cm) (x : Cm), L = pre ++ suf → wtI L suf pre.length t = some x → x.t = t ∧ x ∈ (fl L x.l).tail := by
  intro suf
  induction suf with
  | nil => intro pre x e h; cases h
  | cons y r ih =>
    intro pre x e h
    unfold wtI at h
    by_cases hc : y.t = t ∧ firstI L y.c y.n ≠ pre.length
    · rw [if_pos hc] at h
      injection h with h
      subst h
      refine ⟨hc.1, ?_⟩
      have h2 := hc.2
      rw [e] at h2
      have h3 := (first_ne (c := y.c) (n := y.n) rfl).1 h2
      rw [e, fl_app, fl_same rfl]
      cases hp : fl pre y.l with
      | nil => exact (h3 hp).elim
      | cons z zs => simp
    · rw [if_neg hc, show (pre.length : Int) + 1 = ((pre ++ [y]).length : Int) by simp] at h
      exact ih (pre ++ [y]) x (by rw [e]; simp) h
theorem wt_none {L : List Cm} {t : Int} : ∀ (suf pre : List Cm), L = pre ++ suf → wtI L suf pre.length t = none → ∀ p x q, suf = p ++ x :: q → x.t = t → fl (pre ++ p) x.l = [] := by
  intro suf
  induction suf with
  | nil => intro pre e h p x q e2; cases p <;> cases e2
  | cons y r ih =>
    intro pre e h p x q e2 ht
    unfold wtI at h
    by_cases hc : y.t = t ∧ firstI L y.c y.n ≠ pre.length
    · rw [if_pos hc] at h; cases h
    · rw [if_neg hc, show (pre.length : Int) + 1 = ((pre ++ [y]).length : Int) by simp] at h
      cases p with
      | nil =>
        simp only [List.nil_append, List.cons.injEq] at e2
        obtain ⟨rfl, rfl⟩ := e2
        rw [List.append_nil]
        refine Decidable.byContradiction fun h3 => hc ⟨ht, ?_⟩
        rw [e]
        exact (first_ne (c := y.c) (n := y.n) rfl).2 h3
      | cons z p =>
        simp only [List.cons_append, List.cons.injEq] at e2
        obtain ⟨rfl, rfl⟩ := e2
        have := ih (pre ++ [y]) (by rw [e]; simp) h p x q rfl ht
        rwa [List.append_assoc, List.singleton_append] at this
/-- Who waits has a claim behind its lock's first one. -/
theorem tail_split {L : List Cm} {l : Lk} {x : Cm} (h : x ∈ (fl L l).tail) : ∃ p q, L = p ++ x :: q ∧ fl p l ≠ [] ∧ x.l = l := by
  cases e : fl L l with
  | nil => rw [e] at h; cases h
  | cons y r =>
    rw [e] at h
    obtain ⟨p, q, rfl, h2, h3, h4⟩ := fl_split e
    have hx : x ∈ q := by
      have : x ∈ fl q l := by rw [h3]; exact h
      exact (List.mem_filter.1 this).1
    have hl : x.l = l := fl_l (L := q) (by rw [h3]; exact h)
    obtain ⟨a, b, rfl⟩ := List.append_of_mem hx
    exact ⟨p ++ y :: a, b, by simp, by rw [fl_app, fl_same h4]; simp, hl⟩
structure Rel (D : LkD) (L : List Cm) (ck : Int) (i : Nat) : Prop where
  wf : WF D i
  ho : ∀ l, D.ho l = (fl L l).head?.map Cm.t
  qu : ∀ l, D.qu l = (fl L l).tail.map Cm.t
  hs : ∀ t, D.hs t = holI L t ck
  kb : 0 ≤ ck ∧ ck ≤ i
  len : L.length ≤ i
  s0 : ∀ x ∈ L, 0 ≤ x.s ∧ x.s ≤ ck
  fs : L.Pairwise fun x y => x.l = y.l → y.s < 1
theorem Rel.new : Rel newD [] 0 0 := ⟨WF.new, fun _ => rfl, fun _ => rfl, fun _ => rfl, by decide, Nat.le_refl _, fun x h => (by cases h), List.Pairwise.nil⟩
theorem Rel.mono {D : LkD} {L : List Cm} {ck : Int} {i j : Nat} (h : Rel D L ck i) (hj : i ≤ j) : Rel D L ck j :=
  ⟨h.wf.mono hj, h.ho, h.qu, h.hs, ⟨h.kb.1, by have := h.kb.2; omega⟩, Nat.le_trans h.len hj, h.s0, h.fs⟩
theorem Rel.hoB {D : LkD} {L : List Cm} {ck : Int} {i : Nat} (h : Rel D L ck i) (c n : Int) : hoB D c n = holB L c n := by unfold Go.Spec.hoB; rw [h.ho, (hol_eq L c n).1]
theorem Rel.hoV {D : LkD} {L : List Cm} {ck : Int} {i : Nat} (h : Rel D L ck i) (c n : Int) : hoV D c n = holV L c n := by unfold Go.Spec.hoV; rw [h.ho, (hol_eq L c n).2]
theorem Rel.quL {D : LkD} {L : List Cm} {ck : Int} {i : Nat} (h : Rel D L ck i) (c n : Int) : quL D c n = queI L c n := by unfold Go.Spec.quL; rw [h.qu, que_eq]
theorem Rel.wa {D : LkD} {L : List Cm} {ck : Int} {i : Nat} (h : Rel D L ck i) (t : Int) : D.wa t = (waitI L t).map Cm.l := by
  cases e : waitI L t with
  | some x =>
    obtain ⟨h1, h2⟩ := wt_some L [] x rfl e
    refine (h.wf.wait x.l t).1 ?_
    rw [h.qu]
    exact List.mem_map.2 ⟨x, h2, h1⟩
  | none =>
    cases hw : D.wa t with
    | none => rfl
    | some l =>
      have := (h.wf.wait l t).2 hw
      rw [h.qu] at this
      obtain ⟨x, hx, ht⟩ := List.mem_map.1 this
      obtain ⟨p, q, h1, h2, h3⟩ := tail_split hx
      have := wt_none L [] rfl e p x q h1 ht
      rw [h3] at this
      exact (h2 this).elim
theorem Rel.waB {D : LkD} {L : List Cm} {ck : Int} {i : Nat} (h : Rel D L ck i) (t : Int) : waB D t = wtB L t := by
  unfold Go.Spec.waB wtB; rw [h.wa]; cases waitI L t <;> rfl
theorem Rel.waC {D : LkD} {L : List Cm} {ck : Int} {i : Nat} (h : Rel D L ck i) (t : Int) : waC D t = wtC L t := by
  unfold Go.Spec.waC wtC; rw [h.wa]; cases waitI L t <;> rfl
theorem Rel.waN {D : LkD} {L : List Cm} {ck : Int} {i : Nat} (h : Rel D L ck i) (t : Int) : waN D t = wtN L t := by
  unfold Go.Spec.waN wtN; rw [h.wa]; cases waitI L t <;> rfl
theorem Rel.takeE {D : LkD} {L : List Cm} {ck : Int} {i : Nat} (h : Rel D L ck i) (t c n : Int) : takeE D t c n = rtE L ck t c n := by
  have a : ((D.wa t).isSome = true ∨ inH (D.hs t) c n = true) ↔ (wtB L t = true ∨ (holB L c n = true ∧ holV L c n = t)) := by
    have e1 : (D.wa t).isSome = wtB L t := h.waB t
    have e2 : inH (D.hs t) c n = true ↔ (holB L c n = true ∧ holV L c n = t) := by
      rw [inH_iff, ← h.wf.held (c, n) t, ← h.hoB, ← h.hoV]
      unfold Go.Spec.hoB Go.Spec.hoV
      cases D.ho (c, n) <;> simp
    rw [e1, e2]
  have b : geH (D.hs t) c = true ↔ (holI L t ck).any (fun l => decide (l.1 ≥ c)) = true := by
    rw [geH_iff, h.hs]; simp
  unfold Go.Spec.takeE rtE
  by_cases h1 : c < 1 ∨ c > 3
  · rw [if_pos h1, if_pos h1]
  · rw [if_neg h1, if_neg h1]
    by_cases h2 : (D.wa t).isSome = true ∨ inH (D.hs t) c n = true
    · rw [if_pos h2, if_pos (a.1 h2)]
    · rw [if_neg h2, if_neg fun x => h2 (a.2 x)]
      by_cases h3 : geH (D.hs t) c = true
      · rw [if_pos h3, if_pos (b.1 h3)]
      · rw [if_neg h3, if_neg fun x => h3 (b.2 x)]
theorem Rel.takeB {D : LkD} {L : List Cm} {ck : Int} {i : Nat} (h : Rel D L ck i) (t c n : Int) : takeB D t c n = rtB L ck t c n := by
  unfold Go.Spec.takeB rtB
  rw [h.takeE, ← h.hoB]
  unfold Go.Spec.hoB
  cases D.ho (c, n) <;> simp
theorem Rel.giveE {D : LkD} {L : List Cm} {ck : Int} {i : Nat} (h : Rel D L ck i) (t c n : Int) : giveE D t c n = rgE L t c n := by
  unfold Go.Spec.giveE rgE
  rw [← h.hoB, ← h.hoV]
  unfold Go.Spec.hoB Go.Spec.hoV
  cases D.ho (c, n) <;> simp
theorem hoA_app {L M : List Cm} {t a : Int} : hoA (L ++ M) t a = hoA L t a ++ hoA M t a := by unfold hoA; rw [List.filter_append, List.map_append]
theorem hoA_cons {L : List Cm} {x : Cm} {t a : Int} : hoA (x :: L) t a = hoA [x] t a ++ hoA L t a := hoA_app (L := [x])
theorem hoA_yes {x : Cm} {t a : Int} (h : x.t = t ∧ x.s = a) : hoA [x] t a = [x.l] := by unfold hoA; simp [h]
theorem hoA_no {x : Cm} {t a : Int} (h : ¬ (x.t = t ∧ x.s = a)) : hoA [x] t a = [] := by unfold hoA; rw [List.filter_cons, if_neg (by simpa using h)]; rfl
theorem hoA_none {L : List Cm} {t a : Int} (h : ∀ x ∈ L, x.s ≠ a) : hoA L t a = [] := by
  unfold hoA
  rw [List.filter_eq_nil_iff.2 fun x hx => by simpa using fun _ => h x hx]; rfl
theorem hoI_same {L M : List Cm} {t : Int} : ∀ {k : Nat}, (∀ a : Nat, 1 ≤ a → a ≤ k → hoA L t a = hoA M t a) → hoI L t k = hoI M t k
  | 0, _ => rfl
  | k + 1, h => by
    show hoI L t k ++ _ = hoI M t k ++ _
    rw [hoI_same fun a h1 h2 => h a h1 (by omega)]
    have := h (k + 1) (by omega) (by omega)
    rw [show ((k : Int) + 1) = ((k + 1 : Nat) : Int) by omega, this]
theorem hoI_filter {L M : List Cm} {t : Int} {f : Lk → Bool} : ∀ {k : Nat}, (∀ a : Nat, 1 ≤ a → a ≤ k → hoA L t a = (hoA M t a).filter f) → hoI L t k = (hoI M t k).filter f
  | 0, _ => rfl
  | k + 1, h => by
    show hoI L t k ++ _ = (hoI M t k ++ _).filter f
    rw [List.filter_append, hoI_filter fun a h1 h2 => h a h1 (by omega)]
    have := h (k + 1) (by omega) (by omega)
    rw [show ((k : Int) + 1) = ((k + 1 : Nat) : Int) by omega, this]
theorem holI_up {L : List Cm} {t ck : Int} (h : 0 ≤ ck) : holI L t (ck + 1) = hoI L t ck.toNat ++ hoA L t (ck + 1) := by
  unfold holI
  rw [show (ck + 1).toNat = ck.toNat + 1 by omega]
  show hoI L t ck.toNat ++ hoA L t ((ck.toNat : Int) + 1) = _
  rw [show ((ck.toNat : Int) + 1) = ck + 1 by omega]
end Go.Spec
