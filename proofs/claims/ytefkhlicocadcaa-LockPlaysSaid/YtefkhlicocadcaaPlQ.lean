/- LockPlays: what a call keeps. Plain; no program. No conditions. -/
import Derived.Test.YtefkhlicocadcaaPlP
set_option linter.unusedVariables false
set_option linter.unusedSimpArgs false
namespace Go.Spec
open Go Go.Ev
theorem flapp1 {L : List Cm} {x : Cm} {l : Lk} : fl (L ++ [x]) l = if x.l = l then fl L l ++ [x] else fl L l := by
  rw [fl_app]
  by_cases h : x.l = l
  · rw [if_pos h, fl_same h]; rfl
  · rw [if_neg h, fl_other h]; simp [fl]
theorem pw_app {L : List Cm} {x : Cm} (h : L.Pairwise fun x y => x.l = y.l → y.s < 1) (hx : ∀ y ∈ L, y.l = x.l → x.s < 1) : (L ++ [x]).Pairwise fun x y => x.l = y.l → y.s < 1 :=
  List.pairwise_append.2 ⟨h, by simp, fun a ha b hb => by rw [List.mem_singleton] at hb; subst hb; exact hx a ha⟩
theorem Rel.take {D : LkD} {L : List Cm} {ck : Int} {i : Nat} (h : Rel D L ck i) {t c n : Int} (e : Go.Spec.takeE D t c n = 0) : Rel (takeD D t c n) (rtL L ck t c n) (rtK L ck t c n) (i + 1) := by
  have wf := h.wf.take t c n
  have eE : rtE L ck t c n = 0 := by rw [← h.takeE]; exact e
  have eB : rtB L ck t c n = !holB L c n := by unfold rtB; rw [decide_eq_true eE]; rfl
  have kb := h.kb
  unfold takeD at wf ⊢
  rw [if_pos e] at wf ⊢
  unfold rtL rtK
  rw [if_pos eE, eB]
  cases ho : D.ho (c, n) with
  | none =>
    have hB : holB L c n = false := by rw [← h.hoB]; unfold Go.Spec.hoB; rw [ho]; rfl
    have hf : fl L (c, n) = [] := by
      have := h.ho (c, n)
      rw [ho] at this
      cases hh : fl L (c, n) with
      | nil => rfl
      | cons x r => rw [hh] at this; cases this
    rw [ho] at wf
    rw [hB]
    simp only [Bool.not_false, if_true, Bool.false_eq_true, if_false]
    refine ⟨wf, fun l => ?_, fun l => ?_, fun x => ?_, ⟨by omega, by omega⟩, by have := h.len; simp; omega, ?_, ?_⟩
    · rw [flapp1]
      show upd D.ho (c, n) (some t) l = _
      by_cases hl : l = (c, n)
      · subst hl; rw [u_same, if_pos (by rfl), hf]; rfl
      · rw [u_other hl, if_neg (by exact fun hh => hl hh.symm)]; exact h.ho l
    · rw [flapp1]
      show D.qu l = _
      rw [h.qu]
      by_cases hl : (c, n) = l
      · subst hl; rw [if_pos (by rfl), hf]; rfl
      · rw [if_neg (by exact hl)]
    · show upd D.hs t (D.hs t ++ [(c, n)]) x = _
      have s1 : hoI (L ++ [⟨t, c, n, ck + 1⟩]) x ck.toNat = hoI L x ck.toNat := hoI_same fun a h1 h2 => by
        rw [hoA_app, hoA_no (by rintro ⟨_, h3⟩; simp only at h3; omega), List.append_nil]
      have s2 : hoA L x (ck + 1) = [] := hoA_none fun y hy => by have := h.s0 y hy; omega
      rw [holI_up kb.1, s1, hoA_app, s2, List.nil_append]
      have hx := h.hs x
      unfold holI at hx
      by_cases ht : x = t
      · subst ht; rw [u_same, hoA_yes ⟨rfl, rfl⟩, hx]; rfl
      · rw [u_other ht, hoA_no (by rintro ⟨h3, _⟩; exact ht h3.symm), List.append_nil, hx]
    · intro y hy
      rcases List.mem_append.1 hy with hy | hy
      · have := h.s0 y hy; omega
      · rw [List.mem_singleton] at hy; subst hy; simp only; omega
    · exact pw_app h.fs fun y hy hl => (fl_no hf hy hl).elim
  | some w =>
    have hB : holB L c n = true := by rw [← h.hoB]; unfold Go.Spec.hoB; rw [ho]; rfl
    have hf : fl L (c, n) ≠ [] := by
      have := h.ho (c, n)
      rw [ho] at this
      intro hh; rw [hh] at this; cases this
    rw [ho] at wf
    rw [hB]
    simp only [Bool.not_true, if_true, Bool.false_eq_true, if_false]
    refine ⟨wf, fun l => ?_, fun l => ?_, fun x => ?_, ⟨by omega, by omega⟩, by have := h.len; simp; omega, ?_, ?_⟩
    · rw [flapp1]
      show D.ho l = _
      rw [h.ho]
      by_cases hl : (c, n) = l
      · subst hl
        rw [if_pos (by rfl)]
        cases hh : fl L (c, n) with
        | nil => exact (hf hh).elim
        | cons a r => rfl
      · rw [if_neg (by exact hl)]
    · rw [flapp1]
      show upd D.qu (c, n) (D.qu (c, n) ++ [t]) l = _
      by_cases hl : l = (c, n)
      · subst hl
        rw [u_same, if_pos (by rfl), h.qu]
        cases hh : fl L (c, n) with
        | nil => exact (hf hh).elim
        | cons a r => simp
      · rw [u_other hl, if_neg (by exact fun hh => hl hh.symm)]; exact h.qu l
    · show D.hs x = _
      rw [h.hs]
      unfold holI
      exact (hoI_same fun a h1 h2 => by
        rw [hoA_app, hoA_no (by rintro ⟨_, h3⟩; simp only at h3; omega), List.append_nil]).symm
    · intro y hy
      rcases List.mem_append.1 hy with hy | hy
      · exact h.s0 y hy
      · rw [List.mem_singleton] at hy; subst hy; simp only; omega
    · exact pw_app h.fs fun y hy hl => by show (0 : Int) < 1; decide
/-- Without a claim that held. -/
theorem less_rel {D : LkD} {p q : List Cm} {x : Cm} {ck : Int} {i : Nat} (h : Rel D (p ++ x :: q) ck i) {c n : Int} (hp : fl p (c, n) = []) (hx : x.l = (c, n)) :
    (∀ l, l ≠ (c, n) → fl (p ++ q) l = fl (p ++ x :: q) l) ∧ (∀ y, (lessD D x.t c n).hs y = hoI (p ++ q) y ck.toNat) ∧ (∀ y ∈ q, y.l = (c, n) → y.s = 0) := by
  have fs := List.pairwise_append.1 h.fs
  have fq := List.pairwise_cons.1 fs.2.1
  have q0 : ∀ y ∈ q, y.l = (c, n) → y.s < 1 := fun y hy hl => fq.1 y hy (by rw [hx, hl])
  refine ⟨fun l hl => ?_, fun y => ?_, fun y hy hl => ?_⟩
  · rw [fl_app, fl_app, fl_other (fun hh => hl (by rw [← hh, hx]))]
  · have hh := h.hs
    show upd D.hs x.t ((D.hs x.t).filter fun l => !decide (l = (c, n))) y = _
    by_cases ey : y = x.t
    · subst ey
      rw [u_same, hh]
      unfold holI
      refine (hoI_filter fun a h1 h2 => ?_).symm
      rw [hoA_app, hoA_app, hoA_cons, List.filter_append, List.filter_append]
      have a1 : ∀ M : List Cm, (∀ z ∈ M, z.s = (a : Int) → z.l ≠ (c, n)) → (hoA M x.t a).filter (fun l => !decide (l = (c, n))) = hoA M x.t a := fun M hM => by
        refine List.filter_eq_self.2 fun l hl => ?_
        unfold hoA at hl
        obtain ⟨z, hz, rfl⟩ := List.mem_map.1 hl
        have hz := List.mem_filter.1 hz
        have hz2 : z.t = x.t ∧ z.s = a := by simpa using hz.2
        simpa using hM z hz.1 hz2.2
      rw [a1 p fun z hz _ => fl_no hp hz, a1 q fun z hz hs hl => by have := q0 z hz hl; omega]
      have a2 : (hoA [x] x.t a).filter (fun l => !decide (l = (c, n))) = [] := by
        refine List.filter_eq_nil_iff.2 fun l hl => ?_
        unfold hoA at hl
        obtain ⟨z, hz, rfl⟩ := List.mem_map.1 hl
        have hz := List.mem_singleton.1 (List.mem_filter.1 hz).1
        subst hz
        simpa using hx
      rw [a2, List.nil_append]
    · rw [u_other ey, hh]
      unfold holI
      refine hoI_same fun a h1 h2 => ?_
      rw [hoA_app, hoA_app, hoA_cons, hoA_no (fun h3 => ey h3.1.symm), List.nil_append]
  · have := q0 y hy hl
    have := (h.s0 y (by simp [hy])).1
    omega
theorem del_len {p q : List Cm} {x : Cm} : delI (p ++ x :: q) p.length = p ++ q := by
  unfold delI
  have e : (p ++ x :: q).drop (p.length + 1) = q := by
    rw [show p ++ x :: q = (p ++ [x]) ++ q by simp]
    exact List.drop_left' (by simp)
  rw [Int.toNat_natCast, List.take_left, e]
theorem set_len {p q : List Cm} {x : Cm} {s : Int} : setI (p ++ x :: q) p.length s = p ++ { x with s := s } :: q := by
  unfold setI
  rw [at_len, Int.toNat_natCast]
  simp
theorem Rel.give {D : LkD} {L : List Cm} {ck : Int} {i : Nat} (h : Rel D L ck i) {t c n : Int} (e : Go.Spec.giveE D t c n = 0) : Rel (giveD D t c n) (rgL L ck t c n) (rgK L ck t c n) (i + 1) := by
  have wf := (h.wf.give t c n).mono (show i ≤ i + 1 by omega)
  have eE : rgE L t c n = 0 := by rw [← h.giveE]; exact e
  have kb := h.kb
  have ho : D.ho (c, n) = some t := by
    unfold Go.Spec.giveE at e
    by_cases h0 : D.ho (c, n) = some t
    · exact h0
    · rw [if_neg h0] at e; cases e
  unfold giveD at wf ⊢
  rw [if_pos ho] at wf ⊢
  unfold rgL rgK
  rw [if_pos eE]
  cases hh : fl L (c, n) with
  | nil => have := h.ho (c, n); rw [ho, hh] at this; cases this
  | cons x r =>
    obtain ⟨p, q, rfl, hp, hq, hx⟩ := fl_split hh
    have xt : x.t = t := by have := h.ho (c, n); rw [ho, hh] at this; simpa using this.symm
    subst xt
    rw [first_at hp hx, del_len]
    obtain ⟨l1, l2, l3⟩ := less_rel h hp hx
    have qu : D.qu (c, n) = r.map Cm.t := by rw [h.qu, hh]; rfl
    have fl1 : fl (p ++ q) (c, n) = r := by rw [fl_app, hp, hq]; rfl
    have len : (p ++ q).length ≤ i := by have := h.len; simp at this ⊢; omega
    have s0 : ∀ y ∈ p ++ q, 0 ≤ y.s ∧ y.s ≤ ck := fun y hy => h.s0 y (by simp at hy ⊢; rcases hy with hy | hy <;> simp [hy])
    have fs : (p ++ q).Pairwise fun x y => x.l = y.l → y.s < 1 := h.fs.sublist (List.Sublist.append_left (List.sublist_cons_self x q) p)
    unfold nextD at wf ⊢
    rw [show (lessD D x.t c n).qu (c, n) = D.qu (c, n) from rfl, qu] at wf ⊢
    cases r with
    | nil =>
      rw [first_none fl1]
      unfold rgN
      rw [if_pos (by rw [first_none fl1]; decide), if_neg (fun hh => hh.2 (by decide))]
      refine ⟨wf, fun l => ?_, fun l => ?_, fun y => ?_, ⟨by omega, by omega⟩, by omega, s0, fs⟩
      · show upd D.ho (c, n) none l = _
        by_cases hl : l = (c, n)
        · subst hl; rw [u_same, fl1]; rfl
        · rw [u_other hl, l1 l hl]; exact h.ho l
      · show D.qu l = _
        by_cases hl : l = (c, n)
        · subst hl; rw [qu, fl1]; rfl
        · rw [l1 l hl]; exact h.qu l
      · exact l2 y
    | cons y r =>
      obtain ⟨p2, q2, hpq, hp2, hq2, hy⟩ := fl_split fl1
      have yin : y ∈ p ++ q := by rw [hpq]; simp
      have ys : y.s = 0 := by
        have yq : y ∈ q := by
          rcases List.mem_append.1 yin with h1 | h1
          · exact (fl_no hp h1 hy).elim
          · exact h1
        exact l3 y yq hy
      rw [hpq] at len s0 fs l1 l2 ⊢
      have fa := first_at (q := q2) hp2 hy
      unfold rgN
      rw [fa, if_neg (by omega), if_pos ⟨eE, by omega⟩, set_len]
      have fs2 := List.pairwise_append.1 fs
      have fs3 := List.pairwise_cons.1 fs2.2.1
      have y2l : ({ y with s := ck + 1 } : Cm).l = (c, n) := hy
      have flq : ∀ l, l ≠ (c, n) → fl (p2 ++ { y with s := ck + 1 } :: q2) l = fl (p2 ++ y :: q2) l := fun l hl => by
        rw [fl_app, fl_app, fl_other (by rw [y2l]; exact fun hh => hl hh.symm), fl_other (by rw [hy]; exact fun hh => hl hh.symm)]
      have fll : fl (p2 ++ { y with s := ck + 1 } :: q2) (c, n) = { y with s := ck + 1 } :: r := by rw [fl_app, hp2, fl_same y2l, hq2]; rfl
      refine ⟨wf, fun l => ?_, fun l => ?_, fun z => ?_, ⟨by omega, by omega⟩, by simp at len ⊢; omega, ?_, ?_⟩
      · show upd (lessD D x.t c n).ho (c, n) (some y.t) l = _
        by_cases hl : l = (c, n)
        · subst hl; rw [u_same, fll]; rfl
        · rw [u_other hl, flq l hl, l1 l hl, ← h.ho l]
          exact u_other hl
      · show upd (lessD D x.t c n).qu (c, n) (r.map Cm.t) l = _
        by_cases hl : l = (c, n)
        · subst hl; rw [u_same, fll]; rfl
        · rw [u_other hl, flq l hl, l1 l hl, ← h.qu l]; rfl
      · show upd (lessD D x.t c n).hs y.t ((lessD D x.t c n).hs y.t ++ [(c, n)]) z = _
        have s1 : ∀ w, hoI (p2 ++ { y with s := ck + 1 } :: q2) w ck.toNat = hoI (p2 ++ y :: q2) w ck.toNat := fun w => hoI_same fun a h1 h2 => by
          rw [hoA_app, hoA_app, hoA_cons, hoA_cons (x := y), hoA_no (x := { y with s := ck + 1 }) (by rintro ⟨_, h3⟩; simp only at h3; omega), hoA_no (x := y) (by rintro ⟨_, h3⟩; omega)]
        have s2 : ∀ w, hoA (p2 ++ { y with s := ck + 1 } :: q2) w (ck + 1) = hoA [{ y with s := ck + 1 }] w (ck + 1) := fun w => by
          rw [hoA_app, hoA_cons, hoA_none (L := p2) fun z hz => (by have := s0 z (by simp [hz]); omega), hoA_none (L := q2) fun z hz => (by have := s0 z (by simp [hz]); omega)]
          simp
        rw [holI_up kb.1, s1, s2]
        by_cases hz : z = y.t
        · subst hz; rw [u_same, l2, hoA_yes ⟨rfl, rfl⟩, y2l]
        · rw [u_other hz, l2, hoA_no (by rintro ⟨h3, _⟩; exact hz h3.symm), List.append_nil]
      · intro z hz
        rcases List.mem_append.1 hz with hz | hz
        · have := s0 z (by simp [hz]); omega
        · rcases List.mem_cons.1 hz with rfl | hz
          · simp only; omega
          · have := s0 z (by simp [hz]); omega
      · refine List.pairwise_append.2 ⟨fs2.1, List.pairwise_cons.2 ⟨fun z hz hl => fs3.1 z hz (by rw [hy, ← hl, y2l]), fs3.2⟩, fun a ha b hb hl => ?_⟩
        rcases List.mem_cons.1 hb with rfl | hb
        · exact (fl_no hp2 ha (by rw [hl, y2l])).elim
        · exact fs2.2.2 a ha b (by simp [hb]) hl
end Go.Spec
