/- Who holds what and who waits for what: what each call keeps. Plain. No conditions. -/
import Derived.Test.YtefkhlicocadcaaLkE
import Derived.Test.YtefkhlicocadcaaEvD
set_option linter.unusedVariables false
set_option linter.unusedSimpArgs false
namespace Go.Spec
open Go Go.Ev
structure WF (D : LkD) (m : Nat) : Prop where
  held : ∀ l t, D.ho l = some t ↔ l ∈ D.hs t
  sort : ∀ t, (D.hs t).Pairwise (fun a b => a.1 < b.1)
  cls : ∀ t, ∀ l ∈ D.hs t, 1 ≤ l.1 ∧ l.1 ≤ 3
  wait : ∀ l q, q ∈ D.qu l ↔ D.wa q = some l
  once : ∀ l, (D.qu l).Nodup
  idle : ∀ l, D.ho l = none → D.qu l = []
  up : ∀ t l, D.wa t = some l → (1 ≤ l.1 ∧ l.1 ≤ 3) ∧ ∀ h ∈ D.hs t, h.1 < l.1
  len : ∀ l, (D.qu l).length ≤ m
theorem WF.new : WF newD 0 :=
  ⟨fun l t => by simp [newD], fun t => List.Pairwise.nil, fun t l h => (by cases h), fun l q => by simp [newD], fun l => List.nodup_nil, fun _ _ => rfl, fun t l h => (by cases h), fun l => Nat.le_refl _⟩
theorem WF.mono {D : LkD} {m m' : Nat} (h : WF D m) (hm : m ≤ m') : WF D m' := { h with len := fun l => Nat.le_trans (h.len l) hm }
theorem inH_iff {c n : Int} : ∀ {hs : List Lk}, inH hs c n = true ↔ (c, n) ∈ hs
  | [] => by simp [inH, inC]
  | (a, b) :: r => by
    have ih := inH_iff (c := c) (n := n) (hs := r)
    simp only [inH] at ih
    simp only [inH, List.map_cons, inC, Bool.or_eq_true, ih, List.mem_cons, isL, Bool.and_true, Bool.and_eq_true, eqK_t, Prod.mk.injEq]
    constructor
    · rintro (⟨rfl, rfl⟩ | h)
      · exact .inl ⟨rfl, rfl⟩
      · exact .inr h
    · rintro (⟨rfl, rfl⟩ | h)
      · exact .inl ⟨rfl, rfl⟩
      · exact .inr h
theorem geH_iff {c : Int} : ∀ {hs : List Lk}, geH hs c = true ↔ ∃ h ∈ hs, h.1 ≥ c
  | [] => by simp [geH, geC]
  | (a, b) :: r => by
    have ih := geH_iff (c := c) (hs := r)
    simp only [geH] at ih
    simp only [geH, List.map_cons, geC, Bool.or_eq_true, ih, List.mem_cons, decide_eq_true_eq]
    constructor
    · rintro (h | ⟨x, h1, h2⟩)
      · exact ⟨_, .inl rfl, h⟩
      · exact ⟨x, .inr h1, h2⟩
    · rintro ⟨x, rfl | h1, h2⟩
      · exact .inl h2
      · exact .inr ⟨x, h1, h2⟩
theorem sorted_len : ∀ {ls : List Lk} {a : Int}, ls.Pairwise (fun a b => a.1 < b.1) → (∀ l ∈ ls, a ≤ l.1 ∧ l.1 ≤ 3) → a ≤ 4 → (ls.length : Int) ≤ 4 - a
  | [], a, _, _, h => by simp only [List.length_nil]; omega
  | x :: r, a, hs, hb, h => by
    rw [List.pairwise_cons] at hs
    have hx := hb x (by simp)
    have := sorted_len (a := x.1 + 1) hs.2 (fun l hl => ⟨by have := hs.1 l hl; omega, (hb l (by simp [hl])).2⟩) (by omega)
    simp only [List.length_cons]; omega
theorem WF.few {D : LkD} {m : Nat} (h : WF D m) (t : Int) : (D.hs t).length ≤ 3 := by
  have := sorted_len (a := 1) (h.sort t) (h.cls t) (by omega)
  omega
theorem WF.rise {D : LkD} {m : Nat} (h : WF D m) : Rise D := fun t l hl => by
  have hu := h.up t l hl
  refine ⟨hu.1, ?_⟩
  cases hh : D.ho l with
  | none =>
    have := h.idle l hh
    have hm := (h.wait l t).2 hl
    rw [this] at hm; cases hm
  | some p => exact ⟨p, rfl, fun l' hl' => (h.up p l' hl').2 l ((h.held l p).1 hh)⟩
theorem WF.riseB {D : LkD} {m : Nat} (h : WF D m) : riseB D = true := @decide_eq_true _ (Classical.propDecidable _) h.rise
theorem WF.takeOk {D : LkD} {m : Nat} (h : WF D m) (hm : m ≤ 1000000) (t c n : Int) : takeOk D t c n = true := decide_eq_true ⟨h.few t, Nat.le_trans (h.len _) hm⟩
theorem WF.shortQ {D : LkD} {m : Nat} (h : WF D m) (hm : m ≤ 1000000) (c n : Int) : shortQ D c n = true := decide_eq_true (Nat.le_trans (h.len _) hm)
theorem WF.shortH {D : LkD} {m : Nat} (h : WF D m) (t : Int) : shortH D t = true := decide_eq_true (by have := h.few t; omega)
theorem WF.next {D : LkD} {m : Nat} (h : WF D m) {l : Lk} {t q : Int} {r : List Int} (ho : D.ho l = some t) (hq : D.qu l = q :: r) : q ≠ t ∧ D.wa q = some l ∧ q ∉ r := by
  have hw := (h.wait l q).1 (by rw [hq]; simp)
  refine ⟨fun e => ?_, hw, ?_⟩
  · subst e
    have := (h.up q l hw).2 l ((h.held l q).1 ho)
    omega
  · have := h.once l
    rw [hq, List.nodup_cons] at this
    exact this.1
theorem WF.giveOk {D : LkD} {m : Nat} (h : WF D m) (hm : m ≤ 1000000) (t c n : Int) : giveOk D t c n = true := by
  unfold Spec.giveOk
  split
  · rfl
  · rename_i p hp
    split
    · rfl
    · rename_i hd
      have e := of_decide_eq_true hd
      subst e
      rw [Bool.and_eq_true, Bool.and_eq_true]
      refine ⟨decide_eq_true (h.few p), inH_iff.2 ((h.held _ _).1 hp), ?_⟩
      split
      · rfl
      · rename_i q r hq
        obtain ⟨n1, n2, _⟩ := h.next hp hq
        have hl := h.len (c, n)
        rw [hq] at hl
        simp only [List.length_cons] at hl
        rw [Bool.and_eq_true]
        exact ⟨decide_eq_true ⟨n1, by have := h.few q; omega, by omega⟩, by rw [n2]; rfl⟩
/-- What an answer of OK means. -/
theorem take_ok {D : LkD} {t c n : Int} (h : takeE D t c n = 0) : (1 ≤ c ∧ c ≤ 3) ∧ D.wa t = none ∧ (c, n) ∉ D.hs t ∧ ∀ x ∈ D.hs t, x.1 < c := by
  unfold takeE at h
  split at h
  · omega
  · rename_i h1
    split at h
    · omega
    · rename_i h2
      split at h
      · omega
      · rename_i h3
        refine ⟨by omega, ?_, fun hm => h2 (.inr (inH_iff.2 hm)), fun x hx => ?_⟩
        · cases hw : D.wa t with
          | none => rfl
          | some l => exact absurd (.inl (by rw [hw]; rfl)) h2
        · by_cases hc : x.1 ≥ c
          · exact absurd (geH_iff.2 ⟨x, hx, hc⟩) h3
          · omega
theorem u_same {α β : Type} [DecidableEq α] {f : α → β} {a : α} {b : β} : upd f a b a = b := by simp [upd]
theorem u_other {α β : Type} [DecidableEq α] {f : α → β} {a x : α} {b : β} (h : x ≠ a) : upd f a b x = f x := by simp [upd, h]
theorem WF.take {D : LkD} {m : Nat} (h : WF D m) (t c n : Int) : WF (takeD D t c n) (m + 1) := by
  unfold takeD
  split
  · rename_i hE
    obtain ⟨hc, hw, hn, hlt⟩ := take_ok hE
    split
    · rename_i ho
      have hoff : ∀ t', (c, n) ∉ D.hs t' := fun t' hm => by have := (h.held (c, n) t').2 hm; rw [ho] at this; cases this
      refine ⟨fun l t' => ?_, fun t' => ?_, fun t' => ?_, h.wait, h.once, fun l hl => ?_, fun t' l hl => ?_, fun l => by have := h.len l; exact Nat.le_succ_of_le this⟩
      · show upd D.ho (c, n) (some t) l = some t' ↔ l ∈ upd D.hs t (D.hs t ++ [(c, n)]) t'
        by_cases hl : l = (c, n)
        · subst hl
          rw [u_same]
          by_cases ht : t' = t
          · subst ht; rw [u_same]; simp
          · rw [u_other ht]
            exact ⟨fun e => absurd (Option.some.inj e).symm ht, fun hm => absurd hm (hoff t')⟩
        · rw [u_other hl, h.held l t']
          by_cases ht : t' = t
          · subst ht; rw [u_same]; simp [hl]
          · rw [u_other ht]
      · show (upd D.hs t (D.hs t ++ [(c, n)]) t').Pairwise _
        by_cases ht : t' = t
        · subst ht; rw [u_same]
          exact List.pairwise_append.2 ⟨h.sort t', List.pairwise_singleton _ _, fun a ha b hb => by rw [List.mem_singleton.1 hb]; exact hlt a ha⟩
        · rw [u_other ht]; exact h.sort t'
      · show ∀ l ∈ upd D.hs t (D.hs t ++ [(c, n)]) t', _
        by_cases ht : t' = t
        · subst ht; rw [u_same]
          intro l hl
          rcases List.mem_append.1 hl with hl | hl
          · exact h.cls t' l hl
          · rw [List.mem_singleton.1 hl]; exact hc
        · rw [u_other ht]; exact h.cls t'
      · have hl : upd D.ho (c, n) (some t) l = none := hl
        by_cases e : l = (c, n)
        · subst e; rw [u_same] at hl; cases hl
        · rw [u_other e] at hl; exact h.idle l hl
      · have hl' : D.wa t' = some l := hl
        refine ⟨(h.up t' l hl').1, ?_⟩
        show ∀ x ∈ upd D.hs t (D.hs t ++ [(c, n)]) t', _
        have hne : t' ≠ t := fun e => by rw [e, hw] at hl'; cases hl'
        rw [u_other hne]
        exact (h.up t' l hl').2
    · rename_i p ho
      have htq : t ∉ D.qu (c, n) := fun hm => by have := (h.wait _ _).1 hm; rw [hw] at this; cases this
      refine ⟨h.held, h.sort, h.cls, fun l q => ?_, fun l => ?_, fun l hl => ?_, fun t' l hl => ?_, fun l => ?_⟩
      · show q ∈ upd D.qu (c, n) (D.qu (c, n) ++ [t]) l ↔ upd D.wa t (some (c, n)) q = some l
        by_cases hq : q = t
        · subst hq
          rw [u_same]
          by_cases hl : l = (c, n)
          · subst hl; rw [u_same]; simp
          · rw [u_other hl]
            exact ⟨fun hm => (by have := (h.wait _ _).1 hm; rw [hw] at this; cases this), fun e => absurd (Option.some.inj e).symm hl⟩
        · rw [u_other hq]
          by_cases hl : l = (c, n)
          · subst hl; rw [u_same, ← h.wait]; simp [hq]
          · rw [u_other hl]; exact h.wait l q
      · show (upd D.qu (c, n) (D.qu (c, n) ++ [t]) l).Nodup
        by_cases hl : l = (c, n)
        · subst hl; rw [u_same]
          exact List.nodup_append.2 ⟨h.once _, by simp, fun a ha b hb => by rw [List.mem_singleton.1 hb]; rintro rfl; exact htq ha⟩
        · rw [u_other hl]; exact h.once l
      · have hl : D.ho l = none := hl
        show upd D.qu (c, n) (D.qu (c, n) ++ [t]) l = []
        rw [u_other (by rintro rfl; rw [ho] at hl; cases hl)]
        exact h.idle l hl
      · have hl : upd D.wa t (some (c, n)) t' = some l := hl
        by_cases ht : t' = t
        · subst ht; rw [u_same] at hl; cases hl
          exact ⟨hc, hlt⟩
        · rw [u_other ht] at hl; exact h.up t' l hl
      · show (upd D.qu (c, n) (D.qu (c, n) ++ [t]) l).length ≤ _
        by_cases hl : l = (c, n)
        · subst hl; rw [u_same, List.length_append]; have := h.len (c, n); simpa using this
        · rw [u_other hl]; have := h.len l; omega
  · exact h.mono (by omega)
theorem mem_less {ls : List Lk} {l k : Lk} : k ∈ ls.filter (fun x => !decide (x = l)) ↔ k ∈ ls ∧ k ≠ l := by simp
theorem WF.give {D : LkD} {m : Nat} (h : WF D m) (t c n : Int) : WF (giveD D t c n) m := by
  unfold giveD
  split
  · rename_i ho
    have hoff : ∀ t', t' ≠ t → (c, n) ∉ D.hs t' := fun t' ht hm => by have := (h.held (c, n) t').2 hm; rw [ho] at this; exact ht (Option.some.inj this).symm
    unfold nextD
    have hqq : (lessD D t c n).qu (c, n) = D.qu (c, n) := rfl
    rw [hqq]
    split
    · rename_i hq
      refine ⟨fun l t' => ?_, fun t' => ?_, fun t' => ?_, h.wait, h.once, fun l hl => ?_, fun t' l hl => ?_, h.len⟩
      · show upd D.ho (c, n) none l = some t' ↔ l ∈ upd D.hs t ((D.hs t).filter fun l => !decide (l = (c, n))) t'
        by_cases hl : l = (c, n)
        · subst hl; rw [u_same]
          by_cases ht : t' = t
          · subst ht; rw [u_same, mem_less]; simp
          · rw [u_other ht]; exact ⟨fun e => (by cases e), fun hm => absurd hm (hoff t' ht)⟩
        · rw [u_other hl, h.held l t']
          by_cases ht : t' = t
          · subst ht; rw [u_same, mem_less]; simp [hl]
          · rw [u_other ht]
      · show (upd D.hs t ((D.hs t).filter fun l => !decide (l = (c, n))) t').Pairwise _
        by_cases ht : t' = t
        · subst ht; rw [u_same]; exact (h.sort t').filter _
        · rw [u_other ht]; exact h.sort t'
      · show ∀ l ∈ upd D.hs t ((D.hs t).filter fun l => !decide (l = (c, n))) t', _
        by_cases ht : t' = t
        · subst ht; rw [u_same]; intro l hl; exact h.cls t' l (mem_less.1 hl).1
        · rw [u_other ht]; exact h.cls t'
      · have hl : upd D.ho (c, n) none l = none := hl
        by_cases e : l = (c, n)
        · subst e; exact hq
        · rw [u_other e] at hl; exact h.idle l hl
      · have hl : D.wa t' = some l := hl
        refine ⟨(h.up t' l hl).1, ?_⟩
        show ∀ x ∈ upd D.hs t ((D.hs t).filter fun l => !decide (l = (c, n))) t', _
        by_cases ht : t' = t
        · subst ht; rw [u_same]; intro x hx; exact (h.up t' l hl).2 x (mem_less.1 hx).1
        · rw [u_other ht]; exact (h.up t' l hl).2
    · rename_i q r hq
      obtain ⟨hqt, hwq, hqr⟩ := h.next ho hq
      have hsq : ∀ t', upd (upd D.hs t ((D.hs t).filter fun l => !decide (l = (c, n)))) q (upd D.hs t ((D.hs t).filter fun l => !decide (l = (c, n))) q ++ [(c, n)]) t' =
          if t' = q then D.hs q ++ [(c, n)] else if t' = t then (D.hs t).filter (fun l => !decide (l = (c, n))) else D.hs t' := fun t' => by
        by_cases h1 : t' = q
        · subst h1; rw [u_same, u_other hqt, if_pos rfl]
        · rw [u_other h1, if_neg h1]
          by_cases h2 : t' = t
          · subst h2; rw [u_same, if_pos rfl]
          · rw [u_other h2, if_neg h2]
      refine ⟨fun l t' => ?_, fun t' => ?_, fun t' => ?_, fun l p => ?_, fun l => ?_, fun l hl => ?_, fun t' l hl => ?_, fun l => ?_⟩
      · show upd (upd D.ho (c, n) none) (c, n) (some q) l = some t' ↔ l ∈ upd (upd D.hs t ((D.hs t).filter fun l => !decide (l = (c, n)))) q (upd D.hs t ((D.hs t).filter fun l => !decide (l = (c, n))) q ++ [(c, n)]) t'
        rw [hsq]
        by_cases hl : l = (c, n)
        · subst hl; rw [u_same]
          by_cases h1 : t' = q
          · subst h1; rw [if_pos rfl]; simp
          · rw [if_neg h1]
            refine ⟨fun e => absurd (Option.some.inj e).symm h1, fun hm => ?_⟩
            by_cases h2 : t' = t
            · rw [if_pos h2, mem_less] at hm; exact absurd rfl hm.2
            · rw [if_neg h2] at hm; exact absurd hm (hoff t' h2)
        · rw [u_other hl, u_other hl, h.held l t']
          by_cases h1 : t' = q
          · subst h1; rw [if_pos rfl]; simp [hl]
          · rw [if_neg h1]
            by_cases h2 : t' = t
            · subst h2; rw [if_pos rfl, mem_less]; simp [hl]
            · rw [if_neg h2]
      · show (upd (upd D.hs t ((D.hs t).filter fun l => !decide (l = (c, n)))) q (upd D.hs t ((D.hs t).filter fun l => !decide (l = (c, n))) q ++ [(c, n)]) t').Pairwise _
        rw [hsq]
        split
        · exact List.pairwise_append.2 ⟨h.sort q, List.pairwise_singleton _ _, fun a ha b hb => by rw [List.mem_singleton.1 hb]; exact (h.up q _ hwq).2 a ha⟩
        · split
          · exact (h.sort t).filter _
          · exact h.sort t'
      · show ∀ l ∈ upd (upd D.hs t ((D.hs t).filter fun l => !decide (l = (c, n)))) q (upd D.hs t ((D.hs t).filter fun l => !decide (l = (c, n))) q ++ [(c, n)]) t', _
        rw [hsq]
        intro l hl
        split at hl
        · rcases List.mem_append.1 hl with hl | hl
          · exact h.cls q l hl
          · rw [List.mem_singleton.1 hl]; exact (h.up q _ hwq).1
        · split at hl
          · exact h.cls t l (mem_less.1 hl).1
          · exact h.cls t' l hl
      · show p ∈ upd D.qu (c, n) r l ↔ upd D.wa q none p = some l
        by_cases hp : p = q
        · subst hp; rw [u_same]
          refine ⟨fun hm => ?_, fun e => by cases e⟩
          by_cases hl : l = (c, n)
          · subst hl; rw [u_same] at hm; exact absurd hm hqr
          · rw [u_other hl] at hm
            have := (h.wait l p).1 hm
            rw [hwq] at this
            exact absurd (Option.some.inj this).symm hl
        · rw [u_other hp]
          by_cases hl : l = (c, n)
          · subst hl; rw [u_same, ← h.wait, hq]; simp [hp]
          · rw [u_other hl]; exact h.wait l p
      · show (upd D.qu (c, n) r l).Nodup
        by_cases hl : l = (c, n)
        · subst hl; rw [u_same]; have := h.once (c, n); rw [hq, List.nodup_cons] at this; exact this.2
        · rw [u_other hl]; exact h.once l
      · have hl : upd (upd D.ho (c, n) none) (c, n) (some q) l = none := hl
        by_cases e : l = (c, n)
        · subst e; rw [u_same] at hl; cases hl
        · rw [u_other e, u_other e] at hl
          show upd D.qu (c, n) r l = []
          rw [u_other e]; exact h.idle l hl
      · have hl0 : upd D.wa q none t' = some l := hl
        have hp : t' ≠ q := fun e => by rw [e, u_same] at hl0; cases hl0
        rw [u_other hp] at hl0
        refine ⟨(h.up t' l hl0).1, ?_⟩
        show ∀ x ∈ upd (upd D.hs t ((D.hs t).filter fun l => !decide (l = (c, n)))) q (upd D.hs t ((D.hs t).filter fun l => !decide (l = (c, n))) q ++ [(c, n)]) t', _
        rw [hsq, if_neg hp]
        intro x hx
        split at hx
        · rename_i h2; rw [← h2] at hx; exact (h.up t' l hl0).2 x (mem_less.1 hx).1
        · exact (h.up t' l hl0).2 x hx
      · show (upd D.qu (c, n) r l).length ≤ _
        by_cases hl : l = (c, n)
        · subst hl; rw [u_same]; have := h.len (c, n); rw [hq] at this; simp only [List.length_cons] at this; omega
        · rw [u_other hl]; exact h.len l
  · exact h
end Go.Spec
