/- Pieces of messages in any order: what a joiner keeps of them, and tells. Plain facts. No conditions. -/
import Derived.Test.YtipmphkcbhjinaaFkL
set_option linter.unusedVariables false
namespace Go.Spec
open Go Go.Ev
/-- A piece, whenever it was kept. -/
def nb (p : Pc) : Pc := ⟨p.t, p.f, p.s, p.n, p.p, 0, p.d⟩
/-- m pieces with TSNs one behind the other; piece g is of the message whose pieces are those from S g to E g. -/
structure Lay (tsn : Int) (m : Nat) (G : Nat → Pc) (S E : Nat → Nat) : Prop where
  hm : m ≤ 1000000
  t : ∀ g, (G g).t = (tsn + (g : Int)) % 4294967296
  se : ∀ g, g < m → S g ≤ g ∧ g < E g ∧ E g ≤ m
  same : ∀ g, g < m → ∀ h, S g ≤ h → h < E g → S h = S g ∧ E h = E g
  fb : ∀ g, g < m → hasF (G g).f 2 = decide (g = S g)
  fe : ∀ g, g < m → hasF (G g).f 1 = decide (g + 1 = E g)
  al : ∀ g, g < m → ∀ h, S g ≤ h → h < E g → alikeB (G g) (G h) = true
/-- The list holds just the pieces that are P. -/
def Kp (G : Nat → Pc) (l : List Pc) (P : Nat → Prop) : Prop := ∃ K : List Nat, l.map nb = K.map G ∧ K.Nodup ∧ ∀ x, x ∈ K ↔ P x
def datG (G : Nat → Pc) (h n : Nat) : List Int := ((List.range' h n).map fun g => (G g).d).flatten
theorem datG_succ (G : Nat → Pc) (h n : Nat) : datG G h (n + 1) = (G h).d ++ datG G (h + 1) n := by
  unfold datG; rw [List.range'_succ]; rfl
variable {tsn : Int} {m : Nat} {G : Nat → Pc} {S E : Nat → Nat}
theorem Lay.inj (L : Lay tsn m G S E) {x y : Nat} (hx : x < m) (hy : y < m) (e : (G x).t = (G y).t) : x = y := by
  rw [L.t, L.t] at e
  have := L.hm
  omega
theorem Lay.fbS (L : Lay tsn m G S E) {g h : Nat} (hg : g < m) (h1 : S g ≤ h) (h2 : h < E g) : hasF (G h).f 2 = decide (h = S g) := by
  have := L.se g hg
  rw [L.fb h (by omega), (L.same g hg h h1 h2).1]
theorem Lay.feS (L : Lay tsn m G S E) {g h : Nat} (hg : g < m) (h1 : S g ≤ h) (h2 : h < E g) : hasF (G h).f 1 = decide (h + 1 = E g) := by
  have := L.se g hg
  rw [L.fe h (by omega), (L.same g hg h h1 h2).2]
theorem map_erase {α β : Type} (f : α → β) : ∀ (l : List α) (i : Nat), (l.map f).eraseIdx i = (l.eraseIdx i).map f
  | [], _ => rfl
  | _ :: _, 0 => rfl
  | x :: l, i + 1 => by simp only [List.map_cons, List.eraseIdx_cons_succ, map_erase f l i]
theorem nodup_at : ∀ {l : List Nat} {i j : Nat} (hi : i < l.length) (hj : j < l.length), l.Nodup → l[i] = l[j] → i = j
  | x :: l, 0, 0, _, _, _, _ => rfl
  | x :: l, 0, j + 1, hi, hj, hn, e => by
    rw [List.nodup_cons] at hn
    simp only [List.getElem_cons_zero, List.getElem_cons_succ] at e
    exact absurd (by rw [e]; exact List.getElem_mem _) hn.1
  | x :: l, i + 1, 0, hi, hj, hn, e => by
    rw [List.nodup_cons] at hn
    simp only [List.getElem_cons_zero, List.getElem_cons_succ] at e
    exact absurd (by rw [← e]; exact List.getElem_mem _) hn.1
  | x :: l, i + 1, j + 1, hi, hj, hn, e => by
    rw [List.nodup_cons] at hn
    simp only [List.getElem_cons_succ] at e
    rw [nodup_at _ _ hn.2 e]
theorem kp_nil : Kp G [] (fun _ => False) := ⟨[], rfl, List.nodup_nil, fun x => by simp⟩
theorem Kp.congr {l : List Pc} {P Q : Nat → Prop} (h : Kp G l P) (e : ∀ x, P x ↔ Q x) : Kp G l Q := by
  obtain ⟨K, h1, h2, h3⟩ := h
  exact ⟨K, h1, h2, fun x => (h3 x).trans (e x)⟩
theorem Kp.empty {l : List Pc} {P : Nat → Prop} (h : Kp G l P) (e : ∀ x, ¬ P x) : l = [] := by
  obtain ⟨K, h1, h2, h3⟩ := h
  cases K with
  | nil => simpa using h1
  | cons x K => exact absurd ((h3 x).1 (by simp)) (e x)
theorem Kp.push {l : List Pc} {P : Nat → Prop} (h : Kp G l P) {g : Nat} (hg : ¬ P g) {p : Pc} (e : nb p = G g) : Kp G (l ++ [p]) (fun x => P x ∨ x = g) := by
  obtain ⟨K, h1, h2, h3⟩ := h
  refine ⟨K ++ [g], by simp [h1, e], ?_, fun x => by simp [h3]⟩
  rw [List.nodup_append]
  exact ⟨h2, by simp, fun a ha b hb => by
    rw [List.mem_singleton.1 hb]
    intro e
    subst e
    exact hg ((h3 _).1 ha)⟩
theorem Kp.mem {l : List Pc} {P : Nat → Prop} (h : Kp G l P) {q : Pc} (hq : q ∈ l) : ∃ x, P x ∧ nb q = G x := by
  obtain ⟨K, h1, h2, h3⟩ := h
  have : nb q ∈ K.map G := by rw [← h1]; exact List.mem_map_of_mem hq
  obtain ⟨x, hx, e⟩ := List.mem_map.1 this
  exact ⟨x, (h3 x).1 hx, e.symm⟩
theorem Kp.key {l : List Pc} {P : Nat → Prop} (h : Kp G l P) {g : Nat} (hg : P g) : (G g).t ∈ keysP l := by
  obtain ⟨K, h1, h2, h3⟩ := h
  have : G g ∈ l.map nb := by rw [h1]; exact List.mem_map_of_mem ((h3 g).2 hg)
  obtain ⟨q, hq, e⟩ := List.mem_map.1 this
  rw [← e]
  exact List.mem_map.2 ⟨q, hq, rfl⟩
theorem kp_in (L : Lay tsn m G S E) {l : List Pc} {P : Nat → Prop} (h : Kp G l P) (hP : ∀ x, P x → x < m) {g : Nat} (hg : P g) {t : Int} (ht : t = (G g).t) : ∃ q, lookP l t = some q ∧ nb q = G g := by
  have hk := h.key hg
  rw [← ht] at hk
  have hi : idxI t (keysP l) < l.length := by have := idxI_mem.2 hk; unfold keysP at this ⊢; rw [List.length_map] at this; exact this
  have e : lookP l t = some (l.getD (idxI t (keysP l)) pz) := by unfold lookP; rw [if_pos hi]
  obtain ⟨e1, e2, _⟩ := look_some e
  obtain ⟨x, hx, ex⟩ := h.mem e2
  have : x = g := L.inj (hP x hx) (hP g hg) (by rw [← ex]; exact e1.trans ht)
  subst this
  exact ⟨_, e, ex⟩
theorem kp_out (L : Lay tsn m G S E) {l : List Pc} {P : Nat → Prop} (h : Kp G l P) (hP : ∀ x, P x → x < m) {g : Nat} (hm : g < m) (hg : ¬ P g) {t : Int} (ht : t = (G g).t) : lookP l t = none := by
  cases e : lookP l t with
  | none => rfl
  | some q =>
    obtain ⟨e1, e2, _⟩ := look_some e
    obtain ⟨x, hx, ex⟩ := h.mem e2
    have : x = g := L.inj (hP x hx) hm (by rw [← ex]; exact e1.trans ht)
    subst this
    exact absurd hx hg
theorem kp_drop (L : Lay tsn m G S E) {l : List Pc} {P : Nat → Prop} (h : Kp G l P) (hP : ∀ x, P x → x < m) {g : Nat} (hg : P g) {t : Int} (ht : t = (G g).t) : Kp G (dropP l t) (fun x => P x ∧ x ≠ g) := by
  obtain ⟨q, hq, eq⟩ := kp_in L h hP hg ht
  obtain ⟨e1, e2, hi, e4⟩ := look_some hq
  obtain ⟨K, h1, h2, h3⟩ := h
  have hl : l.length = K.length := by have := congrArg List.length h1; simpa using this
  unfold dropP
  rw [if_pos hi]
  generalize idxI t (keysP l) = i at hi e4
  have hiK : i < K.length := by omega
  have hgi : K[i] = g := by
    have e5 : (l.map nb)[i]'(by simpa using hi) = (K.map G)[i]'(by simpa using hiK) := by simp only [h1]
    simp only [List.getElem_map] at e5
    rw [List.getD_eq_getElem?_getD, List.getElem?_eq_getElem hi] at e4
    simp only [Option.getD_some] at e4
    rw [← e4, eq] at e5
    exact (L.inj (hP g hg) (hP _ ((h3 _).1 (List.getElem_mem hiK))) (by rw [e5])).symm
  refine ⟨K.eraseIdx i, ?_, h2.sublist (List.eraseIdx_sublist _ _), fun x => ?_⟩
  · rw [← map_erase, ← map_erase, h1]
  · rw [List.mem_eraseIdx_iff_getElem]
    constructor
    · rintro ⟨j, hj, hne, rfl⟩
      refine ⟨(h3 _).1 (List.getElem_mem hj), fun e => hne ?_⟩
      rw [← hgi] at e
      exact nodup_at hj hiK h2 e
    · rintro ⟨hx, hne⟩
      obtain ⟨j, hj, rfl⟩ := List.getElem_of_mem ((h3 x).2 hx)
      exact ⟨j, hj, fun e => hne (by subst e; exact hgi), rfl⟩
theorem kp_data (L : Lay tsn m G S E) {l : List Pc} {P : Nat → Prop} (h : Kp G l P) (hP : ∀ x, P x → x < m) {g : Nat} (hg : P g) {t : Int} (ht : t = (G g).t) : dataP l t = (G g).d := by
  obtain ⟨q, hq, eq⟩ := kp_in L h hP hg ht
  unfold dataP
  rw [hq, ← eq]; rfl
theorem alike_nb {p q : Pc} {a b : Pc} (h1 : nb p = a) (h2 : nb q = b) : alikeB p q = alikeB a b := by subst h1 h2; rfl
theorem hasF_nb {p a : Pc} (h : nb p = a) (w : Int) : hasF p.f w = hasF a.f w := by subst h; rfl
theorem t_nb {p a : Pc} (h : nb p = a) : p.t = a.t := by subst h; rfl
theorem t_pred (L : Lay tsn m G S E) {p : Pc} {g : Nat} (h : nb p = G (g + 1)) : subK .u32 p.t 1 = (G g).t := by
  rw [t_nb h, sub32, L.t, L.t]; omega
theorem t_next (L : Lay tsn m G S E) {p : Pc} {g : Nat} (h : nb p = G g) : addK .u32 p.t 1 = (G (g + 1)).t := by
  rw [t_nb h, add32, L.t, L.t]; omega
theorem back_all (L : Lay tsn m G S E) {l : List Pc} {P : Nat → Prop} (h : Kp G l P) (hP : ∀ x, P x → x < m) {p : Pc} {g : Nat} (hg : g < m) (ep : nb p = G g) : ∀ (d c : Nat) (a : Pc), S g + d < E g → nb a = G (S g + d) → d < c → (∀ r, r < d → P (S g + r)) → ∃ r, backP l p c a = some (r, d) ∧ nb r = G (S g) := by
  obtain ⟨s1, s2, s3⟩ := L.se g hg
  intro d
  induction d with
  | zero =>
    intro c a h1 h2 h3 h4
    obtain ⟨c, rfl⟩ : ∃ c', c = c' + 1 := ⟨c - 1, by omega⟩
    refine ⟨a, ?_, h2⟩
    unfold backP
    rw [if_pos]
    rw [hasF_nb h2, L.fbS hg (by omega) (by omega)]
    exact decide_eq_true rfl
  | succ d ih =>
    intro c a h1 h2 h3 h4
    obtain ⟨c, rfl⟩ : ∃ c', c = c' + 1 := ⟨c - 1, by omega⟩
    have hf : hasF a.f 2 = false := by
      rw [hasF_nb h2, L.fbS hg (by omega) (by omega)]
      exact decide_eq_false (by omega)
    obtain ⟨q, hq, eq⟩ := kp_in L h hP (h4 d (by omega)) (t_pred L (g := S g + d) h2)
    have h5 : alikeB p q = true := by rw [alike_nb ep eq]; exact L.al g hg _ (by omega) (by omega)
    have h6 : hasF q.f 1 = false := by
      rw [hasF_nb eq, L.feS hg (by omega) (by omega)]
      exact decide_eq_false (by omega)
    obtain ⟨r, hr, er⟩ := ih c q (by omega) eq (by omega) (fun r hr => h4 r (by omega))
    refine ⟨r, ?_, er⟩
    unfold backP
    rw [if_neg (by rw [hf]; simp), hq]
    dsimp only
    rw [if_pos ⟨h5, h6⟩, hr]
    rfl
theorem back_none (L : Lay tsn m G S E) {l : List Pc} {P : Nat → Prop} (h : Kp G l P) (hP : ∀ x, P x → x < m) {p : Pc} {g : Nat} (hg : g < m) (ep : nb p = G g) : ∀ (d c : Nat) (a : Pc), S g + d < E g → nb a = G (S g + d) → (∃ r, r < d ∧ ¬ P (S g + r)) → backP l p c a = none := by
  obtain ⟨s1, s2, s3⟩ := L.se g hg
  intro d
  induction d with
  | zero => intro c a h1 h2 h3; obtain ⟨r, hr, _⟩ := h3; omega
  | succ d ih =>
    intro c a h1 h2 h3
    cases c with
    | zero => rfl
    | succ c =>
      have hf : hasF a.f 2 = false := by
        rw [hasF_nb h2, L.fbS hg (by omega) (by omega)]
        exact decide_eq_false (by omega)
      unfold backP
      rw [if_neg (by rw [hf]; simp)]
      by_cases hd : P (S g + d)
      · obtain ⟨q, hq, eq⟩ := kp_in L h hP hd (t_pred L (g := S g + d) h2)
        have h5 : alikeB p q = true := by rw [alike_nb ep eq]; exact L.al g hg _ (by omega) (by omega)
        have h6 : hasF q.f 1 = false := by
          rw [hasF_nb eq, L.feS hg (by omega) (by omega)]
          exact decide_eq_false (by omega)
        rw [hq]
        dsimp only
        obtain ⟨r, hr, hn⟩ := h3
        have : r ≠ d := fun e => hn (by rw [e]; exact hd)
        rw [if_pos ⟨h5, h6⟩, ih c q (by omega) eq ⟨r, by omega, hn⟩]
        rfl
      · rw [kp_out L h hP (by omega) hd (t_pred L (g := S g + d) h2)]
theorem forw_all (L : Lay tsn m G S E) {l : List Pc} {P : Nat → Prop} (h : Kp G l P) (hP : ∀ x, P x → x < m) {p : Pc} {g : Nat} (hg : g < m) (ep : nb p = G g) : ∀ (d c y : Nat) (a : Pc), S g ≤ y → y + d + 1 = E g → nb a = G y → d < c → (∀ r, y < r → r < E g → P r) → ∃ r, forwP l p c a = some (r, d) ∧ nb r = G (y + d) := by
  obtain ⟨s1, s2, s3⟩ := L.se g hg
  intro d
  induction d with
  | zero =>
    intro c y a h0 h1 h2 h3 h4
    obtain ⟨c, rfl⟩ : ∃ c', c = c' + 1 := ⟨c - 1, by omega⟩
    refine ⟨a, ?_, h2⟩
    unfold forwP
    rw [if_pos]
    rw [hasF_nb h2, L.feS hg (by omega) (by omega)]
    exact decide_eq_true (by omega)
  | succ d ih =>
    intro c y a h0 h1 h2 h3 h4
    obtain ⟨c, rfl⟩ : ∃ c', c = c' + 1 := ⟨c - 1, by omega⟩
    have hf : hasF a.f 1 = false := by
      rw [hasF_nb h2, L.feS hg (by omega) (by omega)]
      exact decide_eq_false (by omega)
    obtain ⟨q, hq, eq⟩ := kp_in L h hP (h4 (y + 1) (by omega) (by omega)) (t_next L h2)
    have h5 : alikeB p q = true := by rw [alike_nb ep eq]; exact L.al g hg _ (by omega) (by omega)
    have h6 : hasF q.f 2 = false := by
      rw [hasF_nb eq, L.fbS hg (by omega) (by omega)]
      exact decide_eq_false (by omega)
    obtain ⟨r, hr, er⟩ := ih c (y + 1) q (by omega) (by omega) eq (by omega) (fun r hr => h4 r (by omega))
    refine ⟨r, ?_, by rw [er]; congr 1; omega⟩
    unfold forwP
    rw [if_neg (by rw [hf]; simp), hq]
    dsimp only
    rw [if_pos ⟨h5, h6⟩, hr]
    rfl
theorem forw_none (L : Lay tsn m G S E) {l : List Pc} {P : Nat → Prop} (h : Kp G l P) (hP : ∀ x, P x → x < m) {p : Pc} {g : Nat} (hg : g < m) (ep : nb p = G g) : ∀ (d c y : Nat) (a : Pc), S g ≤ y → y + d + 1 = E g → nb a = G y → (∃ r, y < r ∧ r < E g ∧ ¬ P r) → forwP l p c a = none := by
  obtain ⟨s1, s2, s3⟩ := L.se g hg
  intro d
  induction d with
  | zero => intro c y a h0 h1 h2 h3; obtain ⟨r, hr, hr2, _⟩ := h3; omega
  | succ d ih =>
    intro c y a h0 h1 h2 h3
    cases c with
    | zero => rfl
    | succ c =>
      have hf : hasF a.f 1 = false := by
        rw [hasF_nb h2, L.feS hg (by omega) (by omega)]
        exact decide_eq_false (by omega)
      unfold forwP
      rw [if_neg (by rw [hf]; simp)]
      by_cases hd : P (y + 1)
      · obtain ⟨q, hq, eq⟩ := kp_in L h hP hd (t_next L h2)
        have h5 : alikeB p q = true := by rw [alike_nb ep eq]; exact L.al g hg _ (by omega) (by omega)
        have h6 : hasF q.f 2 = false := by
          rw [hasF_nb eq, L.fbS hg (by omega) (by omega)]
          exact decide_eq_false (by omega)
        rw [hq]
        dsimp only
        obtain ⟨r, hr, hr2, hn⟩ := h3
        have : r ≠ y + 1 := fun e => hn (by rw [e]; exact hd)
        rw [if_pos ⟨h5, h6⟩, ih c (y + 1) q (by omega) (by omega) eq ⟨r, by omega, hr2, hn⟩]
        rfl
      · rw [kp_out L h hP (by omega) hd (t_next L h2)]
theorem join_all (L : Lay tsn m G S E) : ∀ (d : Nat) (l : List Pc) (P : Nat → Prop) (y : Nat) (t e : Int) (M : List Int), Kp G l P → (∀ x, P x → x < m) → t = (G y).t → e = (G (y + d)).t → (∀ r, y ≤ r → r ≤ y + d → P r) →
    (joinP e (d + 1) l t M).2 = M ++ datG G y (d + 1) ∧ Kp G (joinP e (d + 1) l t M).1 (fun x => P x ∧ ¬ (y ≤ x ∧ x ≤ y + d)) := by
  intro d
  induction d with
  | zero =>
    intro l P y t e M h hP ht he hr
    have hd := kp_data L h hP (hr y (by omega) (by omega)) ht
    have hk := kp_drop L h hP (hr y (by omega) (by omega)) ht
    unfold joinP
    rw [if_pos (by rw [ht, he]; rfl), hd]
    refine ⟨by rw [datG_succ]; simp [datG], hk.congr fun x => ?_⟩
    constructor
    · rintro ⟨a, b⟩; exact ⟨a, fun c => b (by omega)⟩
    · rintro ⟨a, b⟩; exact ⟨a, fun c => b (by omega)⟩
  | succ d ih =>
    intro l P y t e M h hP ht he hr
    have hd := kp_data L h hP (hr y (by omega) (by omega)) ht
    have hk := kp_drop L h hP (hr y (by omega) (by omega)) ht
    have hne : ¬ t = e := fun c => by
      have := L.inj (hP _ (hr y (by omega) (by omega))) (hP _ (hr (y + (d + 1)) (by omega) (by omega))) (by rw [← ht, ← he, c])
      omega
    have hn : addK .u32 t 1 = (G (y + 1)).t := by rw [ht, add32, L.t, L.t]; omega
    rw [joinP, if_neg hne, hd]
    obtain ⟨a1, a2⟩ := ih (dropP l t) (fun x => P x ∧ x ≠ y) (y + 1) (addK .u32 t 1) e (M ++ (G y).d) hk (fun x hx => hP x hx.1) hn (by rw [he]; congr 2; omega) (fun r h1 h2 => ⟨hr r (by omega) (by omega), by omega⟩)
    refine ⟨by rw [a1, datG_succ (n := d + 1), List.append_assoc], a2.congr fun x => ?_⟩
    constructor
    · rintro ⟨⟨a, b⟩, c⟩; exact ⟨a, fun c' => c (by omega)⟩
    · rintro ⟨a, b⟩; exact ⟨⟨a, fun c => b (by omega)⟩, fun c => b (by omega)⟩
/-- A piece that is new: not all of its message there. -/
theorem put_part (L : Lay tsn m G S E) {l : List Pc} {P : Nat → Prop} (h : Kp G l P) (hP : ∀ x, P x → x < m) {p : Pc} {g : Nat} (hg : g < m) (hn : ¬ P g) (ep : nb p = G g)
    (hx : ∃ r, S g ≤ r ∧ r < E g ∧ r ≠ g ∧ ¬ P r) : putJ (l ++ [p]) p = none := by
  obtain ⟨s1, s2, s3⟩ := L.se g hg
  have h1 := h.push hn ep
  have hP1 : ∀ x, (P x ∨ x = g) → x < m := fun x hx => by rcases hx with hx | hx; exact hP x hx; omega
  obtain ⟨r, r1, r2, r3, r4⟩ := hx
  have r5 : ¬ (P r ∨ r = g) := fun c => by rcases c with c | c; exact r4 c; exact r3 c
  unfold putJ
  by_cases hlt : r < g
  · rw [back_none L h1 hP1 hg ep (g - S g) _ p (by omega) (by rw [ep]; congr 1; omega) ⟨r - S g, by omega, by rw [show S g + (r - S g) = r by omega]; exact r5⟩]
  · rw [forw_none L h1 hP1 hg ep (E g - g - 1) _ g p (by omega) (by omega) ep ⟨r, by omega, r2, r5⟩]
    cases backP (l ++ [p]) p ((l ++ [p]).length + 1) p <;> rfl
/-- A piece that is new: all of its message is there then. -/
theorem put_whole (L : Lay tsn m G S E) {l : List Pc} {P : Nat → Prop} (h : Kp G l P) (hP : ∀ x, P x → x < m) {p : Pc} {g : Nat} (hg : g < m) (hn : ¬ P g) (ep : nb p = G g)
    (hx : ∀ r, S g ≤ r → r < E g → r ≠ g → P r) : ∃ a l' M, putJ (l ++ [p]) p = some (a, l', M) ∧ nb a = G (S g) ∧ M = datG G (S g) (E g - S g) ∧ Kp G l' (fun x => P x ∧ ¬ (S g ≤ x ∧ x < E g)) := by
  obtain ⟨s1, s2, s3⟩ := L.se g hg
  have h1 := h.push hn ep
  have hP1 : ∀ x, (P x ∨ x = g) → x < m := fun x hx => by rcases hx with hx | hx; exact hP x hx; omega
  have hx1 : ∀ r, S g ≤ r → r < E g → (P r ∨ r = g) := fun r a b => by
    by_cases e : r = g
    · exact .inr e
    · exact .inl (hx r a b e)
  have hlen : E g - S g ≤ (l ++ [p]).length := by
    have := pigeon (ks := keysP (l ++ [p])) (m := E g - S g) (g := fun i => (G (S g + i)).t) (fun i j hi hj e => by
      have := L.inj (x := S g + i) (y := S g + j) (by omega) (by omega) e
      omega) (fun i hi => h1.key (hx1 (S g + i) (by omega) (by omega)))
    unfold keysP at this
    rw [List.length_map] at this
    exact this
  obtain ⟨a, ha, ea⟩ := back_all L h1 hP1 hg ep (g - S g) ((l ++ [p]).length + 1) p (by omega) (by rw [ep]; congr 1; omega) (by omega) (fun r hr => hx1 _ (by omega) (by omega))
  obtain ⟨b, hb, eb⟩ := forw_all L h1 hP1 hg ep (E g - g - 1) ((l ++ [p]).length + 1) g p (by omega) (by omega) ep (by omega) (fun r a b => hx1 _ (by omega) (by omega))
  have e1 : (g - S g) + (E g - g - 1) + 1 = (E g - S g - 1) + 1 := by omega
  obtain ⟨j1, j2⟩ := join_all L (E g - S g - 1) (l ++ [p]) _ (S g) a.t b.t [] h1 hP1 (t_nb ea) (by rw [t_nb eb]; congr 2; omega) (fun r a b => hx1 r (by omega) (by omega))
  refine ⟨a, (joinP b.t (E g - S g - 1 + 1) (l ++ [p]) a.t []).1, (joinP b.t (E g - S g - 1 + 1) (l ++ [p]) a.t []).2, ?_, ea, ?_, j2.congr fun x => ?_⟩
  · unfold putJ
    rw [ha]
    dsimp only
    rw [hb]
    dsimp only
    rw [e1]
  · rw [j1, List.nil_append, show E g - S g - 1 + 1 = E g - S g by omega]
  · constructor
    · rintro ⟨c, d⟩
      rcases c with c | c
      · exact ⟨c, fun e => d (by omega)⟩
      · exact absurd c (fun e => d (by omega))
    · rintro ⟨c, d⟩
      exact ⟨.inl c, fun e => d (by omega)⟩
theorem put_new (L : Lay tsn m G S E) {l : List Pc} {P : Nat → Prop} (h : Kp G l P) (hP : ∀ x, P x → x < m) {p : Pc} {g : Nat} (hg : g < m) (hn : ¬ P g) (ep : nb p = G g) : putNo l p.t = false := by
  have := look_none (kp_out L h hP hg hn (t_nb ep))
  unfold putNo
  exact decide_eq_false this
theorem put_old (L : Lay tsn m G S E) {l : List Pc} {P : Nat → Prop} (h : Kp G l P) (hP : ∀ x, P x → x < m) {p : Pc} {g : Nat} (hn : P g) (ep : nb p = G g) : putNo l p.t = true := by
  obtain ⟨q, hq, _⟩ := kp_in L h hP hn (t_nb ep)
  unfold putNo
  exact decide_eq_true (look_some hq).2.2.1
end Go.Spec
