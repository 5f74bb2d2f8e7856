/- ConfAgree: the plain law of one way: who asks, who does, what is on its way. No conditions. -/
import Derived.Test.YtiplgpnegolegaaCaP
import Derived.Test.YtiplgpnegolegaaCaE
set_option linter.unusedVariables false
set_option linter.unusedSimpArgs false
namespace Go.Spec
open Go Go.Ev
def woL (j : Nat) (xs : List Int) : List Int := xs.take j ++ xs.drop (j + 1)
theorem woL_len {xs : List Int} {j : Nat} (h : j < xs.length) : (woL j xs).length = xs.length - 1 := by
  simp [woL]; omega
theorem woL_getD {xs : List Int} {j : Nat} (h : j < xs.length) (i : Nat) : (woL j xs).getD i 0 = xs.getD (if i < j then i else i + 1) 0 := by
  simp only [woL, List.getD_eq_getElem?_getD, List.getElem?_append, List.length_take, List.getElem?_take, List.getElem?_drop]
  have hm : min j xs.length = j := by omega
  rw [hm]
  by_cases hi : i < j
  · simp [hi]
  · simp only [hi, if_false]
    rw [show j + 1 + (i - j) = i + 1 by omega]
theorem snoc_getD {xs : List Int} {y : Int} (i : Nat) : (xs ++ [y]).getD i 0 = if i = xs.length then y else xs.getD i 0 := by
  simp only [List.getD_eq_getElem?_getD, List.getElem?_append]
  by_cases h : i < xs.length
  · rw [if_pos h, if_neg (by omega)]
  · rw [if_neg h]
    by_cases e : i = xs.length
    · subst e; simp
    · rw [if_neg e, List.getElem?_eq_none (by simp; omega), List.getElem?_eq_none (by omega)]
def nm (F : Int) (t : Nat) : Int := (F + (t : Int)) % 4294967296
theorem nm_inj {F : Int} {i j : Nat} (hi : i ≤ 100000) (hj : j ≤ 100000) (h : nm F i = nm F j) : i = j := by unfold nm at h; omega
theorem nm_succ (F : Int) (i : Nat) : addK .u32 (nm F i) 1 = nm F (i + 1) := by rw [addK_eq, IntKind.wrap_u32]; unfold nm; omega
theorem nm_pred (F : Int) (i : Nat) : subK .u32 (nm F (i + 1)) 1 = nm F i := by rw [subK_eq, IntKind.wrap_u32]; unfold nm; omega
theorem nm_zero {F : Int} (h : 0 ≤ F ∧ F ≤ 4294967295) : nm F 0 = F := by unfold nm; omega
/-- Rows of questions, of replies, all of which are so. -/
def QAll (P : Int → Int → Int → Prop) (q : Qt) : Prop := (q.n.length = q.m ∧ q.k.length = q.m ∧ q.a.length = q.m) ∧ ∀ j, j < q.m → P (q.n.getD j 0) (q.k.getD j 0) (q.a.getD j 0)
def RAll (P : Int → Int → Prop) (r : Rt) : Prop := (r.n.length = r.m ∧ r.a.length = r.m) ∧ ∀ j, j < r.m → P (r.n.getD j 0) (r.a.getD j 0)
def Qt.snoc (q : Qt) (x y z : Int) : Qt := ⟨q.m + 1, q.n ++ [x], q.k ++ [y], q.a ++ [z]⟩
def Rt.snoc (r : Rt) (x y : Int) : Rt := ⟨r.m + 1, r.n ++ [x], r.a ++ [y]⟩
def Qt.wo (q : Qt) (j : Nat) : Qt := ⟨q.m - 1, woL j q.n, woL j q.k, woL j q.a⟩
def Rt.wo (r : Rt) (j : Nat) : Rt := ⟨r.m - 1, woL j r.n, woL j r.a⟩
theorem QAll.snoc {P : Int → Int → Int → Prop} {q : Qt} (h : QAll P q) {x y z : Int} (hp : P x y z) : QAll P (q.snoc x y z) := by
  obtain ⟨⟨h1, h2, h3⟩, h⟩ := h
  refine ⟨⟨by simp [Qt.snoc, h1], by simp [Qt.snoc, h2], by simp [Qt.snoc, h3]⟩, fun j hj => ?_⟩
  simp only [Qt.snoc] at hj ⊢
  rw [snoc_getD, snoc_getD, snoc_getD, h1, h2, h3]
  by_cases e : j = q.m
  · simp only [e, if_true]; exact hp
  · simp only [e, if_false]; exact h j (by omega)
theorem RAll.snoc {P : Int → Int → Prop} {q : Rt} (h : RAll P q) {x y : Int} (hp : P x y) : RAll P (q.snoc x y) := by
  obtain ⟨⟨h1, h2⟩, h⟩ := h
  refine ⟨⟨by simp [Rt.snoc, h1], by simp [Rt.snoc, h2]⟩, fun j hj => ?_⟩
  simp only [Rt.snoc] at hj ⊢
  rw [snoc_getD, snoc_getD, h1, h2]
  by_cases e : j = q.m
  · simp only [e, if_true]; exact hp
  · simp only [e, if_false]; exact h j (by omega)
theorem QAll.wo {P : Int → Int → Int → Prop} {q : Qt} (h : QAll P q) {j : Nat} (hj : j < q.m) : QAll P (q.wo j) := by
  obtain ⟨⟨h1, h2, h3⟩, h⟩ := h
  refine ⟨⟨by simp only [Qt.wo]; rw [woL_len (by omega), h1], by simp only [Qt.wo]; rw [woL_len (by omega), h2], by simp only [Qt.wo]; rw [woL_len (by omega), h3]⟩, fun i hi => ?_⟩
  simp only [Qt.wo] at hi ⊢
  rw [woL_getD (by omega), woL_getD (by omega), woL_getD (by omega)]
  exact h _ (by split <;> omega)
theorem RAll.wo {P : Int → Int → Prop} {q : Rt} (h : RAll P q) {j : Nat} (hj : j < q.m) : RAll P (q.wo j) := by
  obtain ⟨⟨h1, h2⟩, h⟩ := h
  refine ⟨⟨by simp only [Rt.wo]; rw [woL_len (by omega), h1], by simp only [Rt.wo]; rw [woL_len (by omega), h2]⟩, fun i hi => ?_⟩
  simp only [Rt.wo] at hi ⊢
  rw [woL_getD (by omega), woL_getD (by omega)]
  exact h _ (by split <;> omega)
theorem QAll.imp {P P' : Int → Int → Int → Prop} {q : Qt} (h : QAll P q) (i : ∀ x y z, P x y z → P' x y z) : QAll P' q := ⟨h.1, fun j hj => i _ _ _ (h.2 j hj)⟩
theorem RAll.imp {P P' : Int → Int → Prop} {q : Rt} (h : RAll P q) (i : ∀ x y, P x y → P' x y) : RAll P' q := ⟨h.1, fun j hj => i _ _ (h.2 j hj)⟩
/-- One way: T were asked, D are done. -/
structure Half (F : Int) (u T D : Nat) (f : Int) (os : List Int) (nx : Int) (o : Option (Int × Int × Int)) (g : Int) (ps : List Int) (ex : Int) (kp : Option (Int × Int)) (q : Qt) (r : Rt) : Prop where
  le : D ≤ T
  ge : T ≤ D + 1
  tu : T ≤ u
  hnx : nx = nm F T
  hex : ex = nm F D
  may : mayB f os = true
  ok : okUs os = true
  qm : q.m ≤ u
  rm : r.m ≤ u
  qs : QAll (fun x y z => ∃ t, t < T ∧ x = nm F t ∧ 0 ≤ y ∧ ∀ c, o = some c → t + 1 = T → y = c.2.1 ∧ z = c.2.2) q
  rs : RAll (fun x y => ∃ t, t < D ∧ x = nm F t ∧ (o ≠ none → t + 1 = T → y = 1)) r
  hkp : ∀ c, kp = some c → ∃ e, D = e + 1 ∧ c.1 = nm F e ∧ (o ≠ none → D = T → c.2 = 1)
  no : o = none → D = T ∧ g = f ∧ ps = os
  so : ∀ c, o = some c → ∃ s, T = s + 1 ∧ c.1 = nm F s ∧ 0 ≤ c.2.1 ∧ 0 ≤ c.2.2 ∧ doE f os c.2.1 c.2.2 = 0 ∧ ((D = s ∧ g = f ∧ ps = os) ∨ (D = T ∧ g = doA f os c.2.1 c.2.2 ∧ ps = doL f os c.2.1 c.2.2 ∧ kp ≠ none))
end Go.Spec
set_option linter.unusedVariables false
set_option linter.unusedSimpArgs false
namespace Go.Spec
open Go Go.Ev
variable {F : Int} {u T D : Nat} {f nx g ex : Int} {os ps : List Int} {o : Option (Int × Int × Int)} {kp : Option (Int × Int)} {q : Qt} {r : Rt}
theorem Half.later (h : Half F u T D f os nx o g ps ex kp q r) : Half F (u + 1) T D f os nx o g ps ex kp q r :=
  { h with tu := Nat.le_succ_of_le h.tu, qm := Nat.le_succ_of_le h.qm, rm := Nat.le_succ_of_le h.rm }
theorem Half.ask (h : Half F u T D f os nx none g ps ex kp q r) (hu : u ≤ 1000) {k a : Int} (hk : 0 ≤ k) (ha : 0 ≤ a) (hd : doE f os k a = 0) :
    Half F (u + 1) (T + 1) D f os (addK .u32 nx 1) (some (nx, k, a)) g ps ex kp (q.snoc nx k a) r := by
  obtain ⟨e1, e2, e3⟩ := h.no rfl
  have htu := h.tu
  refine ⟨by have := h.le; omega, by omega, by omega, by rw [h.hnx, nm_succ], h.hex, h.may, h.ok, Nat.succ_le_succ h.qm, Nat.le_succ_of_le h.rm, ?_, ?_, ?_, fun e => (by cases e), ?_⟩
  · refine (h.qs.imp ?_).snoc ⟨T, by omega, h.hnx, hk, fun c hc _ => by cases hc; exact ⟨rfl, rfl⟩⟩
    rintro x y z ⟨t, h1, h2, h3, h4⟩
    exact ⟨t, by omega, h2, h3, fun c hc e => absurd e (by omega)⟩
  · refine h.rs.imp ?_
    rintro x y ⟨t, h1, h2, h3⟩
    exact ⟨t, h1, h2, fun _ e => absurd e (by omega)⟩
  · intro c hc
    obtain ⟨e, h1, h2, h3⟩ := h.hkp c hc
    exact ⟨e, h1, h2, fun _ e => absurd e (by omega)⟩
  · intro c hc
    cases hc
    exact ⟨T, rfl, h.hnx, hk, ha, hd, .inl ⟨e1, e2, e3⟩⟩
theorem Half.again {c : Int × Int × Int} (h : Half F u T D f os nx (some c) g ps ex kp q r) : Half F (u + 1) T D f os nx (some c) g ps ex kp (q.snoc c.1 c.2.1 c.2.2) r := by
  obtain ⟨s, e1, e2, e3, e4, e5, e6⟩ := h.so c rfl
  exact { h.later with qm := Nat.succ_le_succ h.qm, qs := h.qs.snoc ⟨s, by omega, e2, e3, fun c' hc' _ => by cases hc'; exact ⟨rfl, rfl⟩⟩ }
theorem Half.qdup (h : Half F u T D f os nx o g ps ex kp q r) {j : Nat} (hj : j < q.m) : Half F (u + 1) T D f os nx o g ps ex kp (q.snoc (q.n.getD j 0) (q.k.getD j 0) (q.a.getD j 0)) r :=
  { h.later with qm := Nat.succ_le_succ h.qm, qs := h.qs.snoc (h.qs.2 j hj) }
theorem Half.qwo (h : Half F u T D f os nx o g ps ex kp q r) {j : Nat} (hj : j < q.m) : Half F (u + 1) T D f os nx o g ps ex kp (q.wo j) r :=
  { h.later with qm := by have := h.qm; show q.m - 1 ≤ u + 1; omega, qs := h.qs.wo hj }
theorem Half.rdup (h : Half F u T D f os nx o g ps ex kp q r) {j : Nat} (hj : j < r.m) : Half F (u + 1) T D f os nx o g ps ex kp q (r.snoc (r.n.getD j 0) (r.a.getD j 0)) :=
  { h.later with rm := Nat.succ_le_succ h.rm, rs := h.rs.snoc (h.rs.2 j hj) }
theorem Half.rwo (h : Half F u T D f os nx o g ps ex kp q r) {j : Nat} (hj : j < r.m) : Half F (u + 1) T D f os nx o g ps ex kp q (r.wo j) :=
  { h.later with rm := by have := h.rm; show r.m - 1 ≤ u + 1; omega, rs := h.rs.wo hj }
/-- A question that is due comes: it is the one that is out; it may be done. -/
theorem Half.due (h : Half F u T D f os nx o g ps ex kp q r) (hu : u ≤ 1000) {x y z : Int} (hq : ∃ t, t < T ∧ x = nm F t ∧ 0 ≤ y ∧ ∀ c, o = some c → t + 1 = T → y = c.2.1 ∧ z = c.2.2) (hx : x = ex) :
    0 ≤ y ∧ doE g ps y z = 0 ∧ o = some (x, y, z) ∧ T = D + 1 ∧ g = f ∧ ps = os := by
  obtain ⟨t, h1, h2, h3, h4⟩ := hq
  have htu := h.tu; have hge := h.ge; have hle := h.le
  have e : t = D := nm_inj (F := F) (by omega) (by omega) (by rw [← h2, hx, h.hex])
  subst e
  have hT : T = t + 1 := by omega
  rcases ho : o with _ | c
  · have := (h.no ho).1; omega
  · obtain ⟨s, e1, e2, e3, e4, e5, e6⟩ := h.so c ho
    obtain ⟨e7, e8⟩ := h4 c ho hT.symm
    rcases e6 with ⟨_, e9, e10⟩ | ⟨e9, _⟩
    · refine ⟨h3, by rw [e9, e10, e7, e8]; exact e5, ?_, hT, e9, e10⟩
      have : s = t := by omega
      rw [h2, e7, e8, ← this, ← e2]
    · omega
theorem Half.takeNew (h : Half F u T D f os nx o g ps ex kp q r) (hu : u ≤ 1000) {x y z : Int} {q' : Qt} (hq : ∃ t, t < T ∧ x = nm F t ∧ 0 ≤ y ∧ ∀ c, o = some c → t + 1 = T → y = c.2.1 ∧ z = c.2.2) (hx : x = ex)
    (hm : q'.m ≤ u + 1) (hq' : QAll (fun x y z => ∃ t, t < T ∧ x = nm F t ∧ 0 ≤ y ∧ ∀ c, o = some c → t + 1 = T → y = c.2.1 ∧ z = c.2.2) q') :
    Half F (u + 1) T (D + 1) f os nx o (doA g ps y z) (doL g ps y z) (addK .u32 ex 1) (some (x, 1)) q' (r.snoc x 1) := by
  obtain ⟨d1, d2, d3, d4, d5, d6⟩ := h.due hu hq hx
  have htu := h.tu
  refine ⟨by omega, by omega, by omega, h.hnx, by rw [h.hex, nm_succ], h.may, h.ok, hm, Nat.succ_le_succ h.rm, hq', ?_, ?_, fun e => (by rw [d3] at e; cases e), ?_⟩
  · refine (h.rs.imp ?_).snoc ⟨D, by omega, by rw [hx, h.hex], fun _ _ => rfl⟩
    rintro x y ⟨t, h1, h2, h3⟩
    exact ⟨t, by omega, h2, h3⟩
  · intro c hc
    cases hc
    exact ⟨D, rfl, by rw [hx, h.hex], fun _ _ => rfl⟩
  · intro c hc
    obtain ⟨s, e1, e2, e3, e4, e5, e6⟩ := h.so c hc
    rw [d3] at hc; cases hc
    exact ⟨s, e1, e2, e3, e4, e5, .inr ⟨by omega, by rw [d5, d6], by rw [d5, d6], by simp⟩⟩
theorem Half.takeOld {c : Int × Int} (h : Half F u T D f os nx o g ps ex (some c) q r) {q' : Qt} (hm : q'.m ≤ u + 1) (hq' : QAll (fun x y z => ∃ t, t < T ∧ x = nm F t ∧ 0 ≤ y ∧ ∀ c, o = some c → t + 1 = T → y = c.2.1 ∧ z = c.2.2) q') :
    Half F (u + 1) T D f os nx o g ps ex (some c) q' (r.snoc c.1 c.2) := by
  obtain ⟨e, h1, h2, h3⟩ := h.hkp c rfl
  exact { h.later with qm := hm, qs := hq', rm := Nat.succ_le_succ h.rm, rs := h.rs.snoc ⟨e, by omega, h2, fun n et => h3 n (by omega)⟩ }
/-- An answer to the question that is out comes: it was done. -/
theorem Half.answer {c : Int × Int × Int} (h : Half F u T D f os nx (some c) g ps ex kp q r) (hu : u ≤ 1000) {x y : Int} (hr : ∃ t, t < D ∧ x = nm F t ∧ (some c ≠ none → t + 1 = T → y = 1)) (hx : x = c.1) :
    y = 1 ∧ D = T ∧ g = doA f os c.2.1 c.2.2 ∧ ps = doL f os c.2.1 c.2.2 ∧ 0 ≤ c.2.1 := by
  obtain ⟨t, h1, h2, h3⟩ := hr
  obtain ⟨s, e1, e2, e3, e4, e5, e6⟩ := h.so c rfl
  have htu := h.tu; have hle := h.le
  have e : t = s := nm_inj (F := F) (by omega) (by omega) (by rw [← h2, hx, e2])
  rcases e6 with ⟨e7, _⟩ | ⟨e7, e8, e9, _⟩
  · omega
  · exact ⟨h3 (by simp) (by omega), e7, e8, e9, e3⟩
theorem Half.answered {c : Int × Int × Int} (h : Half F u T D f os nx (some c) g ps ex kp q r) (hu : u ≤ 1000) {x y : Int} (hr : ∃ t, t < D ∧ x = nm F t ∧ (some c ≠ none → t + 1 = T → y = 1)) (hx : x = c.1) {r' : Rt} (hm : r'.m ≤ u + 1)
    (hr' : RAll (fun x y => ∃ t, t < D ∧ x = nm F t ∧ (some c ≠ none → t + 1 = T → y = 1)) r') :
    Half F (u + 1) T D (doA f os c.2.1 c.2.2) (doL f os c.2.1 c.2.2) nx none g ps ex kp q r' := by
  obtain ⟨d1, d2, d3, d4, d5⟩ := h.answer hu hr hx
  obtain ⟨s, e1, e2, e3, e4, e5, e6⟩ := h.so c rfl
  refine ⟨h.le, h.ge, Nat.le_succ_of_le h.tu, h.hnx, h.hex, may_do h.may e5, okUs_doL h.ok e4, Nat.le_succ_of_le h.qm, hm, ?_, ?_, ?_, fun _ => ⟨d2, d3, d4⟩, fun c hc => by cases hc⟩
  · refine h.qs.imp ?_
    rintro x y z ⟨t, h1, h2, h3, h4⟩
    exact ⟨t, h1, h2, h3, fun c hc => by cases hc⟩
  · refine hr'.imp ?_
    rintro x y ⟨t, h1, h2, h3⟩
    exact ⟨t, h1, h2, fun n => absurd rfl n⟩
  · intro c hc
    obtain ⟨e, h1, h2, h3⟩ := h.hkp c hc
    exact ⟨e, h1, h2, fun n => absurd rfl n⟩
/-- Nothing is on its way any more. -/
theorem Half.clear (h : Half F u T D f os nx o g ps ex kp q r) : Half F u T D f os nx o g ps ex kp ⟨0, [], [], []⟩ ⟨0, [], []⟩ :=
  { h with qm := Nat.zero_le _, rm := Nat.zero_le _, qs := ⟨⟨rfl, rfl, rfl⟩, fun j hj => absurd hj (Nat.not_lt_zero _)⟩, rs := ⟨⟨rfl, rfl⟩, fun j hj => absurd hj (Nat.not_lt_zero _)⟩ }
end Go.Spec
set_option linter.unusedVariables false
set_option linter.unusedSimpArgs false
namespace Go.Ev
open Go Go.Proofs Go.Spec
theorem fitL_id {α : Type} (d : α) : ∀ (n : Nat) (l : List α), l.length = n → fitL d n l = l
  | 0, [], _ => rfl
  | n + 1, x :: r, h => by rw [fitL, fitL_id d n r (by simpa using h)]
  | 0, _ :: _, h => by simp at h
  | _ + 1, [], h => by simp at h
theorem fitL_take {α : Type} (d : α) : ∀ (n : Nat) (l : List α), n ≤ l.length → fitL d n l = l.take n
  | 0, l, _ => by simp [fitL]
  | n + 1, x :: r, h => by rw [fitL, fitL_take d n r (by simpa using h)]; rfl
  | _ + 1, [], h => by simp at h
theorem i64_small {x : Int} (h : -9223372036854775808 ≤ x ∧ x ≤ 9223372036854775807) : IntKind.wrap .i64 x = x := by rw [IntKind.wrap_i64]; omega
theorem woL_eq {a : List Int} {n : Nat} (ha : a.length = n) {j : Nat} (hj : j < n) : fitL 0 j a ++ fitL 0 (n - (j + 1)) (a.drop (j + 1)) = woL j a := by
  rw [fitL_take 0 j a (by omega), fitL_id 0 _ _ (by rw [List.length_drop]; omega)]
  rfl
theorem plc_at {x : Int} (h : 0 ≤ x ∧ x ≤ 65535) {m : Nat} (hm : 0 < m) : ∃ j : Nat, j < m ∧ plc x m = (j : Int) := by
  refine ⟨x.toNat % m, Nat.mod_lt _ hm, ?_⟩
  unfold plc
  rw [remK_eq, i64_small (by omega), Int.tmod_eq_emod_of_nonneg h.1]
  obtain ⟨y, rfl⟩ := Int.eq_ofNat_of_zero_le h.1
  rfl
theorem plc_add {j m : Nat} (hj : j < m) (hm : m ≤ 1000) : addK .i64 (j : Int) 1 = ((j + 1 : Nat) : Int) := by
  rw [addK_eq, i64_small (by omega)]; omega
/-- The three ways in which a row is taken out. -/
theorem wo_1 {m : Nat} {n k a : List Int} (h : n.length = m ∧ k.length = m ∧ a.length = m) {j : Nat} (hj : j < m) (h1 : j = 0) (h2 : m - (j + 1) = 0) : (⟨0, [], [], []⟩ : Qt) = Qt.wo ⟨m, n, k, a⟩ j := by
  subst h1
  have hm : m = 1 := by omega
  subst hm
  obtain ⟨h1, h2, h3⟩ := h
  match n, k, a, h1, h2, h3 with
  | [_], [_], [_], _, _, _ => rfl
theorem wo_2 {m : Nat} {n k a : List Int} {j : Nat} (h1 : j = 0) : (⟨m - (j + 1), n.drop (j + 1), k.drop (j + 1), a.drop (j + 1)⟩ : Qt) = Qt.wo ⟨m, n, k, a⟩ j := by
  subst h1; rfl
theorem wo_3 {m : Nat} {n k a : List Int} (h : n.length = m ∧ k.length = m ∧ a.length = m) {j : Nat} (hj : j < m) : (⟨j + (m - (j + 1)), fitL 0 j n ++ fitL 0 (m - (j + 1)) (n.drop (j + 1)), fitL 0 j k ++ fitL 0 (m - (j + 1)) (k.drop (j + 1)), fitL 0 j a ++ fitL 0 (m - (j + 1)) (a.drop (j + 1))⟩ : Qt) = Qt.wo ⟨m, n, k, a⟩ j := by
  obtain ⟨h1, h2, h3⟩ := h
  unfold Qt.wo
  rw [woL_eq h1 hj, woL_eq h2 hj, woL_eq h3 hj, show j + (m - (j + 1)) = m - 1 by omega]
theorem ro_1 {m : Nat} {n a : List Int} (h : n.length = m ∧ a.length = m) {j : Nat} (hj : j < m) (h1 : j = 0) (h2 : m - (j + 1) = 0) : (⟨0, [], []⟩ : Rt) = Rt.wo ⟨m, n, a⟩ j := by
  subst h1
  have hm : m = 1 := by omega
  subst hm
  obtain ⟨h1, h2⟩ := h
  match n, a, h1, h2 with
  | [_], [_], _, _ => rfl
theorem ro_2 {m : Nat} {n a : List Int} {j : Nat} (h1 : j = 0) : (⟨m - (j + 1), n.drop (j + 1), a.drop (j + 1)⟩ : Rt) = Rt.wo ⟨m, n, a⟩ j := by
  subst h1; rfl
theorem ro_3 {m : Nat} {n a : List Int} (h : n.length = m ∧ a.length = m) {j : Nat} (hj : j < m) : (⟨j + (m - (j + 1)), fitL 0 j n ++ fitL 0 (m - (j + 1)) (n.drop (j + 1)), fitL 0 j a ++ fitL 0 (m - (j + 1)) (a.drop (j + 1))⟩ : Rt) = Rt.wo ⟨m, n, a⟩ j := by
  obtain ⟨h1, h2⟩ := h
  unfold Rt.wo
  rw [woL_eq h1 hj, woL_eq h2 hj, show j + (m - (j + 1)) = m - 1 by omega]
/-- A row more. -/
theorem sn_q {m : Nat} {n k a : List Int} (h : n.length = m ∧ k.length = m ∧ a.length = m) (x y z : Int) : (⟨m + 1, fitL 0 m n ++ [x], fitL 0 m k ++ [y], fitL 0 m a ++ [z]⟩ : Qt) = Qt.snoc ⟨m, n, k, a⟩ x y z := by
  obtain ⟨h1, h2, h3⟩ := h
  unfold Qt.snoc
  rw [fitL_id 0 m n h1, fitL_id 0 m k h2, fitL_id 0 m a h3]
theorem sn_r {m : Nat} {n a : List Int} (h : n.length = m ∧ a.length = m) (x y : Int) : (⟨m + 1, fitL 0 m n ++ [x], fitL 0 m a ++ [y]⟩ : Rt) = Rt.snoc ⟨m, n, a⟩ x y := by
  obtain ⟨h1, h2⟩ := h
  unfold Rt.snoc
  rw [fitL_id 0 m n h1, fitL_id 0 m a h2]
end Go.Ev
