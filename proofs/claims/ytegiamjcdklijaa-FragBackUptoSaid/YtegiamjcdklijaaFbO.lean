/- Arguments with slices in them, as data, where they are of bounded size. No conditions. -/
import Derived.Test.YtegiamjcdklijaaEvD
import Derived.OpenShut
import Derived.SizedLaws
namespace Go.EvU
open Go Go.Ev Go.RowKit Go.ChangeShapes Go.WideShapes
variable {P : Program}

/-- No slice of it is longer than what the claim speaks of. -/
def Sz {H : Type} (P : Program) (t : TypeId) (d : DataW H) : Prop := ∀ n ∈ d.weights P t, n ≤ 4294967296
def CellD (w : World) : CK → Value → Prop
  | .int k, v => ∃ x, v = .int k x ∧ (Lit.int k x).wf = true
  | .bool, v => ∃ b, v = .bool b
  | .data k, v => ∃ xs, DatOk w k xs v ∧ xs.length ≤ 4294967296 ∧ ∀ x ∈ xs, (Lit.int k x).wf = true
section
variable {H : Type} {enc : TypeId × Value → H} {w : World} {held : Bool}

theorem weights_all {e : TypeId} : ∀ {ds : List (DataW H)} {d : DataW H}, d ∈ ds → ∀ n ∈ d.weights P e, n ∈ DataW.weightsAll P e ds
  | d0 :: r, d, hd, n, hn => by
    simp only [DataW.weightsAll, List.mem_append]
    rcases List.mem_cons.1 hd with rfl | hd
    · exact .inl hn
    · exact .inr (weights_all hd n hn)
theorem sz_slice {t e : TypeId} {el sp : List (DataW H)} (ht : P.underlying t = some (.slice e)) (hz : Sz P t (.slice el sp)) (hb : 0 < P.bytesOf e) : el.length ≤ 4294967296 ∧ ∀ d ∈ el, Sz P e d := by
  unfold Sz at hz
  simp only [DataW.weights, ht] at hz
  refine ⟨?_, fun d hd n hn => hz n (List.mem_cons_of_mem _ (List.mem_append_left _ (weights_all hd n hn)))⟩
  have h1 := hz _ (List.mem_cons_self ..)
  have h2 : (el.length + sp.length) * 1 ≤ (el.length + sp.length) * P.bytesOf e := Nat.mul_le_mul_left _ hb
  omega
theorem dat_typed {t e : TypeId} {k : IntKind} (ht : P.underlying t = some (.slice e)) (hk : kindOf P e = some (some k)) {fuel : Nat} {cs : List Value} {x : DataW H × List MemPlace} (h : DataW.trod enc P w 0 (fun _ => true) held fuel t cs = some x) :
    ∃ v, cs = [v] ∧ (∃ a len cap, v = .slice a len cap) ∧ ∃ xs, DatOk w k xs v ∧ ∀ y ∈ xs, (Lit.int k y).wf = true := by
  have hcs : ∃ a len cap, cs = [.slice a len cap] := by
    rcases DataW.trod_slice ht h with ⟨h0, _⟩ | ⟨a, len, cap, _, _, _, _, h1, _⟩
    · exact ⟨_, _, _, h0⟩
    · exact ⟨_, _, _, h1⟩
  obtain ⟨a, len, cap, rfl⟩ := hcs
  refine ⟨_, rfl, ⟨a, len, cap, rfl⟩, ?_⟩
  have hks : flatKinds P e = some [some k] := by
    unfold kindOf at hk
    split at hk
    · rename_i k' hu
      split at hk
      · rename_i hc
        cases hk
        simp [flatKinds, hu, kindOf, hc]
      · cases hk
    · split at hk <;> cases hk
    · cases hk
  rcases open_rows (v := .slice a len cap) ht hks (by simp) ⟨a, len, cap, rfl⟩ ⟨fuel, by simpa [Value.cells] using h⟩ with ⟨o, hv⟩ | ⟨d0, len', cap', cols, hv, hle, hm, hcol, hdv, hg⟩
  · rw [hv]
    exact ⟨[], .inl ⟨rfl, _, _, rfl⟩, fun y hy => by cases hy⟩
  · rw [hv]
    match cols, hcol with
    | [_], ⟨⟨xs, rfl, hl, hwf⟩, _⟩ =>
      refine ⟨xs, ?_, hwf⟩
      obtain ⟨h1, h2, h3, h4⟩ := hg (fun _ => none)
      by_cases h0 : len' = 0
      · have : xs = [] := List.eq_nil_of_length_eq_zero (by omega)
        subst this
        subst h0
        exact .inl ⟨rfl, _, _, rfl⟩
      · refine .inr ⟨fun e => by subst e; simp at hl; omega, d0.blk, d0.off, cap', by rw [hl], by omega, h3, fun i hi => ?_⟩
        obtain ⟨v, y1, y2, _⟩ := (h4 i (by simp only [Ct.len]; omega)).2 0 _ rfl
        have y1 : some (Value.int k (xs.getD i 0)) = some v := y1
        cases y1
        have := y2
        simp only [List.length_singleton, Nat.mul_one, Nat.add_zero] at this
        simpa using this
theorem dat_len {t e : TypeId} (ht : P.underlying t = some (.slice e)) (hb : 0 < P.bytesOf e) {fuel : Nat} {v : Value} {x : DataW H × List MemPlace} (h : DataW.trod enc P w 0 (fun _ => true) held fuel t [v] = some x) (hz : Sz P t x.1)
    {k : IntKind} {xs : List Int} (hd : DatOk w k xs v) : xs.length ≤ 4294967296 := by
  rcases hd with ⟨rfl, _⟩ | ⟨_, b, o, c, rfl, _⟩
  · simp
  · rcases DataW.trod_slice ht h with ⟨h0, _⟩ | ⟨a, len, cap, elems, rest, n, _, h1, rfl, _, _, _, hl, _⟩
    · simp at h0
    · simp at h1
      have := (sz_slice ht hz hb).1
      simp at this
      omega
theorem kindC_typed {t : TypeId} {k : CK} (hk : kindC P t = some k) {fuel : Nat} {cs : List Value} {x : DataW H × List MemPlace} (h : DataW.trod enc P w 0 (fun _ => true) held fuel t cs = some x) (hz : Sz P t x.1) :
    P.cellsOf t = 1 ∧ ∃ v, cs = [v] ∧ CellD w k v := by
  unfold kindC at hk
  split at hk
  · rename_i k' hu
    split at hk
    · rename_i hc
      cases hk
      obtain ⟨n, h1, _, h3⟩ := DataW.trod_int hu h
      exact ⟨hc, _, h1, n, rfl, h3⟩
    · cases hk
  · rename_i hu
    split at hk
    · rename_i hc
      cases hk
      obtain ⟨b, h1, _⟩ := DataW.trod_bool hu h
      exact ⟨hc, _, h1, b, rfl⟩
    · cases hk
  · rename_i e hu
    split at hk
    · rename_i k' hc hke hb
      cases hk
      obtain ⟨v, h1, _, xs, h3, h4⟩ := dat_typed hu hke h
      subst h1
      exact ⟨hc, v, rfl, xs, h3, dat_len hu (by simpa using hb) h hz h3, h4⟩
    · cases hk
  · cases hk

def CellsD (w : World) : List CK → List Value → Prop
  | [], [] => True
  | k :: r, v :: vs => CellD w k v ∧ CellsD w r vs
  | _, _ => False
theorem CellsD.mk : ∀ {ks : List CK} {vs : List Value}, vs.length = ks.length → (∀ (j : Nat) (k : CK) (v : Value), ks[j]? = some k → vs[j]? = some v → CellD w k v) → CellsD w ks vs
  | [], [], _, _ => trivial
  | k :: r, v :: vs, hl, h => ⟨h 0 k v rfl rfl, CellsD.mk (by simpa using hl) fun j k' v' h1 h2 => h (j + 1) k' v' (by simpa using h1) (by simpa using h2)⟩
  | [], _ :: _, h, _ => by simp at h
  | _ :: _, [], h, _ => by simp at h
theorem CellsD.get : ∀ {ks : List CK} {vs : List Value}, CellsD w ks vs → vs.length = ks.length ∧ ∀ (j : Nat) (k : CK), ks[j]? = some k → ∃ v, vs[j]? = some v ∧ CellD w k v
  | [], [], _ => ⟨rfl, fun j k h => by simp at h⟩
  | k :: r, v :: vs, h => by
    obtain ⟨h1, h2⟩ := CellsD.get h.2
    refine ⟨by simp [h1], fun j k' hj => ?_⟩
    cases j with
    | zero => simp at hj; subst hj; exact ⟨v, rfl, h.1⟩
    | succ j => simpa using h2 j k' (by simpa using hj)
  | [], _ :: _, h => h.elim
  | _ :: _, [], h => h.elim
theorem CellsD.app : ∀ {ks : List CK} {ls : List CK} {a b : List Value}, CellsD w ks a → CellsD w ls b → CellsD w (ks ++ ls) (a ++ b)
  | [], _, [], _, _, h => h
  | _ :: r, _, _ :: vs, _, h, h2 => ⟨h.1, CellsD.app h.2 h2⟩
  | [], _, _ :: _, _, h, _ => h.elim
  | _ :: _, _, [], _, h, _ => h.elim
theorem offsC_typed {f : TypeId → Option (List CK)} {cs : List Value} : ∀ {fs : List Field} {i : Nat} {l : List CK}, offsC P f fs i = some l →
    (∀ g ∈ fs, ∀ ks, f g.type = some ks → CellsD w ks ((cs.drop g.offset).take (P.cellsOf g.type))) → CellsD w l ((cs.drop i).take l.length)
  | [], i, l, h, _ => by simp only [offsC, Option.some.injEq] at h; subst h; simp [CellsD]
  | g :: r, i, l, h, hf => by
    simp only [offsC] at h
    split at h
    · rename_i ks hb hk
      split at h
      · rename_i l' hc hl
        cases h
        have e1 := Nat.eq_of_beq_eq_true hb
        have e2 := Nat.eq_of_beq_eq_true hc
        have h1 := hf g (by simp) ks hk
        rw [e1, e2] at h1
        have h2 := offsC_typed (cs := cs) hl fun g' hg => hf g' (by simp [hg])
        rw [List.length_append, List.take_add, List.drop_drop]
        exact h1.app h2
      · cases h
    · cases h
theorem timesC_typed {l : List CK} : ∀ {n : Nat} {cs : List Value}, cs.length = (timesC l n).length → (∀ i, i < n → CellsD w l ((cs.drop (i * l.length)).take l.length)) → CellsD w (timesC l n) cs
  | 0, cs, hl, _ => by
    have : cs = [] := List.eq_nil_of_length_eq_zero (by simpa [timesC] using hl)
    subst this; exact trivial
  | n + 1, cs, hl, h => by
    have h1 := h 0 (by omega)
    simp only [timesC, List.length_append] at hl
    have h2 := timesC_typed (l := l) (n := n) (cs := cs.drop l.length) (by simp; omega) fun i hi => by
      have := h (i + 1) (by omega)
      rw [List.drop_drop, show l.length + i * l.length = (i + 1) * l.length by rw [Nat.add_mul]; omega]
      exact this
    simp only [Nat.zero_mul, List.drop_zero] at h1
    have e : cs = cs.take l.length ++ cs.drop l.length := (List.take_append_drop _ _).symm
    rw [e]
    exact h1.app h2
theorem cellsC_typed : ∀ {n : Nat} {t : TypeId} {ks : List CK}, cellsC P n t = some ks → ∀ {fuel : Nat} {cs : List Value} {x : DataW H × List MemPlace}, DataW.trod enc P w 0 (fun _ => true) held fuel t cs = some x → Sz P t x.1 →
    P.cellsOf t = ks.length ∧ CellsD w ks cs
  | 0, t, ks, h, _, _, _, _, _ => by cases h
  | n + 1, t, ks, hk, fuel, cs, x, h, hz => by
    simp only [cellsC] at hk
    split at hk
    · rename_i fs hu
      split at hk
      · rename_i l hl
        split at hk
        · rename_i hb
          cases hk
          have hc := Nat.eq_of_beq_eq_true hb
          obtain ⟨xs, m, _, rfl, h3, h4, h5⟩ := DataW.trod_struct hu h
          refine ⟨hc, ?_⟩
          unfold Sz at hz
          simp only [DataW.weights, hu] at hz
          have := offsC_typed (w := w) (cs := cs) hl fun g hg ks hks => by
            obtain ⟨j, hj, hge⟩ := List.getElem_of_mem hg
            have hgj : fs[j]? = some g := by
              have : fs.toList[j]? = some g := by rw [List.getElem?_eq_getElem hj, hge]
              simpa using this
            have h6 := h5 j g hgj
            have hjx : j < xs.length := by rw [h4]; simpa using hj
            rw [List.getElem?_eq_getElem hjx] at h6
            refine (cellsC_typed hks h6 fun q hq => hz q (DataW.weights_mem_each (j := j) (t := g.type) (d := xs[j].1) ?_ ?_ q hq)).2
            · rw [List.getElem?_map, List.getElem?_eq_getElem hj, hge]; rfl
            · rw [List.getElem?_map, List.getElem?_eq_getElem hjx]; rfl
          rw [List.drop_zero, List.take_of_length_le (by omega)] at this
          exact this
        · cases hk
      · cases hk
    · rename_i c e hu
      split at hk
      · rename_i l hl
        split at hk
        · rename_i hb1 hb2
          cases hk
          have hc1 := Nat.eq_of_beq_eq_true hb1
          have hc2 := Nat.eq_of_beq_eq_true hb2
          obtain ⟨xs, m, _, rfl, h3, h4, h5⟩ := DataW.trod_array hu h
          unfold Sz at hz
          simp only [DataW.weights, hu] at hz
          refine ⟨hc2, timesC_typed (by omega) fun i hi => ?_⟩
          have h6 := h5 i hi
          rw [List.getElem?_eq_getElem (by omega), hc1] at h6
          exact (cellsC_typed hl h6 fun q hq => hz q (weights_all (List.mem_map.2 ⟨_, List.getElem_mem (by omega), rfl⟩) q hq)).2
        · cases hk
      · cases hk
    · split at hk
      · rename_i k hkk
        cases hk
        obtain ⟨h1, v, rfl, h3⟩ := kindC_typed hkk h hz
        exact ⟨h1, h3, trivial⟩
      · cases hk
theorem flatC_typed {t : TypeId} {ks : List CK} (hk : flatC P t = some ks) {fuel : Nat} {cs : List Value} {x : DataW H × List MemPlace} (h : DataW.trod enc P w 0 (fun _ => true) held fuel t cs = some x) (hz : Sz P t x.1) :
    P.cellsOf t = ks.length ∧ CellsD w ks cs := cellsC_typed hk h hz

/-! ### columns -/
def ColD (w : World) (len : Nat) : CK → Col → Prop
  | .int k, c => ∃ xs, c = .ints k xs ∧ xs.length = len ∧ ∀ x ∈ xs, (Lit.int k x).wf = true
  | .bool, c => ∃ xs, c = .bools xs ∧ xs.length = len
  | .data k, c => ∃ xss, c = .data k xss ∧ xss.length = len ∧ ∀ xs ∈ xss, xs.length ≤ 4294967296 ∧ ∀ x ∈ xs, (Lit.int k x).wf = true
def ColsD (w : World) (len : Nat) : List CK → List Col → Prop
  | [], [] => True
  | k :: r, c :: cs => ColD w len k c ∧ ColsD w len r cs
  | _, _ => False
theorem colD_ex {len : Nat} {f : Nat → Value} {k : CK} (h : ∀ i, i < len → CellD w k (f i)) : ∃ c, ColD w len k c ∧ ∀ i, i < len → CellOk w (fun _ => none) (c.at i) (f i) ∧ (c.at i).rawDat = true := by
  cases k with
  | int k =>
    have hk : ∀ i, i < len → CellTyped (some k) (f i) := h
    obtain ⟨⟨xs, h1, h2, h3⟩, h4⟩ := colFor_ok hk
    exact ⟨_, ⟨xs, h1, h2, h3⟩, fun i hi => by rw [h4 i hi]; exact ⟨rfl, rfl⟩⟩
  | bool =>
    have hk : ∀ i, i < len → CellTyped none (f i) := h
    obtain ⟨⟨xs, h1, h2⟩, h4⟩ := colFor_ok hk
    exact ⟨_, ⟨xs, h1, h2⟩, fun i hi => by rw [h4 i hi]; exact ⟨rfl, rfl⟩⟩
  | data k =>
    have hc : ∀ i, ∃ xs : List Int, i < len → DatOk w k xs (f i) ∧ xs.length ≤ 4294967296 ∧ ∀ x ∈ xs, (Lit.int k x).wf = true := fun i => by
      by_cases hi : i < len
      · obtain ⟨xs, h1, h2, h3⟩ := h i hi
        exact ⟨xs, fun _ => ⟨h1, h2, h3⟩⟩
      · exact ⟨[], fun h => absurd h hi⟩
    refine ⟨.data k ((List.range len).map fun i => (hc i).choose), ⟨_, rfl, by simp, fun xs hx => ?_⟩, fun i hi => ?_⟩
    · simp only [List.mem_map, List.mem_range] at hx
      obtain ⟨i, hi, rfl⟩ := hx
      exact ((hc i).choose_spec hi).2
    · have e : (Col.data k ((List.range len).map fun i => (hc i).choose)).at i = .dat k (hc i).choose := by simp [Col.at, hi]
      rw [e]
      exact ⟨((hc i).choose_spec hi).1, rfl⟩
theorem colsD_ex {len : Nat} {f : Nat → Nat → Value} : ∀ {ks : List CK} {j0 : Nat}, (∀ i, i < len → ∀ (j : Nat) (k : CK), ks[j]? = some k → CellD w k (f i (j0 + j))) →
    ∃ cols, ColsD w len ks cols ∧ ∀ i, i < len → (colsAt i cols).length = ks.length ∧ ∀ (j : Nat) (c : SC), (colsAt i cols)[j]? = some c → CellOk w (fun _ => none) c (f i (j0 + j)) ∧ c.rawDat = true
  | [], j0, _ => ⟨[], trivial, fun i _ => ⟨rfl, fun j c h => by simp [colsAt] at h⟩⟩
  | k :: r, j0, h => by
    obtain ⟨c, a1, a2⟩ := colD_ex (w := w) (k := k) (f := fun i => f i j0) (len := len) fun i hi => by simpa using h i hi 0 k rfl
    obtain ⟨cols, b1, b2⟩ := colsD_ex (ks := r) (j0 := j0 + 1) (f := f) (len := len) fun i hi j k' hj => by
      have := h i hi (j + 1) k' (by simpa using hj)
      rwa [show j0 + 1 + j = j0 + (j + 1) by omega]
    refine ⟨c :: cols, ⟨a1, b1⟩, fun i hi => ⟨by simp [colsAt, (b2 i hi).1], fun j x hx => ?_⟩⟩
    cases j with
    | zero => simp [colsAt] at hx; subst hx; exact a2 i hi
    | succ j =>
      have := (b2 i hi).2 j x (by simpa [colsAt] using hx)
      rw [show j0 + (j + 1) = j0 + 1 + j by omega]
      exact this
/-- A slice that came in, of rows: an object that nobody writes. -/
theorem open_slice {t e : TypeId} {ks : List CK} (ht : P.underlying t = some (.slice e)) (hk : flatC P e = some ks) (hpos : 0 < ks.length) (hbyt : 0 < P.bytesOf e) {v : Value} {d : DataW H} {p : List MemPlace}
    (hv : ∃ a len cap, v = .slice a len cap) (h : DataW.Trod enc P w 0 (fun _ => true) held t v d p) (hz : Sz P t d) :
    ∃ (d0 : Den) (len : Nat) (cols : List Col), d0.val = v ∧ len ≤ 4294967296 ∧ ColsD w len ks cols ∧ Ev.isCell d0.val = true ∧ ∀ α, Go.Ev.Good α w d0 (.own false .ext 0 ks.length (.tab len cols)) := by
  obtain ⟨a0, len0, cap0, rfl⟩ := hv
  obtain ⟨fuel, h⟩ := h
  simp only [Value.cells] at h
  have none' : len0 = 0 → ∃ (d0 : Den) (len : Nat) (cols : List Col), d0.val = Value.slice a0 len0 cap0 ∧ len ≤ 4294967296 ∧ ColsD w len ks cols ∧ Ev.isCell d0.val = true ∧ ∀ α, Go.Ev.Good α w d0 (.own false .ext 0 ks.length (.tab len cols)) := by
    intro h0
    subst h0
    obtain ⟨cols, c1, c2⟩ := colsD_ex (w := w) (ks := ks) (j0 := 0) (len := 0) (f := fun _ _ => .nilFunc) (fun i hi => absurd hi (by omega))
    exact ⟨⟨0, 0, ks.length, 0, .slice a0 0 cap0, false⟩, 0, cols, rfl, Nat.zero_le _, c1, rfl, fun α => ⟨rfl, hpos, .inl ⟨rfl, rfl, a0, cap0, rfl, fun e => by cases e⟩⟩⟩
  rcases DataW.trod_slice ht h with ⟨h0, _⟩ | ⟨a, len, cap, elems, rest, n, _, h1, hxe, _, hle, hm, hlen, hel, hsp, _⟩
  · simp at h0
    exact none' h0.2.1
  · simp at h1
    obtain ⟨rfl, rfl, rfl⟩ := h1
    have hde : d = .slice (elems.map (·.1)) (rest.map (·.1)) := (Prod.mk.inj hxe).1
    subst hde
    obtain ⟨hz1, hz2⟩ := sz_slice ht hz hbyt
    rw [List.length_map] at hz1
    by_cases hl0 : len0 = 0
    · exact none' hl0
    · have each : ∀ i, i < len0 → P.cellsOf e = ks.length ∧ ∃ cs, w.cells? 0 (a.add (i * P.cellsOf e)) (P.cellsOf e) = some cs ∧ CellsD w ks cs := by
        intro i hi
        have hy := (hel i hi).trans (List.getElem?_eq_getElem (by omega))
        rw [Option.bind_eq_some_iff] at hy
        obtain ⟨cs, hcs, hy⟩ := hy
        obtain ⟨h1, h2⟩ := flatC_typed hk hy (hz2 _ (List.mem_map.2 ⟨_, List.getElem_mem (by omega), rfl⟩))
        exact ⟨h1, cs, hcs, h2⟩
      have hC := (each 0 (by omega)).1
      have cellAt : ∀ i, i < len0 → ∀ (j : Nat) (k : CK), ks[j]? = some k → ∃ v, w.cell? (a.add (i * ks.length + j)) = some v ∧ CellD w k v := by
        intro i hi j k hj
        obtain ⟨_, cs, hcs, hty⟩ := each i hi
        obtain ⟨_, hcl, hat⟩ := World.cells?_some hcs
        obtain ⟨g1, g2⟩ := hty.get
        obtain ⟨v, x1, x2⟩ := g2 j k hj
        have hjl : j < ks.length := (List.getElem?_eq_some_iff.1 hj).1
        have := hat j (by rw [hC]; exact hjl)
        rw [x1, hC] at this
        refine ⟨v, ?_, x2⟩
        rw [← this]
        congr 1
        unfold Addr.add
        by_cases e1 : i * ks.length = 0 <;> by_cases e2 : j = 0 <;> simp_all [Nat.add_assoc]
      have hspot : a.spot = none ∧ a.block < w.heap.size := by
        obtain ⟨v, hv, _⟩ := cellAt 0 (by omega) 0 ks[0] (List.getElem?_eq_getElem hpos)
        simp only [Nat.zero_mul, Nat.add_zero, Addr.add, if_true] at hv
        unfold World.cell? at hv
        split at hv
        · rename_i c _ _ hb
          refine ⟨?_, (Array.getElem?_eq_some_iff.1 hb).1⟩
          cases hs : a.spot with
          | none => rfl
          | some s => simp [hs] at hv
        · cases hv
      have hadd : ∀ n, a.add n = ⟨a.block, a.off + n, none⟩ := by
        intro n
        unfold Addr.add
        split
        · rename_i e1; subst e1
          cases a; simp at hspot ⊢; exact hspot.1
        · rfl
      let f : Nat → Nat → Value := fun i j => (w.cell? (a.add (i * ks.length + j))).getD .nilFunc
      have hf : ∀ i, i < len0 → ∀ (j : Nat) (k : CK), ks[j]? = some k → CellD w k (f i (0 + j)) := by
        intro i hi j k hj
        obtain ⟨v, x1, x2⟩ := cellAt i (by omega) j k hj
        simp only [f, Nat.zero_add, x1, Option.getD_some]; exact x2
      obtain ⟨cols, c1, c2⟩ := colsD_ex hf
      have ha : (⟨a.block, a.off, none⟩ : Addr) = a := by cases a; simp at hspot ⊢; exact hspot.1.symm
      refine ⟨⟨a.block, a.off, ks.length, cap0, .slice (some a) len0 cap0, true⟩, len0, cols, rfl, by omega, c1, rfl, fun α => ⟨rfl, hpos, .inr ⟨rfl, by simp only [Ct.len, ha], hle, hspot.2, fun i hi => ?_⟩⟩⟩
      simp only [Ct.len] at hi
      obtain ⟨l1, l2⟩ := c2 i hi
      refine ⟨l1, fun j c hc => ?_⟩
      obtain ⟨q1, q2⟩ := l2 j c hc
      have hjl : j < ks.length := by rw [← l1]; exact (List.getElem?_eq_some_iff.1 hc).1
      obtain ⟨v, x1, x2⟩ := cellAt i (by omega) j ks[j] (List.getElem?_eq_getElem hjl)
      have hfv : f i (0 + j) = v := by simp only [f, Nat.zero_add, x1, Option.getD_some]
      rw [hfv] at q1
      refine ⟨v, q1.rawOrDat q2, ?_, ?_⟩
      · show w.cell? ⟨a.block, a.off + i * ks.length + j, none⟩ = some v
        rw [Nat.add_assoc, ← hadd]; exact x1
      · cases hkj : ks[j] with
        | int k => rw [hkj] at x2; obtain ⟨x, rfl, _⟩ := x2; rfl
        | bool => rw [hkj] at x2; obtain ⟨b, rfl⟩ := x2; rfl
        | data k =>
          rw [hkj] at x2
          obtain ⟨xs, x2, _, _⟩ := x2
          rcases x2 with ⟨_, _, _, rfl⟩ | ⟨_, _, _, _, rfl, _⟩ <;> rfl
/-- A slice of numbers that came in. -/
theorem open_ints {t e : TypeId} {k : IntKind} (ht : P.underlying t = some (.slice e)) (hk : kindOf P e = some (some k)) {v : Value} {d : DataW H} {p : List MemPlace}
    (hv : ∃ a len cap, v = .slice a len cap) (h : DataW.Trod enc P w 0 (fun _ => true) held t v d p) :
    ∃ (d0 : Den) (xs : List Int), d0.val = v ∧ (∀ x ∈ xs, (Lit.int k x).wf = true) ∧ Ev.isCell d0.val = true ∧ ∀ α, Go.Ev.Good α w d0 (.own false .ext 0 1 (.ints k xs)) := by
  obtain ⟨a0, len0, cap0, rfl⟩ := hv
  obtain ⟨fuel, h⟩ := h
  simp only [Value.cells] at h
  obtain ⟨v, hv, _, xs, h1, h2⟩ := dat_typed ht hk h
  simp at hv
  subst hv
  obtain ⟨d0, e1, e2, e3⟩ := datOk_good h1
  exact ⟨d0, xs, e1, h2, e2, e3⟩

/-! ### any argument -/
/-- What a cell of an argument is, said of the cell. -/
def CellS : CK → SC → Prop
  | .int k, c => ∃ x, c = .raw (.int k x) ∧ (Lit.int k x).wf = true
  | .bool, c => ∃ b, c = .raw (.bool b)
  | .data k, c => ∃ xs, c = .dat k xs ∧ xs.length ≤ 4294967296 ∧ ∀ x ∈ xs, (Lit.int k x).wf = true
def CellsS : List CK → List SC → Prop
  | [], [] => True
  | k :: r, c :: cs => CellS k c ∧ CellsS r cs
  | _, _ => False
theorem cellS_ex {k : CK} {v : Value} (h : CellD w k v) : ∃ c, CellOk w (fun _ => none) c v ∧ c.rawDat = true ∧ CellS k c := by
  cases k with
  | int k => obtain ⟨x, rfl, hx⟩ := h; exact ⟨.raw (.int k x), rfl, rfl, x, rfl, hx⟩
  | bool => obtain ⟨b, rfl⟩ := h; exact ⟨.raw (.bool b), rfl, rfl, b, rfl⟩
  | data k => obtain ⟨xs, hx, hl, hw⟩ := h; exact ⟨.dat k xs, hx, rfl, xs, rfl, hl, hw⟩
theorem cellsS_ex : ∀ {ks : List CK} {vs : List Value}, CellsD w ks vs → ∃ l, VOks w l vs ∧ rawDats l = true ∧ CellsS ks l
  | [], [], _ => ⟨[], trivial, rfl, trivial⟩
  | k :: r, v :: vs, h => by
    obtain ⟨c, h1, h2, h3⟩ := cellS_ex h.1
    obtain ⟨l, g1, g2, g3⟩ := cellsS_ex h.2
    exact ⟨c :: l, ⟨h1, g1⟩, by simp [rawDats, h2, g2], h3, g3⟩
  | [], _ :: _, h => h.elim
  | _ :: _, [], h => h.elim
/-- An argument of that layout, viewed as data. -/
def VaOk : AK → VA → Prop
  | .one k, .a (.one c) => CellS k c
  | .agg ks, .a (.agg l) => CellsS ks l
  | .rows ks, .t m ct => ∃ n cols, m = ks.length ∧ ct = .tab n cols ∧ n ≤ 4294967296 ∧ ColsD w n ks cols
  | _, _ => False
theorem open_arg {t : TypeId} {K : AK} (hk : argK P t = some K) {v : Value} {d : DataW H} {p : List MemPlace} {W : World} {r : Reach} {base : Nat}
    (hv : Value.okWide P W r base t v) (h : DataW.Trod enc P w 0 (fun _ => true) held t v d p) (hz : Sz P t d) : ∃ va, VOk w va v ∧ VaOk (w := w) K va := by
  have agg : ∀ {ks : List CK}, flatC P t = some ks → K = .agg ks → (∃ cs, v = .agg cs) → ∃ va, VOk w va v ∧ VaOk (w := w) K va := by
    rintro ks hf rfl ⟨cs, rfl⟩
    obtain ⟨fuel, h⟩ := h
    obtain ⟨_, h2⟩ := flatC_typed hf h hz
    obtain ⟨l, g1, g2, g3⟩ := cellsS_ex h2
    exact ⟨.a (.agg l), ⟨cs.toList, by simp, by simpa [Value.cells] using g1, g2⟩, g3⟩
  have one : ∀ {k : CK}, kindC P t = some k → K = .one k → v.cells.toList = [v] → ∃ va, VOk w va v ∧ VaOk (w := w) K va := by
    rintro k hf rfl hc
    obtain ⟨fuel, h⟩ := h
    obtain ⟨_, u, h2, h3⟩ := kindC_typed hf h hz
    rw [hc] at h2
    cases h2
    obtain ⟨c, g1, g2, g3⟩ := cellS_ex h3
    exact ⟨.a (.one c), ⟨g1, g2⟩, g3⟩
  unfold argK at hk
  split at hk
  · rename_i fs hu
    split at hk
    · rename_i ks hf
      cases hk
      obtain ⟨cs, e, _⟩ := okWide_struct hu hv
      exact agg hf rfl ⟨cs, e⟩
    · cases hk
  · rename_i n e hu
    split at hk
    · rename_i ks hf
      cases hk
      unfold Value.okWide at hv
      rw [hu] at hv
      obtain ⟨cs, e, _⟩ := hv
      exact agg hf rfl ⟨cs, e⟩
    · cases hk
  · rename_i e hu
    have hs := okWide_slice hu hv
    split at hk
    · rename_i k hkk
      cases hk
      obtain ⟨a, len, cap, e⟩ := hs
      exact one hkk rfl (by rw [e]; simp [Value.cells])
    · split at hk
      · rename_i ks hf
        split at hk
        · rename_i hb
          cases hk
          rw [Bool.and_eq_true] at hb
          obtain ⟨d0, len, cols, h1, h2, h3, h4, h5⟩ := open_slice hu hf (by simpa using hb.1) (by simpa using hb.2) hs h hz
          exact ⟨.t ks.length (.tab len cols), ⟨d0, h1, by rw [← h1]; exact h4, h5⟩, len, cols, rfl, rfl, h2, h3⟩
        · cases hk
      · cases hk
  · rename_i k hu
    split at hk
    · rename_i k' hkk
      cases hk
      obtain ⟨n, e⟩ := okWide_int hu hv
      exact one hkk rfl (by rw [e]; simp [Value.cells])
    · cases hk
  · rename_i hu
    split at hk
    · rename_i k' hkk
      cases hk
      obtain ⟨n, e⟩ := okWide_bool hu hv
      exact one hkk rfl (by rw [e]; simp [Value.cells])
    · cases hk
  · cases hk
end
/-- A law's run on arguments that came in. -/
theorem args_top {P : Program} {cx : Cx} (hx : CxOk P cx) {n : Nat} {f : FuncId} {vas : List VA} {vals : List Value} {w : World} {k : SV → St → Prop} (hv : VAll w vas vals)
    (h : evCall cx (ev cx n) f (canVs vas []).1 (canVs vas []).2 k) (hk : ∀ v st', k v st' → v = .sa (.one (.raw (.bool true)))) (hb : f < big := by decide) :
    Calls P f vals.toArray w fun e w' => e = .returned (.bool true) ∧ Below w.heap.size w w' := by
  obtain ⟨β, _, hR, hn, ha⟩ := canVs_can (R.empty w) noWr_nil hv
  exact call_top hx hR ha (noWr hn) h hk hb
end Go.EvU
