/- ResetOrder: texts RoO, AhD, AhT0, RgB, RgL, AhS, EqT0, one behind the other. No conditions. -/
import Derived.Test.YtjeinfbicgpkiaaRzD
import Derived.Test.YtjeinfbicgpkiaaEvD
import Derived.OpenShut
import Derived.SizedLaws
import Derived.Maps.RangeRun
set_option linter.unusedVariables false
set_option linter.unusedSimpArgs false
section
namespace Go.EvU
open Go Go.Ev Go.RowKit Go.ChangeShapes Go.WideShapes
variable {P : Program}
def lenK : IntKind → Nat
  | .u16 => 70368744177664
  | _ => 140737488355328
def szK : IntKind → Nat
  | .u16 => 2
  | _ => 0
def kindC (P : Program) (t : TypeId) : Option CK :=
  match P.underlying t with
  | some (.int k) => match P.cellsOf t with | 1 => some (.int k) | _ => none
  | some .bool => match P.cellsOf t with | 1 => some .bool | _ => none
  | some (.slice e) => match P.cellsOf t, kindOf P e, Nat.blt 0 (P.bytesOf e) with | 1, some (some k), true => (match Nat.ble (szK k) (P.bytesOf e) with | true => some (.data k) | false => none) | _, _, _ => none
  | _ => none
def offsC (P : Program) (f : TypeId → Option (List CK)) : List Field → Nat → Option (List CK)
  | [], _ => some []
  | g :: r, i => match Nat.beq g.offset i, f g.type with
    | true, some ks => match Nat.beq (P.cellsOf g.type) ks.length, offsC P f r (i + ks.length) with
      | true, some l => some (ks ++ l)
      | _, _ => none
    | _, _ => none
def timesC (l : List CK) : Nat → List CK
  | 0 => []
  | n + 1 => l ++ timesC l n
def cellsC (P : Program) : Nat → TypeId → Option (List CK)
  | 0, _ => none
  | n + 1, t => match P.underlying t with
    | some (.struct fs) => match offsC P (cellsC P n) fs.toList 0 with
      | some l => match Nat.beq (P.cellsOf t) l.length with | true => some l | false => none
      | none => none
    | some (.array c e) => match cellsC P n e with
      | some l => match Nat.beq (P.cellsOf e) l.length, Nat.beq (P.cellsOf t) (timesC l c).length with
        | true, true => some (timesC l c)
        | _, _ => none
      | none => none
    | _ => match kindC P t with | some k => some [k] | none => none
def flatC (P : Program) (t : TypeId) : Option (List CK) := cellsC P 6 t
def argK (P : Program) (t : TypeId) : Option AK :=
  match P.underlying t with
  | some (.struct _) | some (.array _ _) => match flatC P t with | some ks => some (.agg ks) | none => none
  | some (.slice e) => match kindC P t with
    | some k => some (.one k)
    | none => match flatC P e with
      | some ks => match Nat.blt 0 ks.length && Nat.blt 0 (P.bytesOf e) with | true => some (.rows ks) | false => none
      | none => none
  | some (.int _) | some .bool => match kindC P t with | some k => some (.one k) | none => none
  | _ => none
def Sz {H : Type} (P : Program) (t : TypeId) (d : DataW H) : Prop := ∀ n ∈ d.weights P t, n ≤ 140737488355328
def CellD (w : World) : CK → Value → Prop
  | .int k, v => ∃ x, v = .int k x ∧ (Lit.int k x).wf = true
  | .bool, v => ∃ b, v = .bool b
  | .data k, v => ∃ xs, DatOk w k xs v ∧ xs.length ≤ lenK k ∧ ∀ x ∈ xs, (Lit.int k x).wf = true
section
variable {H : Type} {enc : TypeId × Value → H} {w : World} {held : Bool}
theorem weights_all {e : TypeId} : ∀ {ds : List (DataW H)} {d : DataW H}, d ∈ ds → ∀ n ∈ d.weights P e, n ∈ DataW.weightsAll P e ds
  | d0 :: r, d, hd, n, hn => by
    simp only [DataW.weightsAll, List.mem_append]
    rcases List.mem_cons.1 hd with rfl | hd
    · exact .inl hn
    · exact .inr (weights_all hd n hn)
theorem sz_slice2 {t e : TypeId} {el sp : List (DataW H)} (ht : P.underlying t = some (.slice e)) (hz : Sz P t (.slice el sp)) : el.length * P.bytesOf e ≤ 140737488355328 ∧ ∀ d ∈ el, Sz P e d := by
  unfold Sz at hz
  simp only [DataW.weights, ht] at hz
  refine ⟨?_, fun d hd n hn => hz n (List.mem_cons_of_mem _ (List.mem_append_left _ (weights_all hd n hn)))⟩
  have h1 := hz _ (List.mem_cons_self ..)
  have h2 : el.length * P.bytesOf e ≤ (el.length + sp.length) * P.bytesOf e := Nat.mul_le_mul_right _ (Nat.le_add_right _ _)
  omega
theorem sz_slice {t e : TypeId} {el sp : List (DataW H)} (ht : P.underlying t = some (.slice e)) (hz : Sz P t (.slice el sp)) (hb : 0 < P.bytesOf e) : el.length ≤ 140737488355328 ∧ ∀ d ∈ el, Sz P e d := by
  obtain ⟨h1, h2⟩ := sz_slice2 ht hz
  have h3 : el.length * 1 ≤ el.length * P.bytesOf e := Nat.mul_le_mul_left _ hb
  exact ⟨by omega, h2⟩
theorem dat_typed {t e : TypeId} {k : IntKind} (ht : P.underlying t = some (.slice e)) (hk : kindOf P e = some (some k)) {fuel : Nat} {cs : List Value} {x : DataW H × List MemPlace} (h : DataW.trod enc P w 0 (fun _ => true) held fuel t cs = some x) :
    ∃ v, cs = [v] ∧ (∃ a len cap, v = .slice a len cap) ∧ ∃ xs, DatOk w k xs v ∧ ∀ y ∈ xs, (Lit.int k y).wf = true := by
  have hcs : ∃ a len cap, cs = [.slice a len cap] := by
    rcases DataW.trod_slice ht h with ⟨h0, _⟩ | ⟨a, len, cap, _, _, _, _, h1, _⟩
    · exact ⟨_, _, _, h0⟩
    · exact ⟨_, _, _, h1⟩
  obtain ⟨a, len, cap, rfl⟩ := hcs
  refine ⟨_, rfl, ⟨a, len, cap, rfl⟩, ?_⟩
  have hks : flatKinds P e = some [some k] := by
    unfold kindOf at hk
    split at hk
    · rename_i k' hu
      split at hk
      · rename_i hc
        cases hk
        simp [flatKinds, hu, kindOf, hc]
      · cases hk
    · split at hk <;> cases hk
    · cases hk
  rcases open_rows (v := .slice a len cap) ht hks (by simp) ⟨a, len, cap, rfl⟩ ⟨fuel, by simpa [Value.cells] using h⟩ with ⟨o, hv⟩ | ⟨d0, len', cap', cols, hv, hle, hm, hcol, hdv, hg⟩
  · rw [hv]
    exact ⟨[], .inl ⟨rfl, _, _, rfl⟩, fun y hy => by cases hy⟩
  · rw [hv]
    match cols, hcol with
    | [_], ⟨⟨xs, rfl, hl, hwf⟩, _⟩ =>
      refine ⟨xs, ?_, hwf⟩
      obtain ⟨h1, h2, h3, h4⟩ := hg (fun _ => none)
      by_cases h0 : len' = 0
      · have : xs = [] := List.eq_nil_of_length_eq_zero (by omega)
        subst this
        subst h0
        exact .inl ⟨rfl, _, _, rfl⟩
      · refine .inr ⟨fun e => by subst e; simp at hl; omega, d0.blk, d0.off, cap', by rw [hl], by omega, h3, fun i hi => ?_⟩
        obtain ⟨v, y1, y2, _⟩ := (h4 i (by simp only [Ct.len]; omega)).2 0 _ rfl
        have y1 : some (Value.int k (xs.getD i 0)) = some v := y1
        cases y1
        have := y2
        simp only [List.length_singleton, Nat.mul_one, Nat.add_zero] at this
        simpa using this
theorem dat_len {t e : TypeId} (ht : P.underlying t = some (.slice e)) (hb : 0 < P.bytesOf e) {fuel : Nat} {v : Value} {x : DataW H × List MemPlace} (h : DataW.trod enc P w 0 (fun _ => true) held fuel t [v] = some x) (hz : Sz P t x.1)
    {k : IntKind} {xs : List Int} (hke : szK k ≤ P.bytesOf e) (hd : DatOk w k xs v) : xs.length ≤ lenK k := by
  rcases hd with ⟨rfl, _⟩ | ⟨_, b, o, c, rfl, _⟩
  · exact Nat.zero_le _
  · rcases DataW.trod_slice ht h with ⟨h0, _⟩ | ⟨a, len, cap, elems, rest, n, _, h1, rfl, _, _, _, hl, _⟩
    · simp at h0
    · simp at h1
      have q1 := (sz_slice2 ht hz).1
      have q2 := (sz_slice ht hz hb).1
      simp at q1 q2
      unfold lenK
      split
      · have q3 : 2 ≤ P.bytesOf e := hke
        have q4 : elems.length * 2 ≤ elems.length * P.bytesOf e := Nat.mul_le_mul_left _ q3
        omega
      · omega
theorem kindC_typed {t : TypeId} {k : CK} (hk : kindC P t = some k) {fuel : Nat} {cs : List Value} {x : DataW H × List MemPlace} (h : DataW.trod enc P w 0 (fun _ => true) held fuel t cs = some x) (hz : Sz P t x.1) :
    P.cellsOf t = 1 ∧ ∃ v, cs = [v] ∧ CellD w k v := by
  unfold kindC at hk
  split at hk
  · rename_i k' hu
    split at hk
    · rename_i hc
      cases hk
      obtain ⟨n, h1, _, h3⟩ := DataW.trod_int hu h
      exact ⟨hc, _, h1, n, rfl, h3⟩
    · cases hk
  · rename_i hu
    split at hk
    · rename_i hc
      cases hk
      obtain ⟨b, h1, _⟩ := DataW.trod_bool hu h
      exact ⟨hc, _, h1, b, rfl⟩
    · cases hk
  · rename_i e hu
    split at hk
    · rename_i k' hc hke hb
      split at hk
      · rename_i hs
        cases hk
        obtain ⟨v, h1, _, xs, h3, h4⟩ := dat_typed hu hke h
        subst h1
        exact ⟨hc, v, rfl, xs, h3, dat_len hu (by simpa using hb) h hz (Nat.le_of_ble_eq_true hs) h3, h4⟩
      · cases hk
    · cases hk
  · cases hk
def CellsD (w : World) : List CK → List Value → Prop
  | [], [] => True
  | k :: r, v :: vs => CellD w k v ∧ CellsD w r vs
  | _, _ => False
theorem CellsD.mk : ∀ {ks : List CK} {vs : List Value}, vs.length = ks.length → (∀ (j : Nat) (k : CK) (v : Value), ks[j]? = some k → vs[j]? = some v → CellD w k v) → CellsD w ks vs
  | [], [], _, _ => trivial
  | k :: r, v :: vs, hl, h => ⟨h 0 k v rfl rfl, CellsD.mk (by simpa using hl) fun j k' v' h1 h2 => h (j + 1) k' v' (by simpa using h1) (by simpa using h2)⟩
  | [], _ :: _, h, _ => by simp at h
  | _ :: _, [], h, _ => by simp at h
theorem CellsD.get : ∀ {ks : List CK} {vs : List Value}, CellsD w ks vs → vs.length = ks.length ∧ ∀ (j : Nat) (k : CK), ks[j]? = some k → ∃ v, vs[j]? = some v ∧ CellD w k v
  | [], [], _ => ⟨rfl, fun j k h => by simp at h⟩
  | k :: r, v :: vs, h => by
    obtain ⟨h1, h2⟩ := CellsD.get h.2
    refine ⟨by simp [h1], fun j k' hj => ?_⟩
    cases j with
    | zero => simp at hj; subst hj; exact ⟨v, rfl, h.1⟩
    | succ j => simpa using h2 j k' (by simpa using hj)
  | [], _ :: _, h => h.elim
  | _ :: _, [], h => h.elim
theorem CellsD.app : ∀ {ks : List CK} {ls : List CK} {a b : List Value}, CellsD w ks a → CellsD w ls b → CellsD w (ks ++ ls) (a ++ b)
  | [], _, [], _, _, h => h
  | _ :: r, _, _ :: vs, _, h, h2 => ⟨h.1, CellsD.app h.2 h2⟩
  | [], _, _ :: _, _, h, _ => h.elim
  | _ :: _, _, [], _, h, _ => h.elim
theorem offsC_typed {f : TypeId → Option (List CK)} {cs : List Value} : ∀ {fs : List Field} {i : Nat} {l : List CK}, offsC P f fs i = some l →
    (∀ g ∈ fs, ∀ ks, f g.type = some ks → CellsD w ks ((cs.drop g.offset).take (P.cellsOf g.type))) → CellsD w l ((cs.drop i).take l.length)
  | [], i, l, h, _ => by simp only [offsC, Option.some.injEq] at h; subst h; simp [CellsD]
  | g :: r, i, l, h, hf => by
    simp only [offsC] at h
    split at h
    · rename_i ks hb hk
      split at h
      · rename_i l' hc hl
        cases h
        have e1 := Nat.eq_of_beq_eq_true hb
        have e2 := Nat.eq_of_beq_eq_true hc
        have h1 := hf g (by simp) ks hk
        rw [e1, e2] at h1
        have h2 := offsC_typed (cs := cs) hl fun g' hg => hf g' (by simp [hg])
        rw [List.length_append, List.take_add, List.drop_drop]
        exact h1.app h2
      · cases h
    · cases h
theorem timesC_typed {l : List CK} : ∀ {n : Nat} {cs : List Value}, cs.length = (timesC l n).length → (∀ i, i < n → CellsD w l ((cs.drop (i * l.length)).take l.length)) → CellsD w (timesC l n) cs
  | 0, cs, hl, _ => by
    have : cs = [] := List.eq_nil_of_length_eq_zero (by simpa [timesC] using hl)
    subst this; exact trivial
  | n + 1, cs, hl, h => by
    have h1 := h 0 (by omega)
    simp only [timesC, List.length_append] at hl
    have h2 := timesC_typed (l := l) (n := n) (cs := cs.drop l.length) (by simp; omega) fun i hi => by
      have := h (i + 1) (by omega)
      rw [List.drop_drop, show l.length + i * l.length = (i + 1) * l.length by rw [Nat.add_mul]; omega]
      exact this
    simp only [Nat.zero_mul, List.drop_zero] at h1
    have e : cs = cs.take l.length ++ cs.drop l.length := (List.take_append_drop _ _).symm
    rw [e]
    exact h1.app h2
theorem cellsC_typed : ∀ {n : Nat} {t : TypeId} {ks : List CK}, cellsC P n t = some ks → ∀ {fuel : Nat} {cs : List Value} {x : DataW H × List MemPlace}, DataW.trod enc P w 0 (fun _ => true) held fuel t cs = some x → Sz P t x.1 →
    P.cellsOf t = ks.length ∧ CellsD w ks cs
  | 0, t, ks, h, _, _, _, _, _ => by cases h
  | n + 1, t, ks, hk, fuel, cs, x, h, hz => by
    simp only [cellsC] at hk
    split at hk
    · rename_i fs hu
      split at hk
      · rename_i l hl
        split at hk
        · rename_i hb
          cases hk
          have hc := Nat.eq_of_beq_eq_true hb
          obtain ⟨xs, m, _, rfl, h3, h4, h5⟩ := DataW.trod_struct hu h
          refine ⟨hc, ?_⟩
          unfold Sz at hz
          simp only [DataW.weights, hu] at hz
          have := offsC_typed (w := w) (cs := cs) hl fun g hg ks hks => by
            obtain ⟨j, hj, hge⟩ := List.getElem_of_mem hg
            have hgj : fs[j]? = some g := by
              have : fs.toList[j]? = some g := by rw [List.getElem?_eq_getElem hj, hge]
              simpa using this
            have h6 := h5 j g hgj
            have hjx : j < xs.length := by rw [h4]; simpa using hj
            rw [List.getElem?_eq_getElem hjx] at h6
            refine (cellsC_typed hks h6 fun q hq => hz q (DataW.weights_mem_each (j := j) (t := g.type) (d := xs[j].1) ?_ ?_ q hq)).2
            · rw [List.getElem?_map, List.getElem?_eq_getElem hj, hge]; rfl
            · rw [List.getElem?_map, List.getElem?_eq_getElem hjx]; rfl
          rw [List.drop_zero, List.take_of_length_le (by omega)] at this
          exact this
        · cases hk
      · cases hk
    · rename_i c e hu
      split at hk
      · rename_i l hl
        split at hk
        · rename_i hb1 hb2
          cases hk
          have hc1 := Nat.eq_of_beq_eq_true hb1
          have hc2 := Nat.eq_of_beq_eq_true hb2
          obtain ⟨xs, m, _, rfl, h3, h4, h5⟩ := DataW.trod_array hu h
          unfold Sz at hz
          simp only [DataW.weights, hu] at hz
          refine ⟨hc2, timesC_typed (by omega) fun i hi => ?_⟩
          have h6 := h5 i hi
          rw [List.getElem?_eq_getElem (by omega), hc1] at h6
          exact (cellsC_typed hl h6 fun q hq => hz q (weights_all (List.mem_map.2 ⟨_, List.getElem_mem (by omega), rfl⟩) q hq)).2
        · cases hk
      · cases hk
    · split at hk
      · rename_i k hkk
        cases hk
        obtain ⟨h1, v, rfl, h3⟩ := kindC_typed hkk h hz
        exact ⟨h1, h3, trivial⟩
      · cases hk
theorem flatC_typed {t : TypeId} {ks : List CK} (hk : flatC P t = some ks) {fuel : Nat} {cs : List Value} {x : DataW H × List MemPlace} (h : DataW.trod enc P w 0 (fun _ => true) held fuel t cs = some x) (hz : Sz P t x.1) :
    P.cellsOf t = ks.length ∧ CellsD w ks cs := cellsC_typed hk h hz
def ColD (w : World) (len : Nat) : CK → Col → Prop
  | .int k, c => ∃ xs, c = .ints k xs ∧ xs.length = len ∧ ∀ x ∈ xs, (Lit.int k x).wf = true
  | .bool, c => ∃ xs, c = .bools xs ∧ xs.length = len
  | .data k, c => ∃ xss, c = .data k xss ∧ xss.length = len ∧ ∀ xs ∈ xss, xs.length ≤ lenK k ∧ ∀ x ∈ xs, (Lit.int k x).wf = true
def ColsD (w : World) (len : Nat) : List CK → List Col → Prop
  | [], [] => True
  | k :: r, c :: cs => ColD w len k c ∧ ColsD w len r cs
  | _, _ => False
theorem colD_ex {len : Nat} {f : Nat → Value} {k : CK} (h : ∀ i, i < len → CellD w k (f i)) : ∃ c, ColD w len k c ∧ ∀ i, i < len → CellOk w (fun _ => none) (c.at i) (f i) ∧ (c.at i).rawDat = true := by
  cases k with
  | int k =>
    have hk : ∀ i, i < len → CellTyped (some k) (f i) := h
    obtain ⟨⟨xs, h1, h2, h3⟩, h4⟩ := colFor_ok hk
    exact ⟨_, ⟨xs, h1, h2, h3⟩, fun i hi => by rw [h4 i hi]; exact ⟨rfl, rfl⟩⟩
  | bool =>
    have hk : ∀ i, i < len → CellTyped none (f i) := h
    obtain ⟨⟨xs, h1, h2⟩, h4⟩ := colFor_ok hk
    exact ⟨_, ⟨xs, h1, h2⟩, fun i hi => by rw [h4 i hi]; exact ⟨rfl, rfl⟩⟩
  | data k =>
    have hc : ∀ i, ∃ xs : List Int, i < len → DatOk w k xs (f i) ∧ xs.length ≤ lenK k ∧ ∀ x ∈ xs, (Lit.int k x).wf = true := fun i => by
      by_cases hi : i < len
      · obtain ⟨xs, h1, h2, h3⟩ := h i hi
        exact ⟨xs, fun _ => ⟨h1, h2, h3⟩⟩
      · exact ⟨[], fun h => absurd h hi⟩
    refine ⟨.data k ((List.range len).map fun i => (hc i).choose), ⟨_, rfl, by simp, fun xs hx => ?_⟩, fun i hi => ?_⟩
    · simp only [List.mem_map, List.mem_range] at hx
      obtain ⟨i, hi, rfl⟩ := hx
      exact ((hc i).choose_spec hi).2
    · have e : (Col.data k ((List.range len).map fun i => (hc i).choose)).at i = .dat k (hc i).choose := by simp [Col.at, hi]
      rw [e]
      exact ⟨((hc i).choose_spec hi).1, rfl⟩
theorem colsD_ex {len : Nat} {f : Nat → Nat → Value} : ∀ {ks : List CK} {j0 : Nat}, (∀ i, i < len → ∀ (j : Nat) (k : CK), ks[j]? = some k → CellD w k (f i (j0 + j))) →
    ∃ cols, ColsD w len ks cols ∧ ∀ i, i < len → (colsAt i cols).length = ks.length ∧ ∀ (j : Nat) (c : SC), (colsAt i cols)[j]? = some c → CellOk w (fun _ => none) c (f i (j0 + j)) ∧ c.rawDat = true
  | [], j0, _ => ⟨[], trivial, fun i _ => ⟨rfl, fun j c h => by simp [colsAt] at h⟩⟩
  | k :: r, j0, h => by
    obtain ⟨c, a1, a2⟩ := colD_ex (w := w) (k := k) (f := fun i => f i j0) (len := len) fun i hi => by simpa using h i hi 0 k rfl
    obtain ⟨cols, b1, b2⟩ := colsD_ex (ks := r) (j0 := j0 + 1) (f := f) (len := len) fun i hi j k' hj => by
      have := h i hi (j + 1) k' (by simpa using hj)
      rwa [show j0 + 1 + j = j0 + (j + 1) by omega]
    refine ⟨c :: cols, ⟨a1, b1⟩, fun i hi => ⟨by simp [colsAt, (b2 i hi).1], fun j x hx => ?_⟩⟩
    cases j with
    | zero => simp [colsAt] at hx; subst hx; exact a2 i hi
    | succ j =>
      have := (b2 i hi).2 j x (by simpa [colsAt] using hx)
      rw [show j0 + (j + 1) = j0 + 1 + j by omega]
      exact this
theorem open_slice {t e : TypeId} {ks : List CK} (ht : P.underlying t = some (.slice e)) (hk : flatC P e = some ks) (hpos : 0 < ks.length) (hbyt : 0 < P.bytesOf e) {v : Value} {d : DataW H} {p : List MemPlace}
    (hv : ∃ a len cap, v = .slice a len cap) (h : DataW.Trod enc P w 0 (fun _ => true) held t v d p) (hz : Sz P t d) :
    ∃ (d0 : Den) (len : Nat) (cols : List Col), d0.val = v ∧ len ≤ 140737488355328 ∧ ColsD w len ks cols ∧ Ev.isCell d0.val = true ∧ ∀ α, Go.Ev.Good α w d0 (.own false .ext 0 ks.length (.tab len cols)) := by
  obtain ⟨a0, len0, cap0, rfl⟩ := hv
  obtain ⟨fuel, h⟩ := h
  simp only [Value.cells] at h
  have none' : len0 = 0 → ∃ (d0 : Den) (len : Nat) (cols : List Col), d0.val = Value.slice a0 len0 cap0 ∧ len ≤ 140737488355328 ∧ ColsD w len ks cols ∧ Ev.isCell d0.val = true ∧ ∀ α, Go.Ev.Good α w d0 (.own false .ext 0 ks.length (.tab len cols)) := by
    intro h0
    subst h0
    obtain ⟨cols, c1, c2⟩ := colsD_ex (w := w) (ks := ks) (j0 := 0) (len := 0) (f := fun _ _ => .nilFunc) (fun i hi => absurd hi (by omega))
    exact ⟨⟨0, 0, ks.length, 0, .slice a0 0 cap0, false⟩, 0, cols, rfl, Nat.zero_le _, c1, rfl, fun α => ⟨rfl, hpos, .inl ⟨rfl, rfl, a0, cap0, rfl, fun e => by cases e⟩⟩⟩
  rcases DataW.trod_slice ht h with ⟨h0, _⟩ | ⟨a, len, cap, elems, rest, n, _, h1, hxe, _, hle, hm, hlen, hel, hsp, _⟩
  · simp at h0
    exact none' h0.2.1
  · simp at h1
    obtain ⟨rfl, rfl, rfl⟩ := h1
    have hde : d = .slice (elems.map (·.1)) (rest.map (·.1)) := (Prod.mk.inj hxe).1
    subst hde
    obtain ⟨hz1, hz2⟩ := sz_slice ht hz hbyt
    rw [List.length_map] at hz1
    by_cases hl0 : len0 = 0
    · exact none' hl0
    · have each : ∀ i, i < len0 → P.cellsOf e = ks.length ∧ ∃ cs, w.cells? 0 (a.add (i * P.cellsOf e)) (P.cellsOf e) = some cs ∧ CellsD w ks cs := by
        intro i hi
        have hy := (hel i hi).trans (List.getElem?_eq_getElem (by omega))
        rw [Option.bind_eq_some_iff] at hy
        obtain ⟨cs, hcs, hy⟩ := hy
        obtain ⟨h1, h2⟩ := flatC_typed hk hy (hz2 _ (List.mem_map.2 ⟨_, List.getElem_mem (by omega), rfl⟩))
        exact ⟨h1, cs, hcs, h2⟩
      have hC := (each 0 (by omega)).1
      have cellAt : ∀ i, i < len0 → ∀ (j : Nat) (k : CK), ks[j]? = some k → ∃ v, w.cell? (a.add (i * ks.length + j)) = some v ∧ CellD w k v := by
        intro i hi j k hj
        obtain ⟨_, cs, hcs, hty⟩ := each i hi
        obtain ⟨_, hcl, hat⟩ := World.cells?_some hcs
        obtain ⟨g1, g2⟩ := hty.get
        obtain ⟨v, x1, x2⟩ := g2 j k hj
        have hjl : j < ks.length := (List.getElem?_eq_some_iff.1 hj).1
        have := hat j (by rw [hC]; exact hjl)
        rw [x1, hC] at this
        refine ⟨v, ?_, x2⟩
        rw [← this]
        congr 1
        unfold Addr.add
        by_cases e1 : i * ks.length = 0 <;> by_cases e2 : j = 0 <;> simp_all [Nat.add_assoc]
      have hspot : a.spot = none ∧ a.block < w.heap.size := by
        obtain ⟨v, hv, _⟩ := cellAt 0 (by omega) 0 ks[0] (List.getElem?_eq_getElem hpos)
        simp only [Nat.zero_mul, Nat.add_zero, Addr.add, if_true] at hv
        unfold World.cell? at hv
        split at hv
        · rename_i c _ _ hb
          refine ⟨?_, (Array.getElem?_eq_some_iff.1 hb).1⟩
          cases hs : a.spot with
          | none => rfl
          | some s => simp [hs] at hv
        · cases hv
      have hadd : ∀ n, a.add n = ⟨a.block, a.off + n, none⟩ := by
        intro n
        unfold Addr.add
        split
        · rename_i e1; subst e1
          cases a; simp at hspot ⊢; exact hspot.1
        · rfl
      let f : Nat → Nat → Value := fun i j => (w.cell? (a.add (i * ks.length + j))).getD .nilFunc
      have hf : ∀ i, i < len0 → ∀ (j : Nat) (k : CK), ks[j]? = some k → CellD w k (f i (0 + j)) := by
        intro i hi j k hj
        obtain ⟨v, x1, x2⟩ := cellAt i (by omega) j k hj
        simp only [f, Nat.zero_add, x1, Option.getD_some]; exact x2
      obtain ⟨cols, c1, c2⟩ := colsD_ex hf
      have ha : (⟨a.block, a.off, none⟩ : Addr) = a := by cases a; simp at hspot ⊢; exact hspot.1.symm
      refine ⟨⟨a.block, a.off, ks.length, cap0, .slice (some a) len0 cap0, true⟩, len0, cols, rfl, by omega, c1, rfl, fun α => ⟨rfl, hpos, .inr ⟨rfl, by simp only [Ct.len, ha], hle, hspot.2, fun i hi => ?_⟩⟩⟩
      simp only [Ct.len] at hi
      obtain ⟨l1, l2⟩ := c2 i hi
      refine ⟨l1, fun j c hc => ?_⟩
      obtain ⟨q1, q2⟩ := l2 j c hc
      have hjl : j < ks.length := by rw [← l1]; exact (List.getElem?_eq_some_iff.1 hc).1
      obtain ⟨v, x1, x2⟩ := cellAt i (by omega) j ks[j] (List.getElem?_eq_getElem hjl)
      have hfv : f i (0 + j) = v := by simp only [f, Nat.zero_add, x1, Option.getD_some]
      rw [hfv] at q1
      refine ⟨v, q1.rawOrDat q2, ?_, ?_⟩
      · show w.cell? ⟨a.block, a.off + i * ks.length + j, none⟩ = some v
        rw [Nat.add_assoc, ← hadd]; exact x1
      · cases hkj : ks[j] with
        | int k => rw [hkj] at x2; obtain ⟨x, rfl, _⟩ := x2; rfl
        | bool => rw [hkj] at x2; obtain ⟨b, rfl⟩ := x2; rfl
        | data k =>
          rw [hkj] at x2
          obtain ⟨xs, x2, _, _⟩ := x2
          rcases x2 with ⟨_, _, _, rfl⟩ | ⟨_, _, _, _, rfl, _⟩ <;> rfl
theorem open_ints {t e : TypeId} {k : IntKind} (ht : P.underlying t = some (.slice e)) (hk : kindOf P e = some (some k)) {v : Value} {d : DataW H} {p : List MemPlace}
    (hv : ∃ a len cap, v = .slice a len cap) (h : DataW.Trod enc P w 0 (fun _ => true) held t v d p) :
    ∃ (d0 : Den) (xs : List Int), d0.val = v ∧ (∀ x ∈ xs, (Lit.int k x).wf = true) ∧ Ev.isCell d0.val = true ∧ ∀ α, Go.Ev.Good α w d0 (.own false .ext 0 1 (.ints k xs)) := by
  obtain ⟨a0, len0, cap0, rfl⟩ := hv
  obtain ⟨fuel, h⟩ := h
  simp only [Value.cells] at h
  obtain ⟨v, hv, _, xs, h1, h2⟩ := dat_typed ht hk h
  simp at hv
  subst hv
  obtain ⟨d0, e1, e2, e3⟩ := datOk_good h1
  exact ⟨d0, xs, e1, h2, e2, e3⟩
def CellS : CK → SC → Prop
  | .int k, c => ∃ x, c = .raw (.int k x) ∧ (Lit.int k x).wf = true
  | .bool, c => ∃ b, c = .raw (.bool b)
  | .data k, c => ∃ xs, c = .dat k xs ∧ xs.length ≤ lenK k ∧ ∀ x ∈ xs, (Lit.int k x).wf = true
def CellsS : List CK → List SC → Prop
  | [], [] => True
  | k :: r, c :: cs => CellS k c ∧ CellsS r cs
  | _, _ => False
theorem cellS_ex {k : CK} {v : Value} (h : CellD w k v) : ∃ c, CellOk w (fun _ => none) c v ∧ c.rawDat = true ∧ CellS k c := by
  cases k with
  | int k => obtain ⟨x, rfl, hx⟩ := h; exact ⟨.raw (.int k x), rfl, rfl, x, rfl, hx⟩
  | bool => obtain ⟨b, rfl⟩ := h; exact ⟨.raw (.bool b), rfl, rfl, b, rfl⟩
  | data k => obtain ⟨xs, hx, hl, hw⟩ := h; exact ⟨.dat k xs, hx, rfl, xs, rfl, hl, hw⟩
theorem cellsS_ex : ∀ {ks : List CK} {vs : List Value}, CellsD w ks vs → ∃ l, VOks w l vs ∧ rawDats l = true ∧ CellsS ks l
  | [], [], _ => ⟨[], trivial, rfl, trivial⟩
  | k :: r, v :: vs, h => by
    obtain ⟨c, h1, h2, h3⟩ := cellS_ex h.1
    obtain ⟨l, g1, g2, g3⟩ := cellsS_ex h.2
    exact ⟨c :: l, ⟨h1, g1⟩, by simp [rawDats, h2, g2], h3, g3⟩
  | [], _ :: _, h => h.elim
  | _ :: _, [], h => h.elim
def VaOk : AK → VA → Prop
  | .one k, .a (.one c) => CellS k c
  | .agg ks, .a (.agg l) => CellsS ks l
  | .rows ks, .t m ct => ∃ n cols, m = ks.length ∧ ct = .tab n cols ∧ n ≤ 140737488355328 ∧ ColsD w n ks cols
  | _, _ => False
theorem open_arg {t : TypeId} {K : AK} (hk : argK P t = some K) {v : Value} {d : DataW H} {p : List MemPlace} {W : World} {r : Reach} {base : Nat}
    (hv : Value.okWide P W r base t v) (h : DataW.Trod enc P w 0 (fun _ => true) held t v d p) (hz : Sz P t d) : ∃ va, VOk w va v ∧ VaOk (w := w) K va := by
  have agg : ∀ {ks : List CK}, flatC P t = some ks → K = .agg ks → (∃ cs, v = .agg cs) → ∃ va, VOk w va v ∧ VaOk (w := w) K va := by
    rintro ks hf rfl ⟨cs, rfl⟩
    obtain ⟨fuel, h⟩ := h
    obtain ⟨_, h2⟩ := flatC_typed hf h hz
    obtain ⟨l, g1, g2, g3⟩ := cellsS_ex h2
    exact ⟨.a (.agg l), ⟨cs.toList, by simp, by simpa [Value.cells] using g1, g2⟩, g3⟩
  have one : ∀ {k : CK}, kindC P t = some k → K = .one k → v.cells.toList = [v] → ∃ va, VOk w va v ∧ VaOk (w := w) K va := by
    rintro k hf rfl hc
    obtain ⟨fuel, h⟩ := h
    obtain ⟨_, u, h2, h3⟩ := kindC_typed hf h hz
    rw [hc] at h2
    cases h2
    obtain ⟨c, g1, g2, g3⟩ := cellS_ex h3
    exact ⟨.a (.one c), ⟨g1, g2⟩, g3⟩
  unfold argK at hk
  split at hk
  · rename_i fs hu
    split at hk
    · rename_i ks hf
      cases hk
      obtain ⟨cs, e, _⟩ := okWide_struct hu hv
      exact agg hf rfl ⟨cs, e⟩
    · cases hk
  · rename_i n e hu
    split at hk
    · rename_i ks hf
      cases hk
      unfold Value.okWide at hv
      rw [hu] at hv
      obtain ⟨cs, e, _⟩ := hv
      exact agg hf rfl ⟨cs, e⟩
    · cases hk
  · rename_i e hu
    have hs := okWide_slice hu hv
    split at hk
    · rename_i k hkk
      cases hk
      obtain ⟨a, len, cap, e⟩ := hs
      exact one hkk rfl (by rw [e]; simp [Value.cells])
    · split at hk
      · rename_i ks hf
        split at hk
        · rename_i hb
          cases hk
          rw [Bool.and_eq_true] at hb
          obtain ⟨d0, len, cols, h1, h2, h3, h4, h5⟩ := open_slice hu hf (by simpa using hb.1) (by simpa using hb.2) hs h hz
          exact ⟨.t ks.length (.tab len cols), ⟨d0, h1, by rw [← h1]; exact h4, h5⟩, len, cols, rfl, rfl, h2, h3⟩
        · cases hk
      · cases hk
  · rename_i k hu
    split at hk
    · rename_i k' hkk
      cases hk
      obtain ⟨n, e⟩ := okWide_int hu hv
      exact one hkk rfl (by rw [e]; simp [Value.cells])
    · cases hk
  · rename_i hu
    split at hk
    · rename_i k' hkk
      cases hk
      obtain ⟨n, e⟩ := okWide_bool hu hv
      exact one hkk rfl (by rw [e]; simp [Value.cells])
    · cases hk
  · cases hk
end
theorem args_top {P : Program} {cx : Cx} (hx : CxOk P cx) {n : Nat} {f : FuncId} {vas : List VA} {vals : List Value} {w : World} {k : SV → St → Prop} (hv : VAll w vas vals)
    (h : evCall cx (ev cx n) f (canVs vas []).1 (canVs vas []).2 k) (hk : ∀ v st', k v st' → v = .sa (.one (.raw (.bool true)))) (hb : f < big := by decide) :
    Calls P f vals.toArray w fun e w' => e = .returned (.bool true) ∧ Below w.heap.size w w' := by
  obtain ⟨β, _, hR, hn, ha⟩ := canVs_can (R.empty w) noWr_nil hv
  exact call_top hx hR ha (noWr hn) h hk hb
end Go.EvU
end
section
namespace Go.Ev
open Go Go.Proofs Go.Spec
def ahO (u0 u1 u2 u3 u4 u7 u8 : Value) : Option SO := some (.mem false .whole 78 9 (.lst [[.raw u0, .raw u1, .raw u2, .raw u3, .raw u4, .ref 1, .ref 2, .raw u7, .raw u8]]))
def ahK (ks ts ss ns bs : List Int) (cl : Nat) : Option SO := some (.mt false (.ints .u32 ks) true [.ints .u32 ts, .ints .u16 ss, .ints .u16 ns] bs cl)
def ahC (cs cb : List Int) (cc : Nat) : Option SO := some (.mt false (.ints .u32 cs) true [] cb cc)
def ahM (w : Bool) (t s n : Int) : Option SO := some (.mem w .whole 81 3 (.lst [[iv .u32 t, iv .u16 s, iv .u16 n]]))
def opsAt (P : Program) (f : FuncId) (way : List Nat) : List Oper := match codeAt P f way with
  | .region _ ops _ => ops.toList
  | _ => []
noncomputable def cxAh : Cx := { mkCx Try.prog [] [] [] with tab := true }
end Go.Ev
end
section
namespace Go.Ev
open Go Go.Proofs Go.Spec
theorem t_ahR0 (u0 u1 u2 u3 u4 u7 u8 : Value) (t s n : Int) (ks ts ss ns bs cs cb : List Int) (cl cc : Nat) (k : Fr → St → Prop) : evOps cxAh (evCall cxAh (ev cxAh 50)) (opsAt Try.prog 48 [0]) (opsAt Try.prog 48 [0]) (frm 50 [(0, .sa (.one (.ptr 0 0 0))), (1, .sa (.agg [iv .u32 t, iv .u16 s, iv .u16 n]))]) [ahO u0 u1 u2 u3 u4 u7 u8, ahK ks ts ss ns bs cl, ahC cs cb cc] k =
    (k (frm 50 [(0, (.sa (.one (SC.ptr 0 0 0)))), (1, (.sa (.agg [(iv .u32 t), (iv .u16 s), (iv .u16 n)]))), (3, (.sa (.one (SC.ptr 3 0 0)))), (4, (.sa (.one (bv false))))]) [(some (SO.mem false MK.whole 78 9 (Ct.lst [[(SC.raw u0), (SC.raw u1), (SC.raw u2), (SC.raw u3), (SC.raw u4), (SC.ref 1), (SC.ref 2), (SC.raw u7), (SC.raw u8)]]))), (some (SO.mt false (KC.ints .u32 ks) true [(Col.ints .u32 ts), (Col.ints .u16 ss), (Col.ints .u16 ns)] bs cl)), (some (SO.mt false (KC.ints .u32 cs) true [] cb cc)), (obj 81 3 [(iv .u32 t), (iv .u16 s), (iv .u16 n)])]) := by kernel_rfl
theorem t_ahR1 (u0 u1 u2 u3 u4 u7 u8 : Value) (t s n : Int) (ks ts ss ns bs cs cb : List Int) (cl cc : Nat) (k : Fr → St → Prop) : evOps cxAh (evCall cxAh (ev cxAh 50)) (opsAt Try.prog 48 [1, 0, 0]) (takeL 4 (opsAt Try.prog 48 [1, 0, 0])) (frm 50 [(0, .sa (.one (.ptr 0 0 0))), (3, .sa (.one (.ptr 3 0 0))), (4, .sa (.one (bv false)))]) [ahO u0 u1 u2 u3 u4 u7 u8, ahK ks ts ss ns bs cl, ahC cs cb cc, ahM false t s n] k =
    (k (frm 50 [(0, (.sa (.one (SC.ptr 0 0 0)))), (3, (.sa (.one (SC.ptr 3 0 0)))), (4, (.sa (.one (bv false)))), (9, (.sa (.one (SC.ptr 0 0 0)))), (10, (.sa (.one (SC.ptr 0 0 0)))), (11, (.sa (.one (SC.ptr 0 0 5)))), (12, (.sa (.one (SC.ref 1))))]) [(some (SO.mem false MK.whole 78 9 (Ct.lst [[(SC.raw u0), (SC.raw u1), (SC.raw u2), (SC.raw u3), (SC.raw u4), (SC.ref 1), (SC.ref 2), (SC.raw u7), (SC.raw u8)]]))), (some (SO.mt false (KC.ints .u32 ks) true [(Col.ints .u32 ts), (Col.ints .u16 ss), (Col.ints .u16 ns)] bs cl)), (some (SO.mt false (KC.ints .u32 cs) true [] cb cc)), (some (SO.mem false MK.whole 81 3 (Ct.lst [[(iv .u32 t), (iv .u16 s), (iv .u16 n)]])))]) := by kernel_rfl
theorem t_ahR3 (k0 a b c : Int) (ob : Obj) (u0 u1 u2 u3 u4 u7 u8 : Value) (t s n : Int) (ks ts ss ns bs cs cb : List Int) (cl cc : Nat) (k : Fr → St → Prop) : evOps cxAh (evCall cxAh (ev cxAh 50)) (opsAt Try.prog 48 [1, 0, 1, 0, 0, 1, 1, 0, 0]) (dropL 1 (opsAt Try.prog 48 [1, 0, 1, 0, 0, 1, 1, 0, 0])) (frm 50 [(0, .sa (.one (.ptr 0 0 0))), (3, .sa (.one (.ptr 3 0 0))), (13, .sa (.one (.ref 4))), (16, .tup [.one (iv .u32 k0), .agg [iv .u32 a, iv .u16 b, iv .u16 c]])]) [ahO u0 u1 u2 u3 u4 u7 u8, ahK ks ts ss ns bs cl, ahC cs cb cc, ahM false t s n, some (.box true ob)] k =
    (k (frm 50 [(0, (.sa (.one (SC.ptr 0 0 0)))), (3, (.sa (.one (SC.ptr 3 0 0)))), (5, (.sa (.one (iv .u32 k0)))), (6, (.sa (.one (SC.ptr 5 0 0)))), (13, (.sa (.one (SC.ref 4)))), (16, (.tup [(.one (iv .u32 k0)), (.agg [(iv .u32 a), (iv .u16 b), (iv .u16 c)])])), (17, (.sa (.one (iv .u32 k0)))), (18, (.sa (.agg [(iv .u32 a), (iv .u16 b), (iv .u16 c)])))]) [(some (SO.mem false MK.whole 78 9 (Ct.lst [[(SC.raw u0), (SC.raw u1), (SC.raw u2), (SC.raw u3), (SC.raw u4), (SC.ref 1), (SC.ref 2), (SC.raw u7), (SC.raw u8)]]))), (some (SO.mt false (KC.ints .u32 ks) true [(Col.ints .u32 ts), (Col.ints .u16 ss), (Col.ints .u16 ns)] bs cl)), (some (SO.mt false (KC.ints .u32 cs) true [] cb cc)), (some (SO.mem false MK.whole 81 3 (Ct.lst [[(iv .u32 t), (iv .u16 s), (iv .u16 n)]]))), (some (SO.box true ob)), (obj 81 3 [(iv .u32 a), (iv .u16 b), (iv .u16 c)])]) := by kernel_rfl
theorem t_ahB (k0 a b c : Int) (ob : Obj) (u0 u1 u2 u3 u4 u7 u8 : Value) (t s n : Int) (ks ts ss ns bs cs cb : List Int) (cl cc : Nat) (k : Exit → Fr → St → Prop) : ev cxAh 50 4 48 (codeAt Try.prog 48 [1, 0, 1, 0, 0, 1, 1, 0, 1]) (frm 50 [(0, .sa (.one (.ptr 0 0 0))), (3, .sa (.one (.ptr 3 0 0))), (5, .sa (.one (iv .u32 k0))), (6, .sa (.one (.ptr 5 0 0))), (13, .sa (.one (.ref 4)))]) [ahO u0 u1 u2 u3 u4 u7 u8, ahK ks ts ss ns bs cl, ahC cs cb cc, ahM false t s n, some (.box true ob), obj 81 3 [iv .u32 a, iv .u16 b, iv .u16 c]] k =
    (branch (decide (((idxI k0 cs) < (List.length cs)))) (k Exit.normal (frm 50 [(0, (.sa (.one (SC.ptr 0 0 0)))), (3, (.sa (.one (SC.ptr 3 0 0)))), (5, (.sa (.one (iv .u32 k0)))), (6, (.sa (.one (SC.ptr 5 0 0)))), (7, (.sa (.one (SC.ref 6)))), (8, (.sa (.one (bv true)))), (13, (.sa (.one (SC.ref 4)))), (19, (.tup [(.agg []), (.one (bv true))])), (20, (.sa (.one (SC.ptr 0 0 0)))), (21, (.sa (.one (SC.ptr 0 0 0)))), (22, (.sa (.one (SC.ptr 0 0 6)))), (23, (.sa (.one (SC.ref 2)))), (24, (.sa (.one (iv .u32 k0)))), (25, (.tup [(.agg []), (.one (bv true))])), (26, (.sa (.agg []))), (27, (.sa (.one (bv true)))), (28, (.sa (.one (bv true)))), (29, (.sa (.one (bv false)))), (30, (.sa (.one (bv false)))), (31, (.tup [])), (32, (.tup [])), (33, (.tup [])), (34, (.tup [])), (35, (.tup [])), (36, (.sa (.one (bv false)))), (37, (.sa (.one (bv false)))), (38, (.tup [])), (39, (.tup [])), (40, (.tup [])), (41, (.tup [])), (42, (.tup [])), (43, (.sa (.one (bv false)))), (44, (.sa (.one (bv false)))), (45, (.tup [])), (46, (.tup [])), (47, (.tup [])), (48, (.tup [])), (49, (.sa (.one (bv false))))]) [(some (SO.mem false MK.whole 78 9 (Ct.lst [[(SC.raw u0), (SC.raw u1), (SC.raw u2), (SC.raw u3), (SC.raw u4), (SC.ref 1), (SC.ref 2), (SC.raw u7), (SC.raw u8)]]))), (some (SO.mt false (KC.ints .u32 ks) true [(Col.ints .u32 ts), (Col.ints .u16 ss), (Col.ints .u16 ns)] bs cl)), (some (SO.mt false (KC.ints .u32 cs) true [] cb cc)), (some (SO.mem false MK.whole 81 3 (Ct.lst [[(iv .u32 t), (iv .u16 s), (iv .u16 n)]]))), (some (SO.box true ob)), (obj 81 3 [(iv .u32 a), (iv .u16 b), (iv .u16 c)]), (some SO.nul)]) (branch (eqK b s) (branch (decide (((subK .u32 t k0) < (2147483648)))) (branch (Bool.not (eqK k0 t)) (k Exit.ret (frm 50 [(0, (.sa (.one (SC.ptr 0 0 0)))), (3, (.sa (.one (SC.ptr 3 0 0)))), (4, (.sa (.one (bv true)))), (5, (.sa (.one (iv .u32 k0)))), (6, (.sa (.one (SC.ptr 5 0 0)))), (7, (.sa (.one (SC.ref 6)))), (8, (.sa (.one (bv false)))), (13, (.sa (.one (SC.ref 4)))), (19, (.tup [(.agg []), (.one (bv false))])), (20, (.sa (.one (SC.ptr 0 0 0)))), (21, (.sa (.one (SC.ptr 0 0 0)))), (22, (.sa (.one (SC.ptr 0 0 6)))), (23, (.sa (.one (SC.ref 2)))), (24, (.sa (.one (iv .u32 k0)))), (25, (.tup [(.agg []), (.one (bv false))])), (26, (.sa (.agg []))), (27, (.sa (.one (bv false)))), (28, (.sa (.one (bv false)))), (29, (.sa (.one (bv true)))), (30, (.sa (.one (bv true)))), (31, (.sa (.one (SC.ptr 5 0 1)))), (32, (.sa (.one (iv .u16 b)))), (33, (.sa (.one (SC.ptr 3 0 1)))), (34, (.sa (.one (iv .u16 s)))), (35, (.sa (.one (bv (eqK b s))))), (36, (.sa (.one (bv (eqK b s))))), (37, (.sa (.one (bv true)))), (38, (.sa (.one (SC.ptr 3 0 0)))), (39, (.sa (.one (iv .u32 t)))), (40, (.sa (.one (iv .u32 k0)))), (41, (.sa (.one (iv .u32 (subK .u32 t k0))))), (42, (.sa (.one (bv (decide (((subK .u32 t k0) < (2147483648)))))))), (43, (.sa (.one (bv (decide (((subK .u32 t k0) < (2147483648)))))))), (44, (.sa (.one (bv true)))), (45, (.sa (.one (iv .u32 k0)))), (46, (.sa (.one (SC.ptr 3 0 0)))), (47, (.sa (.one (iv .u32 t)))), (48, (.sa (.one (bv (Bool.not (eqK k0 t)))))), (49, (.sa (.one (bv true))))]) [(some (SO.mem false MK.whole 78 9 (Ct.lst [[(SC.raw u0), (SC.raw u1), (SC.raw u2), (SC.raw u3), (SC.raw u4), (SC.ref 1), (SC.ref 2), (SC.raw u7), (SC.raw u8)]]))), (some (SO.mt false (KC.ints .u32 ks) true [(Col.ints .u32 ts), (Col.ints .u16 ss), (Col.ints .u16 ns)] bs cl)), (some (SO.mt false (KC.ints .u32 cs) true [] cb cc)), (some (SO.mem false MK.whole 81 3 (Ct.lst [[(iv .u32 t), (iv .u16 s), (iv .u16 n)]]))), (some (SO.box true ob)), (obj 81 3 [(iv .u32 a), (iv .u16 b), (iv .u16 c)]), (some SO.nul)]) (k Exit.normal (frm 50 [(0, (.sa (.one (SC.ptr 0 0 0)))), (3, (.sa (.one (SC.ptr 3 0 0)))), (5, (.sa (.one (iv .u32 k0)))), (6, (.sa (.one (SC.ptr 5 0 0)))), (7, (.sa (.one (SC.ref 6)))), (8, (.sa (.one (bv false)))), (13, (.sa (.one (SC.ref 4)))), (19, (.tup [(.agg []), (.one (bv false))])), (20, (.sa (.one (SC.ptr 0 0 0)))), (21, (.sa (.one (SC.ptr 0 0 0)))), (22, (.sa (.one (SC.ptr 0 0 6)))), (23, (.sa (.one (SC.ref 2)))), (24, (.sa (.one (iv .u32 k0)))), (25, (.tup [(.agg []), (.one (bv false))])), (26, (.sa (.agg []))), (27, (.sa (.one (bv false)))), (28, (.sa (.one (bv false)))), (29, (.sa (.one (bv true)))), (30, (.sa (.one (bv true)))), (31, (.sa (.one (SC.ptr 5 0 1)))), (32, (.sa (.one (iv .u16 b)))), (33, (.sa (.one (SC.ptr 3 0 1)))), (34, (.sa (.one (iv .u16 s)))), (35, (.sa (.one (bv (eqK b s))))), (36, (.sa (.one (bv (eqK b s))))), (37, (.sa (.one (bv true)))), (38, (.sa (.one (SC.ptr 3 0 0)))), (39, (.sa (.one (iv .u32 t)))), (40, (.sa (.one (iv .u32 k0)))), (41, (.sa (.one (iv .u32 (subK .u32 t k0))))), (42, (.sa (.one (bv (decide (((subK .u32 t k0) < (2147483648)))))))), (43, (.sa (.one (bv (decide (((subK .u32 t k0) < (2147483648)))))))), (44, (.sa (.one (bv true)))), (45, (.sa (.one (iv .u32 k0)))), (46, (.sa (.one (SC.ptr 3 0 0)))), (47, (.sa (.one (iv .u32 t)))), (48, (.sa (.one (bv (Bool.not (eqK k0 t)))))), (49, (.sa (.one (bv false))))]) [(some (SO.mem false MK.whole 78 9 (Ct.lst [[(SC.raw u0), (SC.raw u1), (SC.raw u2), (SC.raw u3), (SC.raw u4), (SC.ref 1), (SC.ref 2), (SC.raw u7), (SC.raw u8)]]))), (some (SO.mt false (KC.ints .u32 ks) true [(Col.ints .u32 ts), (Col.ints .u16 ss), (Col.ints .u16 ns)] bs cl)), (some (SO.mt false (KC.ints .u32 cs) true [] cb cc)), (some (SO.mem false MK.whole 81 3 (Ct.lst [[(iv .u32 t), (iv .u16 s), (iv .u16 n)]]))), (some (SO.box true ob)), (obj 81 3 [(iv .u32 a), (iv .u16 b), (iv .u16 c)]), (some SO.nul)])) (k Exit.normal (frm 50 [(0, (.sa (.one (SC.ptr 0 0 0)))), (3, (.sa (.one (SC.ptr 3 0 0)))), (5, (.sa (.one (iv .u32 k0)))), (6, (.sa (.one (SC.ptr 5 0 0)))), (7, (.sa (.one (SC.ref 6)))), (8, (.sa (.one (bv false)))), (13, (.sa (.one (SC.ref 4)))), (19, (.tup [(.agg []), (.one (bv false))])), (20, (.sa (.one (SC.ptr 0 0 0)))), (21, (.sa (.one (SC.ptr 0 0 0)))), (22, (.sa (.one (SC.ptr 0 0 6)))), (23, (.sa (.one (SC.ref 2)))), (24, (.sa (.one (iv .u32 k0)))), (25, (.tup [(.agg []), (.one (bv false))])), (26, (.sa (.agg []))), (27, (.sa (.one (bv false)))), (28, (.sa (.one (bv false)))), (29, (.sa (.one (bv true)))), (30, (.sa (.one (bv true)))), (31, (.sa (.one (SC.ptr 5 0 1)))), (32, (.sa (.one (iv .u16 b)))), (33, (.sa (.one (SC.ptr 3 0 1)))), (34, (.sa (.one (iv .u16 s)))), (35, (.sa (.one (bv (eqK b s))))), (36, (.sa (.one (bv (eqK b s))))), (37, (.sa (.one (bv true)))), (38, (.sa (.one (SC.ptr 3 0 0)))), (39, (.sa (.one (iv .u32 t)))), (40, (.sa (.one (iv .u32 k0)))), (41, (.sa (.one (iv .u32 (subK .u32 t k0))))), (42, (.sa (.one (bv (decide (((subK .u32 t k0) < (2147483648)))))))), (43, (.sa (.one (bv (decide (((subK .u32 t k0) < (2147483648)))))))), (44, (.sa (.one (bv false)))), (45, (.tup [])), (46, (.tup [])), (47, (.tup [])), (48, (.tup [])), (49, (.sa (.one (bv false))))]) [(some (SO.mem false MK.whole 78 9 (Ct.lst [[(SC.raw u0), (SC.raw u1), (SC.raw u2), (SC.raw u3), (SC.raw u4), (SC.ref 1), (SC.ref 2), (SC.raw u7), (SC.raw u8)]]))), (some (SO.mt false (KC.ints .u32 ks) true [(Col.ints .u32 ts), (Col.ints .u16 ss), (Col.ints .u16 ns)] bs cl)), (some (SO.mt false (KC.ints .u32 cs) true [] cb cc)), (some (SO.mem false MK.whole 81 3 (Ct.lst [[(iv .u32 t), (iv .u16 s), (iv .u16 n)]]))), (some (SO.box true ob)), (obj 81 3 [(iv .u32 a), (iv .u16 b), (iv .u16 c)]), (some SO.nul)])) (k Exit.normal (frm 50 [(0, (.sa (.one (SC.ptr 0 0 0)))), (3, (.sa (.one (SC.ptr 3 0 0)))), (5, (.sa (.one (iv .u32 k0)))), (6, (.sa (.one (SC.ptr 5 0 0)))), (7, (.sa (.one (SC.ref 6)))), (8, (.sa (.one (bv false)))), (13, (.sa (.one (SC.ref 4)))), (19, (.tup [(.agg []), (.one (bv false))])), (20, (.sa (.one (SC.ptr 0 0 0)))), (21, (.sa (.one (SC.ptr 0 0 0)))), (22, (.sa (.one (SC.ptr 0 0 6)))), (23, (.sa (.one (SC.ref 2)))), (24, (.sa (.one (iv .u32 k0)))), (25, (.tup [(.agg []), (.one (bv false))])), (26, (.sa (.agg []))), (27, (.sa (.one (bv false)))), (28, (.sa (.one (bv false)))), (29, (.sa (.one (bv true)))), (30, (.sa (.one (bv true)))), (31, (.sa (.one (SC.ptr 5 0 1)))), (32, (.sa (.one (iv .u16 b)))), (33, (.sa (.one (SC.ptr 3 0 1)))), (34, (.sa (.one (iv .u16 s)))), (35, (.sa (.one (bv (eqK b s))))), (36, (.sa (.one (bv (eqK b s))))), (37, (.sa (.one (bv false)))), (38, (.tup [])), (39, (.tup [])), (40, (.tup [])), (41, (.tup [])), (42, (.tup [])), (43, (.sa (.one (bv false)))), (44, (.sa (.one (bv false)))), (45, (.tup [])), (46, (.tup [])), (47, (.tup [])), (48, (.tup [])), (49, (.sa (.one (bv false))))]) [(some (SO.mem false MK.whole 78 9 (Ct.lst [[(SC.raw u0), (SC.raw u1), (SC.raw u2), (SC.raw u3), (SC.raw u4), (SC.ref 1), (SC.ref 2), (SC.raw u7), (SC.raw u8)]]))), (some (SO.mt false (KC.ints .u32 ks) true [(Col.ints .u32 ts), (Col.ints .u16 ss), (Col.ints .u16 ns)] bs cl)), (some (SO.mt false (KC.ints .u32 cs) true [] cb cc)), (some (SO.mem false MK.whole 81 3 (Ct.lst [[(iv .u32 t), (iv .u16 s), (iv .u16 n)]]))), (some (SO.box true ob)), (obj 81 3 [(iv .u32 a), (iv .u16 b), (iv .u16 c)]), (some SO.nul)]))) := by kernel_rfl
theorem t_ahE (ob : Obj) (u0 u1 u2 u3 u4 u7 u8 : Value) (t s n : Int) (ks ts ss ns bs cs cb : List Int) (cl cc : Nat) (k : Exit → Fr → St → Prop) : ev cxAh 50 4 48 (codeAt Try.prog 48 [1, 1]) (frm 50 [(0, .sa (.one (.ptr 0 0 0)))]) [ahO u0 u1 u2 u3 u4 u7 u8, ahK ks ts ss ns bs cl, ahC cs cb cc, ahM false t s n, some (.box true ob)] k =
    (k Exit.ret (frm 50 [(0, (.sa (.one (SC.ptr 0 0 0)))), (4, (.sa (.one (bv false))))]) [(some (SO.mem false MK.whole 78 9 (Ct.lst [[(SC.raw u0), (SC.raw u1), (SC.raw u2), (SC.raw u3), (SC.raw u4), (SC.ref 1), (SC.ref 2), (SC.raw u7), (SC.raw u8)]]))), (some (SO.mt false (KC.ints .u32 ks) true [(Col.ints .u32 ts), (Col.ints .u16 ss), (Col.ints .u16 ns)] bs cl)), (some (SO.mt false (KC.ints .u32 cs) true [] cb cc)), (some (SO.mem false MK.whole 81 3 (Ct.lst [[(iv .u32 t), (iv .u16 s), (iv .u16 n)]]))), (some (SO.box true ob))]) := by kernel_rfl
end Go.Ev
end
section
namespace Go.Ev
open Go
variable {P : Program}
theorem evOps_pre {cx : Cx} {call : CallT} {r : Option Nat} {ops : Array Oper} {Q : Exit → Act → World → Prop} {more : List Nat} (hP : cx.P = P) (hN : OpsOk P cx) (hC : CallOk P call) :
    ∀ (pre : List Oper) (i : Nat), (∀ j o, pre[j]? = some o → ops[i + j]? = some o) → ∀ {fr : Fr} {st : St} {k : Fr → St → Prop} {α : Al} {a : Act} {w : World}, R α st w → FrOk α fr a.tmps →
      evOps cx call ops.toList pre fr st k → (∀ fr' st' α' a' w', k fr' st' → FrOk α' fr' a'.tmps → To α st w α' st' w' → a'.defers = a.defers → wpOpsIn (Wide r) 0 P ops Q more a' w') →
      wpOpsIn (Wide r) 0 P ops Q (List.range' i pre.length ++ more) a w
  | [], i, _, fr, st, k, α, a, w, hR, hf, h, hK => by
    simp only [evOps, forceV_eq] at h
    exact hK fr st α a w h hf (To.refl hR) rfl
  | o :: rest, i, hd, fr, st, k, α, a, w, hR, hf, h, hK => by
    have ho : ops[i]? = some o := by simpa using hd 0 o rfl
    simp only [evOps, forceV_eq] at h
    simp only [List.length_cons, List.range'_succ, List.cons_append]
    rw [wpOpsIn_cons]
    simp only [wpOpIn, ho]
    have hd' : ∀ j q, rest[j]? = some q → ops[i + 1 + j]? = some q := fun j q hj => by
      have := hd (j + 1) q (by simpa using hj)
      rw [show i + 1 + j = i + (j + 1) from by omega]; exact this
    rcases evGuard_sound hf h with ⟨hw, fr', hf', h⟩ | ⟨hw, fr', hf', h⟩
    · rw [if_pos hw]
      refine evOp_sound hP hN hC hR (evOperand_rep hf') h fun sv st' α' w' v hk hv hto => ?_
      refine evOps_pre hP hN hC rest (i + 1) hd' hto.rep ((hf'.mono (hto.le hR)).put hv) hk fun fr2 st2 α2 a2 w2 x1 x2 x3 x4 => ?_
      exact hK fr2 st2 α2 a2 w2 x1 x2 (hto.trans x3) (by rw [x4, put_defers_eq])
    · rw [if_neg (by rw [hw]; simp)]
      refine ⟨fun _ _ => trivial, ?_⟩
      refine evOps_pre hP hN hC rest (i + 1) hd' hR (hf'.put (sv := undefV) (v := undef) ⟨[], trivial, rfl⟩) h fun fr2 st2 α2 a2 w2 x1 x2 x3 x4 => ?_
      exact hK fr2 st2 α2 a2 w2 x1 x2 x3 (by rw [x4, put_defers_eq])
theorem op_value {r : Option Nat} {ops : Array Oper} {Q : Exit → Act → World → Prop} {i : Nat} {rest : List Nat} {o : Oper} {a : Act} {w w' : World} {v : Value} (ho : ops[i]? = some o) (hg : o.guard = none)
    (hs : (o.semAt (Wide r).round a.eval).run P w = .ok (.value v) w') (h : wpOpsIn (Wide r) 0 P ops Q rest (a.put o.dst v) w') : wpOpsIn (Wide r) 0 P ops Q (i :: rest) a w := by
  rw [wpOpsIn_cons]
  simp only [wpOpIn, ho]
  rw [if_pos (by simp [Region.wanted, hg])]
  refine ⟨fun _ _ => trivial, ?_⟩
  rw [hs]
  exact h
theorem semAt_range {r : Option Nat} {o : Oper} {a : Act} {w w' : World} {T : TypeId} {x : Operand} {v : Value} (ho : o.op = .range T x) (h : (Instr.range T (a.eval x)).run P w = .ok v w') : (o.semAt r a.eval).run P w = .ok (.value v) w' := by
  obtain ⟨_, op, _, _, _, _⟩ := o
  subst ho
  cases r <;> simp [Oper.semAt, execOp, h]
theorem semAt_next {r : Option Nat} {o : Oper} {a : Act} {w w' : World} {x : Operand} {v : Value} (ho : o.op = .next x false) (h : (Instr.next (a.eval x) false o.type).run P w = .ok v w') : (o.semAt r a.eval).run P w = .ok (.value v) w' := by
  obtain ⟨_, op, _, _, _, _⟩ := o
  subst ho
  cases r <;> simp [Oper.semAt, execOp] at h ⊢ <;> simp [h]
theorem semAt_entry {r : Option Nat} {o : Oper} {a : Act} {w w' : World} {x : Operand} {v : Value} (ho : o.op = .entry x) (h : (Instr.entry (a.eval x)).run P w = .ok v w') : (o.semAt r a.eval).run P w = .ok (.value v) w' := by
  obtain ⟨_, op, _, _, _, _⟩ := o
  subst ho
  cases r <;> simp [Oper.semAt, execOp, h]
theorem semAt_extract {r : Option Nat} {o : Oper} {a : Act} {w : World} {x : Operand} {i : Nat} {vs : Array Value} {v : Value} (ho : o.op = .extract x i) (hx : a.eval x = .tuple vs) (hv : vs[i]? = some v) : (o.semAt r a.eval).run P w = .ok (.value v) w := by
  obtain ⟨_, op, _, _, _, _⟩ := o
  subst ho
  cases r <;> simp [Oper.semAt, execOp, Instr.extract, hx, hv]
structure RgF (w0 w : World) (ob : Obj) (it : Nat) (ds : List Deferred) : Prop where
  kept : ∀ b, b < w0.heap.size → w.heap[b]? = w0.heap[b]?
  size : w0.heap.size ≤ w.heap.size
  tape : TapeOk w0 w
  os : w.os = w0.os
  output : w.output = w0.output
  ob : w.heap[it]? = some ob
  new : w0.heap.size ≤ it
  marks : ∃ ms : List Nat, ms.Nodup ∧ ds = ms.map (fun b => ({ target := .collected b, args := #[] } : Deferred)) ∧ ∀ b ∈ ms, w0.heap.size ≤ b ∧ w.heap[b]? = some (.deferred (some []))
def itDen (it : Nat) : Den := ⟨it, 0, 1, 1, .pointer (some ⟨it, 0, none⟩), true⟩
section
variable {α : Al} {st : St} {w0 w : World} {ob : Obj} {it : Nat} {ds : List Deferred}
theorem RgF.foot (hF : RgF w0 w ob it ds) (hR : R α st w0) {o : Nat} {so : SO} {d : Den} (ho : st.get o = some so) (hd : α o = some d) : Good α w d so ∧ (∀ b, Foot w d so b → Foot w0 d so b) ∧ (∀ b, Foot w0 d so b → b < w0.heap.size) ∧ Good α w0 d so := by
  obtain ⟨d', h1, h2⟩ := hR.good o so ho
  rw [hd] at h1; cases h1
  have hlt : ∀ b, Foot w0 d so b → b < w0.heap.size := fun b hb => h2.lt hb
  obtain ⟨g1, g2⟩ := h2.kept (Al.le.refl _) (fun b hb => hF.kept b (hlt b hb)) hF.size
  exact ⟨g1, g2, hlt, h2⟩
theorem RgF.to (hF : RgF w0 w ob it ds) (hR : R α st w0) : To α st w0 (α.add st.length (itDen it)) (st ++ [some (.box true ob)]) w := by
  have hsame : ∀ o, o < st.length → (α.add st.length (itDen it)) o = α o := fun o ho => Al.add_other (by omega)
  have hle : α.le (α.add st.length (itDen it)) := Al.le_add (hR.none _ (Nat.le_refl _))
  have hbox : (α.add st.length (itDen it)) st.length = some (itDen it) := Al.add_same
  have hcase : ∀ o so d, St.get (st ++ [some (.box true ob)]) o = some so → (α.add st.length (itDen it)) o = some d → (o < st.length ∧ st.get o = some so ∧ α o = some d) ∨ (o = st.length ∧ so = .box true ob ∧ d = itDen it) := fun o so d ho hd => by
    rcases St.get_append ho with h | ⟨rfl, h⟩
    · have hlt := St.get_lt h
      exact .inl ⟨hlt, h, by rw [← hsame o hlt]; exact hd⟩
    · cases h
      rw [hbox] at hd; cases hd
      exact .inr ⟨rfl, rfl, rfl⟩
  refine ⟨⟨fun o so ho => ?_, fun o o' so so' d d' b hne ho ho' hd hd' hw hl hf => ?_, fun o so d b ho hd hw hl hi => ?_, fun o ho => ?_, fun o d hd => ?_⟩, hsame, by simp, fun o so d b ho hd hb hl => ?_, fun o so d b ho hd hb hi => ?_, fun b hb hw => ?_, fun b hb _ => hF.kept b hb, hF.size, hF.tape, hF.os, hF.output⟩
  · rcases St.get_append ho with h | ⟨rfl, h⟩
    · obtain ⟨d, h1, _⟩ := hR.good o so h
      exact ⟨d, hle _ _ h1, ((hF.foot hR h h1).1).congr hle (fun _ _ => rfl) (Nat.le_refl _)⟩
    · cases h
      exact ⟨_, hbox, rfl, hF.ob⟩
  · rcases hcase o so d ho hd with ⟨_, h1, h2⟩ | ⟨rfl, rfl, rfl⟩ <;> rcases hcase o' so' d' ho' hd' with ⟨_, h1', h2'⟩ | ⟨rfl, rfl, rfl⟩
    · obtain ⟨_, f1, _, _⟩ := hF.foot hR h1 h2
      obtain ⟨_, f2, _, _⟩ := hF.foot hR h1' h2'
      have hl0 : so.lies w0 d b := SO.lies_congr (α := α) (hF.foot hR h1 h2).2.2.2 (fun c hc => hF.kept c ((hF.foot hR h1 h2).2.2.1 c hc)) hl
      exact hR.sep o o' so so' d d' b hne h1 h1' h2 h2' hw hl0 (f2 b hf)
    · obtain ⟨_, f1, f2, _⟩ := hF.foot hR h1 h2
      have := f2 b (f1 b (.inl hl))
      rcases hf with hf | hf
      · have hf : b = it := hf
        have := hF.new; omega
      · exact hf.elim
    · obtain ⟨_, f1, f2, _⟩ := hF.foot hR h1' h2'
      have := f2 b (f1 b hf)
      have hl : b = it := hl
      have := hF.new; omega
    · exact hne rfl
  · rcases hcase o so d ho hd with ⟨_, h1, h2⟩ | ⟨rfl, rfl, rfl⟩
    · have hk : ∀ c, Foot w0 d so c → w.heap[c]? = w0.heap[c]? := fun c hc => hF.kept c ((hF.foot hR h1 h2).2.2.1 c hc)
      exact hR.self o so d b h1 h2 hw (SO.lies_congr (α := α) (hF.foot hR h1 h2).2.2.2 hk hl) (Ice.congr hk hi)
    · exact hi
  · simp only [List.length_append, List.length_cons, List.length_nil] at ho
    rw [Al.add_other (by omega)]; exact hR.none o (by omega)
  · by_cases h : o = st.length
    · subst h; rw [hbox] at hd; cases hd; rfl
    · rw [Al.add_other h] at hd; exact hR.cell o d hd
  · rcases hcase o so d ho hd with ⟨h0, h1, h2⟩ | ⟨rfl, rfl, rfl⟩
    · exact .inr ⟨h0, so, h1, SO.lies_congr (α := α) (hF.foot hR h1 h2).2.2.2 (fun c hc => hF.kept c ((hF.foot hR h1 h2).2.2.1 c hc)) hl⟩
    · have hl : b = it := hl
      have := hF.new; omega
  · rcases hcase o so d ho hd with ⟨h0, h1, h2⟩ | ⟨rfl, rfl, rfl⟩
    · exact .inr ⟨o, so, d, h1, h2, Ice.congr (fun c hc => hF.kept c ((hF.foot hR h1 h2).2.2.1 c hc)) hi⟩
    · exact hi.elim
  · obtain ⟨o, so, d, ho, hd, hw, hl⟩ := hw
    rcases hcase o so d ho hd with ⟨h0, h1, h2⟩ | ⟨rfl, rfl, rfl⟩
    · exact ⟨o, so, d, h1, h2, hw, SO.lies_congr (α := α) (hF.foot hR h1 h2).2.2.2 (fun c hc => hF.kept c ((hF.foot hR h1 h2).2.2.1 c hc)) hl⟩
    · have hl : b = it := hl
      have := hF.new; omega
theorem RgF.mk' (hF : RgF w0 w ob it ds) (hR : R α st w0) (hob : ob ≠ .deferred (some [])) : MarksOk w0 (α.add st.length (itDen it)) (st ++ [some (.box true ob)]) w ds := by
  obtain ⟨ms, h1, h2, h3⟩ := hF.marks
  refine ⟨ms, h1, h2, fun b hb => ⟨(h3 b hb).1, (h3 b hb).2, fun o so d ho hd hf => ?_⟩⟩
  rcases St.get_append ho with h | ⟨rfl, h⟩
  · have hd' : α o = some d := by rw [← hd]; exact (Al.add_other (by have := St.get_lt h; omega)).symm
    obtain ⟨_, f1, f2, _⟩ := hF.foot hR h hd'
    have := f2 b (f1 b hf)
    have := (h3 b hb).1
    omega
  · cases h
    rw [Al.add_same] at hd; cases hd
    rcases hf with hf | hf
    · have hf : b = it := hf
      subst hf
      have := (h3 _ hb).2
      rw [hF.ob] at this
      exact hob (Option.some.inj this)
    · exact hf.elim
theorem RgF.back {α' : Al} {st' : St} {w' : World} {j : Nat} (hR : R α st w0) (hn : ∀ b, ¬ Wr α st w0 b) (hto : To α st w0 α' st' w') (hm : MarksOk w0 α' st' w' ds) (hlt : st.length ≤ j) (hj : st'.get j = some (.box true ob)) :
    ∃ it', α' j = some ⟨it', (α' j).elim 0 (·.off), (α' j).elim 0 (·.m), (α' j).elim 0 (·.cap), .pointer (some ⟨it', 0, none⟩), (α' j).elim true (·.live)⟩ ∧ RgF w0 w' ob it' ds := by
  obtain ⟨d, hd, h1, h2⟩ := hto.rep.good j _ hj
  refine ⟨d.blk, by rw [hd]; obtain ⟨b, o, m, c, v, l⟩ := d; simp only at h1; subst h1; rfl, fun b hb => hto.kept b hb (hn b), hto.size, hto.tape, hto.os, hto.output, h2, ?_, ?_⟩
  · by_cases hb : d.blk < w0.heap.size
    · exfalso
      rcases hto.lies j _ d d.blk hj hd hb rfl with h | ⟨h, _⟩
      · exact hn _ h
      · omega
    · omega
  · obtain ⟨ms, h3, h4, h5⟩ := hm
    exact ⟨ms, h3, h4, fun b hb => ⟨(h5 b hb).1, (h5 b hb).2.1⟩⟩
theorem RgF.to0 (hF : RgF w0 w ob it ds) (hR : R α st w0) : To α st w0 α st w := by
  have hk : ∀ {o so d}, st.get o = some so → α o = some d → ∀ c, Foot w0 d so c → w.heap[c]? = w0.heap[c]? := fun h1 h2 c hc => hF.kept c ((hF.foot hR h1 h2).2.2.1 c hc)
  refine ⟨⟨fun o so ho => ?_, fun o o' so so' d d' b hne ho ho' hd hd' hw hl hf => ?_, fun o so d b ho hd hw hl hi => ?_, hR.none, hR.cell⟩, fun _ _ => rfl, Nat.le_refl _, fun o so d b ho hd hb hl => ?_, fun o so d b ho hd hb hi => ?_, fun b hb hw => ?_, fun b hb _ => hF.kept b hb, hF.size, hF.tape, hF.os, hF.output⟩
  · obtain ⟨d, h1, _⟩ := hR.good o so ho
    exact ⟨d, h1, (hF.foot hR ho h1).1⟩
  · exact hR.sep o o' so so' d d' b hne ho ho' hd hd' hw (SO.lies_congr (α := α) (hF.foot hR ho hd).2.2.2 (hk ho hd) hl) ((hF.foot hR ho' hd').2.1 b hf)
  · exact hR.self o so d b ho hd hw (SO.lies_congr (α := α) (hF.foot hR ho hd).2.2.2 (hk ho hd) hl) (Ice.congr (hk ho hd) hi)
  · exact .inr ⟨St.get_lt ho, so, ho, SO.lies_congr (α := α) (hF.foot hR ho hd).2.2.2 (hk ho hd) hl⟩
  · exact .inr ⟨o, so, d, ho, hd, Ice.congr (hk ho hd) hi⟩
  · obtain ⟨o, so, d, ho, hd, hw, hl⟩ := hw
    exact ⟨o, so, d, ho, hd, hw, SO.lies_congr (α := α) (hF.foot hR ho hd).2.2.2 (hk ho hd) hl⟩
theorem RgF.leave {fn : Func} {tmps : Array Value} {S : Ending → World → Prop} (hF : RgF w0 w ob it ds) (hR : R α st w0) (h : ∀ w', To α st w0 α st w' → ∃ v, (results fn tmps).run P w' = .ok v w' ∧ S (.returned v) w') :
    LeavesInM Fence.wide 0 P fn tmps S ds .returning w := by
  obtain ⟨ms, h1, h2, h3⟩ := hF.marks
  rw [h2]
  refine leaves_marks ms w h1 (hF.to0 hR) (fun b hb => ⟨(h3 b hb).1, (h3 b hb).2, fun o so d ho hd hf => ?_⟩) h
  obtain ⟨_, f1, f2, _⟩ := hF.foot hR ho hd
  have := f2 b (f1 b hf)
  have := (h3 b hb).1
  omega
theorem RgF.start {α' : Al} {st' : St} {w' : World} (hn : ∀ b, ¬ Wr α st w0 b) (hto : To α st w0 α' st' w') (hm : MarksOk w0 α' st' w' ds) : RgF w0 (w'.alloc ob) ob w'.heap.size ds := by
  have hk : ∀ b, b < w'.heap.size → (w'.alloc ob).heap[b]? = w'.heap[b]? := fun b hb => by
    show (w'.heap.push ob)[b]? = _
    rw [Array.getElem?_push, if_neg (by omega)]
  refine ⟨fun b hb => (hk b (by have := hto.size; omega)).trans (hto.kept b hb (hn b)), ?_, ⟨hto.tape.tape, hto.tape.drawn⟩, hto.os, hto.output, ?_, hto.size, ?_⟩
  · show _ ≤ (w'.heap.push ob).size
    have := hto.size
    simp; omega
  · show (w'.heap.push ob)[w'.heap.size]? = _
    simp
  · obtain ⟨ms, h1, h2, h3⟩ := hm
    exact ⟨ms, h1, h2, fun b hb => ⟨(h3 b hb).1, (hk b (Array.getElem?_eq_some_iff.1 (h3 b hb).2.1).1).trans (h3 b hb).2.1⟩⟩
theorem frmFrom_get (l : List (Nat × SV)) : ∀ (n i t : Nat), (frmFrom l i n)[t]? = if t < n then some (frmAt (i + t) l) else none
  | 0, i, t => by simp [frmFrom]
  | n + 1, i, 0 => by simp [frmFrom]
  | n + 1, i, t + 1 => by
    simp only [frmFrom, List.getElem?_cons_succ, frmFrom_get l n (i + 1) t]
    by_cases h : t < n
    · rw [if_pos h, if_pos (by omega), show i + 1 + t = i + (t + 1) from by omega]
    · rw [if_neg h, if_neg (by omega)]
theorem frm_get {l : List (Nat × SV)} {n t : Nat} {sv : SV} : (frm n l).get t = some sv ↔ t < n ∧ frmAt t l = some sv := by
  rw [Fr.get_eq]
  simp only [frm, frmFrom_get, Nat.zero_add]
  by_cases h : t < n
  · rw [if_pos h]; simp [h]
  · rw [if_neg h]; simp [h]
theorem frm_length {l : List (Nat × SV)} {n : Nat} : (frm n l).length = n := by
  have : ∀ (n i : Nat), (frmFrom l i n).length = n := by
    intro n
    induction n with
    | zero => intro i; rfl
    | succ n ih => intro i; simp [frmFrom, ih]
  exact this n 0
theorem frmAt_mem {t : Nat} {sv : SV} : ∀ {l : List (Nat × SV)}, frmAt t l = some sv → (t, sv) ∈ l
  | [], h => by cases h
  | (j, v) :: r, h => by
    simp only [frmAt] at h
    split at h
    · rename_i hb
      have := Nat.eq_of_beq_eq_true hb
      cases h; subst this; simp
    · exact List.mem_cons_of_mem _ (frmAt_mem h)
theorem FrOk.ofL {n : Nat} {l : List (Nat × SV)} {tmps : Array Value} (hs : tmps.size = n) (h : ∀ p ∈ l, ∃ v, tmps[p.1]? = some v ∧ SV.rep α p.2 v) : FrOk α (frm n l) tmps :=
  ⟨by rw [frm_length, hs], fun t sv ht => h (t, sv) (frmAt_mem (frm_get.1 ht).2)⟩
theorem FrOk.atL {n : Nat} {l : List (Nat × SV)} {tmps : Array Value} (hf : FrOk α (frm n l) tmps) {t : Nat} {sv : SV} (ht : frmAt t l = some sv) (hlt : t < n) : ∃ v, tmps[t]? = some v ∧ SV.rep α sv v := hf.2 t sv (frm_get.2 ⟨hlt, ht⟩)
theorem FrOk.sizeL {n : Nat} {l : List (Nat × SV)} {tmps : Array Value} (hf : FrOk α (frm n l) tmps) : tmps.size = n := by rw [← hf.1, frm_length]
theorem box_piece {cx : Cx} (hx : CxOk P cx) {n f : Nat} {c : Code} {fr : Fr} {k : Exit → Fr → St → Prop} {Q : Exit → Act → World → Prop} {a : Act} (hob : ob ≠ .deferred (some [])) (hF : RgF w0 w ob it a.defers) (hR : R α st w0)
    (hf : FrOk (α.add st.length (itDen it)) fr a.tmps) (h : ev cx n st.length f c fr (st ++ [some (.box true ob)]) k)
    (hK : ∀ ex fr' st' α' a' w', k ex fr' st' → FrOk α' fr' a'.tmps → To α st w0 α' st' w' → MarksOk w0 α' st' w' a'.defers → Q ex a' w') : c.wpIn (Wide none) 0 P Q a w :=
  (ev_sound hx n).1 (fun _ => rfl) (hF.to hR) hf (hF.mk' hR hob) h fun ex fr' st' α' a' w' hk hf' hto hm => hK ex fr' st' α' a' w' hk hf' hto hm
end
end Go.Ev
end
section
namespace Go.Ev
open Go
open Go.ChangeMaps (setBlock)
variable {P : Program}
theorem eval_put_same {a : Act} {t : Nat} {v : Value} (h : t < a.tmps.size) : (a.put (some t) v).eval (.tmp t) = v := by
  simp [Act.put, Act.eval, h]
theorem eval_put_other {a : Act} {t t' : Nat} {v : Value} (h : t ≠ t') : (a.put (some t') v).eval (.tmp t) = a.eval (.tmp t) := by
  simp [Act.put, Act.eval, Array.getD_eq_getD_getElem?, Array.getElem?_setIfInBounds, Ne.symm h]
theorem put_size {a : Act} {d : Option Nat} {v : Value} : (a.put d v).tmps.size = a.tmps.size := by cases d <;> simp [Act.put]
theorem RgF.step {w0 w w1 : World} {ob ob' : Obj} {it : Nat} {ds : List Deferred} (hF : RgF w0 w ob it ds) (h1 : w1 = w ∨ w1 = w.drew) (hob : ob ≠ .deferred (some [])) : RgF w0 (setBlock w1 it ob') ob' it ds := by
  have hh : w1.heap = w.heap := by rcases h1 with rfl | rfl <;> rfl
  have hlt : it < w.heap.size := (Array.getElem?_eq_some_iff.1 hF.ob).1
  have hk : ∀ b, b ≠ it → (setBlock w1 it ob').heap[b]? = w.heap[b]? := fun b hb => by
    simp only [setBlock, hh, Array.getElem?_setIfInBounds]
    rw [if_neg (fun e => hb e.symm)]
  refine ⟨fun b hb => (hk b (by have := hF.new; omega)).trans (hF.kept b hb), ?_, ?_, ?_, ?_, ?_, hF.new, ?_⟩
  · simp only [setBlock, hh, Array.size_setIfInBounds]; exact hF.size
  · rcases h1 with rfl | rfl
    · exact ⟨hF.tape.tape, hF.tape.drawn⟩
    · exact ⟨hF.tape.tape, Nat.le_succ_of_le hF.tape.drawn⟩
  · rcases h1 with rfl | rfl <;> exact hF.os
  · rcases h1 with rfl | rfl <;> exact hF.output
  · simp [setBlock, hh, Array.getElem?_setIfInBounds, hlt]
  · obtain ⟨ms, m1, m2, m3⟩ := hF.marks
    refine ⟨ms, m1, m2, fun b hb => ⟨(m3 b hb).1, ?_⟩⟩
    by_cases e : b = it
    · subst e
      have := (m3 _ hb).2
      rw [hF.ob] at this
      exact absurd (Option.some.inj this) hob
    · rw [hk b e]; exact (m3 b hb).2
theorem range_loop {b0 id4 d1 d2 : Nat} {ops : Array Oper} {B : Code} {o1 o2 : Oper} {itT : Nat} {Q : Exit → Act → World → Prop} {a : Act} {w : World} {bm cl : Nat} {es : List MapEntry}
    (hs : ops.size = 2) (h1 : ops[0]? = some o1) (h2 : ops[1]? = some o2) (g1 : o1.guard = none) (g2 : o2.guard = none) (p1 : o1.op = .next (.tmp itT) false) (p2 : o2.op = .extract (.tmp d1) 0) (e1 : o1.dst = some d1) (e2 : o2.dst = some d2) (hd : d1 ≠ d2)
    (hyoung : ∀ x ∈ es, x.born < cl) (Inv : Array Nat → Act → World → Prop)
    (hI : ∀ seen a w, Inv seen a w → ∃ it, a.eval (.tmp itT) = .pointer (some ⟨it, 0, none⟩) ∧ w.heap[it]? = some (.mapIter (some bm) cl seen cl) ∧ w.heap[bm]? = some (.map es.toArray cl) ∧ d1 < a.tmps.size ∧ d2 < a.tmps.size)
    (h0 : ∃ seen, Inv seen a w)
    (over : ∀ seen a w, Inv seen a w → (∀ e ∈ es, seen.contains e.born = true) → Q .normal ((a.put (some d1) (.tuple #[.bool false])).put (some d2) (.bool false)) w)
    (step : ∀ seen a w it e w1, Inv seen a w → a.eval (.tmp itT) = .pointer (some ⟨it, 0, none⟩) → e ∈ es → seen.contains e.born = false → (w1 = w ∨ w1 = w.drew) →
      B.wpIn (Wide none) 0 P (Exit.then (fun a w => Inv (seen.push e.born) a w) (Exit.inBlock b0 Q)) ((a.put (some d1) (.tuple #[.bool true, e.key, e.val])).put (some d2) (.bool true)) (setBlock w1 it (.mapIter (some bm) cl (seen.push e.born) cl))) :
    (Code.block b0 (.loop (.seq (.region id4 ops false) (.seq (.cond (.tmp d2) .skip (.exit b0)) B)))).wpIn (Wide none) 0 P Q a w := by
  refine wpIn_block ?_
  refine wpIn_loop (fun a w => ∃ seen, Inv seen a w) (fun a w => match a.eval (.tmp itT) with
    | .pointer (some p) => (match w.heap[p.block]? with
      | some (.mapIter _ _ seen _) => (es.filter fun e => !seen.contains e.born).length
      | _ => 0)
    | _ => 0) h0 fun a w ⟨seen, hinv⟩ => ?_
  obtain ⟨it, q1, q2, q3, q4, q5⟩ := hI seen a w hinv
  simp only [q1, q2]
  refine wpIn_seq (wpIn_region ?_)
  have hr : List.range ops.size = [0, 1] := by rw [hs]; rfl
  rw [hr]
  have q5' : d2 < (a.put (some d1) (.tuple #[.bool false])).tmps.size := by rw [put_size]; exact q5
  rcases run_next_at (P := P) w o1.type it bm cl cl seen es.toArray cl q2 q3 (by simpa using hyoung) (Nat.le_refl _) with ⟨hz, hrun⟩ | ⟨e, he, w1, hw1, hrun⟩
  · refine op_value h1 g1 (semAt_next p1 (by rw [q1]; exact hrun)) (op_value h2 g2 (semAt_extract (v := .bool false) p2 (by rw [e1]; exact eval_put_same q4) rfl) ?_)
    rw [e1, e2]
    refine wpIn_seq (wpIn_cond_false (by exact eval_put_same (by rw [put_size]; exact q5)) (wpIn_exit ?_))
    show Exit.inBlock b0 Q (.exit b0) _ _
    simp only [Exit.inBlock, if_true]
    refine over seen a w hinv fun e he => ?_
    cases hc : seen.contains e.born with
    | true => rfl
    | false =>
      exfalso
      have : e ∈ (leftOf es.toArray seen).toList := by
        simp only [leftOf]
        rw [Array.toList_filter, List.mem_filter]
        exact ⟨by simpa using he, by rw [hc]; rfl⟩
      have hl : (leftOf es.toArray seen).toList.length = 0 := by simpa using hz
      rw [List.length_eq_zero_iff] at hl
      rw [hl] at this; cases this
  · have hmem : e ∈ es ∧ seen.contains e.born = false := by
      simp only [leftOf] at he
      rw [Array.toList_filter, List.mem_filter] at he
      exact ⟨by simpa using he.1, by simpa using he.2⟩
    refine op_value h1 g1 (semAt_next p1 (by rw [q1]; exact hrun)) (op_value h2 g2 (semAt_extract (v := .bool true) p2 (by rw [e1]; exact eval_put_same q4) rfl) ?_)
    rw [e1, e2]
    refine wpIn_seq (wpIn_cond_true (by exact eval_put_same (by rw [put_size]; exact q5)) (wpIn_skip ?_))
    refine wpIn_mono (step seen a w it e w1 hinv q1 hmem.1 hmem.2 hw1) fun ex a' w' hq => ?_
    cases ex with
    | normal =>
      refine ⟨⟨_, hq⟩, ?_⟩
      obtain ⟨it', r1, r2, _, _, _⟩ := hI _ _ _ hq
      simp only [r1, r2]
      have hsub : ∀ l : List MapEntry, (l.filter fun x => !(seen.push e.born).contains x.born).length ≤ (l.filter fun x => !seen.contains x.born).length := by
        intro l
        induction l with
        | nil => simp
        | cons x r ih =>
          simp only [List.filter_cons]
          by_cases hx : seen.contains x.born = true
          · have : (seen.push e.born).contains x.born = true := by simp only [Array.contains_push, Bool.or_eq_true]; first | exact .inl hx | exact .inr hx
            rw [if_neg (by rw [this]; simp), if_neg (by rw [hx]; simp)]; exact ih
          · rw [if_pos (show (!seen.contains x.born) = true by simpa using hx)]
            split
            · simp only [List.length_cons]; omega
            · simp only [List.length_cons]; omega
      have hstr : ∀ l : List MapEntry, e ∈ l → (l.filter fun x => !(seen.push e.born).contains x.born).length < (l.filter fun x => !seen.contains x.born).length := by
        intro l hl
        induction l with
        | nil => cases hl
        | cons x r ih =>
          simp only [List.filter_cons]
          by_cases hxe : x = e
          · subst hxe
            rw [if_neg (by simp), if_pos (show (!seen.contains x.born) = true by rw [hmem.2]; rfl)]
            have := hsub r
            simp only [List.length_cons]; omega
          · have hr := ih ((List.mem_cons.1 hl).resolve_left fun h => hxe h.symm)
            by_cases hx : seen.contains x.born = true
            · have : (seen.push e.born).contains x.born = true := by simp only [Array.contains_push, Bool.or_eq_true]; first | exact .inl hx | exact .inr hx
              rw [if_neg (by rw [this]; simp), if_neg (by rw [hx]; simp)]; exact hr
            · rw [if_pos (show (!seen.contains x.born) = true by simpa using hx)]
              split
              · simp only [List.length_cons]; omega
              · simp only [List.length_cons]; omega
      exact hstr es hmem.1
    | _ => exact hq
end Go.Ev
end
section
namespace Go.Ev
open Go Go.Proofs Go.Spec
open Go.ChangeMaps (setBlock)
attribute [local irreducible] ev evCall branch need again evOps
theorem ahFn : Try.prog.funcs[(48 : Nat)]? = some Try.f48 := by kernel_rfl
theorem ahBody : Try.f48.body = some (codeAt Try.prog 48 []) := by kernel_rfl
theorem ahRes : Try.f48.results = #[ResultVar.tmp 4] := by kernel_rfl
theorem ahTmps : Try.f48.ntmps = 50 := by kernel_rfl
noncomputable def ahOp (way : List Nat) : Array Oper := (opsAt Try.prog 48 way).toArray
theorem ahCode : codeAt Try.prog 48 [] = .seq (.region 0 (ahOp [0]) false) (.seq (.seq (.region 1 (ahOp [1, 0, 0]) false) (.block 0 (.loop (.seq (.region 2 (ahOp [1, 0, 1, 0, 0, 0]) false) (.seq (.cond (.tmp 15) .skip (.exit 0)) (.block 1 (.seq (.region 3 (ahOp [1, 0, 1, 0, 0, 1, 1, 0, 0]) false) (codeAt Try.prog 48 [1, 0, 1, 0, 0, 1, 1, 0, 1])))))))) (codeAt Try.prog 48 [1, 1])) := by kernel_rfl
def isOp (o : Option Oper) (op : Op) (d : Nat) : Prop := ∃ q, o = some q ∧ q.op = op ∧ q.dst = some d ∧ q.guard = none
theorem ahRange : isOp (ahOp [1, 0, 0])[4]? (.range 75 (.tmp 12)) 13 := ⟨_, rfl, rfl, rfl, rfl⟩
theorem ahNext : isOp (ahOp [1, 0, 1, 0, 0, 0])[0]? (.next (.tmp 13) false) 14 := ⟨_, rfl, rfl, rfl, rfl⟩
theorem ahExt : isOp (ahOp [1, 0, 1, 0, 0, 0])[1]? (.extract (.tmp 14) 0) 15 := ⟨_, rfl, rfl, rfl, rfl⟩
theorem ahEntry : isOp (ahOp [1, 0, 1, 0, 0, 1, 1, 0, 0])[0]? (.entry (.tmp 13)) 16 := ⟨_, rfl, rfl, rfl, rfl⟩
theorem ahSize0 : (ahOp [0]).size = 2 := by kernel_rfl
theorem ahLen0 : (opsAt Try.prog 48 [0]).length = 2 := by kernel_rfl
theorem ahLen1 : (takeL 4 (opsAt Try.prog 48 [1, 0, 0])).length = 4 := by kernel_rfl
theorem ahLen3 : (dropL 1 (opsAt Try.prog 48 [1, 0, 1, 0, 0, 1, 1, 0, 0])).length = 5 := by kernel_rfl
theorem ahSize1 : (ahOp [1, 0, 0]).size = 5 := by kernel_rfl
theorem ahSize2 : (ahOp [1, 0, 1, 0, 0, 0]).size = 2 := by kernel_rfl
theorem ahSize3 : (ahOp [1, 0, 1, 0, 0, 1, 1, 0, 0]).size = 6 := by kernel_rfl
theorem ahMapT : Try.prog.underlying 75 = some (.map 23 81) := by kernel_rfl
theorem cxAh_ok : CxOk Try.prog cxAh := by
  have h := mkCx_ok (P := Try.prog) (sums := []) (live := []) (wr := []) namesR mixedR (by simp)
  exact { h with }
theorem tmp_at {a : Act} {t : Nat} {v : Value} (ht : t < a.tmps.size) (h : a.eval (.tmp t) = v) : a.tmps[t]? = some v := by
  simp only [Act.eval, Array.getD_eq_getD_getElem?] at h
  rw [Array.getElem?_eq_getElem ht] at h ⊢
  simpa using h
theorem idxI_memA {x : Int} : ∀ {xs : List Int}, idxI x xs < xs.length ↔ x ∈ xs
  | [] => by simp [idxI]
  | y :: r => by
    rw [idxI]
    cases e : eqK x y with
    | true => rw [eqK_t] at e; simp [e]
    | false =>
      rw [eqK_f] at e
      simp only [List.length_cons, List.mem_cons, e, false_or]
      rw [← idxI_memA (xs := r)]
      omega
def condB (cs : List Int) (t s k0 b : Int) : Bool := !decide (k0 ∈ cs) && (decide (b = s) && (decide (subK .u32 t k0 < 2147483648) && !decide (k0 = t)))
theorem aheadW_eq (ks ss cs : List Int) (t s : Int) : aheadW ks ss cs t s = (List.range ks.length).any fun i => condB cs t s (ks.getD i 0) (ss.getD i 0) := rfl
theorem ah_sel {α : Al} {st : St} {w0 : World} {wb w1 w2 : Bool} {q1 q2 : Nat} {c0 c1 c2 c3 c4 c7 c8 : SC} {ks ts ss ns bs cs cb : List Int} {cl cc : Nat} (hR : R α st w0)
    (h0 : st.get 0 = some (.mem wb .whole 78 9 (.lst [[c0, c1, c2, c3, c4, .ref q1, .ref q2, c7, c8]])))
    (h1 : st.get q1 = some (.mt w1 (.ints .u32 ks) true [.ints .u32 ts, .ints .u16 ss, .ints .u16 ns] bs cl)) (h2 : st.get q2 = some (.mt w2 (.ints .u32 cs) true [] cb cc)) :
    ∃ (α3 : Al) (u0 u1 u2 u3 u4 u7 u8 : Value), R α3 [ahO u0 u1 u2 u3 u4 u7 u8, ahK ks ts ss ns bs cl, ahC cs cb cc] w0 ∧ α3 0 = α 0 ∧ α3 1 = α q1 := by
  obtain ⟨d, hd, g1, g2, ar, fz, e1, e2, e3, e4, e5, e6⟩ := hR.good 0 _ h0
  obtain ⟨d1, hd1, hg1⟩ := hR.good q1 _ h1
  obtain ⟨d2, hd2, hg2⟩ := hR.good q2 _ h2
  obtain ⟨_, hc⟩ := e6 0 (by show 0 < List.length _; simp)
  obtain ⟨u0, _, a0, b0⟩ := hc 0 _ rfl
  obtain ⟨u1, _, a1, b1⟩ := hc 1 _ rfl
  obtain ⟨u2, _, a2, b2⟩ := hc 2 _ rfl
  obtain ⟨u3, _, a3, b3⟩ := hc 3 _ rfl
  obtain ⟨u4, _, a4, b4⟩ := hc 4 _ rfl
  obtain ⟨u5, k5, a5, b5⟩ := hc 5 _ rfl
  obtain ⟨u6, k6, a6, b6⟩ := hc 6 _ rfl
  obtain ⟨u7, _, a7, b7⟩ := hc 7 _ rfl
  obtain ⟨u8, _, a8, b8⟩ := hc 8 _ rfl
  let α3 : Al := fun o => match o with | 0 => α 0 | 1 => α q1 | 2 => α q2 | _ + 3 => none
  have hget : ∀ o so, St.get [ahO u0 u1 u2 u3 u4 u7 u8, ahK ks ts ss ns bs cl, ahC cs cb cc] o = some so → so.wr = false := by
    intro o so h
    match o, h with
    | 0, h => cases h; rfl
    | 1, h => cases h; rfl
    | 2, h => cases h; rfl
    | o + 3, h => simp [St.get_eq] at h
  refine ⟨α3, u0, u1, u2, u3, u4, u7, u8, ⟨fun o so h => ?_, fun o o' so so' dd dd' b hne ho ho' _ _ hw _ _ => ?_, fun o so dd b ho _ hw _ _ => ?_, fun o ho => ?_, fun o dd hdd => ?_⟩, rfl, rfl⟩
  · match o, h with
    | 0, h =>
      cases h
      refine ⟨d, hd, g1, g2, ar, fz, e1, e2, e3, e4, e5, fun i hi => ?_⟩
      obtain rfl : i = 0 := by
        have : i < 1 := hi
        omega
      refine ⟨rfl, fun j c hj => ?_⟩
      match j, hj with
      | 0, hj => cases hj; exact ⟨u0, rfl, a0, b0⟩
      | 1, hj => cases hj; exact ⟨u1, rfl, a1, b1⟩
      | 2, hj => cases hj; exact ⟨u2, rfl, a2, b2⟩
      | 3, hj => cases hj; exact ⟨u3, rfl, a3, b3⟩
      | 4, hj => cases hj; exact ⟨u4, rfl, a4, b4⟩
      | 5, hj => cases hj; exact ⟨u5, k5, a5, b5⟩
      | 6, hj => cases hj; exact ⟨u6, k6, a6, b6⟩
      | 7, hj => cases hj; exact ⟨u7, rfl, a7, b7⟩
      | 8, hj => cases hj; exact ⟨u8, rfl, a8, b8⟩
      | j + 9, hj => cases hj
    | 1, h => cases h; exact ⟨d1, hd1, hg1⟩
    | 2, h => cases h; exact ⟨d2, hd2, hg2⟩
    | o + 3, h => simp [St.get_eq] at h
  · rw [hget o so ho] at hw; cases hw
  · rw [hget o so ho] at hw; cases hw
  · match o, ho with
    | 0, ho => simp at ho
    | 1, ho => simp at ho
    | 2, ho => simp at ho
    | o + 3, _ => rfl
  · match o, hdd with
    | 0, hdd => exact hR.cell _ _ hdd
    | 1, hdd => exact hR.cell _ _ hdd
    | 2, hdd => exact hR.cell _ _ hdd
theorem ah_nowr {α : Al} {u0 u1 u2 u3 u4 u7 u8 : Value} {ks ts ss ns bs cs cb : List Int} {cl cc : Nat} {w : World} : ∀ b, ¬ Wr α [ahO u0 u1 u2 u3 u4 u7 u8, ahK ks ts ss ns bs cl, ahC cs cb cc] w b := by
  rintro b ⟨o, so, d, ho, _, hw, _⟩
  match o, ho with
  | 0, ho => cases ho; cases hw
  | 1, ho => cases ho; cases hw
  | 2, ho => cases ho; cases hw
  | o + 3, ho => simp [St.get_eq] at ho
theorem ah_nowr4 {α : Al} {u0 u1 u2 u3 u4 u7 u8 : Value} {t s n : Int} {ks ts ss ns bs cs cb : List Int} {cl cc : Nat} {w : World} : ∀ b, ¬ Wr α [ahO u0 u1 u2 u3 u4 u7 u8, ahK ks ts ss ns bs cl, ahC cs cb cc, ahM false t s n] w b := by
  rintro b ⟨o, so, d, ho, _, hw, _⟩
  match o, ho with
  | 0, ho => cases ho; cases hw
  | 1, ho => cases ho; cases hw
  | 2, ho => cases ho; cases hw
  | 3, ho => cases ho; cases hw
  | o + 4, ho => simp [St.get_eq] at ho
theorem ah_off {α : Al} {u0 u1 u2 u3 u4 u7 u8 : Value} {t s n : Int} {ks ts ss ns bs cs cb : List Int} {cl cc : Nat} {w : World} (hR : R α [ahO u0 u1 u2 u3 u4 u7 u8, ahK ks ts ss ns bs cl, ahC cs cb cc, ahM true t s n] w) :
    R α [ahO u0 u1 u2 u3 u4 u7 u8, ahK ks ts ss ns bs cl, ahC cs cb cc, ahM false t s n] w := by
  have hget : ∀ o so, St.get [ahO u0 u1 u2 u3 u4 u7 u8, ahK ks ts ss ns bs cl, ahC cs cb cc, ahM false t s n] o = some so → so.wr = false := by
    intro o so h
    match o, h with
    | 0, h => cases h; rfl
    | 1, h => cases h; rfl
    | 2, h => cases h; rfl
    | 3, h => cases h; rfl
    | o + 4, h => simp [St.get_eq] at h
  refine ⟨fun o so h => ?_, fun o o' so so' dd dd' b hne ho ho' _ _ hw _ _ => ?_, fun o so dd b ho _ hw _ _ => ?_, fun o ho => hR.none o ho, hR.cell⟩
  · match o, h with
    | 0, h => exact hR.good 0 _ h
    | 1, h => exact hR.good 1 _ h
    | 2, h => exact hR.good 2 _ h
    | 3, h =>
      cases h
      obtain ⟨d, hd, hg⟩ := hR.good 3 _ rfl
      exact ⟨d, hd, hg⟩
    | o + 4, h => simp [St.get_eq] at h
  · rw [hget o so ho] at hw; cases hw
  · rw [hget o so ho] at hw; cases hw
theorem ah_call {α : Al} {st : St} {w0 : World} {vals : List Value} {wb w1 w2 : Bool} {q1 q2 : Nat} {c0 c1 c2 c3 c4 c7 c8 : SC} {t s n : Int} {ks ts ss ns bs cs cb : List Int} {cl cc : Nat} {k : SV → St → Prop} (hR : R α st w0) (hv : RepsA α [.one (.ptr 0 0 0), .agg [.raw (.int .u32 t), .raw (.int .u16 s), .raw (.int .u16 n)]] vals)
    (h0 : st.get 0 = some (.mem wb .whole 78 9 (.lst [[c0, c1, c2, c3, c4, .ref q1, .ref q2, c7, c8]])))
    (h1 : st.get q1 = some (.mt w1 (.ints .u32 ks) true [.ints .u32 ts, .ints .u16 ss, .ints .u16 ns] bs cl)) (h2 : st.get q2 = some (.mt w2 (.ints .u32 cs) true [] cb cc))
    (hlen : ks.length = cl) (hbs : bs = (List.range cl).map fun i : Nat => (i : Int)) (hk : k (.sa (.one (bv (aheadW ks ss cs t s)))) st) :
    CallsIn Fence.wide 0 Try.prog 48 vals.toArray w0 (CallPost α st w0 k) := by
  obtain ⟨α3, u0, u1, u2, u3, u4, u7, u8, hR3, hx0, hx1⟩ := ah_sel hR h0 h1 h2
  have hn3 : ∀ b, ¬ Wr α3 _ w0 b := ah_nowr (α := α3) (u0 := u0) (u1 := u1) (u2 := u2) (u3 := u3) (u4 := u4) (u7 := u7) (u8 := u8) (ks := ks) (ts := ts) (ss := ss) (ns := ns) (bs := bs) (cs := cs) (cb := cb) (cl := cl) (cc := cc) (w := w0)
  -- the map of those sent
  obtain ⟨dm, hdm, hdv, es, hes, hel, hbl, hent⟩ := hR3.good 1 _ rfl
  have helk : es.length = ks.length := hel
  have hbi : ∀ i, i < cl → bs.getD i 0 = (i : Int) := fun i hi => by
    rw [hbs, List.getD_eq_getElem?_getD, List.getElem?_map, List.getElem?_range hi]; rfl
  have hborn : ∀ (i : Nat) (e : MapEntry), es[i]? = some e → e.born = i := fun i e he => by
    have hi : i < es.length := (List.getElem?_eq_some_iff.1 he).1
    have := (hent i e he).2.1
    rw [hbi i (by omega)] at this
    omega
  have hyoung : ∀ e ∈ es, e.born < cl := fun e he => by
    obtain ⟨i, hi⟩ := List.getElem?_of_mem he
    have := hborn i e hi
    have hi : i < es.length := (List.getElem?_eq_some_iff.1 hi).1
    omega
  have hnod : (es.map (·.born)).Nodup := by
    have : es.map (·.born) = List.range es.length := by
      refine List.ext_getElem? fun i => ?_
      rw [List.getElem?_map]
      by_cases hi : i < es.length
      · rw [List.getElem?_eq_getElem hi, List.getElem?_range hi]
        exact congrArg some (hborn i _ (List.getElem?_eq_getElem hi))
      · rw [List.getElem?_eq_none (by omega), List.getElem?_eq_none (by rw [List.length_range]; omega)]; rfl
    rw [this]; exact List.nodup_range
  match vals, hv with
  | [v0, v1], ⟨hv0, hv1, _⟩ =>
  obtain ⟨d0, hd0, _⟩ := hR3.good 0 _ rfl
  have hp0 : v0 = .pointer (some ⟨d0.blk, d0.off, none⟩) := by
    simp only [SA.rep, SC.val?] at hv0
    rw [← hx0, hd0] at hv0
    simp only [Option.some.injEq] at hv0
    rw [← hv0]; simp
  subst hp0
  have hv1' : SV.rep α3 (.sa (.agg [iv .u32 t, iv .u16 s, iv .u16 n])) v1 := by
    obtain ⟨vs, hr, rfl⟩ := hv1
    match vs, hr with
    | [a, b, c], ⟨r1, r2, r3, _⟩ => exact ⟨[a, b, c], ⟨r1, r2, r3, trivial⟩, rfl⟩
  refine callsIn_of_wp_marks ahFn ahBody trivial ?_
  rw [ahCode, ahTmps]
  have hC : CallOk Try.prog (evCall cxAh (ev cxAh 50)) := evCall_ok (run := ev cxAh 50) cxAh_ok (ev_sound cxAh_ok 50).1
  have hrun : RunOk Try.prog (ev cxAh 50) := (ev_sound cxAh_ok 50).1
  have hf0 : FrOk α3 (frm 50 [(0, .sa (.one (.ptr 0 0 0))), (1, .sa (.agg [iv .u32 t, iv .u16 s, iv .u16 n]))]) (#[Value.pointer (some ⟨d0.blk, d0.off, none⟩), v1] ++ Array.replicate (50 - #[Value.pointer (some ⟨d0.blk, d0.off, none⟩), v1].size) undef) :=
    FrOk.ofL (by simp) fun p hp => by
      simp only [List.mem_cons, List.not_mem_nil, or_false] at hp
      rcases hp with rfl | rfl
      · exact ⟨_, by simp; rfl, by simp [SV.rep, SA.rep, SC.val?, hd0]⟩
      · exact ⟨v1, by simp, hv1'⟩
  -- what is read first
  refine wpIn_seq (wpIn_region ?_)
  rw [ahSize0, show List.range 2 = List.range' 0 (opsAt Try.prog 48 [0]).length ++ [] from by rw [ahLen0]; rfl]
  obtain ⟨a0, ha0⟩ : ∃ a0 : Act, a0 = { tmps := #[Value.pointer (some ⟨d0.blk, d0.off, none⟩), v1] ++ Array.replicate (50 - #[Value.pointer (some ⟨d0.blk, d0.off, none⟩), v1].size) undef, defers := [] } := ⟨_, rfl⟩
  rw [← ha0]
  have hf0' : FrOk α3 (frm 50 [(0, .sa (.one (.ptr 0 0 0))), (1, .sa (.agg [iv .u32 t, iv .u16 s, iv .u16 n]))]) a0.tmps := by rw [ha0]; exact hf0
  have hde0 : a0.defers = [] := by rw [ha0]
  clear hf0 ha0
  refine evOps_pre (r := none) rfl cxAh_ok.ops hC (opsAt Try.prog 48 [0]) 0 (fun j o hj => ?_) hR3 hf0' (k := fun fr st => (∃ l, fr = frm 50 l ∧ frmAt 0 l = some (.sa (.one (SC.ptr 0 0 0))) ∧ frmAt 3 l = some (.sa (.one (SC.ptr 3 0 0))) ∧ frmAt 4 l = some (.sa (.one (bv false)))) ∧ st = [ahO u0 u1 u2 u3 u4 u7 u8, ahK ks ts ss ns bs cl, ahC cs cb cc, ahM true t s n]) (Eq.mpr (t_ahR0 ..) ⟨⟨_, rfl, rfl, rfl, rfl⟩, rfl⟩) ?_
  · rw [Nat.zero_add]; show (opsAt Try.prog 48 [0]).toArray[j]? = some o; rw [List.getElem?_toArray]; exact hj
  rintro fr1 st1 α1 a1 w1' ⟨⟨l1, rfl, hl10, hl13, hl14⟩, rfl⟩ hf1 hto1 hde1
  have hR4 := ah_off hto1.rep
  have hn4 : ∀ b, ¬ Wr α1 [ahO u0 u1 u2 u3 u4 u7 u8, ahK ks ts ss ns bs cl, ahC cs cb cc, ahM false t s n] w1' b := ah_nowr4
  have hlen4 : ([ahO u0 u1 u2 u3 u4 u7 u8, ahK ks ts ss ns bs cl, ahC cs cb cc, ahM false t s n] : St).length = 4 := rfl
  have hde1' : a1.defers = [] := hde1.trans hde0
  have hblk : dm.blk < w0.heap.size := (Array.getElem?_eq_some_iff.1 hes).1
  have hes1 : w1'.heap[dm.blk]? = some (.map es.toArray cl) := (hto1.kept _ hblk (hn3 _)).trans hes
  have hblk1 : dm.blk < w1'.heap.size := (Array.getElem?_eq_some_iff.1 hes1).1
  obtain ⟨p0, hp0a, hp0⟩ := hf1.atL hl10 (by omega)
  obtain ⟨p3, hp3a, hp3⟩ := hf1.atL hl13 (by omega)
  have ptr_c : ∀ {β γ : Al} {o : Nat} {v : Value}, β o = γ o → SV.rep β (.sa (.one (.ptr o 0 0))) v → SV.rep γ (.sa (.one (.ptr o 0 0))) v := fun {β γ o v} h1 h2 => by
    simp only [SV.rep, SA.rep, SC.val?] at h2 ⊢
    rw [← h1]; exact h2
  have ptr_u : ∀ {β : Al} {o : Nat} {u v : Value}, SV.rep β (.sa (.one (.ptr o 0 0))) u → SV.rep β (.sa (.one (.ptr o 0 0))) v → u = v := fun {β o u v} h1 h2 => by
    simp only [SV.rep, SA.rep] at h1 h2
    rw [h1] at h2; exact Option.some.inj h2
  have ev_of : ∀ {β : Al} {l : List (Nat × SV)} {a : Act}, FrOk β (frm 50 l) a.tmps → ∀ {t : Nat} {sv : SV}, frmAt t l = some sv → t < 50 → SV.rep β sv (a.eval (.tmp t)) := fun {β l a} hf {t sv} h1 h2 => by
    obtain ⟨u, v1, v2⟩ := hf.atL h1 h2
    simp only [Act.eval, Array.getD_eq_getD_getElem?, v1, Option.getD_some]
    exact v2
  have at_ : ∀ {a : Act} (t : Nat) (v : Value), a.tmps.size = 50 → t < 50 → a.eval (.tmp t) = v → a.tmps[t]? = some v := fun {a} t v hs ht h => tmp_at (by rw [hs]; exact ht) h
  have hf1' : FrOk α1 (frm 50 [(0, .sa (.one (.ptr 0 0 0))), (3, .sa (.one (.ptr 3 0 0))), (4, .sa (.one (bv false)))]) a1.tmps := FrOk.ofL hf1.sizeL fun p hp => by
    simp only [List.mem_cons, List.not_mem_nil, or_false] at hp
    rcases hp with rfl | rfl | rfl
    · exact ⟨p0, hp0a, hp0⟩
    · exact ⟨p3, hp3a, hp3⟩
    · exact hf1.atL hl14 (by omega)
  -- the end
  have fin : ∀ (a : Act) (w : World) (ob : Obj) (it : Nat) (b : Bool), RgF w1' w ob it a.defers → a.tmps.size = 50 → a.eval (.tmp 4) = .bool b → aheadW ks ss cs t s = b → LeavesInM Fence.wide 0 Try.prog Try.f48 a.tmps (CallPost α st w0 k) a.defers .returning w := fun a w ob it b hF hsz h4 hb => by
    have hF0 : RgF w0 w ob it a.defers := by
      refine ⟨fun c hc => (hF.kept c (by have := hto1.size; omega)).trans (hto1.kept c hc (hn3 c)), by have := hF.size; have := hto1.size; omega, hF.tape.trans hto1.tape, hF.os.trans hto1.os, hF.output.trans hto1.output, hF.ob, by have := hF.new; have := hto1.size; omega, ?_⟩
      obtain ⟨ms, m1, m2, m3⟩ := hF.marks
      exact ⟨ms, m1, m2, fun c hc => ⟨by have := (m3 c hc).1; have := hto1.size; omega, (m3 c hc).2⟩⟩
    refine hF0.leave hR fun w' hto => ⟨.bool b, ?_, .sa (.one (.raw (.bool b))), _, α, _, rfl, rfl, by rw [hb] at hk; exact hk, hto⟩
    have := results_run (P := Try.prog) (fn := Try.f48) (tmps := a.tmps) (vs := [.bool b]) (w := w') (by
      rw [ahRes]
      have h4 : a.tmps.getD 4 undef = .bool b := h4
      simp only [List.mapM_cons, List.mapM_nil, resM]
      rw [h4]
      simp)
    simpa using this
  refine wpIn_seq (wpIn_seq (wpIn_region ?_))
  rw [ahSize1, show List.range 5 = List.range' 0 (takeL 4 (opsAt Try.prog 48 [1, 0, 0])).length ++ [4] from by rw [ahLen1]; rfl]
  refine evOps_pre (r := none) rfl cxAh_ok.ops hC (takeL 4 (opsAt Try.prog 48 [1, 0, 0])) 0 (fun j o hj => ?_) hR4 hf1' (k := fun fr st => (∃ l, fr = frm 50 l ∧ frmAt 0 l = some (.sa (.one (SC.ptr 0 0 0))) ∧ frmAt 3 l = some (.sa (.one (SC.ptr 3 0 0))) ∧ frmAt 12 l = some (.sa (.one (.ref 1)))) ∧ st = [ahO u0 u1 u2 u3 u4 u7 u8, ahK ks ts ss ns bs cl, ahC cs cb cc, ahM false t s n]) (Eq.mpr (t_ahR1 ..) ⟨⟨_, rfl, rfl, rfl, rfl⟩, rfl⟩) ?_
  · rw [takeL_eq, List.getElem?_take] at hj
    split at hj
    · rw [Nat.zero_add]; show (opsAt Try.prog 48 [1, 0, 0]).toArray[j]? = some o; rw [List.getElem?_toArray]; exact hj
    · cases hj
  rintro fr3 st3 α2 a3 w3 ⟨⟨l3, rfl, hl30, hl33, hl312⟩, rfl⟩ hf3 hto3 hde3
  have hm3 : MarksOk w1' α2 [ahO u0 u1 u2 u3 u4 u7 u8, ahK ks ts ss ns bs cl, ahC cs cb cc, ahM false t s n] w3 a3.defers := by rw [hde3, hde1']; exact MarksOk.nil _ _ _ _
  have hα2 : α2 1 = some dm := by rw [hto3.ext 1 (by simp), hto1.ext 1 (by simp)]; exact hdm
  have h312 : a3.eval (.tmp 12) = .map (some dm.blk) := by
    have := ev_of hf3 hl312 (by omega)
    simp only [SV.rep, SA.rep, SC.val?, hα2, Option.some.injEq] at this
    rw [← this]; exact hdv
  have hes3 : w3.heap[dm.blk]? = some (.map es.toArray cl) := (hto3.kept _ hblk1 (hn4 _)).trans hes1
  obtain ⟨q, q1, q2, q3, q4⟩ := ahRange
  refine op_value q1 q4 (semAt_range q2 (by rw [h312]; exact run_range_map w3 _ _ _ dm.blk es.toArray cl ahMapT hes3)) ?_
  rw [q3]
  have hF3 : RgF w1' (w3.alloc (.mapIter (some dm.blk) cl #[] cl)) (.mapIter (some dm.blk) cl #[] cl) w3.heap.size (a3.put (some 13) (.pointer (some ⟨w3.heap.size, 0, none⟩))).defers := RgF.start hn4 hto3 hm3
  have hsz3 : a3.tmps.size = 50 := hf3.sizeL
  -- the loop
  let Inv : Array Nat → Act → World → Prop := fun seen a w => a.tmps.size = 50 ∧ a.eval (.tmp 0) = p0 ∧ a.eval (.tmp 3) = p3 ∧ (∃ it, a.eval (.tmp 13) = .pointer (some ⟨it, 0, none⟩) ∧ RgF w1' w (.mapIter (some dm.blk) cl seen cl) it a.defers) ∧ ∀ i e, es[i]? = some e → seen.contains e.born = true → condB cs t s (ks.getD i 0) (ss.getD i 0) = false
  obtain ⟨n1, n2, n3, n4, n5⟩ := ahNext
  obtain ⟨x1', x2', x3', x4', x5'⟩ := ahExt
  refine range_loop (itT := 13) (d1 := 14) (d2 := 15) (bm := dm.blk) (cl := cl) (es := es) ahSize2 n2 x2' n5 x5' n3 x3' n4 x4' (by omega) hyoung Inv (fun seen a w hi => ?_) ⟨#[], ?_⟩ (fun seen a w hi hall => ?_) (fun seen a w it e w1 hi hit he hse hw1 => ?_)
  · obtain ⟨i1, i2, i3, ⟨it, i4, i5⟩, _⟩ := hi
    exact ⟨it, i4, i5.ob, (i5.kept _ hblk1).trans hes1, by omega, by omega⟩
  · refine ⟨by rw [put_size]; exact hsz3, ?_, ?_, ⟨w3.heap.size, eval_put_same (by omega), hF3⟩, fun i e _ h => by simp at h⟩
    · rw [eval_put_other (by omega)]
      exact ptr_u (ptr_c (hto3.ext 0 (by simp)) (ev_of hf3 hl30 (by omega))) hp0
    · rw [eval_put_other (by omega)]
      exact ptr_u (ptr_c (hto3.ext 3 (by simp)) (ev_of hf3 hl33 (by omega))) hp3
  · -- none is left
    obtain ⟨i1, i2, i3, ⟨it, i4, i5⟩, i6⟩ := hi
    have hno : aheadW ks ss cs t s = false := by
      rw [aheadW_eq]
      refine List.any_eq_false.2 fun i hi => ?_
      rw [List.mem_range] at hi
      have he := List.getElem?_eq_getElem (l := es) (i := i) (by omega)
      rw [i6 i _ he (hall _ (List.getElem_mem _))]
      simp
    have hsz : (((a.put (some 14) (.tuple #[.bool false])).put (some 15) (.bool false))).tmps.size = 50 := by rw [put_size, put_size]; exact i1
    have i5' : RgF w1' w (.mapIter (some dm.blk) cl seen cl) it ((a.put (some 14) (.tuple #[.bool false])).put (some 15) (.bool false)).defers := i5
    refine box_piece cxAh_ok (n := 50) (f := 48) (fr := frm 50 [(0, .sa (.one (.ptr 0 0 0)))]) (k := fun ex fr st => ex = .ret ∧ (∃ l, fr = frm 50 l ∧ frmAt 4 l = some (.sa (.one (bv false)))) ∧ St.get st 4 = some (.box true (.mapIter (some dm.blk) cl seen cl))) (fun h => by cases h) i5' hR4 (FrOk.ofL hsz fun p hp => ?_) (Eq.mpr (t_ahE ..) ⟨rfl, ⟨_, rfl, rfl⟩, rfl⟩) ?_
    · rw [List.mem_singleton.1 hp]
      have h0 : ((a.put (some 14) (.tuple #[.bool false])).put (some 15) (.bool false)).eval (.tmp 0) = p0 := by rw [eval_put_other (by omega), eval_put_other (by omega)]; exact i2
      exact ⟨p0, at_ 0 _ hsz (by omega) h0, ptr_c (Al.add_other (by rw [hlen4]; omega)).symm hp0⟩
    · rintro ex fr' st' α' a' w' ⟨rfl, ⟨l, rfl, hl4⟩, hbox⟩ hf' hto' hm'
      obtain ⟨it', _, hF'⟩ := RgF.back hR4 hn4 hto' hm' (by rw [hlen4]; omega) hbox
      refine fin a' w' _ it' false hF' hf'.sizeL ?_ hno
      have := ev_of hf' hl4 (by omega)
      exact (Option.some.inj this).symm
  · -- a round
    obtain ⟨i1, i2, i3, ⟨it0, i4, i5⟩, i6⟩ := hi
    rw [hit] at i4
    simp only [Value.pointer.injEq, Option.some.injEq, Addr.mk.injEq, and_true] at i4
    subst i4
    have hF' := i5.step (ob' := .mapIter (some dm.blk) cl (seen.push e.born) cl) hw1 (fun h => by cases h)
    generalize hw' : setBlock w1 it (.mapIter (some dm.blk) cl (seen.push e.born) cl) = w' at hF'
    generalize ha' : (a.put (some 14) (.tuple #[.bool true, e.key, e.val])).put (some 15) (.bool true) = a'
    have hde : a'.defers = a.defers := by rw [← ha']; rfl
    have hsz : a'.tmps.size = 50 := by rw [← ha', put_size, put_size]; exact i1
    have j0 : a'.eval (.tmp 0) = p0 := by rw [← ha', eval_put_other (by omega), eval_put_other (by omega)]; exact i2
    have j3 : a'.eval (.tmp 3) = p3 := by rw [← ha', eval_put_other (by omega), eval_put_other (by omega)]; exact i3
    have j13 : a'.eval (.tmp 13) = .pointer (some ⟨it, 0, none⟩) := by rw [← ha', eval_put_other (by omega), eval_put_other (by omega)]; exact hit
    rw [← hde] at hF'
    obtain ⟨ix, hix⟩ := List.getElem?_of_mem he
    have hixl : ix < es.length := (List.getElem?_eq_some_iff.1 hix).1
    obtain ⟨hkey, _, hval⟩ := hent ix e hix
    have hkey : e.key = .int .u32 (ks.getD ix 0) := hkey
    -- the value
    obtain ⟨hva, hvs, hvc⟩ := hval
    obtain ⟨va, hva⟩ := hva
    have hrv : ∀ β : Al, SA.rep β (.agg [iv .u32 (ts.getD ix 0), iv .u16 (ss.getD ix 0), iv .u16 (ns.getD ix 0)]) e.val := fun β => by
      rw [hva] at hvs hvc ⊢
      have hvs : va.size = 3 := hvs
      obtain ⟨y0, z0, z1, _⟩ := hvc 0 _ rfl
      obtain ⟨y1, z2, z3, _⟩ := hvc 1 _ rfl
      obtain ⟨y2, z4, z5, _⟩ := hvc 2 _ rfl
      have z1 := CellOk.val z1 (fun _ _ h => by cases h)
      have z3 := CellOk.val z3 (fun _ _ h => by cases h)
      have z5 := CellOk.val z5 (fun _ _ h => by cases h)
      have z0 : va[0]? = some y0 := z0
      have z2 : va[1]? = some y1 := z2
      have z4 : va[2]? = some y2 := z4
      have hva3 : va = #[y0, y1, y2] := by
        refine Array.ext (by simp [hvs]) fun i h1 h2 => ?_
        match i, h1, h2 with
        | 0, h1, _ => rw [Array.getElem?_eq_getElem h1] at z0; exact Option.some.inj z0
        | 1, h1, _ => rw [Array.getElem?_eq_getElem h1] at z2; exact Option.some.inj z2
        | 2, h1, _ => rw [Array.getElem?_eq_getElem h1] at z4; exact Option.some.inj z4
        | i + 3, h1, _ => omega
      rw [hva3]
      exact ⟨[y0, y1, y2], ⟨z1, z3, z5, trivial⟩, rfl⟩
    refine wpIn_block (wpIn_seq (wpIn_region ?_))
    rw [ahSize3, show List.range 6 = 0 :: List.range' 1 5 from rfl]
    obtain ⟨y, y1, y2, y3, y4⟩ := ahEntry
    refine op_value y1 y4 (semAt_entry (v := .tuple #[e.key, e.val]) y2 (by rw [j13]; exact run_entry_at w' it dm.blk cl seen es.toArray cl e hF'.ob ((hF'.kept _ hblk1).trans hes1) (by simpa using he) (by simpa using hnod))) ?_
    rw [y3]
    have nob : (Obj.mapIter (some dm.blk) cl (seen.push e.born) cl) ≠ .deferred (some []) := fun h => by cases h
    generalize hob : (Obj.mapIter (some dm.blk) cl (seen.push e.born) cl) = ob at hF' nob
    have ha16 : (a'.put (some 16) (.tuple #[e.key, e.val])).tmps.size = 50 := by rw [put_size]; exact hsz
    have hf5 : FrOk (α1.add 4 (itDen it)) (frm 50 [(0, .sa (.one (.ptr 0 0 0))), (3, .sa (.one (.ptr 3 0 0))), (13, .sa (.one (.ref 4))), (16, .tup [.one (iv .u32 (ks.getD ix 0)), .agg [iv .u32 (ts.getD ix 0), iv .u16 (ss.getD ix 0), iv .u16 (ns.getD ix 0)]])]) (a'.put (some 16) (.tuple #[e.key, e.val])).tmps := by
      refine FrOk.ofL ha16 fun p hp => ?_
      simp only [List.mem_cons, List.not_mem_nil, or_false] at hp
      rcases hp with rfl | rfl | rfl | rfl
      · exact ⟨p0, at_ 0 _ ha16 (by omega) (by rw [eval_put_other (by omega)]; exact j0), ptr_c (Al.add_other (by omega)).symm hp0⟩
      · exact ⟨p3, at_ 3 _ ha16 (by omega) (by rw [eval_put_other (by omega)]; exact j3), ptr_c (Al.add_other (by omega)).symm hp3⟩
      · refine ⟨.pointer (some ⟨it, 0, none⟩), at_ 13 _ ha16 (by omega) (by rw [eval_put_other (by omega)]; exact j13), ?_⟩
        simp only [SV.rep, SA.rep, SC.val?]
        rw [Al.add_same]; rfl
      · refine ⟨.tuple #[e.key, e.val], by simp [Act.put, hsz], ⟨[e.key, e.val], ⟨?_, hrv _, trivial⟩, rfl⟩⟩
        rw [hkey]; rfl
    have hto5 := hF'.to hR4
    have hmk5 := hF'.mk' hR4 nob
    rw [hlen4] at hto5 hmk5
    have hdrop : (ahOp [1, 0, 1, 0, 0, 1, 1, 0, 0]).toList.drop 1 = dropL 1 (opsAt Try.prog 48 [1, 0, 1, 0, 0, 1, 1, 0, 0]) := by rw [dropL_eq]; rfl
    rw [← ahLen3]
    refine evOps_sound (r := none) (cx := cxAh) (call := evCall cxAh (ev cxAh 50)) rfl cxAh_ok.ops hC _ 1 hdrop hto5.rep hf5 (k := fun fr st => (∃ l, fr = frm 50 l ∧ frmAt 0 l = some (.sa (.one (SC.ptr 0 0 0))) ∧ frmAt 3 l = some (.sa (.one (SC.ptr 3 0 0))) ∧ frmAt 5 l = some (.sa (.one (iv .u32 (ks.getD ix 0)))) ∧ frmAt 6 l = some (.sa (.one (SC.ptr 5 0 0))) ∧ frmAt 13 l = some (.sa (.one (.ref 4)))) ∧ st = [ahO u0 u1 u2 u3 u4 u7 u8, ahK ks ts ss ns bs cl, ahC cs cb cc, ahM false t s n, some (.box true ob), obj 81 3 [iv .u32 (ts.getD ix 0), iv .u16 (ss.getD ix 0), iv .u16 (ns.getD ix 0)]])
      (Eq.mpr (t_ahR3 (k0 := ks.getD ix 0) (a := ts.getD ix 0) (b := ss.getD ix 0) (c := ns.getD ix 0) (ob := ob) ..) ⟨⟨_, rfl, rfl, rfl, rfl, rfl, rfl⟩, rfl⟩) ?_
    rintro fr5 st5 α5 a5 w5 ⟨⟨l5, rfl, f50, f53, f55, f56, f513⟩, rfl⟩ hf5' hto5' hde5
    have hto5b := hto5.trans hto5'
    have hmk5b := hmk5.to hto5'
    rw [show a'.defers = a5.defers from hde5.symm] at hmk5b
    have hfB : FrOk α5 (frm 50 [(0, .sa (.one (.ptr 0 0 0))), (3, .sa (.one (.ptr 3 0 0))), (5, .sa (.one (iv .u32 (ks.getD ix 0)))), (6, .sa (.one (.ptr 5 0 0))), (13, .sa (.one (.ref 4)))]) a5.tmps := FrOk.ofL hf5'.sizeL fun p hp => by
      simp only [List.mem_cons, List.not_mem_nil, or_false] at hp
      rcases hp with rfl | rfl | rfl | rfl | rfl
      · exact hf5'.atL f50 (by omega)
      · exact hf5'.atL f53 (by omega)
      · exact hf5'.atL f55 (by omega)
      · exact hf5'.atL f56 (by omega)
      · exact hf5'.atL f513 (by omega)
    have hcs : decide (idxI (ks.getD ix 0) cs < cs.length) = decide (ks.getD ix 0 ∈ cs) := decide_eq_decide.2 idxI_memA
    generalize hk0 : ks.getD ix 0 = k0 at *
    generalize hb0 : ss.getD ix 0 = b0 at *
    refine hrun (fun _ => rfl) hto5b hfB hmk5b (k := fun ex fr st => (∃ l, fr = frm 50 l ∧ ((ex = .normal ∧ condB cs t s k0 b0 = false ∧ frmAt 0 l = some (.sa (.one (SC.ptr 0 0 0))) ∧ frmAt 3 l = some (.sa (.one (SC.ptr 3 0 0))) ∧ frmAt 13 l = some (.sa (.one (.ref 4)))) ∨ (ex = .ret ∧ condB cs t s k0 b0 = true ∧ frmAt 4 l = some (.sa (.one (bv true)))))) ∧ St.get st 4 = some (.box true ob)) (Eq.mpr (t_ahB (k0 := k0) (b := b0) ..) ?_) ?_
    · rw [hcs]
      unfold condB
      refine brd (fun c1 => ⟨⟨_, rfl, .inl ⟨rfl, by rw [decide_eq_true c1]; rfl, rfl, rfl, rfl⟩⟩, rfl⟩) (fun c1 => bre (fun c2 => brd (fun c3 => br (fun c4 => ⟨⟨_, rfl, .inr ⟨rfl, ?_, rfl⟩⟩, rfl⟩) (fun c4 => ⟨⟨_, rfl, .inl ⟨rfl, ?_, rfl, rfl, rfl⟩⟩, rfl⟩)) (fun c3 => ⟨⟨_, rfl, .inl ⟨rfl, by rw [decide_eq_false c3]; simp, rfl, rfl, rfl⟩⟩, rfl⟩)) (fun c2 => ⟨⟨_, rfl, .inl ⟨rfl, by rw [decide_eq_false c2]; simp, rfl, rfl, rfl⟩⟩, rfl⟩))
      · have : k0 ≠ t := fun h => by rw [eqK_t.2 h] at c4; cases c4
        rw [decide_eq_false c1, decide_eq_true c2, decide_eq_true c3, decide_eq_false this]; rfl
      · have : k0 = t := by
          cases h : eqK k0 t
          · rw [h] at c4; cases c4
          · exact eqK_t.1 h
        rw [decide_eq_true this]; simp
    · rintro ex fr6 st6 α6 a6 w6 ⟨⟨l6, rfl, hcase⟩, hbox⟩ hf6 hto6 hm6
      obtain ⟨it6, e6, hF6⟩ := RgF.back hR4 hn4 hto6 hm6 (by rw [hlen4]; omega) hbox
      rcases hcase with ⟨rfl, hc, f60, f63, f613⟩ | ⟨rfl, hc, f64⟩
      · have hx0 : α6 0 = α1 0 := hto6.ext 0 (by rw [hlen4]; omega)
        have hx3 : α6 3 = α1 3 := hto6.ext 3 (by rw [hlen4]; omega)
        subst hob
        refine ⟨hf6.sizeL, ptr_u (ptr_c hx0 (ev_of hf6 f60 (by omega))) hp0, ptr_u (ptr_c hx3 (ev_of hf6 f63 (by omega))) hp3, ⟨it6, ?_, hF6⟩, fun i e' hi' hs' => ?_⟩
        · have := ev_of hf6 f613 (by omega)
          simp only [SV.rep, SA.rep, SC.val?] at this
          rw [e6] at this
          exact (Option.some.inj this).symm
        · by_cases hie : i = ix
          · subst hie
            rw [hk0, hb0]; exact hc
          · refine i6 i e' hi' ?_
            have q1 := hborn i e' hi'
            have q2 := hborn ix e hix
            rw [Array.contains_push] at hs'
            rw [Bool.or_eq_true] at hs'
            rcases hs' with h | h
            · first | exact h | (have := eq_of_beq h; omega)
            · first | exact h | (have := eq_of_beq h; omega)
      · refine fin a6 w6 _ it6 true hF6 hf6.sizeL ?_ ?_
        · exact (Option.some.inj (ev_of hf6 f64 (by omega))).symm
        · rw [aheadW_eq]
          exact List.any_eq_true.2 ⟨ix, by rw [List.mem_range]; omega, by rw [hk0, hb0]; exact hc⟩
theorem ahead_sum : SumOk Try.prog 48 sAhead := by
  refine fun args st => ⟨fun k h => ?_, fun k h α w vals hR hv => ?_⟩
  · unfold sAhead at h ⊢
    split at h
    · split at h
      · split at h
        · exact (Lin.need (Lin.ret _ _)) k h
        · exact h.elim
      · exact h.elim
    · exact h.elim
  · unfold sAhead at h
    split at h
    · split at h
      · rename_i h0
        split at h
        · rename_i h1 h2
          obtain ⟨h3, hk⟩ := need_iff.1 h
          rw [Bool.and_eq_true_iff] at h3
          obtain ⟨h4, h5⟩ := of_decide_eq_true h3.1
          subst h4
          exact ah_call hR hv h0 h1 h2 h5 (of_decide_eq_true h3.2) hk
        · exact h.elim
      · exact h.elim
    · exact h.elim
end Go.Ev
end
section
namespace Go.Ev
open Go Go.Proofs Go.Spec
theorem t_eq (xs ys : List Int) (N : Nat) (k : SV → St → Prop) : evCall cxEq (ev cxEq (N + 40)) 22 [.one (.ref 0), .one (.ref 1)] [rd16 xs, rd16 ys] k =
    (branch (Bool.not (eqK (((List.length xs) : Nat) : Int) (((List.length ys) : Nat) : Int))) (k (.sa (.one (bv false))) [(some (SO.own false MK.ext 0 1 (Ct.ints .u16 xs))), (some (SO.own false MK.ext 0 1 (Ct.ints .u16 ys)))]) (ev cxEq (N + 35) 2 22 (codeAt Try.prog 22 [1, 1, 0, 1, 0]) (frm 26 [(0, (.sa (.one (SC.ref 0)))), (1, (.sa (.one (SC.ref 1)))), (12, (.sa (.one (iv .i64 (((List.length xs) : Nat) : Int))))), (13, (.sa (.one (iv .i64 (0)))))]) [(some (SO.own false MK.ext 0 1 (Ct.ints .u16 xs))), (some (SO.own false MK.ext 0 1 (Ct.ints .u16 ys)))] (kBlock 0 (kSeq (ev cxEq (N + 37) 2 22 (codeAt Try.prog 22 [1, 1, 1])) (kRet (Cx.P cxEq) [(ResultVar.tmp 4)] 2 k))))) := by kernel_rfl
end Go.Ev
end
