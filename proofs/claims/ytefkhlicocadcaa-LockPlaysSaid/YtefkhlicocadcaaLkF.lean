/- Behind a call: the state of four maps, told by one word again. No conditions. -/
import Derived.Test.YtefkhlicocadcaaLkK
set_option linter.unusedVariables false
set_option linter.unusedSimpArgs false
namespace Go.Ev
open Go
/-- A value that is a row of its own, read off the state; rows in L are as they came. -/
def RowS (L : List Nat) (st : St) (T m : Nat) (v : SA) (o : Nat) (rows : List (List Value)) : Prop :=
  (∃ ct, v = .one (.ref o) ∧ st.get o = some (.own true .row T m ct) ∧ (0 < ct.len ∨ o ∈ L) ∧ rows.length = ct.len ∧ CtRows ct 0 rows) ∨
  ∃ q i n ct, v = .one (.ref q) ∧ st.get q = some (.part o i n) ∧ st.get o = some (.own true .row T m ct) ∧ i < ct.len ∧ i + n ≤ ct.len ∧ rows.length = n ∧ CtRows ct i rows
theorem RowS.at {L : List Nat} {α : Al} {st : St} {w : World} (hR : R α st w) (hL : ∀ o ∈ L, ∃ e, α o = some e ∧ e.live = true) {T m o : Nat} {v : SA} {rows : List (List Value)} (h : RowS L st T m v o rows) : RowAt α st w T m v o rows := by
  rcases h with ⟨ct, rfl, h1, h2, h3, h4⟩ | ⟨q, i, n, ct, rfl, h1, h2, h3, h4, h5, h6⟩
  · obtain ⟨e, he, hg⟩ := hR.good o _ h1
    have hg' := hg
    obtain ⟨g1, g2, ⟨g3, g4, _⟩ | ⟨g3, hv, hcap, _⟩⟩ := hg'
    · rcases h2 with h2 | h2
      · omega
      · obtain ⟨e', he', hl⟩ := hL o h2
        rw [he] at he'; cases he'
        rw [g3] at hl; cases hl
    · refine ⟨_, e, h1, rfl, he, ⟨g3, rfl⟩, fun u hu => ?_⟩
      simp only [SA.rep, SC.val?, he, Option.some.injEq] at hu
      subst hu
      rw [hv]
      obtain ⟨_, _, ⟨g3', _⟩ | ⟨_, _, _, cs, fz, h5, h6, h7, h8⟩⟩ := hg
      · rw [g3] at g3'; cases g3'
      · refine ⟨⟨e.blk, e.off, e.cap, cs, fz, by rw [h3], by omega, h5, ⟨h6.1, h6.2.imp id fun x => x.2⟩, h7, fun j r hj => ?_⟩, _, _, _, rfl, rfl⟩
        have hjl : j < ct.len := by rw [← h3]; exact (List.getElem?_eq_some_iff.1 hj).1
        obtain ⟨x1, x2⟩ := h8 j hjl
        have h4 := h4 j r hj
        rw [Nat.zero_add] at h4
        rw [h4] at x1 x2
        refine ⟨by simpa using x1, fun q u hu => ?_⟩
        obtain ⟨v, y1, y2, _⟩ := x2 q (.raw u) (by simp [hu])
        have y1 : some u = some v := y1
        cases y1
        exact y2
  · exact rowAt_part hR h1 h2 h3 h4 h5 h6
def OwnsS (L : List Nat) (st : St) (T m : Nat) (F : List Int → List (List Value)) : List VE → List Nat → Prop
  | [], os => os = []
  | e :: es, os => match e.val with
    | none => F e.key = [] ∧ OwnsS L st T m F es os
    | some v => ∃ o r, os = o :: r ∧ RowS L st T m v o (F e.key) ∧ OwnsS L st T m F es r
theorem OwnsS.own {L : List Nat} {α : Al} {st : St} {w : World} (hR : R α st w) (hL : ∀ o ∈ L, ∃ e, α o = some e ∧ e.live = true) {T m : Nat} {F : List Int → List (List Value)} : ∀ {es : List VE} {os : List Nat}, OwnsS L st T m F es os → Owns α st w T m F es os
  | [], _, h => h
  | ⟨_, none, _⟩ :: es, os, h => ⟨h.1, OwnsS.own hR hL (es := es) h.2⟩
  | ⟨_, some v, _⟩ :: es, os, ⟨o, r, h1, h2, h3⟩ => ⟨o, r, h1, h2.at hR hL, OwnsS.own hR hL h3⟩

def F2 (D : AD) (k : List Int) : List (List Value) := (D.qu (pk k)).map fun t => [.int .i64 t]
def F4 (D : AD) (k : List Int) : List (List Value) := (D.hs (pt k)).map lkCells
/-- What a state of four maps must be to be told by D'. -/
structure Fin (L : List Nat) (D D' : AD) (eh eq ew es : List VE) (rh rq rw rs : List MapEntry) (st : St) (eh' eq' ew' es' : List VE) (c1 c2 c3 c4 h1 h2 h3 h4 : Nat) (O2 O4 : List Nat) : Prop where
  g0 : st.get 0 = some (lkObj true)
  g1 : st.get 1 = some (.mv true kL eh' rh c1 h1)
  g2 : st.get 2 = some (.mv true kL eq' rq c2 h2)
  g3 : st.get 3 = some (.mv true kT ew' rw c3 h3)
  g4 : st.get 4 = some (.mv true kT es' rs c4 h4)
  k1 : eh'.map (·.key) = eh.map (·.key)
  k2 : eq'.map (·.key) = eq.map (·.key)
  k3 : ew'.map (·.key) = ew.map (·.key)
  k4 : es'.map (·.key) = es.map (·.key)
  e1 : ∀ e ∈ eh', (e.val = none → D'.ho (pk e.key) = none) ∧ ∀ v, e.val = some v → ∃ t, v = .one (.raw (.int .i64 t)) ∧ D'.ho (pk e.key) = some t
  e3 : ∀ e ∈ ew', (e.val = none → D'.wa (pt e.key) = none) ∧ ∀ v, e.val = some v → ∃ l : Lk, v = .agg [.raw (.int .u8 l.1), .raw (.int .i64 l.2)] ∧ D'.wa (pt e.key) = some l
  e2n : ∀ e ∈ eq', e.val ≠ none → D'.qu (pk e.key) ≠ []
  e2 : OwnsS L st 3 1 (F2 D') eq' O2
  e4 : OwnsS L st 31 2 (F4 D') es' O4
  hn : (0 :: 1 :: 2 :: 3 :: 4 :: (O2 ++ O4)).Nodup
  f1 : ∀ k : List Int, k.length = 2 → (∀ e ∈ eh', e.key ≠ k) → D'.ho (pk k) = D.ho (pk k)
  f2 : ∀ k : List Int, k.length = 2 → (∀ e ∈ eq', e.key ≠ k) → D'.qu (pk k) = D.qu (pk k)
  f3 : ∀ k : List Int, k.length = 1 → (∀ e ∈ ew', e.key ≠ k) → D'.wa (pt k) = D.wa (pt k)
  f4 : ∀ k : List Int, k.length = 1 → (∀ e ∈ es', e.key ≠ k) → D'.hs (pt k) = D.hs (pt k)

/-- Locks told as four maps: all there is to know. -/
structure Split (α : Al) (t : Nat) (D : AD) (w : World) (wb ww : Bool) (eh eq ew es : List VE) (r : St) (L : List Nat) (α0 : Al) (rh rq rw rs : List MapEntry) (c1 c2 c3 c4 : Nat) : Prop where
  hR0 : R α [some (.abs wb t D)] w
  ex : ∃ d b0 b1 b2 b3 b4 x1 x2 x3 x4 p1 p2 p3 p4 rd, α 0 = some d ∧ d.val = .pointer (some ⟨b0.1, b0.2, none⟩) ∧ LkOk D w b0 b1 b2 b3 b4 x1 x2 x3 x4 c1 c2 c3 c4 ∧ α0 = lkAl b0 b1 b2 b3 b4 rd ∧
    MvOk α0 kL eh rh x1 p1 c1 ∧ MvOk α0 kL eq rq x2 p2 c2 ∧ MvOk α0 kT ew rw x3 p3 c3 ∧ MvOk α0 kT es rs x4 p4 c4 ∧ RowsOk w ww r rd ∧
    (b0.1 :: b1 :: b2 :: b3 :: b4 :: rdBlks rd).Nodup ∧ (∀ b ∈ rdBlks rd, b ∈ lkBlks b0 b1 b2 b3 b4 x2 x4 ∧ ∀ x ∈ rq ++ rs, rowBlk x ≠ some b) ∧ ∀ o ∈ L, o < 5 + r.length ∧ ∃ e, α0 o = some e ∧ e.live = true
section
variable {α α0 : Al} {t : Nat} {D D' : AD} {w : World} {wb ww : Bool} {eh eq ew es : List VE} {r : St} {L : List Nat} {rh rq rw rs : List MapEntry} {c1 c2 c3 c4 : Nat}
theorem Split.R (h : Split α t D w wb ww eh eq ew es r L α0 rh rq rw rs c1 c2 c3 c4) : Go.Ev.R α0 (lkSt ww eh rh c1 eq rq c2 ew rw c3 es rs c4 r) w := by
  obtain ⟨d, b0, b1, b2, b3, b4, x1, x2, x3, x4, p1, p2, p3, p4, rd, hd, hv, hk, rfl, m1, m2, m3, m4, hr, hn, hl, hL⟩ := h.ex
  exact lk_R hk.hp m1 m2 m3 m4 hr hn
/-- The receiver's value is the same. -/
theorem Split.arg (h : Split α t D w wb ww eh eq ew es r L α0 rh rq rw rs c1 c2 c3 c4) {v : Value} (hv : (SA.one (.ref 0)).rep α v) : (SA.one (.ptr 0 0 0)).rep α0 v := by
  obtain ⟨d, b0, b1, b2, b3, b4, x1, x2, x3, x4, p1, p2, p3, p4, rd, hd, hvv, hk, rfl, _⟩ := h.ex
  simp only [SA.rep, SC.val?, hd, Option.some.injEq] at hv
  rw [← hv, hvv]
  rfl
theorem Split.fin {eh' eq' ew' es' : List VE} {c1' c2' c3' c4' h1 h2 h3 h4 : Nat} {O2 O4 : List Nat} {α' : Al} {st' : St} {w' : World} (h : Split α t D w true true eh eq ew es r L α0 rh rq rw rs c1 c2 c3 c4)
    (hto : To α0 (lkSt true eh rh c1 eq rq c2 ew rw c3 es rs c4 r) w α' st' w') (hf : Fin L D D' eh eq ew es rh rq rw rs st' eh' eq' ew' es' c1' c2' c3' c4' h1 h2 h3 h4 O2 O4) :
    To α [some (.abs true t D)] w α [some (.abs true t D')] w' := by
  obtain ⟨d, b0, b1, b2, b3, b4, x1, x2, x3, x4, p1, p2, p3, p4, rd, hd, hv, hk, rfl, m1, m2, m3, m4, hr, hn, hl, hL⟩ := h.ex
  have hL' : ∀ o ∈ L, ∃ e, α' o = some e ∧ e.live = true := fun o ho => by
    obtain ⟨e1, e, e2, e3⟩ := hL o ho
    refine ⟨e, ?_, e3⟩
    rw [hto.ext o (by simp only [lkSt, List.length_cons]; omega)]
    exact e2
  exact lk_join h.hR0 hd hv hk m1 m2 m3 m4 hr hl hto hf.g0 hf.g1 hf.g2 hf.g3 hf.g4 hf.k1 hf.k2 hf.k3 hf.k4 hf.e1 hf.e3 hf.e2n (hf.e2.own hto.rep hL') (hf.e4.own hto.rep hL') hf.hn hf.f1 hf.f2 hf.f3 hf.f4
/-- Where nothing may be written, all stays. -/
theorem Split.nowr (h : Split α t D w wb false eh eq ew es r L α0 rh rq rw rs c1 c2 c3 c4) : ∀ b, ¬ Wr α0 (lkSt false eh rh c1 eq rq c2 ew rw c3 es rs c4 r) w b := by
  obtain ⟨d, b0, b1, b2, b3, b4, x1, x2, x3, x4, p1, p2, p3, p4, rd, hd, hv, hk, rfl, m1, m2, m3, m4, hr, _⟩ := h.ex
  rintro b ⟨o, so, e, u1, u2, u3, _⟩
  match o with
  | 0 => simp [St.get_eq, lkSt] at u1; subst u1; cases u3
  | 1 => simp [St.get_eq, lkSt] at u1; subst u1; cases u3
  | 2 => simp [St.get_eq, lkSt] at u1; subst u1; cases u3
  | 3 => simp [St.get_eq, lkSt] at u1; subst u1; cases u3
  | 4 => simp [St.get_eq, lkSt] at u1; subst u1; cases u3
  | n + 5 =>
    have h1 : r[n]? = some (some so) := by
      rw [St.get_eq] at u1
      simp only [lkSt, List.getElem?_cons_succ] at u1
      cases hq : r[n]? with
      | none => rw [hq] at u1; simp at u1
      | some q => rw [hq] at u1; simp at u1; rw [u1]
    obtain ⟨_, _, _, _, _, h2⟩ := hr.get h1
    rw [h2] at u3; cases u3
theorem Split.kept {α' : Al} {st' : St} {w' : World} (h : Split α t D w wb false eh eq ew es r L α0 rh rq rw rs c1 c2 c3 c4)
    (hto : To α0 (lkSt false eh rh c1 eq rq c2 ew rw c3 es rs c4 r) w α' st' w') : ∀ b, b < w.heap.size → w'.heap[b]? = w.heap[b]? := by
  exact fun b hb => hto.kept b hb (h.nowr b)
theorem Split.same {α' : Al} {st' : St} {w' : World} (h : Split α t D w wb false eh eq ew es r L α0 rh rq rw rs c1 c2 c3 c4)
    (hto : To α0 (lkSt false eh rh c1 eq rq c2 ew rw c3 es rs c4 r) w α' st' w') : To α [some (.abs wb t D)] w α [some (.abs wb t D)] w' := by
  have hkept := h.kept hto
  obtain ⟨d, b0, b1, b2, b3, b4, x1, x2, x3, x4, p1, p2, p3, p4, rd, hd, hv, hk, rfl, m1, m2, m3, m4, hr, _⟩ := h.ex
  have hg : absGood t D w d := ⟨b0, b1, b2, b3, b4, x1, x2, x3, x4, c1, c2, c3, c4, hv, hk⟩
  have hg' : absGood t D w' d := absGood_congr (t := t) hg (fun b hb => hkept b (absLies_lt (t := t) hg hb)) hto.size
  have hll : ∀ b, absLies t D w' d b → absLies t D w d b := fun b hb => absLies_congr (t := t) hg (fun b hb => hkept b (absLies_lt (t := t) hg hb)) hb
  have hget : ∀ o so, St.get [some (.abs wb t D)] o = some so → o = 0 ∧ so = .abs wb t D := by
    intro o so h
    cases o with
    | zero => simp [St.get_eq] at h; exact ⟨rfl, h.symm⟩
    | succ n => simp [St.get_eq] at h
  refine ⟨⟨fun o so ho => ?_, fun o o' so so' dd dd' b hne ho ho' _ _ _ _ _ => ?_, fun o so dd b ho _ _ _ hi => ?_, fun o ho => h.hR0.none o ho, h.hR0.cell⟩, fun _ _ => rfl, Nat.le_refl _, fun o so dd b ho h2 h3 h4 => ?_, fun o so dd b ho _ _ hi => ?_, fun b hb hw => ?_, fun b hb hnw => hkept b hb, hto.size, hto.tape, hto.os, hto.output⟩
  · obtain ⟨rfl, rfl⟩ := hget o so ho
    exact ⟨d, hd, hg'⟩
  · obtain ⟨rfl, rfl⟩ := hget o so ho
    obtain ⟨rfl, rfl⟩ := hget o' so' ho'
    exact absurd rfl hne
  · obtain ⟨rfl, rfl⟩ := hget o so ho
    exact hi
  · obtain ⟨rfl, rfl⟩ := hget o so ho
    rw [hd] at h2; cases h2
    exact .inr ⟨by simp, _, ho, hll b h4⟩
  · obtain ⟨rfl, rfl⟩ := hget o so ho
    exact hi.elim
  · obtain ⟨o, so, dd, ho, h2, h5, h4⟩ := hw
    obtain ⟨rfl, rfl⟩ := hget o so ho
    rw [hd] at h2; cases h2
    exact ⟨0, _, d, ho, hd, h5, hll b h4⟩
/-- The same, with a row that was made. -/
theorem Split.list {α' : Al} {st' : St} {w' : World} (h : Split α t D w wb false eh eq ew es r L α0 rh rq rw rs c1 c2 c3 c4)
    (hto : To α0 (lkSt false eh rh c1 eq rq c2 ew rw c3 es rs c4 r) w α' st' w') {e : Den} {T m : Nat} {ct : Ct} (hg : ∀ β, Good β w' e (.own true .row T m ct)) (hfl : FlatO (.own true .row T m ct)) (hfr : ∀ b, (SO.own true .row T m ct).lies w' e b → w.heap.size ≤ b)
    (hcell : isCell e.val = true) : To α [some (.abs wb t D)] w (α.add 1 e) [some (.abs wb t D), some (.own true .row T m ct)] w' := by
  have hs := h.same hto
  have a0 : (α.add 1 e) 0 = α 0 := Al.add_other (by omega)
  have a1 : (α.add 1 e) 1 = some e := Al.add_same
  have hget : ∀ o so, St.get [some (.abs wb t D), some (.own true .row T m ct)] o = some so → (o = 0 ∧ so = .abs wb t D) ∨ (o = 1 ∧ so = .own true .row T m ct) := by
    intro o so h
    match o with
    | 0 => simp [St.get_eq] at h; exact .inl ⟨rfl, h.symm⟩
    | 1 => simp [St.get_eq] at h; exact .inr ⟨rfl, h.symm⟩
    | n + 2 => simp [St.get_eq] at h
  have g0 : St.get [some (.abs wb t D)] 0 = some (SO.abs wb t D) := rfl
  have hlt : ∀ d, α 0 = some d → ∀ b, Foot w' d (.abs wb t D) b → b < w.heap.size := fun d hd b hb => by
    obtain ⟨d', hd', hgood⟩ := h.hR0.good 0 _ g0
    rw [hd] at hd'; cases hd'
    rcases hb with hb | hb
    · exact absLies_lt (t := t) hgood (absLies_congr (t := t) hgood (fun c hc => h.kept hto c (absLies_lt (t := t) hgood hc)) hb)
    · exact hb.elim
  refine ⟨⟨fun o so ho => ?_, fun o o' so so' dd dd' b hne ho ho' hd hd' hw hl hf => ?_, fun o so dd b ho hd _ hl hi => ?_, fun o ho => ?_, fun o dd hd => ?_⟩, fun o ho => ?_, by simp, fun o so dd b ho h2 h3 h4 => ?_, fun o so dd b ho h2 _ hi => ?_, fun b hb hw => ?_, fun b hb hnw => hs.kept b hb hnw, hs.size, hs.tape, hs.os, hs.output⟩
  · rcases hget o so ho with ⟨rfl, rfl⟩ | ⟨rfl, rfl⟩
    · obtain ⟨d, hd, hgd⟩ := hs.rep.good 0 _ g0
      exact ⟨d, by rw [a0]; exact hd, hgd⟩
    · exact ⟨e, a1, hg _⟩
  · rcases hget o so ho with ⟨rfl, rfl⟩ | ⟨rfl, rfl⟩ <;> rcases hget o' so' ho' with ⟨rfl, rfl⟩ | ⟨rfl, rfl⟩
    · exact hne rfl
    · rw [a1] at hd'; cases hd'
      rw [a0] at hd
      have := hlt dd hd b (.inl hl)
      rcases hf with hf | hf
      · have := hfr b hf; omega
      · exact (hfl w' e b).2 hf
    · rw [a1] at hd; cases hd
      rw [a0] at hd'
      have := hlt dd' hd' b hf
      have := hfr b hl
      omega
    · exact hne rfl
  · rcases hget o so ho with ⟨rfl, rfl⟩ | ⟨rfl, rfl⟩
    · exact hi
    · exact (hfl w' dd b).2 hi
  · have ho : 2 ≤ o := ho
    rw [Al.add_other (by omega)]; exact h.hR0.none o (by simp only [List.length_cons, List.length_nil]; omega)
  · by_cases ho : o = 1
    · subst ho; rw [a1] at hd; cases hd; exact hcell
    · rw [Al.add_other ho] at hd; exact h.hR0.cell o dd hd
  · have ho : o < 1 := ho
    rw [Al.add_other (by omega)]
  · rcases hget o so ho with ⟨rfl, rfl⟩ | ⟨rfl, rfl⟩
    · rw [a0] at h2
      exact hs.lies 0 _ dd b g0 h2 h3 h4
    · rw [a1] at h2; cases h2
      have := hfr b h4
      omega
  · rcases hget o so ho with ⟨rfl, rfl⟩ | ⟨rfl, rfl⟩
    · exact hi.elim
    · exact ((hfl w' dd b).2 hi).elim
  · obtain ⟨o, so, dd, ho, h2, h5, h4⟩ := hw
    rcases hget o so ho with ⟨rfl, rfl⟩ | ⟨rfl, rfl⟩
    · rw [a0] at h2
      exact hs.wrs b hb ⟨0, _, dd, g0, h2, h5, h4⟩
    · rw [a1] at h2; cases h2
      have := hfr b h4
      omega
end
end Go.Ev
