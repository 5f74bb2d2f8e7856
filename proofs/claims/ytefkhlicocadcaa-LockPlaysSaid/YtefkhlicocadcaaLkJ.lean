/- Locks told by a word of their own, and told as four maps with rows: from the one to the other and back. No conditions. -/
import Derived.Test.YtefkhlicocadcaaEvD
set_option linter.unusedVariables false
set_option linter.unusedSimpArgs false
namespace Go.Ev
open Go

section maps
variable {α : Al} {kk : List IntKind} {es : List VE} {rs xs ps : List MapEntry} {cl : Nat}

theorem MvOk.start (h : MOk kk xs cl) : MvOk α kk [] xs xs [] cl :=
  ⟨by simp, rfl, List.Pairwise.nil, by simp, h.ints, h.apart, by simp, h.born, h.young⟩
theorem MvOk.tell (m : MvOk α kk es rs xs ps cl) {k : List Int} (hk : k.length = kk.length) (hn : ∀ e ∈ es, e.key ≠ k) :
    ((∀ x ∈ xs, x.key ≠ keyV kk k) ∧ MvOk α kk (⟨k, none, 0⟩ :: es) rs xs ps cl) ∨
    ∃ x rs', x ∈ xs ∧ x.key = keyV kk k ∧ rs.Perm (x :: rs') ∧ ∀ v : SA, v.rep α x.val → MvOk α kk (⟨k, some v, x.born⟩ :: es) rs' xs (x :: ps) cl := by
  have hkeys : ∀ (v : Option SA) (b : Nat), List.Pairwise (fun a b : VE => a.key ≠ b.key) ((⟨k, v, b⟩ : VE) :: es) := fun v b => List.pairwise_cons.2 ⟨fun e he h => hn e he h.symm, m.keys⟩
  have hlens : ∀ (v : Option SA) (b : Nat), ∀ e ∈ (⟨k, v, b⟩ : VE) :: es, e.key.length = kk.length := fun v b e he => by
    rcases List.mem_cons.1 he with rfl | he
    · exact hk
    · exact m.lens e he
  by_cases hx : ∃ x ∈ rs, x.key = keyV kk k
  · right
    obtain ⟨x, hx, hxk⟩ := hx
    obtain ⟨l1, l2, rfl⟩ := List.append_of_mem hx
    have hp : (l1 ++ x :: l2).Perm (x :: (l1 ++ l2)) := List.perm_middle
    have hap := List.pairwise_cons.1 ((hp.pairwise_iff (fun h => Ne.symm h)).1 m.apart)
    refine ⟨x, l1 ++ l2, m.perm.mem_iff.2 (by simp), hxk, hp, fun v hv => ⟨?_, ⟨x, ps, rfl, hxk, rfl, hv, m.rep⟩, hkeys _ _, hlens _ _, fun y hy => m.ints y (hp.mem_iff.2 (List.mem_cons_of_mem _ hy)), hap.2, fun e he y hy => ?_, m.born, m.young⟩⟩
    · refine m.perm.trans ?_
      refine (List.Perm.append_left ps hp).trans ?_
      simp only [List.cons_append]; exact (List.perm_middle (l₁ := ps) (a := x) (l₂ := l1 ++ l2))
    · rcases List.mem_cons.1 he with rfl | he
      · rw [← hxk]; exact fun h => hap.1 y hy h.symm
      · exact m.off e he y (hp.mem_iff.2 (List.mem_cons_of_mem _ hy))
  · left
    have hrs : ∀ x ∈ rs, x.key ≠ keyV kk k := fun x h1 h2 => hx ⟨x, h1, h2⟩
    refine ⟨fun x h1 h2 => ?_, ⟨m.perm, m.rep, hkeys _ _, hlens _ _, m.ints, m.apart, fun e he y hy => ?_, m.born, m.young⟩⟩
    · rcases List.mem_append.1 (m.perm.mem_iff.1 h1) with h | h
      · obtain ⟨e, a1, a2, _⟩ := m.rep.mem x h
        exact hn e a1 (keyV_inj (m.lens e a1) hk (a2.symm.trans h2))
      · exact hrs x h h2
    · rcases List.mem_cons.1 he with rfl | he
      · exact hrs y hy
      · exact m.off e he y hy
theorem VesRep.apart : ∀ {es : List VE} {ps : List MapEntry}, VesRep α kk es ps → es.Pairwise (fun a b => a.key ≠ b.key) → (∀ e ∈ es, e.key.length = kk.length) → ps.Pairwise fun a b => a.key ≠ b.key
  | [], ps, h, _, _ => by rw [show ps = [] from h]; exact List.Pairwise.nil
  | ⟨key, none, _⟩ :: r, ps, h, hk, hl => VesRep.apart (es := r) h (List.pairwise_cons.1 hk).2 fun e he => hl e (by simp [he])
  | ⟨key, some v, _⟩ :: r, ps, ⟨p, q, h1, h2, _, _, h4⟩, hk, hl => by
    rw [h1]
    refine List.pairwise_cons.2 ⟨fun y hy h => ?_, VesRep.apart h4 (List.pairwise_cons.1 hk).2 fun e he => hl e (by simp [he])⟩
    obtain ⟨e, a1, a2, _⟩ := h4.mem y hy
    exact (List.pairwise_cons.1 hk).1 e a1 (keyV_inj (hl _ (by simp)) (hl e (by simp [a1])) (h2.symm.trans (h.trans a2)))
theorem MvOk.mok (m : MvOk α kk es rs xs ps cl) : MOk kk xs cl := by
  refine ⟨fun x hx => ?_, ?_, m.born, m.young⟩
  · rcases List.mem_append.1 (m.perm.mem_iff.1 hx) with h | h
    · obtain ⟨e, a1, a2, _⟩ := m.rep.mem x h
      exact ⟨e.key, m.lens e a1, a2⟩
    · exact m.ints x h
  · refine (m.perm.pairwise_iff (fun h => Ne.symm h)).2 (List.pairwise_append.2 ⟨m.rep.apart m.keys m.lens, m.apart, fun a ha b hb => ?_⟩)
    obtain ⟨e, a1, a2, _⟩ := m.rep.mem a ha
    rw [a2]; exact fun h => m.off e a1 b hb h.symm
/-- What holds of each key: told ones, and the rest. -/
theorem MvOk.all (m : MvOk α kk es rs xs ps cl) {F : List Int → Value → Prop} {N : List Int → Prop}
    (hes : ∀ e ∈ es, (e.val = none → N e.key) ∧ ∀ v, e.val = some v → ∀ u, v.rep α u → F e.key u)
    (hrs : ∀ x ∈ rs, ∀ k : List Int, k.length = kk.length → x.key = keyV kk k → F k x.val)
    (hun : ∀ k : List Int, k.length = kk.length → (∀ e ∈ es, e.key ≠ k) → (∀ x ∈ rs, x.key ≠ keyV kk k) → N k) {k : List Int} (hk : k.length = kk.length) :
    (∃ x ∈ xs, x.key = keyV kk k ∧ F k x.val) ∨ (N k ∧ ∀ x ∈ xs, x.key ≠ keyV kk k) := by
  by_cases he : ∃ e ∈ es, e.key = k
  · obtain ⟨e, he, rfl⟩ := he
    obtain ⟨n, hn⟩ := List.mem_iff_getElem?.1 he
    obtain ⟨e1, e2, p1, p2, _, _, _, _, hoff, hall, hc⟩ := mv_at m hn
    rcases hc with ⟨h1, hp⟩ | ⟨v, p, h1, h2, _, h3, hp⟩
    · exact .inr ⟨(hes e he).1 h1, fun x hx => hoff x (hp.mem_iff.1 hx)⟩
    · exact .inl ⟨p, hp.mem_iff.2 (by simp), h2, (hes e he).2 v h1 _ h3⟩
  · by_cases hx : ∃ x ∈ rs, x.key = keyV kk k
    · obtain ⟨x, hx, hxk⟩ := hx
      exact .inl ⟨x, m.perm.mem_iff.2 (by simp [hx]), hxk, hrs x hx k hk hxk⟩
    · refine .inr ⟨hun k hk (fun e h1 h2 => he ⟨e, h1, h2⟩) (fun x h1 h2 => hx ⟨x, h1, h2⟩), fun x h1 h2 => ?_⟩
      rcases List.mem_append.1 (m.perm.mem_iff.1 h1) with h | h
      · obtain ⟨e, a1, a2, _⟩ := m.rep.mem x h
        exact he ⟨e, a1, keyV_inj (m.lens e a1) hk (a2.symm.trans h2)⟩
      · exact hx ⟨x, h, h2⟩
end maps

/-! ### rows -/
/-- The cells of a content, from element i on, as values. -/
def CtRows (ct : Ct) (i : Nat) (rows : List (List Value)) : Prop := ∀ j r, rows[j]? = some r → ct.get (i + j) = r.map SC.raw
theorem ctRows_ints {k : IntKind} {xs ys : List Int} {i : Nat} (h : ∀ j, j < ys.length → xs.getD (i + j) 0 = ys.getD j 0) : CtRows (.ints k xs) i (ys.map fun x => [.int k x]) := by
  intro j r hr
  rw [List.getElem?_map] at hr
  cases hy : ys[j]? with
  | none => rw [hy] at hr; simp at hr
  | some y =>
    rw [hy] at hr; simp at hr; subst hr
    have := h j (List.getElem?_eq_some_iff.1 hy).1
    simp only [Ct.get, List.map_cons, List.map_nil, this, List.getD_eq_getElem?_getD, hy, Option.getD_some]
theorem ctRows_tab {n i : Nat} {cs ns : List Int} {ls : List Lk} (h : ∀ j, j < ls.length → cs.getD (i + j) 0 = (ls.map (·.1)).getD j 0 ∧ ns.getD (i + j) 0 = (ls.map (·.2)).getD j 0) : CtRows (.tab n [.ints .u8 cs, .ints .i64 ns]) i (ls.map lkCells) := by
  intro j r hr
  rw [List.getElem?_map] at hr
  cases hy : ls[j]? with
  | none => rw [hy] at hr; simp at hr
  | some y =>
    rw [hy] at hr; simp at hr; subst hr
    obtain ⟨h1, h2⟩ := h j (List.getElem?_eq_some_iff.1 hy).1
    simp only [Ct.get, colsAt, Col.at, h1, h2, List.getD_eq_getElem?_getD, List.getElem?_map, hy, Option.map_some, Option.getD_some, lkCells, List.map_cons, List.map_nil]

/-- A row that came in, as an object. -/
theorem row_good {w : World} {T m : Nat} {v : Value} {rows : List (List Value)} {ct : Ct} (h : RowOk w T m v rows) (hm : 0 < m) (hl : ct.len = rows.length) (hc : CtRows ct 0 rows) :
    ∃ e : Den, e.val = v ∧ e.live = true ∧ (∃ a n c, v = .slice (some a) n c ∧ a.block = e.blk) ∧ ∀ (β : Al) (wb : Bool), Good β w e (.own wb .row T m ct) := by
  obtain ⟨b, o, c, cs, fz, rfl, h2, h3, h4, h5, h6⟩ := h
  refine ⟨⟨b, o, m, c, _, true⟩, rfl, rfl, ⟨_, _, _, rfl, rfl⟩, fun β wb => ⟨rfl, hm, .inr ⟨rfl, by rw [hl], by rw [hl]; exact h2, cs, fz, h3, ⟨h4.1, h4.2.imp id fun x => ⟨rfl, x⟩⟩, h5, fun i hi => ?_⟩⟩⟩
  rw [hl] at hi
  obtain ⟨g1, g2⟩ := h6 i _ (List.getElem?_eq_getElem hi)
  have g3 := hc i _ (List.getElem?_eq_getElem hi)
  rw [Nat.zero_add] at g3
  rw [g3]
  refine ⟨by simpa using g1, fun j c hj => ?_⟩
  rw [List.getElem?_map] at hj
  cases hu : rows[i][j]? with
  | none => rw [hu] at hj; simp at hj
  | some u =>
    rw [hu] at hj; simp at hj; subst hj
    exact ⟨u, rfl, g2 j u hu, h4.1 u (by simpa using List.mem_of_getElem? (Array.getElem?_toList.trans (g2 j u hu)))⟩

/-- A value that is a row of its own, the one that object o has. -/
def RowAt (α : Al) (st : St) (w : World) (T m : Nat) (v : SA) (o : Nat) (rows : List (List Value)) : Prop :=
  ∃ so d, st.get o = some so ∧ so.wr = true ∧ α o = some d ∧ so.lies w d d.blk ∧ ∀ u, v.rep α u → RowOk w T m u rows ∧ ∃ a n c, u = .slice (some a) n c ∧ a.block = d.blk

theorem part_row {α : Al} {w : World} {e : Den} {T m i n : Nat} {ct : Ct} {rows : List (List Value)} {a : Option Addr} {c : Nat} (hg : Good α w e (.own true .row T m ct)) (hi : i < ct.len) (hn : i + n ≤ ct.len) (hr : rows.length = n) (hc : CtRows ct i rows) (hp : PartOk e i n a c) :
    RowOk w T m (.slice a n c) rows ∧ (∃ a', a = some a' ∧ a'.block = e.blk) ∧ e.live = true := by
  obtain ⟨h1, h2, ⟨_, h3, _⟩ | ⟨h3, hv, hcap, cs, fz, h5, h6, h7, h8⟩⟩ := hg
  · omega
  · have key : a = some ⟨e.blk, e.off + i * e.m, none⟩ ∧ c = e.cap - i := by
      by_cases h0 : 0 < n
      · exact hp.1 h0
      · rcases hp.2 (by omega) with ⟨_, g⟩ | ⟨_, g1, g2⟩ | ⟨g, _⟩
        · omega
        · exact ⟨g1, g2⟩
        · rw [h3] at g; cases g
    obtain ⟨rfl, rfl⟩ := key
    refine ⟨⟨e.blk, e.off + i * e.m, e.cap - i, cs, fz, by rw [hr], by omega, h5, ⟨h6.1, h6.2.imp id fun x => x.2⟩, ?_, fun j r hj => ?_⟩, ⟨_, rfl, rfl⟩, h3⟩
    · rw [h1]
      have : e.off + i * m + (e.cap - i) * m = e.off + e.cap * m := by rw [Nat.add_assoc, ← Nat.add_mul]; congr 2; omega
      omega
    · have hjl : j < n := by rw [← hr]; exact (List.getElem?_eq_some_iff.1 hj).1
      obtain ⟨x1, x2⟩ := h8 (i + j) (by omega)
      rw [hc j r hj] at x1 x2
      refine ⟨by simpa using x1, fun q u hu => ?_⟩
      obtain ⟨v, y1, y2, _⟩ := x2 q (.raw u) (by simp [hu])
      have y1 : some u = some v := y1
      cases y1
      rw [h1, Nat.add_assoc e.off, ← Nat.add_mul]; exact y2
theorem rowAt_part {α : Al} {st : St} {w : World} (hR : R α st w) {q o i n T m : Nat} {ct : Ct} {rows : List (List Value)} (hq : st.get q = some (.part o i n)) (ho : st.get o = some (.own true .row T m ct)) (hi : i < ct.len) (hn : i + n ≤ ct.len) (hr : rows.length = n) (hc : CtRows ct i rows) :
    RowAt α st w T m (.one (.ref q)) o rows := by
  obtain ⟨dq, hdq, e, a, c, he, hv, hp⟩ := hR.good q _ hq
  obtain ⟨e', he', hg⟩ := hR.good o _ ho
  rw [he] at he'; cases he'
  obtain ⟨h1, h2, h3⟩ := part_row hg hi hn hr hc hp
  refine ⟨_, e, ho, rfl, he, ⟨h3, rfl⟩, fun u hu => ?_⟩
  simp only [SA.rep, SC.val?, hdq, Option.some.injEq] at hu
  subst hu
  rw [hv]
  obtain ⟨a', rfl, h4⟩ := h2
  exact ⟨h1, a', n, c, rfl, h4⟩
theorem rowAt_own {α : Al} {st : St} {w : World} (hR : R α st w) {o T m : Nat} {ct : Ct} {rows : List (List Value)} (ho : st.get o = some (.own true .row T m ct)) (hn : 0 < ct.len) (hr : rows.length = ct.len) (hc : CtRows ct 0 rows) :
    RowAt α st w T m (.one (.ref o)) o rows := by
  obtain ⟨e, he, hg⟩ := hR.good o _ ho
  have hg' := hg
  obtain ⟨h1, h2, ⟨_, h3, _⟩ | ⟨h3, hv, hcap, _⟩⟩ := hg'
  · omega
  · obtain ⟨g1, g2, g3⟩ := part_row (i := 0) (n := ct.len) (a := some ⟨e.blk, e.off, none⟩) (c := e.cap) hg hn (by omega) hr hc ⟨fun _ => by simp, fun h => by omega⟩
    refine ⟨_, e, ho, rfl, he, ⟨h3, rfl⟩, fun u hu => ?_⟩
    simp only [SA.rep, SC.val?, he, Option.some.injEq] at hu
    subst hu
    rw [hv]
    exact ⟨g1, _, _, _, rfl, rfl⟩

/-- The rows at told keys, and whose they are. -/
def Owns (α : Al) (st : St) (w : World) (T m : Nat) (F : List Int → List (List Value)) : List VE → List Nat → Prop
  | [], os => os = []
  | e :: es, os => match e.val with
    | none => F e.key = [] ∧ Owns α st w T m F es os
    | some v => ∃ o r, os = o :: r ∧ RowAt α st w T m v o (F e.key) ∧ Owns α st w T m F es r
theorem Owns.hes {α : Al} {st : St} {w : World} {T m : Nat} {F : List Int → List (List Value)} : ∀ {es : List VE} {os : List Nat}, Owns α st w T m F es os →
    ∀ e ∈ es, (e.val = none → F e.key = []) ∧ ∀ v, e.val = some v → ∀ u, v.rep α u → RowOk w T m u (F e.key)
  | [], _, _, e, he => by cases he
  | ⟨k, none, b⟩ :: es, os, h, e, he => by
    obtain ⟨h1, h2⟩ := h
    rcases List.mem_cons.1 he with rfl | he
    · exact ⟨fun _ => h1, fun v hv => by cases hv⟩
    · exact Owns.hes h2 e he
  | ⟨k, some v, b⟩ :: es, os, h, e, he => by
    obtain ⟨o, r, _, ⟨so, d, _, _, _, _, h1⟩, h2⟩ := h
    rcases List.mem_cons.1 he with rfl | he
    · exact ⟨fun h => by (cases h), fun v' hv u hu => by cases hv; exact (h1 u hu).1⟩
    · exact Owns.hes h2 e he
def blkAt (α : Al) (o : Nat) : Option Nat := (α o).map Den.blk
theorem Owns.blks {α : Al} {st : St} {w : World} {T m : Nat} {F : List Int → List (List Value)} {kk : List IntKind} : ∀ {es : List VE} {os : List Nat} {ps : List MapEntry}, Owns α st w T m F es os → VesRep α kk es ps →
    ps.filterMap rowBlk = os.filterMap (blkAt α)
  | [], os, ps, h, h' => by rw [show os = [] from h, show ps = [] from h']; rfl
  | ⟨k, none, b⟩ :: es, os, ps, h, h' => Owns.blks (es := es) h.2 h'
  | ⟨k, some v, b⟩ :: es, os, ps, h, h' => by
    obtain ⟨o, r, rfl, ⟨so, d, _, _, hd, _, h1⟩, h2⟩ := h
    obtain ⟨p, q, rfl, _, _, g3, g4⟩ := h'
    obtain ⟨_, a, n, c, e1, e2⟩ := h1 _ g3
    simp only [List.filterMap_cons, rowBlk, e1, blkAt, hd, Option.map_some, e2]
    rw [Owns.blks h2 g4]
theorem Owns.at {α : Al} {st : St} {w : World} {T m : Nat} {F : List Int → List (List Value)} : ∀ {es : List VE} {os : List Nat}, Owns α st w T m F es os → ∀ o ∈ os, ∃ so d, st.get o = some so ∧ so.wr = true ∧ α o = some d ∧ so.lies w d d.blk
  | [], os, h, o, ho => by rw [show os = [] from h] at ho; cases ho
  | ⟨k, none, b⟩ :: es, os, h, o, ho => Owns.at (es := es) h.2 o ho
  | ⟨k, some v, b⟩ :: es, os, h, o, ho => by
    obtain ⟨o', r, rfl, ⟨so, d, a1, a2, a3, a4, _⟩, h2⟩ := h
    rcases List.mem_cons.1 ho with rfl | ho
    · exact ⟨so, d, a1, a2, a3, a4⟩
    · exact Owns.at h2 o ho
/-- Objects that may be written lie apart. -/
theorem R.blks {α : Al} {st : St} {w : World} (hR : R α st w) : ∀ {os : List Nat}, os.Nodup → (∀ o ∈ os, ∃ so d, st.get o = some so ∧ so.wr = true ∧ α o = some d ∧ so.lies w d d.blk) → (os.filterMap (blkAt α)).Nodup
  | [], _, _ => List.nodup_nil
  | o :: r, hn, h => by
    obtain ⟨so, d, a1, a2, a3, a4⟩ := h o (by simp)
    rw [List.nodup_cons] at hn
    have ih := R.blks hR hn.2 fun o' ho' => h o' (by simp [ho'])
    simp only [List.filterMap_cons, blkAt, a3, Option.map_some]
    refine List.nodup_cons.2 ⟨fun hm => ?_, ih⟩
    obtain ⟨o', ho', e⟩ := List.mem_filterMap.1 hm
    obtain ⟨so', d', c1, c2, c3, c4⟩ := h o' (by simp [ho'])
    simp only [blkAt, c3, Option.map_some, Option.some.injEq] at e
    exact hR.sep o o' so so' d d' d.blk (by rintro rfl; exact hn.1 ho') a1 c1 a3 c3 a2 a4 (.inl (by rw [← e]; exact c4))

/-! ### states made by hand -/
def FlatO (so : SO) : Prop := ∀ w d b, (so.lies w d b → b = d.blk) ∧ ¬ Ice w d so b
theorem R_flat {α : Al} {st : St} {w : World} (hg : ∀ o so, st.get o = some so → ∃ d, α o = some d ∧ Good α w d so ∧ FlatO so)
    (hsep : ∀ o o' so so' d d', o ≠ o' → st.get o = some so → st.get o' = some so' → α o = some d → α o' = some d' → d.blk ≠ d'.blk)
    (hnone : ∀ o, st.length ≤ o → α o = none) (hcell : ∀ o d, α o = some d → Ev.isCell d.val = true) : R α st w := by
  refine ⟨fun o so h => (hg o so h).imp fun d h => ⟨h.1, h.2.1⟩, fun o o' so so' d d' b hne ho ho' hd hd' _ hl hf => ?_, fun o so d b ho hd _ _ hi => ?_, hnone, hcell⟩
  · obtain ⟨e, h1, _, h2⟩ := hg o so ho
    obtain ⟨e', h1', _, h2'⟩ := hg o' so' ho'
    rw [hd] at h1; cases h1
    rw [hd'] at h1'; cases h1'
    have x1 := (h2 w d b).1 hl
    rcases hf with hf | hf
    · exact hsep o o' so so' d d' hne ho ho' hd hd' (x1.symm.trans ((h2' w d' b).1 hf))
    · exact (h2' w d' b).2 hf
  · obtain ⟨e, h1, _, h2⟩ := hg o so ho
    rw [hd] at h1; cases h1
    exact (h2 w d b).2 hi
theorem flat_mv {wb : Bool} {kk : List IntKind} {es : List VE} {rs : List MapEntry} {cl h : Nat} : FlatO (.mv wb kk es rs cl h) := fun _ _ _ => ⟨fun h => h, fun h => h⟩
theorem flat_own {wb : Bool} {T m : Nat} {ct : Ct} (hc : ∀ (i j : Nat) (k : IntKind) (xs : List Int), (ct.get i)[j]? ≠ some (SC.dat k xs)) : FlatO (.own wb .row T m ct) := fun w d b => ⟨fun h => h.2, fun h => by
  obtain ⟨_, i, j, k, xs, v, h1, h2, _⟩ := h
  exact hc i j k xs h2⟩
theorem flat_ints {wb : Bool} {T m : Nat} {k : IntKind} {xs : List Int} : FlatO (.own wb .row T m (.ints k xs)) := flat_own fun i j k' ys h => by
  simp only [Ct.get] at h
  cases j <;> simp at h
theorem flat_tab {wb : Bool} {T m n : Nat} {cs ns : List Int} : FlatO (.own wb .row T m (.tab n [.ints .u8 cs, .ints .i64 ns])) := flat_own fun i j k' ys h => by
  simp only [Ct.get, colsAt, Col.at] at h
  match j with
  | 0 => simp at h
  | 1 => simp at h
  | n + 2 => simp at h
def lkObj (wb : Bool) : SO := .mem wb .whole 65 4 (.lst [[.ref 1, .ref 2, .ref 3, .ref 4]])
theorem flat_lk {wb : Bool} : FlatO (lkObj wb) := fun w d b => ⟨fun h => h, fun h => by
  obtain ⟨i, j, k, xs, v, h1, h2, _⟩ := h
  simp only [Ct.get, getL_eq] at h2
  match i with
  | 0 => simp at h2; match j, h2 with
    | 0, h2 => simp at h2
    | 1, h2 => simp at h2
    | 2, h2 => simp at h2
    | 3, h2 => simp at h2
    | n + 4, h2 => simp at h2
  | i + 1 => simp at h2⟩

/-- The four maps, and three rows at most. -/
def lkSt (wb : Bool) (eh : List VE) (rh : List MapEntry) (ch : Nat) (eq : List VE) (rq : List MapEntry) (cq : Nat) (ew : List VE) (rw : List MapEntry) (cw : Nat) (es : List VE) (rs : List MapEntry) (cs : Nat) (r : St) : St :=
  some (lkObj wb) :: some (.mv wb kL eh rh ch 0) :: some (.mv wb kL eq rq cq 0) :: some (.mv wb kT ew rw cw 0) :: some (.mv wb kT es rs cs 0) :: r
def mapDen (b : Nat) : Den := ⟨b, 0, 0, 0, .map (some b), true⟩
def lkAl (b0 : Nat × Nat) (b1 b2 b3 b4 : Nat) (rd : List (Option Den)) : Al := fun o => match o with
  | 0 => some ⟨b0.1, b0.2, 4, 1, .pointer (some ⟨b0.1, b0.2, none⟩), true⟩
  | 1 => some (mapDen b1)
  | 2 => some (mapDen b2)
  | 3 => some (mapDen b3)
  | 4 => some (mapDen b4)
  | n + 5 => (rd[n]?).getD none
/-- A list of rows' objects, with their places. -/
def RowsOk (w : World) (wb : Bool) : List (Option SO) → List (Option Den) → Prop
  | [], [] => True
  | none :: r, none :: ds => RowsOk w wb r ds
  | some so :: r, some d :: ds => ((∀ β, Good β w d so) ∧ FlatO so ∧ so.wr = wb ∧ isCell d.val = true) ∧ RowsOk w wb r ds
  | _, _ => False
def rdBlks : List (Option Den) → List Nat
  | [] => []
  | none :: r => rdBlks r
  | some d :: r => d.blk :: rdBlks r
theorem RowsOk.len {w : World} {wb : Bool} : ∀ {r : List (Option SO)} {ds : List (Option Den)}, RowsOk w wb r ds → ds.length = r.length
  | [], [], _ => rfl
  | none :: r, none :: ds, h => by simp [RowsOk.len (r := r) (ds := ds) h]
  | some _ :: r, some _ :: ds, h => by simp [RowsOk.len h.2]
  | [], _ :: _, h => h.elim
  | none :: _, [], h => h.elim
  | some _ :: _, [], h => h.elim
  | none :: _, some _ :: _, h => h.elim
  | some _ :: _, none :: _, h => h.elim
theorem RowsOk.get {w : World} {wb : Bool} : ∀ {r : List (Option SO)} {ds : List (Option Den)}, RowsOk w wb r ds → ∀ {n : Nat} {so : SO}, r[n]? = some (some so) → ∃ d, ds[n]? = some (some d) ∧ (∀ β, Good β w d so) ∧ FlatO so ∧ isCell d.val = true ∧ so.wr = wb
  | [], [], _, n, so, h => by simp at h
  | none :: r, none :: ds, hr, n, so, h => by
    cases n with
    | zero => simp at h
    | succ n => simpa using RowsOk.get (r := r) (ds := ds) hr (n := n) (by simpa using h)
  | some s :: r, some d :: ds, hr, n, so, h => by
    cases n with
    | zero => simp at h; subst h; exact ⟨d, rfl, hr.1.1, hr.1.2.1, hr.1.2.2.2, hr.1.2.2.1⟩
    | succ n => simpa using RowsOk.get hr.2 (n := n) (by simpa using h)
  | [], _ :: _, h, _, _, _ => h.elim
  | none :: _, [], h, _, _, _ => h.elim
  | some _ :: _, [], h, _, _, _ => h.elim
  | none :: _, some _ :: _, h, _, _, _ => h.elim
  | some _ :: _, none :: _, h, _, _, _ => h.elim
theorem RowsOk.cell {w : World} {wb : Bool} : ∀ {r : List (Option SO)} {ds : List (Option Den)}, RowsOk w wb r ds → ∀ {n : Nat} {d : Den}, ds[n]? = some (some d) → isCell d.val = true
  | [], [], _, n, so, h => by simp at h
  | none :: r, none :: ds, hr, n, so, h => by
    cases n with
    | zero => simp at h
    | succ n => exact RowsOk.cell (r := r) (ds := ds) hr (n := n) (by simpa using h)
  | some s :: r, some d :: ds, hr, n, so, h => by
    cases n with
    | zero => simp at h; subst h; exact hr.1.2.2.2
    | succ n => exact RowsOk.cell hr.2 (n := n) (by simpa using h)
  | [], _ :: _, h, _, _, _ => h.elim
  | none :: _, [], h, _, _, _ => h.elim
  | some _ :: _, [], h, _, _, _ => h.elim
  | none :: _, some _ :: _, h, _, _, _ => h.elim
  | some _ :: _, none :: _, h, _, _, _ => h.elim
theorem rdBlks_mem : ∀ {ds : List (Option Den)} {n : Nat} {d : Den}, ds[n]? = some (some d) → d.blk ∈ rdBlks ds
  | [], _, _, h => by simp at h
  | none :: r, 0, _, h => by simp at h
  | none :: r, n + 1, d, h => rdBlks_mem (ds := r) (n := n) (by simpa using h)
  | some e :: r, 0, d, h => by simp at h; subst h; simp [rdBlks]
  | some e :: r, n + 1, d, h => by simp [rdBlks, rdBlks_mem (ds := r) (n := n) (d := d) (by simpa using h)]
theorem rdBlks_ne : ∀ {ds : List (Option Den)} {n n' : Nat} {d d' : Den}, (rdBlks ds).Nodup → n ≠ n' → ds[n]? = some (some d) → ds[n']? = some (some d') → d.blk ≠ d'.blk
  | [], _, _, _, _, _, _, h, _ => by simp at h
  | none :: r, 0, _, _, _, _, _, h, _ => by simp at h
  | none :: r, _ + 1, 0, _, _, _, _, _, h => by simp at h
  | none :: r, n + 1, n' + 1, d, d', hn, hne, h, h' => rdBlks_ne (ds := r) (n := n) (n' := n') hn (by omega) (by simpa using h) (by simpa using h')
  | some e :: r, 0, 0, d, d', hn, hne, h, h' => absurd rfl hne
  | some e :: r, 0, n' + 1, d, d', hn, hne, h, h' => by
    simp at h; subst h
    have := rdBlks_mem (ds := r) (n := n') (d := d') (by simpa using h')
    rw [rdBlks, List.nodup_cons] at hn
    intro e; rw [e] at hn; exact hn.1 this
  | some e :: r, n + 1, 0, d, d', hn, hne, h, h' => by
    simp at h'; subst h'
    have := rdBlks_mem (ds := r) (n := n) (d := d) (by simpa using h)
    rw [rdBlks, List.nodup_cons] at hn
    intro e; rw [← e] at hn; exact hn.1 this
  | some e :: r, n + 1, n' + 1, d, d', hn, hne, h, h' => by
    rw [rdBlks, List.nodup_cons] at hn
    exact rdBlks_ne (ds := r) (n := n) (n' := n') hn.2 (by omega) (by simpa using h) (by simpa using h')

/-- The state of four maps, as a state. -/
theorem lk_R {w : World} {wb : Bool} {b0 : Nat × Nat} {b1 b2 b3 b4 : Nat} {x1 x2 x3 x4 p1 p2 p3 p4 : List MapEntry} {c1 c2 c3 c4 : Nat} {eh eq ew es : List VE} {rh rq rw rs : List MapEntry} {r : St} {rd : List (Option Den)}
    (hp : LkHeap w b0 b1 b2 b3 b4 x1 x2 x3 x4 c1 c2 c3 c4)
    (m1 : MvOk (lkAl b0 b1 b2 b3 b4 rd) kL eh rh x1 p1 c1) (m2 : MvOk (lkAl b0 b1 b2 b3 b4 rd) kL eq rq x2 p2 c2) (m3 : MvOk (lkAl b0 b1 b2 b3 b4 rd) kT ew rw x3 p3 c3) (m4 : MvOk (lkAl b0 b1 b2 b3 b4 rd) kT es rs x4 p4 c4)
    (hr : RowsOk w wb r rd) (hd : (b0.1 :: b1 :: b2 :: b3 :: b4 :: rdBlks rd).Nodup) : R (lkAl b0 b1 b2 b3 b4 rd) (lkSt wb eh rh c1 eq rq c2 ew rw c3 es rs c4 r) w := by
  have hget : ∀ n so, (lkSt wb eh rh c1 eq rq c2 ew rw c3 es rs c4 r).get (n + 5) = some so → r[n]? = some (some so) := fun n so h => by
    rw [St.get_eq] at h
    simp only [lkSt, List.getElem?_cons_succ] at h
    cases hq : r[n]? with
    | none => rw [hq] at h; simp at h
    | some q => rw [hq] at h; simp at h; rw [h]
  have blk : ∀ o so d, (lkSt wb eh rh c1 eq rq c2 ew rw c3 es rs c4 r).get o = some so → lkAl b0 b1 b2 b3 b4 rd o = some d →
      (o = 0 ∧ d.blk = b0.1) ∨ (o = 1 ∧ d.blk = b1) ∨ (o = 2 ∧ d.blk = b2) ∨ (o = 3 ∧ d.blk = b3) ∨ (o = 4 ∧ d.blk = b4) ∨ ∃ n, o = n + 5 ∧ rd[n]? = some (some d) := by
    intro o so d ho hd
    match o with
    | 0 => cases hd; exact .inl ⟨rfl, rfl⟩
    | 1 => cases hd; exact .inr (.inl ⟨rfl, rfl⟩)
    | 2 => cases hd; exact .inr (.inr (.inl ⟨rfl, rfl⟩))
    | 3 => cases hd; exact .inr (.inr (.inr (.inl ⟨rfl, rfl⟩)))
    | 4 => cases hd; exact .inr (.inr (.inr (.inr (.inl ⟨rfl, rfl⟩))))
    | n + 5 =>
      refine .inr (.inr (.inr (.inr (.inr ⟨n, rfl, ?_⟩))))
      simp only [lkAl] at hd
      cases hq : rd[n]? with
      | none => rw [hq] at hd; simp at hd
      | some q => rw [hq] at hd; simp at hd; rw [hd]
  refine R_flat (fun o so h => ?_) (fun o o' so so' d d' hne ho ho' hdd hdd' => ?_) (fun o ho => ?_) (fun o d h => ?_)
  · match o with
    | 0 =>
      simp [St.get_eq, lkSt] at h; subst h
      obtain ⟨cs, q1, q2, q3, q4, q5, q6, q7⟩ := hp.h0
      refine ⟨_, rfl, ⟨rfl, by omega, cs, (0, 0), q1, ⟨q3, .inl rfl⟩, by simp [q2], by simp [Ct.len], fun _ => by simp [Ct.len], fun i hi => ?_⟩, flat_lk⟩
      simp only [Ct.len, List.length_cons, List.length_nil] at hi
      obtain rfl : i = 0 := by omega
      refine ⟨rfl, fun j c hj => ?_⟩
      simp only [Ct.get, getL_eq, List.getElem?_cons_zero, Option.getD_some] at hj
      match j with
      | 0 => simp at hj; subst hj; exact ⟨_, rfl, by simpa [mapDen] using q4, rfl⟩
      | 1 => simp at hj; subst hj; exact ⟨_, rfl, by simpa [mapDen] using q5, rfl⟩
      | 2 => simp at hj; subst hj; exact ⟨_, rfl, by simpa [mapDen] using q6, rfl⟩
      | 3 => simp at hj; subst hj; exact ⟨_, rfl, by simpa [mapDen] using q7, rfl⟩
      | n + 4 => simp at hj
    | 1 => simp [St.get_eq, lkSt] at h; subst h; exact ⟨_, rfl, ⟨rfl, _, _, hp.h1, m1⟩, flat_mv⟩
    | 2 => simp [St.get_eq, lkSt] at h; subst h; exact ⟨_, rfl, ⟨rfl, _, _, hp.h2, m2⟩, flat_mv⟩
    | 3 => simp [St.get_eq, lkSt] at h; subst h; exact ⟨_, rfl, ⟨rfl, _, _, hp.h3, m3⟩, flat_mv⟩
    | 4 => simp [St.get_eq, lkSt] at h; subst h; exact ⟨_, rfl, ⟨rfl, _, _, hp.h4, m4⟩, flat_mv⟩
    | n + 5 =>
      obtain ⟨d, a1, a2, a3, _⟩ := hr.get (hget n so h)
      exact ⟨d, by simp [lkAl, a1], a2 _, a3⟩
  · simp only [List.nodup_cons, List.mem_cons, not_or] at hd
    obtain ⟨⟨n01, n02, n03, n04, n05⟩, ⟨n12, n13, n14, n15⟩, ⟨n23, n24, n25⟩, ⟨n34, n35⟩, n45, hn⟩ := hd
    have hm : ∀ (n : Nat) (d : Den), rd[n]? = some (some d) → d.blk ≠ b0.1 ∧ d.blk ≠ b1 ∧ d.blk ≠ b2 ∧ d.blk ≠ b3 ∧ d.blk ≠ b4 := fun n d h => by
      have := rdBlks_mem h
      exact ⟨fun e => n05 (e ▸ this), fun e => n15 (e ▸ this), fun e => n25 (e ▸ this), fun e => n35 (e ▸ this), fun e => n45 (e ▸ this)⟩
    rcases blk o so d ho hdd with ⟨rfl, e⟩ | ⟨rfl, e⟩ | ⟨rfl, e⟩ | ⟨rfl, e⟩ | ⟨rfl, e⟩ | ⟨n, rfl, e⟩ <;> rcases blk o' so' d' ho' hdd' with ⟨rfl, e'⟩ | ⟨rfl, e'⟩ | ⟨rfl, e'⟩ | ⟨rfl, e'⟩ | ⟨rfl, e'⟩ | ⟨n', rfl, e'⟩
    all_goals first
      | exact absurd rfl hne
      | (rw [e, e']; assumption)
      | (rw [e, e']; apply Ne.symm; assumption)
      | (rw [e]; have := hm _ _ e'; obtain ⟨a0, a1, a2, a3, a4⟩ := this; apply Ne.symm; assumption)
      | (rw [e']; have := hm _ _ e; obtain ⟨a0, a1, a2, a3, a4⟩ := this; assumption)
      | exact rdBlks_ne hn (fun h => hne (by rw [h])) e e'
  · simp only [lkSt, List.length_cons] at ho
    match o with
    | n + 5 =>
      have : rd.length ≤ n := by rw [hr.len]; omega
      simp [lkAl, List.getElem?_eq_none this]
    | 0 | 1 | 2 | 3 | 4 => omega
  · match o with
    | 0 => cases h; rfl
    | 1 => cases h; rfl
    | 2 => cases h; rfl
    | 3 => cases h; rfl
    | 4 => cases h; rfl
    | n + 5 =>
      simp only [lkAl] at h
      cases hq : rd[n]? with
      | none => rw [hq] at h; simp at h
      | some q => rw [hq] at h; simp at h; subst h; exact hr.cell hq
end Go.Ev
