/- Locks told as four maps: how it comes about. No conditions. -/
import Derived.Test.YtefkhlicocadcaaLkF
import Derived.Test.YtefkhlicocadcaaEvD
set_option linter.unusedVariables false
set_option linter.unusedSimpArgs false
namespace Go.Ev
open Go
theorem filterMap_inj {β : Type} {f : β → Option Nat} : ∀ {l : List β} {x y : β} {b : Nat}, (l.filterMap f).Nodup → x ∈ l → y ∈ l → f x = some b → f y = some b → x = y
  | [], _, _, _, _, h, _, _, _ => by cases h
  | a :: r, x, y, b, hn, hx, hy, h1, h2 => by
    have hr : (r.filterMap f).Nodup := by
      simp only [List.filterMap_cons] at hn
      split at hn
      · exact hn
      · exact (List.nodup_cons.1 hn).2
    rcases List.mem_cons.1 hx with ex | hx' <;> rcases List.mem_cons.1 hy with ey | hy'
    · rw [ex, ey]
    · exfalso
      subst ex
      simp only [List.filterMap_cons, h1, List.nodup_cons, List.mem_filterMap] at hn
      exact hn.1 ⟨y, hy', h2⟩
    · exfalso
      subst ey
      simp only [List.filterMap_cons, h2, List.nodup_cons, List.mem_filterMap] at hn
      exact hn.1 ⟨x, hx', h1⟩
    · exact filterMap_inj hr hx' hy' h1 h2

section
variable {α : Al} {t : Nat} {D D' : AD} {w : World} {wb ww : Bool} {eh eq ew es : List VE} {r : St} {L : List Nat} {x1 x2 x3 x4 p1 p2 p3 p4 rh rq rw rs : List MapEntry} {b0 : Nat × Nat} {b1 b2 b3 b4 c1 c2 c3 c4 : Nat} {d : Den} {rd : List (Option Den)}

theorem mkSplit (hR0 : R α [some (.abs wb t D)] w) (hd : α 0 = some d) (hv : d.val = .pointer (some ⟨b0.1, b0.2, none⟩)) (hk : LkOk D w b0 b1 b2 b3 b4 x1 x2 x3 x4 c1 c2 c3 c4)
    (m1 : MvOk (lkAl b0 b1 b2 b3 b4 rd) kL eh rh x1 p1 c1) (m2 : MvOk (lkAl b0 b1 b2 b3 b4 rd) kL eq rq x2 p2 c2) (m3 : MvOk (lkAl b0 b1 b2 b3 b4 rd) kT ew rw x3 p3 c3) (m4 : MvOk (lkAl b0 b1 b2 b3 b4 rd) kT es rs x4 p4 c4)
    (hr : RowsOk w ww r rd) (hn : (rdBlks rd).Nodup) (hx : ∀ b ∈ rdBlks rd, (∃ x ∈ x2, rowBlk x = some b ∧ x ∉ rq) ∨ ∃ x ∈ x4, rowBlk x = some b ∧ x ∉ rs)
    (hL : ∀ o ∈ L, o < 5 + r.length ∧ ∃ e, lkAl b0 b1 b2 b3 b4 rd o = some e ∧ e.live = true) :
    Split α t D w wb ww eh eq ew es r L (lkAl b0 b1 b2 b3 b4 rd) rh rq rw rs c1 c2 c3 c4 := by
  have hdd := hk.dist
  have hdd' := hdd
  simp only [lkBlks, List.nodup_cons, List.mem_cons, not_or] at hdd'
  obtain ⟨⟨n01, n02, n03, n04, n0⟩, ⟨n12, n13, n14, n1⟩, ⟨n23, n24, n2⟩, ⟨n34, n3⟩, n4, n5⟩ := hdd'
  have n5' := List.nodup_append.1 n5
  have hin : ∀ b ∈ rdBlks rd, b ∈ List.filterMap rowBlk x2 ++ List.filterMap rowBlk x4 := fun b hb => by
    rcases hx b hb with ⟨x, a1, a2, _⟩ | ⟨x, a1, a2, _⟩
    · exact List.mem_append.2 (.inl (List.mem_filterMap.2 ⟨x, a1, a2⟩))
    · exact List.mem_append.2 (.inr (List.mem_filterMap.2 ⟨x, a1, a2⟩))
  refine ⟨hR0, d, b0, b1, b2, b3, b4, x1, x2, x3, x4, p1, p2, p3, p4, rd, hd, hv, hk, rfl, m1, m2, m3, m4, hr, ?_, fun b hb => ⟨?_, fun y hy hyb => ?_⟩, hL⟩
  · simp only [List.nodup_cons, List.mem_cons, not_or]
    exact ⟨⟨n01, n02, n03, n04, fun h => n0 (hin _ h)⟩, ⟨n12, n13, n14, fun h => n1 (hin _ h)⟩, ⟨n23, n24, fun h => n2 (hin _ h)⟩, ⟨n34, fun h => n3 (hin _ h)⟩, fun h => n4 (hin _ h), hn⟩
  · simp only [lkBlks, List.mem_cons]
    exact .inr (.inr (.inr (.inr (.inr (hin b hb)))))
  · rcases hx b hb with ⟨x, a1, a2, a3⟩ | ⟨x, a1, a2, a3⟩ <;> rcases List.mem_append.1 hy with hy | hy
    · have hy2 : y ∈ x2 := m2.perm.mem_iff.2 (by simp [hy])
      exact a3 (filterMap_inj n5'.1 a1 hy2 a2 hyb ▸ hy)
    · have hy4 : y ∈ x4 := m4.perm.mem_iff.2 (by simp [hy])
      exact n5'.2.2 b (List.mem_filterMap.2 ⟨x, a1, a2⟩) b (List.mem_filterMap.2 ⟨y, hy4, hyb⟩) rfl
    · have hy2 : y ∈ x2 := m2.perm.mem_iff.2 (by simp [hy])
      exact n5'.2.2 b (List.mem_filterMap.2 ⟨y, hy2, hyb⟩) b (List.mem_filterMap.2 ⟨x, a1, a2⟩) rfl
    · have hy4 : y ∈ x4 := m4.perm.mem_iff.2 (by simp [hy])
      exact a3 (filterMap_inj n5'.2.1 a1 hy4 a2 hyb ▸ hy)

/-- A row of a map, as an object. -/
theorem quRow (hk : LkOk D w b0 b1 b2 b3 b4 x1 x2 x3 x4 c1 c2 c3 c4) (l : Lk) :
    (D.qu l = [] ∧ ∀ x ∈ x2, x.key ≠ keyL2 l) ∨ ∃ x e, D.qu l ≠ [] ∧ x ∈ x2 ∧ x.key = keyL2 l ∧ e.val = x.val ∧ e.live = true ∧ rowBlk x = some e.blk ∧ isCell e.val = true ∧
      ∀ (β : Al) (wb : Bool), Good β w e (.own wb .row 3 1 (.ints .i64 (D.qu l))) := by
  rcases hk.qu l with ⟨x, a1, a2, a3, a4⟩ | h
  · obtain ⟨e, g1, g2, ⟨a, n, c, g3, g4⟩, g5⟩ := row_good (ct := .ints .i64 (D.qu l)) a3 (by omega) (by simp [Ct.len]) (ctRows_ints fun j hj => by simp)
    exact .inr ⟨x, e, a4, a1, a2, g1, g2, by simp [rowBlk, g3, g4], by rw [g1, g3]; rfl, g5⟩
  · exact .inl h
theorem hsRow (hk : LkOk D w b0 b1 b2 b3 b4 x1 x2 x3 x4 c1 c2 c3 c4) (l : Int) :
    (D.hs l = [] ∧ ∀ x ∈ x4, x.key ≠ keyT1 l) ∨ ∃ x e, x ∈ x4 ∧ x.key = keyT1 l ∧ e.val = x.val ∧ e.live = true ∧ rowBlk x = some e.blk ∧ isCell e.val = true ∧
      ∀ (β : Al) (wb : Bool), Good β w e (.own wb .row 31 2 (.tab (D.hs l).length [.ints .u8 ((D.hs l).map (·.1)), .ints .i64 ((D.hs l).map (·.2))])) := by
  rcases hk.hs l with ⟨x, a1, a2, a3⟩ | h
  · obtain ⟨e, g1, g2, ⟨a, n, c, g3, g4⟩, g5⟩ := row_good (ct := .tab (D.hs l).length [.ints .u8 ((D.hs l).map (·.1)), .ints .i64 ((D.hs l).map (·.2))]) a3 (by omega) (by simp [Ct.len]) (ctRows_tab fun j hj => by simp)
    exact .inr ⟨x, e, a1, a2, g1, g2, by simp [rowBlk, g3, g4], by rw [g1, g3]; rfl, g5⟩
  · exact .inl h
end

section
variable {α : Al} {kk : List IntKind} {es : List VE} {rs xs ps : List MapEntry} {cl : Nat}
/-- A key at which nothing stands, told. -/
theorem MvOk.tellN (m : MvOk α kk es rs xs ps cl) {k : List Int} (hk : k.length = kk.length) (hn : ∀ e ∈ es, e.key ≠ k) (h : ∀ x ∈ xs, x.key ≠ keyV kk k) : MvOk α kk (⟨k, none, 0⟩ :: es) rs xs ps cl := by
  rcases m.tell hk hn with ⟨_, h1⟩ | ⟨x, _, h1, h2, _⟩
  · exact h1
  · exact absurd h2 (h x h1)
/-- A key at which something stands, told. -/
theorem MvOk.tellS (m : MvOk α kk es rs xs ps cl) {k : List Int} (hk : k.length = kk.length) (hn : ∀ e ∈ es, e.key ≠ k) {x : MapEntry} (hx : x ∈ xs) (h : x.key = keyV kk k) {v : SA} (hv : v.rep α x.val) :
    ∃ rs', MvOk α kk (⟨k, some v, x.born⟩ :: es) rs' xs (x :: ps) cl ∧ x ∉ rs' ∧ ∀ y ∈ rs', y ∈ rs := by
  rcases m.tell hk hn with ⟨h1, _⟩ | ⟨y, rs', h1, h2, h3, h4⟩
  · exact absurd h (h1 x hx)
  · obtain rfl := m.mok.one hx h1 (h.trans h2.symm)
    refine ⟨rs', h4 v hv, fun hm => ?_, fun y hy => h3.mem_iff.2 (List.mem_cons_of_mem _ hy)⟩
    have := (h4 v hv).off ⟨k, some v, x.born⟩ (by simp) x hm
    exact this h
end
end Go.Ev
