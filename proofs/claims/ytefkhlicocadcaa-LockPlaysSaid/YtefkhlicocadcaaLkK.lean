/- Locks told as four maps with rows, told by one word again. No conditions. -/
import Derived.Test.YtefkhlicocadcaaLkJ
set_option linter.unusedVariables false
set_option linter.unusedSimpArgs false
namespace Go.Ev
open Go

theorem MvOk.re {α α' : Al} {kk : List IntKind} {es es' : List VE} {rs xs xs' ps ps' : List MapEntry} {cl cl' : Nat} (m : MvOk α kk es rs xs ps cl) (m' : MvOk α' kk es' rs xs' ps' cl') (hk : es'.map (·.key) = es.map (·.key))
    {F0 F : List Int → Value → Prop} {N0 N : List Int → Prop}
    (old : ∀ k : List Int, k.length = kk.length → (∃ x ∈ xs, x.key = keyV kk k ∧ F0 k x.val) ∨ (N0 k ∧ ∀ x ∈ xs, x.key ≠ keyV kk k))
    (hes : ∀ e ∈ es', (e.val = none → N e.key) ∧ ∀ v, e.val = some v → ∀ u, v.rep α' u → F e.key u)
    (hF : ∀ k : List Int, k.length = kk.length → (∀ e ∈ es', e.key ≠ k) → (∀ x ∈ rs, F0 k x.val → F k x.val) ∧ (N0 k → N k)) {k : List Int} (hkl : k.length = kk.length) :
    (∃ x ∈ xs', x.key = keyV kk k ∧ F k x.val) ∨ (N k ∧ ∀ x ∈ xs', x.key ≠ keyV kk k) := by
  have hmok := m.mok
  refine m'.all hes (fun x hx k hk1 hxk => ?_) (fun k hk1 h1 h2 => ?_) hkl
  · have hn : ∀ e ∈ es', e.key ≠ k := fun e he e' => m'.off e he x hx (by rw [hxk, e'])
    have hxm : x ∈ xs := m.perm.mem_iff.2 (by simp [hx])
    rcases old k hk1 with ⟨y, a1, a2, a3⟩ | ⟨_, a2⟩
    · obtain rfl := hmok.one hxm a1 (hxk.trans a2.symm)
      exact (hF k hk1 hn).1 x hx a3
    · exact absurd hxk (a2 x hxm)
  · rcases old k hk1 with ⟨y, a1, a2, a3⟩ | ⟨a1, _⟩
    · exfalso
      rcases List.mem_append.1 (m.perm.mem_iff.1 a1) with h | h
      · obtain ⟨e, c1, c2, _⟩ := m.rep.mem y h
        have e1 := keyV_inj (m.lens e c1) hk1 (c2.symm.trans a2)
        have : e.key ∈ es'.map (·.key) := by rw [hk]; exact List.mem_map_of_mem c1
        obtain ⟨e', c3, c4⟩ := List.mem_map.1 this
        exact h1 e' c3 (c4.trans e1)
      · exact h2 y h a2
    · exact (hF k hk1 h1).2 a1

def pk (k : List Int) : Lk := (k.getD 0 0, k.getD 1 0)
def pt (k : List Int) : Int := k.getD 0 0

section
variable {w : World} {b0 : Nat × Nat} {b1 b2 b3 b4 : Nat} {x1 x2 x3 x4 p1 p2 p3 p4 : List MapEntry} {c1 c2 c3 c4 : Nat} {eh eq ew es : List VE} {rh rq rw rs : List MapEntry} {r : St} {rd : List (Option Den)} {wb : Bool}
theorem lkSt_get {o : Nat} {so : SO} {e : Den} (hr : RowsOk w wb r rd) (ho : (lkSt wb eh rh c1 eq rq c2 ew rw c3 es rs c4 r).get o = some so) (he : lkAl b0 b1 b2 b3 b4 rd o = some e) {b : Nat} (hl : so.lies w e b) :
    b ∈ b0.1 :: b1 :: b2 :: b3 :: b4 :: rdBlks rd := by
  match o with
  | 0 => simp [St.get_eq, lkSt] at ho; subst ho; cases he; have := (flat_lk w _ b).1 hl; subst this; simp
  | 1 => simp [St.get_eq, lkSt] at ho; subst ho; cases he; have := (flat_mv w _ b).1 hl; subst this; simp [mapDen]
  | 2 => simp [St.get_eq, lkSt] at ho; subst ho; cases he; have := (flat_mv w _ b).1 hl; subst this; simp [mapDen]
  | 3 => simp [St.get_eq, lkSt] at ho; subst ho; cases he; have := (flat_mv w _ b).1 hl; subst this; simp [mapDen]
  | 4 => simp [St.get_eq, lkSt] at ho; subst ho; cases he; have := (flat_mv w _ b).1 hl; subst this; simp [mapDen]
  | n + 5 =>
    have h1 : r[n]? = some (some so) := by
      rw [St.get_eq] at ho
      simp only [lkSt, List.getElem?_cons_succ] at ho
      cases hq : r[n]? with
      | none => rw [hq] at ho; simp at ho
      | some q => rw [hq] at ho; simp at ho; rw [ho]
    obtain ⟨d, a1, a2, a3, _⟩ := hr.get h1
    simp only [lkAl, a1, Option.getD_some, Option.some.injEq] at he
    subst he
    have := (a3 w d b).1 hl
    subst this
    have := rdBlks_mem a1
    simp [this]

theorem lk_join {α α' : Al} {t : Nat} {D D' : AD} {d : Den} {w' : World} {st' : St} {eh' eq' ew' es' : List VE} {c1' c2' c3' c4' h1' h2' h3' h4' : Nat} {O2 O4 : List Nat}
    (hR0 : R α [some (.abs true t D)] w) (hd : α 0 = some d) (hv : d.val = .pointer (some ⟨b0.1, b0.2, none⟩)) (hk : LkOk D w b0 b1 b2 b3 b4 x1 x2 x3 x4 c1 c2 c3 c4)
    (m1 : MvOk (lkAl b0 b1 b2 b3 b4 rd) kL eh rh x1 p1 c1) (m2 : MvOk (lkAl b0 b1 b2 b3 b4 rd) kL eq rq x2 p2 c2) (m3 : MvOk (lkAl b0 b1 b2 b3 b4 rd) kT ew rw x3 p3 c3) (m4 : MvOk (lkAl b0 b1 b2 b3 b4 rd) kT es rs x4 p4 c4)
    (hr : RowsOk w true r rd) (hli : ∀ b ∈ rdBlks rd, b ∈ lkBlks b0 b1 b2 b3 b4 x2 x4 ∧ ∀ x ∈ rq ++ rs, rowBlk x ≠ some b)
    (hto : To (lkAl b0 b1 b2 b3 b4 rd) (lkSt true eh rh c1 eq rq c2 ew rw c3 es rs c4 r) w α' st' w')
    (g0 : st'.get 0 = some (lkObj true)) (g1 : st'.get 1 = some (.mv true kL eh' rh c1' h1')) (g2 : st'.get 2 = some (.mv true kL eq' rq c2' h2')) (g3 : st'.get 3 = some (.mv true kT ew' rw c3' h3')) (g4 : st'.get 4 = some (.mv true kT es' rs c4' h4'))
    (k1 : eh'.map (·.key) = eh.map (·.key)) (k2 : eq'.map (·.key) = eq.map (·.key)) (k3 : ew'.map (·.key) = ew.map (·.key)) (k4 : es'.map (·.key) = es.map (·.key))
    (e1 : ∀ e ∈ eh', (e.val = none → D'.ho (pk e.key) = none) ∧ ∀ v, e.val = some v → ∃ t, v = .one (.raw (.int .i64 t)) ∧ D'.ho (pk e.key) = some t)
    (e3 : ∀ e ∈ ew', (e.val = none → D'.wa (pt e.key) = none) ∧ ∀ v, e.val = some v → ∃ l : Lk, v = .agg [.raw (.int .u8 l.1), .raw (.int .i64 l.2)] ∧ D'.wa (pt e.key) = some l)
    (e2n : ∀ e ∈ eq', e.val ≠ none → D'.qu (pk e.key) ≠ [])
    (e2 : Owns α' st' w' 3 1 (fun k => (D'.qu (pk k)).map fun t => [.int .i64 t]) eq' O2)
    (e4 : Owns α' st' w' 31 2 (fun k => (D'.hs (pt k)).map lkCells) es' O4)
    (hn : (0 :: 1 :: 2 :: 3 :: 4 :: (O2 ++ O4)).Nodup)
    (f1 : ∀ k : List Int, k.length = 2 → (∀ e ∈ eh', e.key ≠ k) → D'.ho (pk k) = D.ho (pk k)) (f2 : ∀ k : List Int, k.length = 2 → (∀ e ∈ eq', e.key ≠ k) → D'.qu (pk k) = D.qu (pk k))
    (f3 : ∀ k : List Int, k.length = 1 → (∀ e ∈ ew', e.key ≠ k) → D'.wa (pt k) = D.wa (pt k)) (f4 : ∀ k : List Int, k.length = 1 → (∀ e ∈ es', e.key ≠ k) → D'.hs (pt k) = D.hs (pt k)) :
    To α [some (.abs true t D)] w α [some (.abs true t D')] w' := by
  have a0 : α' 0 = some ⟨b0.1, b0.2, 4, 1, .pointer (some ⟨b0.1, b0.2, none⟩), true⟩ := hto.ext 0 (by simp [lkSt])
  have a1 : α' 1 = some (mapDen b1) := hto.ext 1 (by simp [lkSt])
  have a2 : α' 2 = some (mapDen b2) := hto.ext 2 (by simp [lkSt])
  have a3 : α' 3 = some (mapDen b3) := hto.ext 3 (by simp [lkSt])
  have a4 : α' 4 = some (mapDen b4) := hto.ext 4 (by simp [lkSt])
  obtain ⟨q1, hq1, _, x1', p1', y1, z1⟩ := hto.rep.good 1 _ g1
  obtain ⟨q2, hq2, _, x2', p2', y2, z2⟩ := hto.rep.good 2 _ g2
  obtain ⟨q3, hq3, _, x3', p3', y3, z3⟩ := hto.rep.good 3 _ g3
  obtain ⟨q4, hq4, _, x4', p4', y4, z4⟩ := hto.rep.good 4 _ g4
  rw [a1] at hq1; cases hq1
  rw [a2] at hq2; cases hq2
  rw [a3] at hq3; cases hq3
  rw [a4] at hq4; cases hq4
  have hheap : LkHeap w' b0 b1 b2 b3 b4 x1' x2' x3' x4' c1' c2' c3' c4' := by
    refine ⟨?_, y1, y2, y3, y4⟩
    obtain ⟨q0, hq0, _, _, cs, fz, u1, u2, u3, _, _, u4⟩ := hto.rep.good 0 _ g0
    rw [a0] at hq0; cases hq0
    obtain ⟨_, u5⟩ := u4 0 (by simp [Ct.len])
    have hfz : fz = (0, 0) := by
      rcases u2.2 with h | ⟨h, _⟩
      · exact h
      · cases h
    have c0 : cs[b0.2]? = some (.map (some b1)) := by
      obtain ⟨v, v1, v2, _⟩ := u5 0 (.ref 1) (by simp [Ct.get])
      simp only [CellOk, SC.val?, a1, Option.some.injEq, mapDen] at v1
      simpa [v1] using v2
    have c1 : cs[b0.2 + 1]? = some (.map (some b2)) := by
      obtain ⟨v, v1, v2, _⟩ := u5 1 (.ref 2) (by simp [Ct.get])
      simp only [CellOk, SC.val?, a2, Option.some.injEq, mapDen] at v1
      simpa [v1] using v2
    have c2 : cs[b0.2 + 2]? = some (.map (some b3)) := by
      obtain ⟨v, v1, v2, _⟩ := u5 2 (.ref 3) (by simp [Ct.get])
      simp only [CellOk, SC.val?, a3, Option.some.injEq, mapDen] at v1
      simpa [v1] using v2
    have c3 : cs[b0.2 + 3]? = some (.map (some b4)) := by
      obtain ⟨v, v1, v2, _⟩ := u5 3 (.ref 4) (by simp [Ct.get])
      simp only [CellOk, SC.val?, a4, Option.some.injEq, mapDen] at v1
      simpa [v1] using v2
    rw [hfz] at u1
    refine ⟨cs, u1, by simp only [Nat.one_mul] at u3; omega, u2.1, by simpa using c0, by simpa using c1, by simpa using c2, by simpa using c3⟩
  have hdd := hk.dist
  have hdd' := hdd
  simp only [lkBlks, List.nodup_cons, List.mem_cons, not_or] at hdd'
  obtain ⟨⟨_, _, _, _, n0⟩, ⟨_, _, _, n1⟩, ⟨_, _, n2⟩, ⟨_, n3⟩, n4, n5⟩ := hdd'
  have hq2m : ∀ x ∈ rq, x ∈ x2 := fun x hx => m2.perm.mem_iff.2 (by simp [hx])
  have hq4m : ∀ x ∈ rs, x ∈ x4 := fun x hx => m4.perm.mem_iff.2 (by simp [hx])
  -- the rest's rows are nobody's
  have hrest : ∀ x ∈ rq ++ rs, ∀ b, rowBlk x = some b → b < w.heap.size ∧ b ∉ b0.1 :: b1 :: b2 :: b3 :: b4 :: rdBlks rd := by
    intro x hx b hb
    have hmem : b ∈ List.filterMap rowBlk x2 ++ List.filterMap rowBlk x4 := by
      rcases List.mem_append.1 hx with h | h
      · exact List.mem_append.2 (.inl (List.mem_filterMap.2 ⟨x, hq2m x h, hb⟩))
      · exact List.mem_append.2 (.inr (List.mem_filterMap.2 ⟨x, hq4m x h, hb⟩))
    refine ⟨hk.lt (by simp only [lkBlks, List.mem_cons]; exact .inr (.inr (.inr (.inr (.inr hmem))))), fun hc => ?_⟩
    simp only [List.mem_cons] at hc
    rcases hc with rfl | rfl | rfl | rfl | rfl | hc
    · exact n0 hmem
    · exact n1 hmem
    · exact n2 hmem
    · exact n3 hmem
    · exact n4 hmem
    · exact (hli b hc).2 x hx hb
  have hwr : ∀ b, Wr (lkAl b0 b1 b2 b3 b4 rd) (lkSt true eh rh c1 eq rq c2 ew rw c3 es rs c4 r) w b → b ∈ b0.1 :: b1 :: b2 :: b3 :: b4 :: rdBlks rd := by
    rintro b ⟨o, so, e, u1, u2, _, u3⟩
    exact lkSt_get hr u1 u2 u3
  have hlies : ∀ o so e b, st'.get o = some so → α' o = some e → so.lies w' e b → b < w.heap.size → b ∈ b0.1 :: b1 :: b2 :: b3 :: b4 :: rdBlks rd := by
    intro o so e b u1 u2 u3 u4
    rcases hto.lies o so e b u1 u2 u4 u3 with h | ⟨h1, so0, h2, h3⟩
    · exact hwr b h
    · exact lkSt_get hr h2 ((hto.ext o h1).symm.trans u2) h3
  have hcong : ∀ x ∈ rq ++ rs, ∀ T m rows, RowOk w T m x.val rows → RowOk w' T m x.val rows := fun x hx T m rows h =>
    h.congr fun b hb => by
      obtain ⟨v1, v2⟩ := hrest x hx b hb
      exact hto.kept b v1 fun h => v2 (hwr b h)
  have hb2 := Owns.blks e2 z2.rep
  have hb4 := Owns.blks e4 z4.rep
  -- told objects
  have hobj : ∀ o ∈ 0 :: 1 :: 2 :: 3 :: 4 :: (O2 ++ O4), ∃ so d, st'.get o = some so ∧ so.wr = true ∧ α' o = some d ∧ so.lies w' d d.blk := by
    intro o ho
    simp only [List.mem_cons, List.mem_append] at ho
    rcases ho with rfl | rfl | rfl | rfl | rfl | h | h
    · exact ⟨_, _, g0, rfl, a0, rfl⟩
    · exact ⟨_, _, g1, rfl, a1, rfl⟩
    · exact ⟨_, _, g2, rfl, a2, rfl⟩
    · exact ⟨_, _, g3, rfl, a3, rfl⟩
    · exact ⟨_, _, g4, rfl, a4, rfl⟩
    · exact e2.at o h
    · exact e4.at o h
  have htold := hto.rep.blks hn hobj
  have hsh : (0 :: 1 :: 2 :: 3 :: 4 :: (O2 ++ O4)).filterMap (blkAt α') = b0.1 :: b1 :: b2 :: b3 :: b4 :: (p2'.filterMap rowBlk ++ p4'.filterMap rowBlk) := by
    simp only [List.filterMap_cons, blkAt, a0, a1, a2, a3, a4, Option.map_some, mapDen, List.filterMap_append]
    rw [hb2, hb4]
  rw [hsh] at htold
  have hperm : (lkBlks b0 b1 b2 b3 b4 x2' x4').Perm ((b0.1 :: b1 :: b2 :: b3 :: b4 :: (p2'.filterMap rowBlk ++ p4'.filterMap rowBlk)) ++ (rq.filterMap rowBlk ++ rs.filterMap rowBlk)) := by
    simp only [lkBlks, List.cons_append]
    refine List.Perm.cons _ (List.Perm.cons _ (List.Perm.cons _ (List.Perm.cons _ (List.Perm.cons _ ?_))))
    refine ((z2.perm.filterMap rowBlk).append (z4.perm.filterMap rowBlk)).trans ?_
    simp only [List.filterMap_append, List.append_assoc]
    refine List.Perm.append_left _ ?_
    rw [← List.append_assoc, ← List.append_assoc]
    exact List.Perm.append_right _ List.perm_append_comm
  have hblk : ∀ b ∈ b0.1 :: b1 :: b2 :: b3 :: b4 :: (p2'.filterMap rowBlk ++ p4'.filterMap rowBlk), b < w.heap.size → b ∈ b0.1 :: b1 :: b2 :: b3 :: b4 :: rdBlks rd := by
    intro b hb hlt
    rw [← hsh] at hb
    obtain ⟨o, ho, e⟩ := List.mem_filterMap.1 hb
    obtain ⟨so, dd, v1, v2, v3, v4⟩ := hobj o ho
    simp only [blkAt, v3, Option.map_some, Option.some.injEq] at e
    subst e
    exact hlies o so dd _ v1 v3 v4 hlt
  have hrestN : (rq.filterMap rowBlk ++ rs.filterMap rowBlk).Nodup := by
    have h2 := (m2.perm.filterMap rowBlk).append (m4.perm.filterMap rowBlk)
    have h3 := (h2.nodup_iff).1 n5
    simp only [List.filterMap_append] at h3
    have h4 : (rq.filterMap rowBlk ++ rs.filterMap rowBlk).Sublist ((p2.filterMap rowBlk ++ rq.filterMap rowBlk) ++ (p4.filterMap rowBlk ++ rs.filterMap rowBlk)) :=
      (List.sublist_append_right _ _).append (List.sublist_append_right _ _)
    exact h3.sublist h4
  have hmemr : ∀ b ∈ rq.filterMap rowBlk ++ rs.filterMap rowBlk, ∃ x ∈ rq ++ rs, rowBlk x = some b := by
    intro b hb
    rcases List.mem_append.1 hb with h | h <;> obtain ⟨x, v1, v2⟩ := List.mem_filterMap.1 h
    · exact ⟨x, by simp [v1], v2⟩
    · exact ⟨x, by simp [v1], v2⟩
  have hdist : (lkBlks b0 b1 b2 b3 b4 x2' x4').Nodup := by
    refine (hperm.nodup_iff).2 (List.nodup_append.2 ⟨htold, hrestN, fun b hb b' hb' e => ?_⟩)
    subst e
    obtain ⟨x, v1, v2⟩ := hmemr b hb'
    obtain ⟨v3, v4⟩ := hrest x v1 b v2
    exact v4 (hblk b hb v3)
  have hgood : LkOk D' w' b0 b1 b2 b3 b4 x1' x2' x3' x4' c1' c2' c3' c4' := by
    refine ⟨hheap, z1.mok, z2.mok, z3.mok, z4.mok, fun l => ?_, fun l => ?_, fun t => ?_, fun t => ?_, hdist⟩
    · have := MvOk.re m1 z1 k1 (F0 := fun k u => ∃ t, D.ho (pk k) = some t ∧ u = .int .i64 t) (F := fun k u => ∃ t, D'.ho (pk k) = some t ∧ u = .int .i64 t) (N0 := fun k => D.ho (pk k) = none) (N := fun k => D'.ho (pk k) = none)
        (fun k hk1 => by
          match k, hk1 with
          | [c, n], _ => exact (hk.ho (c, n)).imp (fun ⟨t, v1, x, v2, v3, v4⟩ => ⟨x, v2, v3, t, v1, v4⟩) fun h => h)
        (fun e he => ⟨(e1 e he).1, fun v hv u hu => by
          obtain ⟨t, rfl, h2⟩ := (e1 e he).2 v hv
          simp only [SA.rep, SC.val?, Option.some.injEq] at hu
          exact ⟨t, h2, hu.symm⟩⟩)
        (fun k hk1 h => by have := f1 k hk1 h; exact ⟨fun x hx => by simp only [this]; exact id, fun hx => by rw [this]; exact hx⟩) (k := [l.1, l.2]) rfl
      exact this.imp (fun ⟨x, v2, v3, t, v1, v4⟩ => ⟨t, v1, x, v2, v3, v4⟩) fun h => h
    · have := MvOk.re m2 z2 k2 (F0 := fun k u => RowOk w 3 1 u ((D.qu (pk k)).map fun t => [.int .i64 t]) ∧ D.qu (pk k) ≠ []) (F := fun k u => RowOk w' 3 1 u ((D'.qu (pk k)).map fun t => [.int .i64 t]) ∧ D'.qu (pk k) ≠ []) (N0 := fun k => D.qu (pk k) = []) (N := fun k => D'.qu (pk k) = [])
        (fun k hk1 => by
          match k, hk1 with
          | [c, n], _ => exact hk.qu (c, n))
        (fun e he => ⟨fun h => by have := (e2.hes e he).1 h; simpa using this, fun v hv u hu => ⟨(e2.hes e he).2 v hv u hu, e2n e he (by rw [hv]; simp)⟩⟩)
        (fun k hk1 h => by have := f2 k hk1 h; exact ⟨fun x hx hx2 => by simp only [this]; exact ⟨hcong x (by simp [hx]) _ _ _ hx2.1, hx2.2⟩, fun hx => by rw [this]; exact hx⟩) (k := [l.1, l.2]) rfl
      exact this
    · have := MvOk.re m3 z3 k3 (F0 := fun k u => ∃ l, D.wa (pt k) = some l ∧ u = lkV l) (F := fun k u => ∃ l, D'.wa (pt k) = some l ∧ u = lkV l) (N0 := fun k => D.wa (pt k) = none) (N := fun k => D'.wa (pt k) = none)
        (fun k hk1 => by
          match k, hk1 with
          | [c], _ => exact (hk.wa c).imp (fun ⟨t, v1, x, v2, v3, v4⟩ => ⟨x, v2, v3, t, v1, v4⟩) fun h => h)
        (fun e he => ⟨(e3 e he).1, fun v hv u hu => by
          obtain ⟨l, rfl, h2⟩ := (e3 e he).2 v hv
          obtain ⟨vs, hr, rfl⟩ := hu
          match vs, hr with
          | [u1, u2], ⟨r1, r2, _⟩ =>
            simp only [SC.val?, Option.some.injEq] at r1 r2
            exact ⟨l, h2, by rw [← r1, ← r2]; rfl⟩⟩)
        (fun k hk1 h => by have := f3 k hk1 h; exact ⟨fun x hx => by simp only [this]; exact id, fun hx => by rw [this]; exact hx⟩) (k := [t]) rfl
      exact this.imp (fun ⟨x, v2, v3, t, v1, v4⟩ => ⟨t, v1, x, v2, v3, v4⟩) fun h => h
    · have := MvOk.re m4 z4 k4 (F0 := fun k u => RowOk w 31 2 u ((D.hs (pt k)).map lkCells)) (F := fun k u => RowOk w' 31 2 u ((D'.hs (pt k)).map lkCells)) (N0 := fun k => D.hs (pt k) = []) (N := fun k => D'.hs (pt k) = [])
        (fun k hk1 => by
          match k, hk1 with
          | [c], _ => exact hk.hs c)
        (fun e he => ⟨fun h => by have := (e4.hes e he).1 h; simpa using this, (e4.hes e he).2⟩)
        (fun k hk1 h => by have := f4 k hk1 h; exact ⟨fun x hx hx2 => by simp only [this]; exact hcong x (by simp [hx]) _ _ _ hx2, fun hx => by rw [this]; exact hx⟩) (k := [t]) rfl
      exact this
  have hback : ∀ b ∈ lkBlks b0 b1 b2 b3 b4 x2' x4', b < w.heap.size → b ∈ lkBlks b0 b1 b2 b3 b4 x2 x4 := by
    intro b hb hlt
    rcases List.mem_append.1 (hperm.mem_iff.1 hb) with h | h
    · have := hblk b h hlt
      simp only [List.mem_cons] at this
      rcases this with rfl | rfl | rfl | rfl | rfl | h
      · simp [lkBlks]
      · simp [lkBlks]
      · simp [lkBlks]
      · simp [lkBlks]
      · simp [lkBlks]
      · exact (hli b h).1
    · simp only [lkBlks, List.mem_cons]
      refine .inr (.inr (.inr (.inr (.inr ?_))))
      rcases List.mem_append.1 h with h | h <;> obtain ⟨x, v1, v2⟩ := List.mem_filterMap.1 h
      · exact List.mem_append.2 (.inl (List.mem_filterMap.2 ⟨x, hq2m x v1, v2⟩))
      · exact List.mem_append.2 (.inr (List.mem_filterMap.2 ⟨x, hq4m x v1, v2⟩))
  have hget : ∀ o so, St.get [some (.abs true t D')] o = some so → o = 0 ∧ so = .abs true t D' := by
    intro o so h
    cases o with
    | zero => simp [St.get_eq] at h; exact ⟨rfl, h.symm⟩
    | succ n => simp [St.get_eq] at h
  have hold : ∀ b, b ∈ lkBlks b0 b1 b2 b3 b4 x2 x4 → Wr α [some (.abs true t D)] w b := fun b hb => ⟨0, _, d, rfl, hd, rfl, (absLies_iff (t := t) (D := D) hv hk.hp).2 hb⟩
  have hg' : absGood t D' w' d := ⟨b0, b1, b2, b3, b4, x1', x2', x3', x4', c1', c2', c3', c4', hv, hgood⟩
  refine ⟨⟨fun o so h => ?_, fun o o' so so' dd dd' b hne h h' _ _ _ _ _ => ?_, fun o so dd b h _ _ _ hi => ?_, fun o ho => hR0.none o ho, hR0.cell⟩, fun _ _ => rfl, Nat.le_refl _, fun o so dd b h h2 h3 h4 => ?_, fun o so dd b h _ _ hi => ?_, fun b hb hw => ?_, fun b hb hnw => ?_, hto.size, hto.tape, hto.os, hto.output⟩
  · obtain ⟨rfl, rfl⟩ := hget o so h
    exact ⟨d, hd, hg'⟩
  · obtain ⟨rfl, rfl⟩ := hget o so h
    obtain ⟨rfl, rfl⟩ := hget o' so' h'
    exact absurd rfl hne
  · obtain ⟨rfl, rfl⟩ := hget o so h
    exact hi
  · obtain ⟨rfl, rfl⟩ := hget o so h
    rw [hd] at h2; cases h2
    exact .inl (hold b (hback b ((absLies_iff (t := t) (D := D') hv hheap).1 h4) h3))
  · obtain ⟨rfl, rfl⟩ := hget o so h
    exact hi.elim
  · obtain ⟨o, so, dd, h, h2, _, h4⟩ := hw
    obtain ⟨rfl, rfl⟩ := hget o so h
    rw [hd] at h2; cases h2
    exact hold b (hback b ((absLies_iff (t := t) (D := D') hv hheap).1 h4) hb)
  · refine hto.kept b hb fun h => hnw (hold b ?_)
    have := hwr b h
    simp only [List.mem_cons] at this
    rcases this with rfl | rfl | rfl | rfl | rfl | h
    · simp [lkBlks]
    · simp [lkBlks]
    · simp [lkBlks]
    · simp [lkBlks]
    · simp [lkBlks]
    · exact (hli b h).1
end
end Go.Ev
