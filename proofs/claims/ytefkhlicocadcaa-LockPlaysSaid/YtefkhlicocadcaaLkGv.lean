/- Give: who holds what, and waits for what, behind it. No conditions. -/
import Derived.Test.YtefkhlicocadcaaLkT3
import Derived.Test.YtefkhlicocadcaaLkTk
set_option linter.unusedVariables false
set_option linter.unusedSimpArgs false
namespace Go.Ev
open Go Go.Proofs Go.Spec
attribute [local irreducible] ev evCall branch need again
theorem brn {x : Int} {a b : Prop} (h : b) : branch (Bool.not (eqK x x)) a b := by rw [eqK_t.2 rfl]; exact brf (p := False) (by simp) h
theorem isL_iff {a b c n : Int} : isL a b c n = true ↔ (a, b) = (c, n) := by simp [isL, eqK_t]
theorem keep1_eq : ∀ (hs : List Lk) (c n : Int), keep1 (hs.map (·.1)) (hs.map (·.2)) c n = (hs.filter fun l => !decide (l = (c, n))).map (·.1)
  | [], _, _ => rfl
  | (a, b) :: r, c, n => by
    simp only [List.map_cons, keep1, keep1_eq r c n]
    by_cases h : (a, b) = (c, n)
    · rw [if_pos (isL_iff.2 h), List.filter_cons_of_neg (by simp [h])]
    · rw [if_neg (fun e => h (isL_iff.1 e)), List.filter_cons_of_pos (by simp [h])]; rfl
theorem keep2_eq : ∀ (hs : List Lk) (c n : Int), keep2 (hs.map (·.1)) (hs.map (·.2)) c n = (hs.filter fun l => !decide (l = (c, n))).map (·.2)
  | [], _, _ => rfl
  | (a, b) :: r, c, n => by
    simp only [List.map_cons, keep2, keep2_eq r c n]
    by_cases h : (a, b) = (c, n)
    · rw [if_pos (isL_iff.2 h), List.filter_cons_of_neg (by simp [h])]
    · rw [if_neg (fun e => h (isL_iff.1 e)), List.filter_cons_of_pos (by simp [h])]; rfl
theorem padL_getD {k j : Nat} {xs : List Int} (h : j < xs.length) : (padL k xs).getD j 0 = xs.getD j 0 := by
  simp only [padL, List.getD_eq_getElem?_getD]; rw [List.getElem?_append_left h]
theorem rowS_less {L : List Nat} {st : St} {q : Nat} {hs : List Lk} {c n : Int} (h0 : inH hs c n = true) (hq : st.get q = some (.part 5 0 (keep1 (hs.map (·.1)) (hs.map (·.2)) c n).length))
    (h5 : st.get 5 = some (.own true .row 31 2 (.tab hs.length [.ints .u8 (padL hs.length (keep1 (hs.map (·.1)) (hs.map (·.2)) c n)), .ints .i64 (padL hs.length (keep2 (hs.map (·.1)) (hs.map (·.2)) c n))]))) :
    RowS L st 31 2 (.one (.ref q)) 5 ((hs.filter fun l => !decide (l = (c, n))).map lkCells) := by
  have hp : 0 < hs.length := by
    cases hs with
    | nil => cases h0
    | cons _ _ => simp
  rw [keep1_eq, keep2_eq] at h5
  rw [keep1_eq] at hq
  refine .inr ⟨q, 0, _, _, rfl, hq, h5, hp, ?_, by simp, ctRows_tab fun j hj => ?_⟩
  · rw [Nat.zero_add, List.length_map]; exact List.length_filter_le _ _
  · rw [Nat.zero_add, padL_getD (by simpa using hj), padL_getD (by simpa using hj)]; exact ⟨rfl, rfl⟩
theorem H4_two {L : List Nat} {st : St} {f f' : Int → List Lk} {t q : Int} {b b' o o' : Nat} {v v' : SA} {l1 l2 : List Lk} (e1 : f' t = l1) (h : RowS L st 31 2 v o (l1.map lkCells)) (e2 : f' q = l2) (h' : RowS L st 31 2 v' o' (l2.map lkCells)) (hu : ∀ l, l ≠ t → l ≠ q → f' l = f l) :
    H4 L st f f' [⟨[t], some v, b⟩, ⟨[q], some v', b'⟩] [o, o'] :=
  ⟨⟨o, [o'], rfl, (by rw [← e1] at h; exact h), o', [], rfl, (by rw [← e2] at h'; exact h'), rfl⟩, fun k hk h => hu _ (pt_ne hk (h _ (List.mem_cons_self ..))) (pt_ne hk (h _ (List.mem_cons_of_mem _ (List.mem_singleton.2 rfl))))⟩
theorem H2_rowE {L : List Nat} {st : St} {f f' : Lk → List Int} {c n : Int} {b o : Nat} {v : SA} {l : List Int} (e : f' (c, n) = l) (h0 : l ≠ []) (h : RowS L st 3 1 v o (l.map fun t => [.int .i64 t])) (hu : ∀ l, l ≠ (c, n) → f' l = f l) : H2 L st f f' [⟨[c, n], some v, b⟩] [o] :=
  H2_row (by rw [e]; exact h0) (by rw [e]; exact h) hu
theorem rowS_rest {L : List Nat} {st : St} {q o : Nat} {y : Int} {ys : List Int} {x : Int} (hq : st.get q = some (.part o 1 ((x :: y :: ys).length - 1))) (ho : st.get o = some (.own true .row 3 1 (.ints .i64 (x :: y :: ys)))) :
    RowS L st 3 1 (.one (.ref q)) o ((y :: ys).map fun t => [.int .i64 t]) :=
  .inr ⟨q, 1, _, _, rfl, hq, ho, by simp [Ct.len], by simp [Ct.len]; omega, by simp, ctRows_ints fun j hj => by rw [Nat.add_comm 1 j, List.getD_cons_succ]⟩
theorem rds3 {e f g : Den} (h : e.blk ≠ f.blk) (h2 : e.blk ≠ g.blk) (h3 : f.blk ≠ g.blk) : (rdBlks [some e, some f, some g]).Nodup := by simp [rdBlks, h, h2, h3]
theorem give_no {D : AD} {t c n : Int} (h : D.ho (c, n) ≠ some t) : giveD D t c n = D ∧ giveE D t c n = 4 := by simp [giveD, giveE, h]
theorem give_yes {D : AD} {t c n : Int} (h : D.ho (c, n) = some t) : giveD D t c n = nextD (lessD D t c n) c n ∧ giveE D t c n = 0 := by simp [giveD, giveE, h]
theorem few_in {ls : List Lk} {c n : Int} (h : ls.length ≤ 3) (h2 : inH ls c n = true) : (decide (ls.length ≤ 3 ∧ (ls.map (·.1)).length = ls.length ∧ (ls.map (·.2)).length = ls.length) && inC (ls.map (·.1)) (ls.map (·.2)) c n) = true := by
  rw [Bool.and_eq_true]; exact ⟨decide_eq_true (few_hs h), h2⟩
theorem ndb {b : Bool} {p : Prop} (h : b = true) (h2 : p) : need b p := need_iff.2 ⟨h, h2⟩
theorem give_call {α : Al} {w : World} {vals : List Value} {t c n : Int} {x : Nat} {D : AD} {k : SV → St → Prop} (hR : R α [some (.abs true x D)] w) (hv : RepsA α [.one (.ref 0), vI t, lkA c n] vals) (hok : giveOk D t c n = true)
    (hk : k (.sa (.one (.raw (.int .i64 (giveE D t c n))))) [some (.abs true x (giveD D t c n))]) : CallsIn Fence.wide 0 Try.prog 12 vals.toArray w (CallPost α [some (.abs true x D)] w k) := by
  obtain ⟨d, hd, b0, b1, b2, b3, b4, x1, x2, x3, x4, c1, c2, c3, c4, hvd, hl⟩ := hR.good 0 _ rfl
  have hrows := List.nodup_append.1 (List.nodup_cons.1 (List.nodup_cons.1 (List.nodup_cons.1 (List.nodup_cons.1 (List.nodup_cons.1 hl.dist).2).2).2).2).2
  rcases hl.ho (c, n) with ⟨h, hho, xh, hh1, hh2, hh3⟩ | ⟨hho, hhn⟩
  · obtain ⟨rh', m1, _, _⟩ : ∃ rh', (∀ rd, MvOk (lkAl b0 b1 b2 b3 b4 rd) kL [⟨[c, n], some (vI h), xh.born⟩] rh' x1 [xh] c1) ∧ True ∧ True := by
      obtain ⟨rh', m1, _, _⟩ := (MvOk.start (α := lkAl b0 b1 b2 b3 b4 []) hl.m1).tellS (k := [c, n]) rfl (by simp) hh1 hh2 (v := vI h) (by rw [hh3]; rfl)
      refine ⟨rh', fun rd => ?_, trivial, trivial⟩
      exact { m1 with rep := ⟨xh, [], rfl, hh2, rfl, (by rw [hh3]; rfl), rfl⟩ }
    by_cases ht : h = t
    · subst ht
      obtain ⟨g1, g2⟩ := give_yes hho
      simp only [giveOk, hho, decide_true, Bool.and_eq_true, decide_eq_true_eq] at hok
      obtain ⟨hl3, hinH, hqok⟩ := hok
      rcases hsRow hl h with ⟨hs, hsn⟩ | ⟨xs, es, hs1, hs2, hs3, hs4, hs5, hs6, hs7⟩
      · rw [hs] at hinH; cases hinH
      · rcases quRow hl (c, n) with ⟨hq, hqn⟩ | ⟨xq, eq, hq, hq1, hq2, hq3, hq4, hq5, hq6, hq7⟩
        · obtain ⟨rs', m4, hso, _⟩ := (MvOk.start (α := lkAl b0 b1 b2 b3 b4 [some es]) hl.m4).tellS (k := [h]) rfl (by simp) hs1 hs2 (v := .one (.ref 5)) (by rw [← hs3]; rfl)
          have m2 := (MvOk.start (α := lkAl b0 b1 b2 b3 b4 [some es]) hl.m2).tellN (k := [c, n]) rfl (by simp) hqn
          have hS : Split α x D w true true [⟨[c, n], some (vI h), xh.born⟩] [⟨[c, n], none, 0⟩] [] [⟨[h], some (.one (.ref 5)), xs.born⟩] [lrow true (D.hs h).length ((D.hs h).map (·.1)) ((D.hs h).map (·.2))] [5] (lkAl b0 b1 b2 b3 b4 [some es]) rh' x2 x3 rs' c1 c2 c3 c4 :=
            mkSplit hR hd hvd hl (m1 _) m2 (MvOk.start hl.m3) m4 ⟨⟨fun β => hs7 β true, flat_tab, rfl, hs6⟩, trivial⟩ (by simp [rdBlks]) (fun b hb => by
              simp only [rdBlks, List.mem_cons, List.not_mem_nil, or_false] at hb
              subst hb
              exact .inr ⟨xs, hs1, hs5, hso⟩) (fun o ho => by
              obtain rfl := List.mem_singleton.1 ho
              exact ⟨by simp, _, rfl, hs4⟩)
          refine lk_call cxL1_ok (n := 200) hS hv repsA_lk (fun _ => repInt) hk ?_
          refine Eq.mpr (t_gvA (h := h) (bh := xh.born) (bq := 0) (bw := 0) (bs := xs.born) (bz := 0) ..) ?_
          refine ndk (brn (ndk (nde (ndb (few_in hl3 hinH) (nde (ndk ?_))))))
          have hD : giveD D h c n = lessD D h c n := by rw [g1, nextD, show (lessD D h c n).qu (c, n) = [] from hq]
          rw [hD, g2]
          exact finK (O2 := []) (O4 := [5]) rfl rfl rfl rfl rfl (H1_none upd_same fun _ h => upd_other h) (H2_none hq fun _ _ => rfl) H3_nil (H4_row (by rw [show (lessD D h c n).hs h = (D.hs h).filter fun l => !decide (l = (c, n)) from upd_same]; exact rowS_less hinH rfl rfl) fun _ h => upd_other h) (by decide)
        · cases hqc : D.qu (c, n) with
          | nil => exact absurd hqc hq
          | cons q r =>
            simp only [hqc, Bool.and_eq_true, decide_eq_true_eq] at hqok
            obtain ⟨⟨hqt, hql, hrl⟩, hwq⟩ := hqok
            have htq : h ≠ q := fun e => hqt e.symm
            have hes : es.blk ≠ eq.blk := fun e => hrows.2.2 _ (List.mem_filterMap.2 ⟨xq, hq1, hq5⟩) _ (List.mem_filterMap.2 ⟨xs, hs1, hs5⟩) e.symm
            rcases hl.wa q with ⟨⟨c9, n9⟩, hw, xw, hw1, hw2, hw3⟩ | ⟨hw, _⟩
            · have hless : (lessD D h c n).qu (c, n) = q :: r := hqc
              have hD : giveD D h c n = getsD { lessD D h c n with wa := upd D.wa q none, qu := upd D.qu (c, n) r } q c n := by rw [g1, nextD, hless]; rfl
              have hH : ∀ b, H1 D.ho (upd (upd D.ho (c, n) none) (c, n) (some q)) [⟨[c, n], some (vI q), b⟩] := fun b => H1_some upd_same fun _ h => by rw [upd_other h, upd_other h]
              have hW : ∀ b, H3 D.wa (upd D.wa q none) [⟨[q], none, b⟩] := fun b => H3_none upd_same fun _ h => upd_other h
              have hs1' : upd (upd D.hs h ((D.hs h).filter fun l => !decide (l = (c, n)))) q (upd D.hs h ((D.hs h).filter fun l => !decide (l = (c, n))) q ++ [(c, n)]) h = (D.hs h).filter fun l => !decide (l = (c, n)) := by rw [upd_other htq, upd_same]
              have hs2' : upd (upd D.hs h ((D.hs h).filter fun l => !decide (l = (c, n)))) q (upd D.hs h ((D.hs h).filter fun l => !decide (l = (c, n))) q ++ [(c, n)]) q = D.hs q ++ [(c, n)] := by rw [upd_same, upd_other hqt]
              have hs3' : ∀ l, l ≠ h → l ≠ q → upd (upd D.hs h ((D.hs h).filter fun l => !decide (l = (c, n)))) q (upd D.hs h ((D.hs h).filter fun l => !decide (l = (c, n))) q ++ [(c, n)]) l = D.hs l := fun l h1 h2 => by rw [upd_other h2, upd_other h1]
              rcases hsRow hl q with ⟨hz, hzn⟩ | ⟨xz, ez, hz1, hz2, hz3, hz4, hz5, hz6, hz7⟩
              · obtain ⟨rq', m2, hqo, _⟩ := (MvOk.start (α := lkAl b0 b1 b2 b3 b4 [some es, some eq]) hl.m2).tellS (k := [c, n]) rfl (by simp) hq1 hq2 (v := .one (.ref 6)) (by rw [← hq3]; rfl)
                obtain ⟨rw', m3, _, _⟩ := (MvOk.start (α := lkAl b0 b1 b2 b3 b4 [some es, some eq]) hl.m3).tellS (k := [q]) rfl (by simp) hw1 hw2 (v := lkA c9 n9) (by rw [hw3]; exact rep_lkA)
                have mz := (MvOk.start (α := lkAl b0 b1 b2 b3 b4 [some es, some eq]) hl.m4).tellN (k := [q]) rfl (by simp) hzn
                obtain ⟨rs', m4, hso, _⟩ := mz.tellS (k := [h]) rfl (by simp [hqt]) hs1 hs2 (v := .one (.ref 5)) (by rw [← hs3]; rfl)
                have hS : Split α x D w true true [⟨[c, n], some (vI h), xh.born⟩] [⟨[c, n], some (.one (.ref 6)), xq.born⟩] [⟨[q], some (lkA c9 n9), xw.born⟩] [⟨[h], some (.one (.ref 5)), xs.born⟩, ⟨[q], none, 0⟩] [lrow true (D.hs h).length ((D.hs h).map (·.1)) ((D.hs h).map (·.2)), irow true (D.qu (c, n))] [5, 6] (lkAl b0 b1 b2 b3 b4 [some es, some eq]) rh' rq' rw' rs' c1 c2 c3 c4 :=
                  mkSplit hR hd hvd hl (m1 _) m2 m3 m4 ⟨⟨fun β => hs7 β true, flat_tab, rfl, hs6⟩, ⟨fun β => hq7 β true, flat_ints, rfl, hq6⟩, trivial⟩ (rds2 hes) (fun b hb => by
                  simp only [rdBlks, List.mem_cons, List.not_mem_nil, or_false] at hb
                  rcases hb with rfl | rfl
                  · exact .inr ⟨xs, hs1, hs5, hso⟩
                  · exact .inl ⟨xq, hq1, hq5, hqo⟩) (fun o ho => by
                  simp only [List.mem_cons, List.not_mem_nil, or_false] at ho
                  rcases ho with rfl | rfl
                  · exact ⟨by simp, _, rfl, hs4⟩
                  · exact ⟨by simp, _, rfl, hq4⟩)
                rw [hqc] at hS
                refine lk_call cxL1_ok (n := 200) hS hv repsA_lk (fun _ => repInt) hk ?_
                rw [hD, g2]
                cases r with
                | nil =>
                  refine Eq.mpr (t_gvA1 (h := h) (q := q) (c9 := c9) (n9 := n9) (bh := xh.born) (bq := xq.born) (bw := xw.born) (bs := xs.born) (bz := 0) ..) ?_
                  refine ndk (brn (ndk (bret rfl (ndb (few_in hl3 hinH) (bret rfl (ndk ?_))))))
                  refine nde (ndk (bref htq (nde ?_)))
                  refine bref htq (nde (ndk (ndk ?_)))
                  exact finK (O2 := []) (O4 := [5, 8]) rfl rfl rfl rfl rfl (hH _) (H2_none upd_same fun _ h => upd_other h) (hW _) (H4_two hs1' (rowS_less hinH rfl rfl) (hs2'.trans (by rw [hz]; rfl)) (rowS_tab (ls := [(c, n)]) rfl (.inl (by omega)) rfl rfl rfl) hs3') (by decide)
                | cons y ys =>
                  refine Eq.mpr (t_gvA2 (h := h) (q := q) (c9 := c9) (n9 := n9) (bh := xh.born) (bq := xq.born) (bw := xw.born) (bs := xs.born) (bz := 0) ..) ?_
                  refine ndk (brn (ndk (bret rfl (ndb (few_in hl3 hinH) (bret rfl (ndk ?_))))))
                  refine brt (by simp only [List.length_cons]; omega) (ndd (by simp only [List.length_cons]; omega) (nde (ndd (by simp only [List.length_cons]; omega) (ndk (bref htq (nde ?_))))))
                  refine bref htq (nde (ndd (by omega) (ndd (by simp only [List.length_cons]; omega) (ndk ?_))))
                  exact finK (O2 := [6]) (O4 := [5, 9]) rfl rfl rfl rfl rfl (hH _) (H2_rowE (o := 6) (l := y :: ys) upd_same (by simp) (rowS_rest rfl rfl) fun _ h => upd_other h) (hW _) (H4_two hs1' (rowS_less hinH rfl rfl) (hs2'.trans (by rw [hz]; rfl)) (rowS_tab (ls := [(c, n)]) rfl (.inl (by omega)) rfl rfl rfl) hs3') (by decide)
              · obtain ⟨rq', m2, hqo, _⟩ := (MvOk.start (α := lkAl b0 b1 b2 b3 b4 [some es, some eq, some ez]) hl.m2).tellS (k := [c, n]) rfl (by simp) hq1 hq2 (v := .one (.ref 6)) (by rw [← hq3]; rfl)
                obtain ⟨rw', m3, _, _⟩ := (MvOk.start (α := lkAl b0 b1 b2 b3 b4 [some es, some eq, some ez]) hl.m3).tellS (k := [q]) rfl (by simp) hw1 hw2 (v := lkA c9 n9) (by rw [hw3]; exact rep_lkA)
                have hsz : es.blk ≠ ez.blk := fun e => htq (by
                  have := filterMap_inj hrows.2.1 hs1 hz1 hs5 (e ▸ hz5)
                  subst this
                  have := hs2.symm.trans hz2
                  simpa [keyT1, keyV] using this)
                have hqz : eq.blk ≠ ez.blk := fun e => hrows.2.2 _ (List.mem_filterMap.2 ⟨xq, hq1, hq5⟩) _ (List.mem_filterMap.2 ⟨xz, hz1, hz5⟩) e
                obtain ⟨rz', mz, hzo, hzs⟩ := (MvOk.start (α := lkAl b0 b1 b2 b3 b4 [some es, some eq, some ez]) hl.m4).tellS (k := [q]) rfl (by simp) hz1 hz2 (v := .one (.ref 7)) (by rw [← hz3]; rfl)
                obtain ⟨rs', m4, hso, hss⟩ := mz.tellS (k := [h]) rfl (by simp [hqt]) hs1 hs2 (v := .one (.ref 5)) (by rw [← hs3]; rfl)
                have hS : Split α x D w true true [⟨[c, n], some (vI h), xh.born⟩] [⟨[c, n], some (.one (.ref 6)), xq.born⟩] [⟨[q], some (lkA c9 n9), xw.born⟩] [⟨[h], some (.one (.ref 5)), xs.born⟩, ⟨[q], some (.one (.ref 7)), xz.born⟩] [lrow true (D.hs h).length ((D.hs h).map (·.1)) ((D.hs h).map (·.2)), irow true (D.qu (c, n)), lrow true (D.hs q).length ((D.hs q).map (·.1)) ((D.hs q).map (·.2))] [5, 6, 7] (lkAl b0 b1 b2 b3 b4 [some es, some eq, some ez]) rh' rq' rw' rs' c1 c2 c3 c4 :=
                  mkSplit hR hd hvd hl (m1 _) m2 m3 m4 ⟨⟨fun β => hs7 β true, flat_tab, rfl, hs6⟩, ⟨fun β => hq7 β true, flat_ints, rfl, hq6⟩, ⟨⟨fun β => hz7 β true, flat_tab, rfl, hz6⟩, trivial⟩⟩ (rds3 hes hsz hqz) (fun b hb => by
                  simp only [rdBlks, List.mem_cons, List.not_mem_nil, or_false] at hb
                  rcases hb with rfl | rfl | rfl
                  · exact .inr ⟨xs, hs1, hs5, hso⟩
                  · exact .inl ⟨xq, hq1, hq5, hqo⟩
                  · exact .inr ⟨xz, hz1, hz5, fun hm => hzo (hss _ hm)⟩) (fun o ho => by
                  simp only [List.mem_cons, List.not_mem_nil, or_false] at ho
                  rcases ho with rfl | rfl | rfl
                  · exact ⟨by simp, _, rfl, hs4⟩
                  · exact ⟨by simp, _, rfl, hq4⟩
                  · exact ⟨by simp, _, rfl, hz4⟩)
                rw [hqc] at hS
                refine lk_call cxL1_ok (n := 200) hS hv repsA_lk (fun _ => repInt) hk ?_
                rw [hD, g2]
                cases r with
                | nil =>
                  refine Eq.mpr (t_gvP1 (h := h) (q := q) (c9 := c9) (n9 := n9) (bh := xh.born) (bq := xq.born) (bw := xw.born) (bs := xs.born) (bz := xz.born) ..) ?_
                  refine ndk (brn (ndk (bret rfl (ndb (few_in hl3 hinH) (bret rfl (ndk ?_))))))
                  refine nde (ndk (bref htq (nde ?_)))
                  refine ndd (by omega) ?_
                  refine bref htq (nde (ndk (ndk ?_)))
                  rw [fitL_same 0 _ ((D.hs q).map (·.1)) (by simp), fitL_same 0 _ ((D.hs q).map (·.2)) (by simp)]
                  exact finK (O2 := []) (O4 := [5, 9]) rfl rfl rfl rfl rfl (hH _) (H2_none upd_same fun _ h => upd_other h) (hW _) (H4_two hs1' (rowS_less hinH rfl rfl) hs2' (rowS_tab (ls := D.hs q ++ [(c, n)]) rfl (.inl (by omega)) (by simp) (by simp) (by simp)) hs3') (by decide)
                | cons y ys =>
                  refine Eq.mpr (t_gvP2 (h := h) (q := q) (c9 := c9) (n9 := n9) (bh := xh.born) (bq := xq.born) (bw := xw.born) (bs := xs.born) (bz := xz.born) ..) ?_
                  refine ndk (brn (ndk (bret rfl (ndb (few_in hl3 hinH) (bret rfl (ndk ?_))))))
                  refine brt (by simp only [List.length_cons]; omega) (ndd (by simp only [List.length_cons]; omega) (nde (ndd (by simp only [List.length_cons]; omega) (ndk (bref htq (nde ?_))))))
                  refine ndd (by omega) ?_
                  refine bref htq (nde (ndd (by omega) (ndd (by simp only [List.length_cons]; omega) (ndk ?_))))
                  rw [fitL_same 0 _ ((D.hs q).map (·.1)) (by simp), fitL_same 0 _ ((D.hs q).map (·.2)) (by simp)]
                  exact finK (O2 := [6]) (O4 := [5, 10]) rfl rfl rfl rfl rfl (hH _) (H2_rowE (o := 6) (l := y :: ys) upd_same (by simp) (rowS_rest rfl rfl) fun _ h => upd_other h) (hW _) (H4_two hs1' (rowS_less hinH rfl rfl) hs2' (rowS_tab (ls := D.hs q ++ [(c, n)]) rfl (.inl (by omega)) (by simp) (by simp) (by simp)) hs3') (by decide)
            · rw [hw] at hwq; cases hwq
    · have hS : Split α x D w true true [⟨[c, n], some (vI h), xh.born⟩] [] [] [] [] [] (lkAl b0 b1 b2 b3 b4 []) rh' x2 x3 x4 c1 c2 c3 c4 := mkSplit hR hd hvd hl (m1 _) (MvOk.start hl.m2) (MvOk.start hl.m3) (MvOk.start hl.m4) trivial (by simp [rdBlks]) (by simp [rdBlks]) (by simp)
      obtain ⟨g1, g2⟩ := give_no (D := D) (t := t) (c := c) (n := n) (by rw [hho]; simpa using ht)
      refine lk_call cxL1_ok (n := 200) hS hv repsA_lk (fun _ => repInt) hk ?_
      refine Eq.mpr (t_gvO (h := h) (bh := xh.born) ..) (ndk ?_)
      rw [eqK_f.2 ht, g1, g2]
      exact brt (p := True) trivial (finK (O2 := []) (O4 := []) rfl rfl rfl rfl rfl (H1_some hho fun _ _ => rfl) H2_nil H3_nil H4_nil (by decide))
  · have m1 := (MvOk.start (α := lkAl b0 b1 b2 b3 b4 []) hl.m1).tellN (k := [c, n]) rfl (by simp) hhn
    have hS : Split α x D w true true [⟨[c, n], none, 0⟩] [] [] [] [] [] (lkAl b0 b1 b2 b3 b4 []) x1 x2 x3 x4 c1 c2 c3 c4 := mkSplit hR hd hvd hl m1 (MvOk.start hl.m2) (MvOk.start hl.m3) (MvOk.start hl.m4) trivial (by simp [rdBlks]) (by simp [rdBlks]) (by simp)
    obtain ⟨g1, g2⟩ := give_no (D := D) (t := t) (c := c) (n := n) (by rw [hho]; simp)
    refine lk_call cxL1_ok (n := 200) hS hv repsA_lk (fun _ => repInt) hk ?_
    refine Eq.mpr (t_gvN (bh := 0) ..) (ndk ?_)
    rw [g1, g2]
    exact finK (O2 := []) (O4 := []) rfl rfl rfl rfl rfl (H1_none hho fun _ _ => rfl) H2_nil H3_nil H4_nil (by decide)
theorem give_sum : SumOk Try.prog 12 sGive := by
  refine fun args st => ⟨fun k h => ?_, fun k h α w vals hR hv => ?_⟩
  · unfold sGive at h ⊢
    split at h
    · split at h
      · exact lin_need k h
      · exact h.elim
    · exact h.elim
  · unfold sGive at h
    split at h
    · split at h
      · obtain ⟨h1, h⟩ := need_iff.1 h
        exact give_call hR hv h1 h
      · exact h.elim
    · exact h.elim
end Go.Ev
