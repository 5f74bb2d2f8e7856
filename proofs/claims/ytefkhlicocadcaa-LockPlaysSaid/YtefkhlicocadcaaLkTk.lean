/- Take: who holds what, and waits for what, behind it. No conditions. -/
import Derived.Test.YtefkhlicocadcaaLkT2
import Derived.Test.YtefkhlicocadcaaLkH
set_option linter.unusedVariables false
set_option linter.unusedSimpArgs false
namespace Go.Ev
open Go Go.Proofs Go.Spec
attribute [local irreducible] ev evCall branch need again
theorem upd_same {α β : Type} [DecidableEq α] {f : α → β} {a : α} {b : β} : upd f a b a = b := by simp [upd]
theorem upd_other {α β : Type} [DecidableEq α] {f : α → β} {a x : α} {b : β} (h : x ≠ a) : upd f a b x = f x := by simp [upd, h]
theorem take_err {D : AD} {t c n e : Int} (hE : takeE D t c n = e) (he : e ≠ 0) : takeD D t c n = D ∧ takeB D t c n = false := by
  subst hE
  exact ⟨by simp [takeD, he], by simp [takeB, he]⟩
theorem tk_err {L : List Nat} {D : AD} {t c n e : Int} {eh eq ew es : List VE} {rh rq rw rs : List MapEntry} {c1 c2 c3 c4 h1 h2 h3 h4 : Nat} {O2 O4 : List Nat} {r : St} (hE : takeE D t c n = e) (he : e ≠ 0)
    (a1 : H1 D.ho D.ho eh) (a2 : H2 L (some (lkObj true) :: some (.mv true kL eh rh c1 h1) :: some (.mv true kL eq rq c2 h2) :: some (.mv true kT ew rw c3 h3) :: some (.mv true kT es rs c4 h4) :: r) D.qu D.qu eq O2) (a3 : H3 D.wa D.wa ew)
    (a4 : H4 L (some (lkObj true) :: some (.mv true kL eh rh c1 h1) :: some (.mv true kL eq rq c2 h2) :: some (.mv true kT ew rw c3 h3) :: some (.mv true kT es rs c4 h4) :: r) D.hs D.hs es O4) (hn : (0 :: 1 :: 2 :: 3 :: 4 :: (O2 ++ O4)).Nodup) :
    FinK L D (takeD D t c n) eh eq ew es rh rq rw rs (.tup [.one (.raw (.bool (takeB D t c n))), .one (.raw (.int .i64 (takeE D t c n)))]) (.tup [.one (.raw (.bool false)), .one (.raw (.int .i64 e))])
      (some (lkObj true) :: some (.mv true kL eh rh c1 h1) :: some (.mv true kL eq rq c2 h2) :: some (.mv true kT ew rw c3 h3) :: some (.mv true kT es rs c4 h4) :: r) := by
  obtain ⟨g1, g2⟩ := take_err hE he
  rw [g1, g2, hE]
  exact finK rfl rfl rfl rfl rfl a1 a2 a3 a4 hn
theorem tk_wait {L : List Nat} {D : AD} {t c n h : Int} {eh eq ew es eq' ew' : List VE} {rh rq rw rs : List MapEntry} {c1 c2 c3 c4 h1 h2 h3 h4 : Nat} {O2 O4 : List Nat} {r : St} (hE : takeE D t c n = 0) (ho : D.ho (c, n) = some h)
    (k2 : eq'.map (·.key) = eq.map (·.key)) (k3 : ew'.map (·.key) = ew.map (·.key))
    (a1 : H1 D.ho D.ho eh) (a2 : H2 L (some (lkObj true) :: some (.mv true kL eh rh c1 h1) :: some (.mv true kL eq' rq c2 h2) :: some (.mv true kT ew' rw c3 h3) :: some (.mv true kT es rs c4 h4) :: r) D.qu (upd D.qu (c, n) (D.qu (c, n) ++ [t])) eq' O2) (a3 : H3 D.wa (upd D.wa t (some (c, n))) ew')
    (a4 : H4 L (some (lkObj true) :: some (.mv true kL eh rh c1 h1) :: some (.mv true kL eq' rq c2 h2) :: some (.mv true kT ew' rw c3 h3) :: some (.mv true kT es rs c4 h4) :: r) D.hs D.hs es O4) (hn : (0 :: 1 :: 2 :: 3 :: 4 :: (O2 ++ O4)).Nodup) :
    FinK L D (takeD D t c n) eh eq ew es rh rq rw rs (.tup [.one (.raw (.bool (takeB D t c n))), .one (.raw (.int .i64 (takeE D t c n)))]) (.tup [.one (.raw (.bool false)), .one (.raw (.int .i64 0))])
      (some (lkObj true) :: some (.mv true kL eh rh c1 h1) :: some (.mv true kL eq' rq c2 h2) :: some (.mv true kT ew' rw c3 h3) :: some (.mv true kT es rs c4 h4) :: r) := by
  have g1 : takeD D t c n = { D with qu := upd D.qu (c, n) (D.qu (c, n) ++ [t]), wa := upd D.wa t (some (c, n)) } := by simp [takeD, hE, ho]
  have g2 : takeB D t c n = false := by simp [takeB, ho]
  rw [g1, g2, hE]
  exact finK rfl rfl k2 k3 rfl a1 a2 a3 a4 hn
theorem tk_got {L : List Nat} {D : AD} {t c n : Int} {eh eq ew es eh' es' : List VE} {rh rq rw rs : List MapEntry} {c1 c2 c3 c4 h1 h2 h3 h4 : Nat} {O2 O4 : List Nat} {r : St} (hE : takeE D t c n = 0) (ho : D.ho (c, n) = none)
    (k1 : eh'.map (·.key) = eh.map (·.key)) (k4 : es'.map (·.key) = es.map (·.key))
    (a1 : H1 D.ho (upd D.ho (c, n) (some t)) eh') (a2 : H2 L (some (lkObj true) :: some (.mv true kL eh' rh c1 h1) :: some (.mv true kL eq rq c2 h2) :: some (.mv true kT ew rw c3 h3) :: some (.mv true kT es' rs c4 h4) :: r) D.qu D.qu eq O2) (a3 : H3 D.wa D.wa ew)
    (a4 : H4 L (some (lkObj true) :: some (.mv true kL eh' rh c1 h1) :: some (.mv true kL eq rq c2 h2) :: some (.mv true kT ew rw c3 h3) :: some (.mv true kT es' rs c4 h4) :: r) D.hs (upd D.hs t (D.hs t ++ [(c, n)])) es' O4) (hn : (0 :: 1 :: 2 :: 3 :: 4 :: (O2 ++ O4)).Nodup) :
    FinK L D (takeD D t c n) eh eq ew es rh rq rw rs (.tup [.one (.raw (.bool (takeB D t c n))), .one (.raw (.int .i64 (takeE D t c n)))]) (.tup [.one (.raw (.bool true)), .one (.raw (.int .i64 0))])
      (some (lkObj true) :: some (.mv true kL eh' rh c1 h1) :: some (.mv true kL eq rq c2 h2) :: some (.mv true kT ew rw c3 h3) :: some (.mv true kT es' rs c4 h4) :: r) := by
  have g1 : takeD D t c n = getsD D t c n := by simp [takeD, hE, ho]
  have g2 : takeB D t c n = true := by simp [takeB, hE, ho]
  rw [g1, g2, hE]
  exact finK rfl k1 rfl rfl k4 a1 a2 a3 a4 hn
theorem takeE_2 {D : AD} {t c n : Int} (h : c < 1 ∨ c > 3) : takeE D t c n = 2 := by simp only [takeE]; rw [if_pos h]
theorem takeE_6 {D : AD} {t c n : Int} (h1 : ¬ c < 1) (h2 : ¬ c > 3) (h : (D.wa t).isSome = true ∨ inH (D.hs t) c n = true) : takeE D t c n = 6 := by
  simp only [takeE]; rw [if_neg (by omega), if_pos h]
theorem takeE_g {D : AD} {t c n : Int} (h1 : ¬ c < 1) (h2 : ¬ c > 3) (h3 : D.wa t = none) (h4 : inH (D.hs t) c n = false) (h : geH (D.hs t) c = true) : takeE D t c n = 2 := by
  simp only [takeE]; rw [if_neg (by omega), if_neg (by rw [h3, h4]; simp), if_pos h]
theorem takeE_0 {D : AD} {t c n : Int} (h1 : ¬ c < 1) (h2 : ¬ c > 3) (h3 : D.wa t = none) (h4 : inH (D.hs t) c n = false) (h : geH (D.hs t) c = false) : takeE D t c n = 0 := by
  simp only [takeE]; rw [if_neg (by omega), if_neg (by rw [h3, h4]; simp), if_neg (by rw [h]; simp)]
theorem rep_lkA {α : Al} {c n : Int} : (lkA c n).rep α (lkV (c, n)) := ⟨[.int .u8 c, .int .i64 n], ⟨rfl, rfl, trivial⟩, rfl⟩
theorem few_hs {ls : List Lk} (h : ls.length ≤ 3) : ls.length ≤ 3 ∧ (ls.map (·.1)).length = ls.length ∧ (ls.map (·.2)).length = ls.length := ⟨h, by simp, by simp⟩
theorem rds2 {e f : Den} (h : e.blk ≠ f.blk) : (rdBlks [some e, some f]).Nodup := by simp [rdBlks, h]
theorem take_call {α : Al} {w : World} {vals : List Value} {t c n : Int} {x : Nat} {D : AD} {k : SV → St → Prop} (hR : R α [some (.abs true x D)] w) (hv : RepsA α [.one (.ref 0), vI t, lkA c n] vals) (hok : takeOk D t c n = true)
    (hk : k (.tup [.one (.raw (.bool (takeB D t c n))), .one (.raw (.int .i64 (takeE D t c n)))]) [some (.abs true x (takeD D t c n))]) : CallsIn Fence.wide 0 Try.prog 9 vals.toArray w (CallPost α [some (.abs true x D)] w k) := by
  obtain ⟨hl3, hlq⟩ := of_decide_eq_true hok
  obtain ⟨d, hd, b0, b1, b2, b3, b4, x1, x2, x3, x4, c1, c2, c3, c4, hvd, hl⟩ := hR.good 0 _ rfl
  rcases hl.wa t with ⟨⟨c0, n0⟩, hw, xw, hw1, hw2, hw3⟩ | ⟨hw, hwn⟩
  · obtain ⟨rw', m3, _, _⟩ := (MvOk.start (α := lkAl b0 b1 b2 b3 b4 []) hl.m3).tellS (k := [t]) rfl (by simp) hw1 hw2 (v := lkA c0 n0) (by rw [hw3]; exact rep_lkA)
    have hS : Split α x D w true true [] [] [⟨[t], some (lkA c0 n0), xw.born⟩] [] [] [] (lkAl b0 b1 b2 b3 b4 []) x1 x2 rw' x4 c1 c2 c3 c4 := mkSplit hR hd hvd hl (MvOk.start hl.m1) (MvOk.start hl.m2) m3 (MvOk.start hl.m4) trivial (by simp [rdBlks]) (by simp [rdBlks]) (by simp)
    refine lk_call cxL1_ok (n := 200) hS hv repsA_lk (fun _ => repTk) hk ?_
    refine Eq.mpr (t_tkW ..) ?_
    refine brd (fun h1 => ?_) (fun h1 => brd (fun h2 => ?_) (fun h2 => nde ?_))
    · exact tk_err (takeE_2 (.inl h1)) (by omega) H1_nil H2_nil (H3_some hw fun _ _ => rfl) H4_nil (by decide)
    · exact tk_err (takeE_2 (.inr h2)) (by omega) H1_nil H2_nil (H3_some hw fun _ _ => rfl) H4_nil (by decide)
    · exact tk_err (takeE_6 h1 h2 (.inl (by rw [hw]; rfl))) (by omega) H1_nil H2_nil (H3_some hw fun _ _ => rfl) H4_nil (by decide)
  · have hin : ∀ q : D.hs t = [], inH (D.hs t) c n = false := fun q => by rw [q]; rfl
    have hge : ∀ q : D.hs t = [], geH (D.hs t) c = false := fun q => by rw [q]; rfl
    rcases hsRow hl t with ⟨hs, hsn⟩ | ⟨xs, es, hs1, hs2, hs3, hs4, hs5, hs6, hs7⟩
    · rcases hl.ho (c, n) with ⟨h, hho, xh, hh1, hh2, hh3⟩ | ⟨hho, hhn⟩
      · rcases quRow hl (c, n) with ⟨hq, hqn⟩ | ⟨xq, eq, hq, hq1, hq2, hq3, hq4, hq5, hq6, hq7⟩
        · obtain ⟨rh', m1, _, _⟩ := (MvOk.start (α := lkAl b0 b1 b2 b3 b4 []) hl.m1).tellS (k := [c, n]) rfl (by simp) hh1 hh2 (v := vI h) (by rw [hh3]; rfl)
          have m2 := (MvOk.start (α := lkAl b0 b1 b2 b3 b4 []) hl.m2).tellN (k := [c, n]) rfl (by simp) hqn
          have m3 := (MvOk.start (α := lkAl b0 b1 b2 b3 b4 []) hl.m3).tellN (k := [t]) rfl (by simp) hwn
          have m4 := (MvOk.start (α := lkAl b0 b1 b2 b3 b4 []) hl.m4).tellN (k := [t]) rfl (by simp) hsn
          have hS : Split α x D w true true [⟨[c, n], some (vI h), xh.born⟩] [⟨[c, n], none, 0⟩] [⟨[t], none, 0⟩] [⟨[t], none, 0⟩] [] [] (lkAl b0 b1 b2 b3 b4 []) rh' x2 x3 x4 c1 c2 c3 c4 := mkSplit hR hd hvd hl m1 m2 m3 m4 trivial (by simp [rdBlks]) (by simp [rdBlks]) (by simp)
          refine lk_call cxL1_ok (n := 200) hS hv repsA_lk (fun _ => repTk) hk ?_
          refine Eq.mpr (t_tkAHA (bw := 0) (bs := 0) (bh := xh.born) (bq := 0) ..) ?_
          refine brd (fun h1 => ?_) (fun h1 => brd (fun h2 => ?_) (fun h2 => nde (nde ?_)))
          · exact tk_err (takeE_2 (.inl h1)) (by omega) (H1_some hho fun _ _ => rfl) (H2_none hq fun _ _ => rfl) (H3_none hw fun _ _ => rfl) (H4_none hs fun _ _ => rfl) (by decide)
          · exact tk_err (takeE_2 (.inr h2)) (by omega) (H1_some hho fun _ _ => rfl) (H2_none hq fun _ _ => rfl) (H3_none hw fun _ _ => rfl) (H4_none hs fun _ _ => rfl) (by decide)
          refine nde ?_
          repeat (first | refine nde ?_ | refine ndk ?_ | refine ndd (by omega) ?_)
          exact tk_wait (takeE_0 h1 h2 hw (hin hs) (hge hs)) hho rfl rfl (H1_some hho fun _ _ => rfl) (H2_row (o := 5) (by rw [upd_same]; simp) (by rw [upd_same, hq]; exact rowS_ints (xs := [t]) rfl (.inl (by simp))) fun _ h => upd_other h) (H3_some upd_same fun _ h => upd_other h) (H4_none hs fun _ _ => rfl) (by decide)
        · obtain ⟨rh', m1, _, _⟩ := (MvOk.start (α := lkAl b0 b1 b2 b3 b4 [some eq]) hl.m1).tellS (k := [c, n]) rfl (by simp) hh1 hh2 (v := vI h) (by rw [hh3]; rfl)
          obtain ⟨rq', m2, hqo, _⟩ := (MvOk.start (α := lkAl b0 b1 b2 b3 b4 [some eq]) hl.m2).tellS (k := [c, n]) rfl (by simp) hq1 hq2 (v := .one (.ref 5)) (by rw [← hq3]; rfl)
          have m3 := (MvOk.start (α := lkAl b0 b1 b2 b3 b4 [some eq]) hl.m3).tellN (k := [t]) rfl (by simp) hwn
          have m4 := (MvOk.start (α := lkAl b0 b1 b2 b3 b4 [some eq]) hl.m4).tellN (k := [t]) rfl (by simp) hsn
          have hS : Split α x D w true true [⟨[c, n], some (vI h), xh.born⟩] [⟨[c, n], some (.one (.ref 5)), xq.born⟩] [⟨[t], none, 0⟩] [⟨[t], none, 0⟩] [irow true (D.qu (c, n))] [5] (lkAl b0 b1 b2 b3 b4 [some eq]) rh' rq' x3 x4 c1 c2 c3 c4 := mkSplit hR hd hvd hl m1 m2 m3 m4 ⟨⟨fun β => hq7 β true, flat_ints, rfl, hq6⟩, trivial⟩ (by simp [rdBlks]) (fun b hb => by
              simp only [rdBlks, List.mem_cons, List.not_mem_nil, or_false] at hb
              subst hb
              exact .inl ⟨xq, hq1, hq5, hqo⟩) (fun o ho => by
              obtain rfl := List.mem_singleton.1 ho
              exact ⟨by simp, _, rfl, hq4⟩)
          refine lk_call cxL1_ok (n := 200) hS hv repsA_lk (fun _ => repTk) hk ?_
          obtain ⟨q0, qr, hqc⟩ : ∃ q0 qr, D.qu (c, n) = q0 :: qr := by
                cases hqq : D.qu (c, n) with
                | nil => exact absurd hqq hq
                | cons a b => exact ⟨a, b, rfl⟩
          have hT := t_tkAHP t c n (FinK [5] D (takeD D t c n) [⟨[c, n], some (vI h), xh.born⟩] [⟨[c, n], some (.one (.ref 5)), xq.born⟩] [⟨[t], none, 0⟩] [⟨[t], none, 0⟩] rh' rq' x3 x4 (.tup [.one (.raw (.bool (takeB D t c n))), .one (.raw (.int .i64 (takeE D t c n)))])) rh' rq' x3 x4 c1 c2 c3 c4 0 0 xh.born xq.born h q0 qr
          rw [← hqc] at hT
          refine Eq.mpr hT ?_
          refine brd (fun h1 => ?_) (fun h1 => brd (fun h2 => ?_) (fun h2 => nde (nde ?_)))
          · exact tk_err (takeE_2 (.inl h1)) (by omega) (H1_some hho fun _ _ => rfl) (H2_row hq (rowS_ints rfl (.inr (by simp))) fun _ _ => rfl) (H3_none hw fun _ _ => rfl) (H4_none hs fun _ _ => rfl) (by decide)
          · exact tk_err (takeE_2 (.inr h2)) (by omega) (H1_some hho fun _ _ => rfl) (H2_row hq (rowS_ints rfl (.inr (by simp))) fun _ _ => rfl) (H3_none hw fun _ _ => rfl) (H4_none hs fun _ _ => rfl) (by decide)
          refine nde ?_
          have hql : (D.qu (c, n)).length ≤ 1000000 := hlq
          repeat (first | refine nde ?_ | refine ndk ?_ | refine ndd (by omega) ?_)
          exact tk_wait (takeE_0 h1 h2 hw (hin hs) (hge hs)) hho rfl rfl (H1_some hho fun _ _ => rfl) (H2_row (o := 6) (by rw [upd_same]; simp) (by rw [upd_same]; exact rowS_ints (xs := D.qu (c, n) ++ [t]) rfl (.inl (by simp))) fun _ h => upd_other h) (H3_some upd_same fun _ h => upd_other h) (H4_none hs fun _ _ => rfl) (by decide)
      · have m1 := (MvOk.start (α := lkAl b0 b1 b2 b3 b4 []) hl.m1).tellN (k := [c, n]) rfl (by simp) hhn
        have m2 := MvOk.start (α := lkAl b0 b1 b2 b3 b4 []) hl.m2
        have m3 := (MvOk.start (α := lkAl b0 b1 b2 b3 b4 []) hl.m3).tellN (k := [t]) rfl (by simp) hwn
        have m4 := (MvOk.start (α := lkAl b0 b1 b2 b3 b4 []) hl.m4).tellN (k := [t]) rfl (by simp) hsn
        have hS : Split α x D w true true [⟨[c, n], none, 0⟩] [] [⟨[t], none, 0⟩] [⟨[t], none, 0⟩] [] [] (lkAl b0 b1 b2 b3 b4 []) x1 x2 x3 x4 c1 c2 c3 c4 := mkSplit hR hd hvd hl m1 m2 m3 m4 trivial (by simp [rdBlks]) (by simp [rdBlks]) (by simp)
        refine lk_call cxL1_ok (n := 200) hS hv repsA_lk (fun _ => repTk) hk ?_
        refine Eq.mpr (t_tkAN (bw := 0) (bs := 0) (bh := 0) (bq := 0) ..) ?_
        refine brd (fun h1 => ?_) (fun h1 => brd (fun h2 => ?_) (fun h2 => nde (nde ?_)))
        · exact tk_err (takeE_2 (.inl h1)) (by omega) (H1_none hho fun _ _ => rfl) H2_nil (H3_none hw fun _ _ => rfl) (H4_none hs fun _ _ => rfl) (by decide)
        · exact tk_err (takeE_2 (.inr h2)) (by omega) (H1_none hho fun _ _ => rfl) H2_nil (H3_none hw fun _ _ => rfl) (H4_none hs fun _ _ => rfl) (by decide)
        refine nde ?_
        repeat (first | refine nde ?_ | refine ndk ?_ | refine ndd (by omega) ?_)
        exact tk_got (takeE_0 h1 h2 hw (hin hs) (hge hs)) hho rfl rfl (H1_some upd_same fun _ h => upd_other h) H2_nil (H3_none hw fun _ _ => rfl) (H4_row (o := 5) (by rw [upd_same, hs]; exact rowS_tab (ls := [(c, n)]) rfl (.inl (by omega)) rfl rfl rfl) fun _ h => upd_other h) (by decide)
    · rcases hl.ho (c, n) with ⟨h, hho, xh, hh1, hh2, hh3⟩ | ⟨hho, hhn⟩
      · rcases quRow hl (c, n) with ⟨hq, hqn⟩ | ⟨xq, eq, hq, hq1, hq2, hq3, hq4, hq5, hq6, hq7⟩
        · obtain ⟨rh', m1, _, _⟩ := (MvOk.start (α := lkAl b0 b1 b2 b3 b4 [some es]) hl.m1).tellS (k := [c, n]) rfl (by simp) hh1 hh2 (v := vI h) (by rw [hh3]; rfl)
          have m2 := (MvOk.start (α := lkAl b0 b1 b2 b3 b4 [some es]) hl.m2).tellN (k := [c, n]) rfl (by simp) hqn
          have m3 := (MvOk.start (α := lkAl b0 b1 b2 b3 b4 [some es]) hl.m3).tellN (k := [t]) rfl (by simp) hwn
          obtain ⟨rs', m4, hso, _⟩ := (MvOk.start (α := lkAl b0 b1 b2 b3 b4 [some es]) hl.m4).tellS (k := [t]) rfl (by simp) hs1 hs2 (v := .one (.ref 5)) (by rw [← hs3]; rfl)
          have hS : Split α x D w true true [⟨[c, n], some (vI h), xh.born⟩] [⟨[c, n], none, 0⟩] [⟨[t], none, 0⟩] [⟨[t], some (.one (.ref 5)), xs.born⟩] [lrow true (D.hs t).length ((D.hs t).map (·.1)) ((D.hs t).map (·.2))] [5] (lkAl b0 b1 b2 b3 b4 [some es]) rh' x2 x3 rs' c1 c2 c3 c4 := mkSplit hR hd hvd hl m1 m2 m3 m4 ⟨⟨fun β => hs7 β true, flat_tab, rfl, hs6⟩, trivial⟩ (by simp [rdBlks]) (fun b hb => by
              simp only [rdBlks, List.mem_cons, List.not_mem_nil, or_false] at hb
              subst hb
              exact .inr ⟨xs, hs1, hs5, hso⟩) (fun o ho => by
              obtain rfl := List.mem_singleton.1 ho
              exact ⟨by simp, _, rfl, hs4⟩)
          refine lk_call cxL1_ok (n := 200) hS hv repsA_lk (fun _ => repTk) hk ?_
          refine Eq.mpr (t_tkPHA (bw := 0) (bs := xs.born) (bh := xh.born) (bq := 0) ..) ?_
          refine brd (fun h1 => ?_) (fun h1 => brd (fun h2 => ?_) (fun h2 => nde (nde ?_)))
          · exact tk_err (takeE_2 (.inl h1)) (by omega) (H1_some hho fun _ _ => rfl) (H2_none hq fun _ _ => rfl) (H3_none hw fun _ _ => rfl) (H4_row (rowS_tab rfl (.inr (by simp)) rfl rfl rfl) fun _ _ => rfl) (by decide)
          · exact tk_err (takeE_2 (.inr h2)) (by omega) (H1_some hho fun _ _ => rfl) (H2_none hq fun _ _ => rfl) (H3_none hw fun _ _ => rfl) (H4_row (rowS_tab rfl (.inr (by simp)) rfl rfl rfl) fun _ _ => rfl) (by decide)
          refine ndd (few_hs hl3) (br (fun h3 => ?_) (fun h3 => nde (ndd (few_hs hl3) (br (fun h4 => ?_) (fun h4 => ?_)))))
          · exact tk_err (takeE_6 h1 h2 (.inr h3)) (by omega) (H1_some hho fun _ _ => rfl) (H2_none hq fun _ _ => rfl) (H3_none hw fun _ _ => rfl) (H4_row (rowS_tab rfl (.inr (by simp)) rfl rfl rfl) fun _ _ => rfl) (by decide)
          · exact tk_err (takeE_g h1 h2 hw h3 h4) (by omega) (H1_some hho fun _ _ => rfl) (H2_none hq fun _ _ => rfl) (H3_none hw fun _ _ => rfl) (H4_row (rowS_tab rfl (.inr (by simp)) rfl rfl rfl) fun _ _ => rfl) (by decide)
          repeat (first | refine nde ?_ | refine ndk ?_ | refine ndd (by omega) ?_)
          exact tk_wait (takeE_0 h1 h2 hw h3 h4) hho rfl rfl (H1_some hho fun _ _ => rfl) (H2_row (o := 6) (by rw [upd_same]; simp) (by rw [upd_same, hq]; exact rowS_ints (xs := [t]) rfl (.inl (by simp))) fun _ h => upd_other h) (H3_some upd_same fun _ h => upd_other h) (H4_row (rowS_tab rfl (.inr (by simp)) rfl rfl rfl) fun _ _ => rfl) (by decide)
        · obtain ⟨rh', m1, _, _⟩ := (MvOk.start (α := lkAl b0 b1 b2 b3 b4 [some es, some eq]) hl.m1).tellS (k := [c, n]) rfl (by simp) hh1 hh2 (v := vI h) (by rw [hh3]; rfl)
          obtain ⟨rq', m2, hqo, _⟩ := (MvOk.start (α := lkAl b0 b1 b2 b3 b4 [some es, some eq]) hl.m2).tellS (k := [c, n]) rfl (by simp) hq1 hq2 (v := .one (.ref 6)) (by rw [← hq3]; rfl)
          have m3 := (MvOk.start (α := lkAl b0 b1 b2 b3 b4 [some es, some eq]) hl.m3).tellN (k := [t]) rfl (by simp) hwn
          obtain ⟨rs', m4, hso, _⟩ := (MvOk.start (α := lkAl b0 b1 b2 b3 b4 [some es, some eq]) hl.m4).tellS (k := [t]) rfl (by simp) hs1 hs2 (v := .one (.ref 5)) (by rw [← hs3]; rfl)
          have hne : es.blk ≠ eq.blk := fun e => (List.nodup_append.1 (List.nodup_cons.1 (List.nodup_cons.1 (List.nodup_cons.1 (List.nodup_cons.1 (List.nodup_cons.1 hl.dist).2).2).2).2).2).2.2 _ (List.mem_filterMap.2 ⟨xq, hq1, hq5⟩) _ (List.mem_filterMap.2 ⟨xs, hs1, hs5⟩) e.symm
          have hS : Split α x D w true true [⟨[c, n], some (vI h), xh.born⟩] [⟨[c, n], some (.one (.ref 6)), xq.born⟩] [⟨[t], none, 0⟩] [⟨[t], some (.one (.ref 5)), xs.born⟩] [lrow true (D.hs t).length ((D.hs t).map (·.1)) ((D.hs t).map (·.2)), irow true (D.qu (c, n))] [5, 6] (lkAl b0 b1 b2 b3 b4 [some es, some eq]) rh' rq' x3 rs' c1 c2 c3 c4 := mkSplit hR hd hvd hl m1 m2 m3 m4 ⟨⟨fun β => hs7 β true, flat_tab, rfl, hs6⟩, ⟨⟨fun β => hq7 β true, flat_ints, rfl, hq6⟩, trivial⟩⟩ (rds2 hne) (fun b hb => by
              simp only [rdBlks, List.mem_cons, List.not_mem_nil, or_false] at hb
              rcases hb with rfl | rfl
              · exact .inr ⟨xs, hs1, hs5, hso⟩
              · exact .inl ⟨xq, hq1, hq5, hqo⟩) (fun o ho => by
              simp only [List.mem_cons, List.not_mem_nil, or_false] at ho
              rcases ho with rfl | rfl
              · exact ⟨by simp, _, rfl, hs4⟩
              · exact ⟨by simp, _, rfl, hq4⟩)
          refine lk_call cxL1_ok (n := 200) hS hv repsA_lk (fun _ => repTk) hk ?_
          obtain ⟨q0, qr, hqc⟩ : ∃ q0 qr, D.qu (c, n) = q0 :: qr := by
                cases hqq : D.qu (c, n) with
                | nil => exact absurd hqq hq
                | cons a b => exact ⟨a, b, rfl⟩
          have hT := t_tkPHP t c n (FinK [5, 6] D (takeD D t c n) [⟨[c, n], some (vI h), xh.born⟩] [⟨[c, n], some (.one (.ref 6)), xq.born⟩] [⟨[t], none, 0⟩] [⟨[t], some (.one (.ref 5)), xs.born⟩] rh' rq' x3 rs' (.tup [.one (.raw (.bool (takeB D t c n))), .one (.raw (.int .i64 (takeE D t c n)))])) rh' rq' x3 rs' c1 c2 c3 c4 0 xs.born xh.born xq.born (D.hs t).length ((D.hs t).map (·.1)) ((D.hs t).map (·.2)) h q0 qr
          rw [← hqc] at hT
          refine Eq.mpr hT ?_
          refine brd (fun h1 => ?_) (fun h1 => brd (fun h2 => ?_) (fun h2 => nde (nde ?_)))
          · exact tk_err (takeE_2 (.inl h1)) (by omega) (H1_some hho fun _ _ => rfl) (H2_row hq (rowS_ints rfl (.inr (by simp))) fun _ _ => rfl) (H3_none hw fun _ _ => rfl) (H4_row (rowS_tab rfl (.inr (by simp)) rfl rfl rfl) fun _ _ => rfl) (by decide)
          · exact tk_err (takeE_2 (.inr h2)) (by omega) (H1_some hho fun _ _ => rfl) (H2_row hq (rowS_ints rfl (.inr (by simp))) fun _ _ => rfl) (H3_none hw fun _ _ => rfl) (H4_row (rowS_tab rfl (.inr (by simp)) rfl rfl rfl) fun _ _ => rfl) (by decide)
          refine ndd (few_hs hl3) (br (fun h3 => ?_) (fun h3 => nde (ndd (few_hs hl3) (br (fun h4 => ?_) (fun h4 => ?_)))))
          · exact tk_err (takeE_6 h1 h2 (.inr h3)) (by omega) (H1_some hho fun _ _ => rfl) (H2_row hq (rowS_ints rfl (.inr (by simp))) fun _ _ => rfl) (H3_none hw fun _ _ => rfl) (H4_row (rowS_tab rfl (.inr (by simp)) rfl rfl rfl) fun _ _ => rfl) (by decide)
          · exact tk_err (takeE_g h1 h2 hw h3 h4) (by omega) (H1_some hho fun _ _ => rfl) (H2_row hq (rowS_ints rfl (.inr (by simp))) fun _ _ => rfl) (H3_none hw fun _ _ => rfl) (H4_row (rowS_tab rfl (.inr (by simp)) rfl rfl rfl) fun _ _ => rfl) (by decide)
          have hql : (D.qu (c, n)).length ≤ 1000000 := hlq
          repeat (first | refine nde ?_ | refine ndk ?_ | refine ndd (by omega) ?_)
          exact tk_wait (takeE_0 h1 h2 hw h3 h4) hho rfl rfl (H1_some hho fun _ _ => rfl) (H2_row (o := 7) (by rw [upd_same]; simp) (by rw [upd_same]; exact rowS_ints (xs := D.qu (c, n) ++ [t]) rfl (.inl (by simp))) fun _ h => upd_other h) (H3_some upd_same fun _ h => upd_other h) (H4_row (rowS_tab rfl (.inr (by simp)) rfl rfl rfl) fun _ _ => rfl) (by decide)
      · have m1 := (MvOk.start (α := lkAl b0 b1 b2 b3 b4 [some es]) hl.m1).tellN (k := [c, n]) rfl (by simp) hhn
        have m2 := MvOk.start (α := lkAl b0 b1 b2 b3 b4 [some es]) hl.m2
        have m3 := (MvOk.start (α := lkAl b0 b1 b2 b3 b4 [some es]) hl.m3).tellN (k := [t]) rfl (by simp) hwn
        obtain ⟨rs', m4, hso, _⟩ := (MvOk.start (α := lkAl b0 b1 b2 b3 b4 [some es]) hl.m4).tellS (k := [t]) rfl (by simp) hs1 hs2 (v := .one (.ref 5)) (by rw [← hs3]; rfl)
        have hS : Split α x D w true true [⟨[c, n], none, 0⟩] [] [⟨[t], none, 0⟩] [⟨[t], some (.one (.ref 5)), xs.born⟩] [lrow true (D.hs t).length ((D.hs t).map (·.1)) ((D.hs t).map (·.2))] [5] (lkAl b0 b1 b2 b3 b4 [some es]) x1 x2 x3 rs' c1 c2 c3 c4 := mkSplit hR hd hvd hl m1 m2 m3 m4 ⟨⟨fun β => hs7 β true, flat_tab, rfl, hs6⟩, trivial⟩ (by simp [rdBlks]) (fun b hb => by
            simp only [rdBlks, List.mem_cons, List.not_mem_nil, or_false] at hb
            subst hb
            exact .inr ⟨xs, hs1, hs5, hso⟩) (fun o ho => by
            obtain rfl := List.mem_singleton.1 ho
            exact ⟨by simp, _, rfl, hs4⟩)
        refine lk_call cxL1_ok (n := 200) hS hv repsA_lk (fun _ => repTk) hk ?_
        refine Eq.mpr (t_tkPN (bw := 0) (bs := xs.born) (bh := 0) (bq := 0) ..) ?_
        refine brd (fun h1 => ?_) (fun h1 => brd (fun h2 => ?_) (fun h2 => nde (nde ?_)))
        · exact tk_err (takeE_2 (.inl h1)) (by omega) (H1_none hho fun _ _ => rfl) H2_nil (H3_none hw fun _ _ => rfl) (H4_row (rowS_tab rfl (.inr (by simp)) rfl rfl rfl) fun _ _ => rfl) (by decide)
        · exact tk_err (takeE_2 (.inr h2)) (by omega) (H1_none hho fun _ _ => rfl) H2_nil (H3_none hw fun _ _ => rfl) (H4_row (rowS_tab rfl (.inr (by simp)) rfl rfl rfl) fun _ _ => rfl) (by decide)
        refine ndd (few_hs hl3) (br (fun h3 => ?_) (fun h3 => nde (ndd (few_hs hl3) (br (fun h4 => ?_) (fun h4 => ?_)))))
        · exact tk_err (takeE_6 h1 h2 (.inr h3)) (by omega) (H1_none hho fun _ _ => rfl) H2_nil (H3_none hw fun _ _ => rfl) (H4_row (rowS_tab rfl (.inr (by simp)) rfl rfl rfl) fun _ _ => rfl) (by decide)
        · exact tk_err (takeE_g h1 h2 hw h3 h4) (by omega) (H1_none hho fun _ _ => rfl) H2_nil (H3_none hw fun _ _ => rfl) (H4_row (rowS_tab rfl (.inr (by simp)) rfl rfl rfl) fun _ _ => rfl) (by decide)
        repeat (first | refine nde ?_ | refine ndk ?_ | refine ndd (by omega) ?_)
        rw [fitL_same 0 _ ((D.hs t).map (·.1)) (by simp), fitL_same 0 _ ((D.hs t).map (·.2)) (by simp)]
        exact tk_got (takeE_0 h1 h2 hw h3 h4) hho rfl rfl (H1_some upd_same fun _ h => upd_other h) H2_nil (H3_none hw fun _ _ => rfl) (H4_row (o := 6) (by rw [upd_same]; exact rowS_tab (ls := D.hs t ++ [(c, n)]) rfl (.inl (by omega)) (by simp) (by simp) (by simp)) fun _ h => upd_other h) (by decide)
theorem take_sum : SumOk Try.prog 9 sTake := by
  refine fun args st => ⟨fun k h => ?_, fun k h α w vals hR hv => ?_⟩
  · unfold sTake at h ⊢
    split at h
    · split at h
      · exact lin_need k h
      · exact h.elim
    · exact h.elim
  · unfold sTake at h
    split at h
    · split at h
      · obtain ⟨h1, h⟩ := need_iff.1 h
        exact take_call hR hv h1 h
      · exact h.elim
    · exact h.elim
end Go.Ev
