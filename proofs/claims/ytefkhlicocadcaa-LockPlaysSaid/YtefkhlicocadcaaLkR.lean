/- Holder, Waits, Queue, Holds, New, told by one word; with no locks. No conditions. -/
import Derived.Test.YtefkhlicocadcaaLkT4
import Derived.Test.YtefkhlicocadcaaLkGv
import Derived.Test.YtefkhlicocadcaaLkE
set_option linter.unusedVariables false
set_option linter.unusedSimpArgs false
namespace Go.Ev
open Go Go.Proofs Go.Spec
attribute [local irreducible] ev evCall branch need again
/-- A call of no locks. -/
theorem nil_call {g : FuncId} {n : Nat} {args : List SA} {k : SV → St → Prop} {α : Al} {w : World} {vals : List Value} (hR : R α [] w) (hv : RepsA α args vals) (h : evCall cxL0 (ev cxL0 n) g args [] k) (hb : g < big := by decide) :
    CallsIn Fence.wide 0 Try.prog g vals.toArray w (CallPost α [] w k) := by
  have hC : CallOk Try.prog (evCall cxL0 (ev cxL0 n)) := evCall_ok (run := ev cxL0 n) cxL0_ok (ev_sound cxL0_ok n).1
  exact (hC.1 g _ _ _ hb h).2 α w vals hR hv
/-- A call that only looks. -/
theorem see_call {n : Nat} {g : FuncId} {α α0 : Al} {t : Nat} {D : AD} {w : World} {wb : Bool} {eh eq ew es : List VE} {r : St} {L : List Nat} {rh rq rw rs : List MapEntry} {c1 c2 c3 c4 : Nat}
    (hS : Split α t D w wb false eh eq ew es r L α0 rh rq rw rs c1 c2 c3 c4) {a : List SA} {vals : List Value} (hv : RepsA α (.one (.ref 0) :: a) vals) (ha : ∀ vs, RepsA α a vs → RepsA α0 a vs) {V : SV} (hV : ∀ β val, SV.rep β V val → SV.rep α V val)
    {k : SV → St → Prop} (hk : k V [some (.abs wb t D)])
    (hT : evCall cxL0 (ev cxL0 n) g (.one (.ptr 0 0 0) :: a) (lkSt false eh rh c1 eq rq c2 ew rw c3 es rs c4 r) (fun v _ => v = V)) (hb : g < big := by decide) :
    CallsIn Fence.wide 0 Try.prog g vals.toArray w (CallPost α [some (.abs wb t D)] w k) := by
  have hC : CallOk Try.prog (evCall cxL0 (ev cxL0 n)) := evCall_ok (run := ev cxL0 n) cxL0_ok (ev_sound cxL0_ok n).1
  match vals, hv with
  | v0 :: vs, ⟨h0, h1⟩ =>
    refine ((hC.1 g _ _ _ hb hT).2 α0 w (v0 :: vs) hS.R ⟨hS.arg h0, ha vs h1⟩).mono fun e w' ⟨v, st', α', val, he, hv, hvV, hto⟩ => ?_
    subst hvV
    exact ⟨v, _, α, val, he, hV _ _ hv, hk, hS.same hto⟩
/-- A call that makes a list. -/
theorem list_call {n : Nat} {g : FuncId} {α α0 : Al} {t T m : Nat} {D : AD} {w : World} {wb : Bool} {eh eq ew es : List VE} {r : St} {L : List Nat} {rh rq rw rs : List MapEntry} {c1 c2 c3 c4 : Nat} {ct : Ct} (hm : 0 < m) (hfl : FlatO (.own true .row T m ct)) (href : (SO.own true .row T m ct).refs = [])
    (hS : Split α t D w wb false eh eq ew es r L α0 rh rq rw rs c1 c2 c3 c4) {a : List SA} {vals : List Value} (hv : RepsA α (.one (.ref 0) :: a) vals) (ha : ∀ vs, RepsA α a vs → RepsA α0 a vs)
    {k : SV → St → Prop} (hk : k (.sa (.one (.ref 1))) [some (.abs wb t D), some (.own true .row T m ct)])
    (hT : evCall cxL0 (ev cxL0 n) g (.one (.ptr 0 0 0) :: a) (lkSt false eh rh c1 eq rq c2 ew rw c3 es rs c4 r) (fun v st' =>
      (v = .sa (.one (.raw (.slice none 0 0))) ∧ ct.len = 0) ∨ (∃ j, v = .sa (.one (.sl j 0 0 none)) ∧ ct.len = 0 ∧ st'.get j = some (.mem true .whole T m (.lst []))) ∨
      ∃ j, v = .sa (.one (.ref j)) ∧ 5 + r.length ≤ j ∧ st'.get j = some (.own true .row T m ct))) (hb : g < big := by decide) :
    CallsIn Fence.wide 0 Try.prog g vals.toArray w (CallPost α [some (.abs wb t D)] w k) := by
  have hC : CallOk Try.prog (evCall cxL0 (ev cxL0 n)) := evCall_ok (run := ev cxL0 n) cxL0_ok (ev_sound cxL0_ok n).1
  match vals, hv with
  | v0 :: vs, ⟨h0, h1⟩ =>
    refine ((hC.1 g _ _ _ hb hT).2 α0 w (v0 :: vs) hS.R ⟨hS.arg h0, ha vs h1⟩).mono fun e w' ⟨v, st', α', val, he, hv, hc, hto⟩ => ?_
    have fin : ∀ (e1 : Den), e1.val = val → (∀ β, Good β w' e1 (.own true .row T m ct)) → (∀ b, (SO.own true .row T m ct).lies w' e1 b → w.heap.size ≤ b) → isCell e1.val = true → CallPost α [some (.abs wb t D)] w k e w' := fun e1 g1 g2 g3 g4 =>
      ⟨.sa (.one (.ref 1)), _, α.add 1 e1, val, he, by simp [SV.rep, SA.rep, SC.val?, Al.add_same, g1], hk, hS.list hto g2 hfl g3 g4⟩
    have dead : ∀ a : Option Addr, val = .slice a 0 0 → ct.len = 0 → CallPost α [some (.abs wb t D)] w k e w' := fun a g1 g2 =>
      fin ⟨0, 0, m, 0, val, false⟩ rfl (fun β => ⟨rfl, hm, .inl ⟨rfl, g2, a, 0, g1, fun _ => rfl⟩⟩) (fun b h => by cases h.1) (by rw [g1]; rfl)
    rcases hc with ⟨rfl, h0⟩ | ⟨j, rfl, h0, hj⟩ | ⟨j, rfl, hlt, hj⟩
    · simp only [SV.rep, SA.rep, SC.val?, Option.some.injEq] at hv
      exact dead none hv.symm h0
    · obtain ⟨d, hd, hg⟩ := hto.rep.good j _ hj
      obtain ⟨_, _, cs, fz, _, _, _, _, hw, _⟩ := hg
      have hw : 0 = d.cap := hw rfl
      simp only [SV.rep, SA.rep, SC.val?, hd, Option.some.injEq, Option.getD_none] at hv
      exact dead _ (by rw [← hv, ← hw]) h0
    · obtain ⟨d, hd, hg⟩ := hto.rep.good j _ hj
      simp only [SV.rep, SA.rep, SC.val?, hd, Option.some.injEq] at hv
      refine fin d hv (fun β => hg.at (by rw [href]; intro o ho; cases ho)) (fun b hl => ?_) (hto.rep.cell j d hd)
      by_cases hb : b < w.heap.size
      · exfalso
        rcases hto.lies j _ d b hj hd hb hl with hw | ⟨hlt', _⟩
        · exact hS.nowr b hw
        · simp only [lkSt, List.length_cons] at hlt'; omega
      · omega
theorem repsA_l {α β : Al} {c n : Int} : ∀ vs, RepsA α [lkA c n] vs → RepsA β [lkA c n] vs
  | [b], ⟨⟨us, h2, h3⟩, _⟩ => by
    match us, h2 with
    | [u, v], ⟨g1, g2, _⟩ => exact ⟨⟨[u, v], ⟨g1, g2, trivial⟩, h3⟩, trivial⟩
  | [], h => h.elim
  | _ :: _ :: _, h => h.2.elim
theorem repsA_t {α β : Al} {t : Int} : ∀ vs, RepsA α [vI t] vs → RepsA β [vI t] vs
  | [a], ⟨h1, _⟩ => ⟨h1, trivial⟩
  | [], h => h.elim
  | _ :: _ :: _, h => h.2.elim
theorem repHo {α β : Al} {b : Bool} {e : Int} : ∀ val, SV.rep β (.tup [.one (.raw (.int .i64 e)), .one (.raw (.bool b))]) val → SV.rep α (.tup [.one (.raw (.int .i64 e)), .one (.raw (.bool b))]) val := by
  rintro val ⟨vs, h, rfl⟩
  match vs, h with
  | [u, v], ⟨h1, h2, _⟩ => exact ⟨[u, v], ⟨h1, h2, trivial⟩, rfl⟩
theorem repWa {α β : Al} {b : Bool} {c n : Int} : ∀ val, SV.rep β (.tup [.agg [.raw (.int .u8 c), .raw (.int .i64 n)], .one (.raw (.bool b))]) val → SV.rep α (.tup [.agg [.raw (.int .u8 c), .raw (.int .i64 n)], .one (.raw (.bool b))]) val := by
  rintro val ⟨vs, h, rfl⟩
  match vs, h with
  | [u, v], ⟨⟨us, g1, g2⟩, h2, _⟩ =>
    match us, g1 with
    | [x, y], ⟨r1, r2, _⟩ => exact ⟨[u, v], ⟨⟨[x, y], ⟨r1, r2, trivial⟩, g2⟩, h2, trivial⟩, rfl⟩

section
variable {α : Al} {w : World} {vals : List Value} {t c n : Int} {x : Nat} {wb : Bool} {D : AD} {k : SV → St → Prop}
theorem ho_call (hR : R α [some (.abs wb x D)] w) (hv : RepsA α [.one (.ref 0), lkA c n] vals) (hk : k (.tup [.one (.raw (.int .i64 (hoV D c n))), .one (.raw (.bool (hoB D c n)))]) [some (.abs wb x D)]) :
    CallsIn Fence.wide 0 Try.prog 14 vals.toArray w (CallPost α [some (.abs wb x D)] w k) := by
  obtain ⟨d, hd, b0, b1, b2, b3, b4, x1, x2, x3, x4, c1, c2, c3, c4, hvd, hl⟩ := hR.good 0 _ rfl
  rcases hl.ho (c, n) with ⟨h, hho, xh, hh1, hh2, hh3⟩ | ⟨hho, hhn⟩
  · obtain ⟨rh', m1, _, _⟩ := (MvOk.start (α := lkAl b0 b1 b2 b3 b4 []) hl.m1).tellS (k := [c, n]) rfl (by simp) hh1 hh2 (v := vI h) (by rw [hh3]; rfl)
    have hS : Split α x D w wb false [⟨[c, n], some (vI h), xh.born⟩] [] [] [] [] [] (lkAl b0 b1 b2 b3 b4 []) rh' x2 x3 x4 c1 c2 c3 c4 := mkSplit hR hd hvd hl m1 (MvOk.start hl.m2) (MvOk.start hl.m3) (MvOk.start hl.m4) trivial (by simp [rdBlks]) (by simp [rdBlks]) (by simp)
    refine see_call (n := 100) hS hv repsA_l (fun _ => repHo) hk ?_
    refine Eq.mpr (t_hoS (h := h) (b := xh.born) ..) (ndk ?_)
    show _ = _
    rw [hoV, hoB, hho]; rfl
  · have m1 := (MvOk.start (α := lkAl b0 b1 b2 b3 b4 []) hl.m1).tellN (k := [c, n]) rfl (by simp) hhn
    have hS : Split α x D w wb false [⟨[c, n], none, 0⟩] [] [] [] [] [] (lkAl b0 b1 b2 b3 b4 []) x1 x2 x3 x4 c1 c2 c3 c4 := mkSplit hR hd hvd hl m1 (MvOk.start hl.m2) (MvOk.start hl.m3) (MvOk.start hl.m4) trivial (by simp [rdBlks]) (by simp [rdBlks]) (by simp)
    refine see_call (n := 100) hS hv repsA_l (fun _ => repHo) hk ?_
    refine Eq.mpr (t_hoN (b := 0) ..) (ndk ?_)
    show _ = _
    rw [hoV, hoB, hho]; rfl
theorem wa_call (hR : R α [some (.abs wb x D)] w) (hv : RepsA α [.one (.ref 0), vI t] vals) (hk : k (.tup [.agg [.raw (.int .u8 (waC D t)), .raw (.int .i64 (waN D t))], .one (.raw (.bool (waB D t)))]) [some (.abs wb x D)]) :
    CallsIn Fence.wide 0 Try.prog 16 vals.toArray w (CallPost α [some (.abs wb x D)] w k) := by
  obtain ⟨d, hd, b0, b1, b2, b3, b4, x1, x2, x3, x4, c1, c2, c3, c4, hvd, hl⟩ := hR.good 0 _ rfl
  rcases hl.wa t with ⟨⟨c0, n0⟩, hw, xw, hw1, hw2, hw3⟩ | ⟨hw, hwn⟩
  · obtain ⟨rw', m3, _, _⟩ := (MvOk.start (α := lkAl b0 b1 b2 b3 b4 []) hl.m3).tellS (k := [t]) rfl (by simp) hw1 hw2 (v := lkA c0 n0) (by rw [hw3]; exact rep_lkA)
    have hS : Split α x D w wb false [] [] [⟨[t], some (lkA c0 n0), xw.born⟩] [] [] [] (lkAl b0 b1 b2 b3 b4 []) x1 x2 rw' x4 c1 c2 c3 c4 := mkSplit hR hd hvd hl (MvOk.start hl.m1) (MvOk.start hl.m2) m3 (MvOk.start hl.m4) trivial (by simp [rdBlks]) (by simp [rdBlks]) (by simp)
    refine see_call (n := 100) hS hv repsA_t (fun _ => repWa) hk ?_
    refine Eq.mpr (t_waS (b := xw.born) ..) (nde ?_)
    show _ = _
    rw [waC, waN, waB, hw]; rfl
  · have m3 := (MvOk.start (α := lkAl b0 b1 b2 b3 b4 []) hl.m3).tellN (k := [t]) rfl (by simp) hwn
    have hS : Split α x D w wb false [] [] [⟨[t], none, 0⟩] [] [] [] (lkAl b0 b1 b2 b3 b4 []) x1 x2 x3 x4 c1 c2 c3 c4 := mkSplit hR hd hvd hl (MvOk.start hl.m1) (MvOk.start hl.m2) m3 (MvOk.start hl.m4) trivial (by simp [rdBlks]) (by simp [rdBlks]) (by simp)
    refine see_call (n := 100) hS hv repsA_t (fun _ => repWa) hk ?_
    refine Eq.mpr (t_waN (b := 0) ..) (nde ?_)
    show _ = _
    rw [waC, waN, waB, hw]; rfl
theorem qu_call (hR : R α [some (.abs wb x D)] w) (hv : RepsA α [.one (.ref 0), lkA c n] vals) (hsh : shortQ D c n = true) (hk : k (.sa (.one (.ref 1))) [some (.abs wb x D), irow true (quL D c n)]) :
    CallsIn Fence.wide 0 Try.prog 19 vals.toArray w (CallPost α [some (.abs wb x D)] w k) := by
  obtain ⟨d, hd, b0, b1, b2, b3, b4, x1, x2, x3, x4, c1, c2, c3, c4, hvd, hl⟩ := hR.good 0 _ rfl
  have hlen := of_decide_eq_true hsh
  rcases quRow hl (c, n) with ⟨hq, hqn⟩ | ⟨xq, eq, hq, hq1, hq2, hq3, hq4, hq5, hq6, hq7⟩
  · have m2 := (MvOk.start (α := lkAl b0 b1 b2 b3 b4 []) hl.m2).tellN (k := [c, n]) rfl (by simp) hqn
    have hS : Split α x D w wb false [] [⟨[c, n], none, 0⟩] [] [] [] [] (lkAl b0 b1 b2 b3 b4 []) x1 x2 x3 x4 c1 c2 c3 c4 := mkSplit hR hd hvd hl (MvOk.start hl.m1) m2 (MvOk.start hl.m3) (MvOk.start hl.m4) trivial (by simp [rdBlks]) (by simp [rdBlks]) (by simp)
    refine list_call (n := 100) (by omega) flat_ints rfl hS hv repsA_l hk ?_
    refine Eq.mpr (t_quN (b := 0) ..) (ndk (.inl ⟨rfl, ?_⟩))
    simp [Ct.len, quL, hq]
  · obtain ⟨rq', m2, hqo, _⟩ := (MvOk.start (α := lkAl b0 b1 b2 b3 b4 [some eq]) hl.m2).tellS (k := [c, n]) rfl (by simp) hq1 hq2 (v := .one (.ref 5)) (by rw [← hq3]; rfl)
    have hS : Split α x D w wb false [] [⟨[c, n], some (.one (.ref 5)), xq.born⟩] [] [] [irow false (D.qu (c, n))] [] (lkAl b0 b1 b2 b3 b4 [some eq]) x1 rq' x3 x4 c1 c2 c3 c4 :=
      mkSplit hR hd hvd hl (MvOk.start hl.m1) m2 (MvOk.start hl.m3) (MvOk.start hl.m4) ⟨⟨fun β => hq7 β false, flat_ints, rfl, hq6⟩, trivial⟩ (by simp [rdBlks]) (fun b hb => by
        simp only [rdBlks, List.mem_cons, List.not_mem_nil, or_false] at hb
        subst hb
        exact .inl ⟨xq, hq1, hq5, hqo⟩) (by simp)
    refine list_call (n := 100) (by omega) flat_ints rfl hS hv repsA_l hk ?_
    rw [quL]
    cases hqq : D.qu (c, n) with
    | nil => exact absurd hqq hq
    | cons a b =>
      rw [hqq] at hlen
      refine Eq.mpr (t_quS (b := xq.born) ..) (ndk (ndd (by omega) (ndd ?_ (.inr (.inr ⟨6, rfl, by simp, ?_⟩)))))
      · rw [List.length_take]; simp only [List.length_cons] at hlen ⊢; omega
      · rw [List.take_length]; rfl
theorem hs_call (hR : R α [some (.abs wb x D)] w) (hv : RepsA α [.one (.ref 0), vI t] vals) (hsh : shortH D t = true) (hk : k (.sa (.one (.ref 1))) [some (.abs wb x D), lrow true (D.hs t).length (hsC D t) (hsN D t)]) :
    CallsIn Fence.wide 0 Try.prog 22 vals.toArray w (CallPost α [some (.abs wb x D)] w k) := by
  obtain ⟨d, hd, b0, b1, b2, b3, b4, x1, x2, x3, x4, c1, c2, c3, c4, hvd, hl⟩ := hR.good 0 _ rfl
  have hlen := of_decide_eq_true hsh
  rcases hsRow hl t with ⟨hs, hsn⟩ | ⟨xs, es, hs1, hs2, hs3, hs4, hs5, hs6, hs7⟩
  · have m4 := (MvOk.start (α := lkAl b0 b1 b2 b3 b4 []) hl.m4).tellN (k := [t]) rfl (by simp) hsn
    have hS : Split α x D w wb false [] [] [] [⟨[t], none, 0⟩] [] [] (lkAl b0 b1 b2 b3 b4 []) x1 x2 x3 x4 c1 c2 c3 c4 := mkSplit hR hd hvd hl (MvOk.start hl.m1) (MvOk.start hl.m2) (MvOk.start hl.m3) m4 trivial (by simp [rdBlks]) (by simp [rdBlks]) (by simp)
    refine list_call (n := 100) (by omega) flat_tab rfl hS hv repsA_t hk ?_
    refine Eq.mpr (t_hsN (b := 0) ..) (nde (.inl ⟨rfl, ?_⟩))
    simp [Ct.len, hs]
  · by_cases h0 : 0 < (D.hs t).length
    · obtain ⟨rs', m4, hso, _⟩ := (MvOk.start (α := lkAl b0 b1 b2 b3 b4 [some es]) hl.m4).tellS (k := [t]) rfl (by simp) hs1 hs2 (v := .one (.ref 5)) (by rw [← hs3]; rfl)
      have hS : Split α x D w wb false [] [] [] [⟨[t], some (.one (.ref 5)), xs.born⟩] [lrow false (D.hs t).length ((D.hs t).map (·.1)) ((D.hs t).map (·.2))] [] (lkAl b0 b1 b2 b3 b4 [some es]) x1 x2 x3 rs' c1 c2 c3 c4 :=
        mkSplit hR hd hvd hl (MvOk.start hl.m1) (MvOk.start hl.m2) (MvOk.start hl.m3) m4 ⟨⟨fun β => hs7 β false, flat_tab, rfl, hs6⟩, trivial⟩ (by simp [rdBlks]) (fun b hb => by
          simp only [rdBlks, List.mem_cons, List.not_mem_nil, or_false] at hb
          subst hb
          exact .inr ⟨xs, hs1, hs5, hso⟩) (by simp)
      refine list_call (n := 100) (by omega) flat_tab rfl hS hv repsA_t hk ?_
      refine Eq.mpr (t_hsS (b := xs.born) ..) (nde (ndd h0 (ndd (by omega) (brf (by omega) (ndd (by omega) (.inr (.inr ⟨6, rfl, by simp, rfl⟩)))))))
    · have hz : D.hs t = [] := List.eq_nil_of_length_eq_zero (by omega)
      obtain ⟨a, q, hval⟩ : ∃ a q, xs.val = .slice (some a) 0 q := by
        rcases hl.hs t with ⟨y, y1, y2, b, o, q, cs, fz, hy, _⟩ | ⟨_, h⟩
        · obtain rfl := hl.m4.one hs1 y1 (hs2.trans y2.symm)
          rw [hz] at hy
          exact ⟨_, _, hy⟩
        · exact absurd hs2 (h xs hs1)
      obtain ⟨rs', m4, hso, _⟩ := (MvOk.start (α := lkAl b0 b1 b2 b3 b4 []) hl.m4).tellS (k := [t]) rfl (by simp) hs1 hs2 (v := .one (.raw (.slice (some a) 0 q))) (by rw [hval]; rfl)
      have hS : Split α x D w wb false [] [] [] [⟨[t], some (.one (.raw (.slice (some a) 0 q))), xs.born⟩] [] [] (lkAl b0 b1 b2 b3 b4 []) x1 x2 x3 rs' c1 c2 c3 c4 := mkSplit hR hd hvd hl (MvOk.start hl.m1) (MvOk.start hl.m2) (MvOk.start hl.m3) m4 trivial (by simp [rdBlks]) (by simp [rdBlks]) (by simp)
      refine list_call (n := 100) (by omega) flat_tab rfl hS hv repsA_t hk ?_
      refine Eq.mpr (t_hsE (b := xs.born) ..) (nde (.inr (.inl ⟨5, rfl, ?_, rfl⟩)))
      simp [Ct.len, hz]
end

theorem lin_false {F : (SV → St → Prop) → Prop} (h : ∀ k, ¬ F k) : Lin F := fun k hk => (h k hk).elim
theorem tk_sum : SumOk Try.prog 9 sTk := by
  refine fun args st => ⟨fun k h => ?_, fun k h α w vals hR hv => ?_⟩
  · unfold sTk at h ⊢
    split at h
    · split at h
      · exact lin_ret k h
      · exact h.elim
    · exact (take_sum _ _).1 k h
  · unfold sTk at h
    split at h
    · split at h
      · exact nil_call (n := 100) hR hv (Eq.mpr (t_tkNil ..) h)
      · exact h.elim
    · exact (take_sum _ _).2 k h α w vals hR hv
theorem gv_sum : SumOk Try.prog 12 sGv := by
  refine fun args st => ⟨fun k h => ?_, fun k h α w vals hR hv => ?_⟩
  · unfold sGv at h ⊢
    split at h
    · split at h
      · exact lin_ret k h
      · exact h.elim
    · exact (give_sum _ _).1 k h
  · unfold sGv at h
    split at h
    · split at h
      · exact nil_call (n := 100) hR hv (Eq.mpr (t_gvNil ..) h)
      · exact h.elim
    · exact (give_sum _ _).2 k h α w vals hR hv
theorem ho_sum : SumOk Try.prog 14 sHo := by
  refine fun args st => ⟨fun k h => ?_, fun k h α w vals hR hv => ?_⟩
  · unfold sHo at h ⊢
    split at h
    · split at h
      · exact lin_ret k h
      · exact h.elim
    · split at h
      · exact lin_ret k h
      · exact h.elim
    · exact h.elim
  · unfold sHo at h
    split at h
    · split at h
      · exact nil_call (n := 100) hR hv (Eq.mpr (t_hoNil ..) h)
      · exact h.elim
    · split at h
      · exact ho_call hR hv h
      · exact h.elim
    · exact h.elim
theorem wa_sum : SumOk Try.prog 16 sWa := by
  refine fun args st => ⟨fun k h => ?_, fun k h α w vals hR hv => ?_⟩
  · unfold sWa at h ⊢
    split at h
    · split at h
      · exact lin_ret k h
      · exact h.elim
    · split at h
      · exact lin_ret k h
      · exact h.elim
    · exact h.elim
  · unfold sWa at h
    split at h
    · split at h
      · exact nil_call (n := 100) hR hv (Eq.mpr (t_waNil ..) h)
      · exact h.elim
    · split at h
      · exact wa_call hR hv h
      · exact h.elim
    · exact h.elim
theorem qu_sum : SumOk Try.prog 19 sQu := by
  refine fun args st => ⟨fun k h => ?_, fun k h α w vals hR hv => ?_⟩
  · unfold sQu at h ⊢
    split at h
    · split at h
      · exact lin_ret k h
      · exact h.elim
    · split at h
      · exact lin_need k h
      · exact h.elim
    · exact h.elim
  · unfold sQu at h
    split at h
    · split at h
      · exact nil_call (n := 100) hR hv (Eq.mpr (t_quNil ..) h)
      · exact h.elim
    · split at h
      · obtain ⟨h1, h⟩ := need_iff.1 h
        exact qu_call hR hv h1 h
      · exact h.elim
    · exact h.elim
theorem hs_sum : SumOk Try.prog 22 sHs := by
  refine fun args st => ⟨fun k h => ?_, fun k h α w vals hR hv => ?_⟩
  · unfold sHs at h ⊢
    split at h
    · split at h
      · exact lin_ret k h
      · exact h.elim
    · split at h
      · exact lin_need k h
      · exact h.elim
    · exact h.elim
  · unfold sHs at h
    split at h
    · split at h
      · exact nil_call (n := 100) hR hv (Eq.mpr (t_hsNil ..) h)
      · exact h.elim
    · split at h
      · obtain ⟨h1, h⟩ := need_iff.1 h
        exact hs_call hR hv h1 h
      · exact h.elim
    · exact h.elim
/-- New locks. -/
theorem new_sum : SumOk Try.prog 8 sNew := by
  refine fun args st => ⟨fun k h => ?_, fun k h α w vals hR hv => ?_⟩
  · unfold sNew at h ⊢
    split at h
    · exact lin_ret k h
    · exact h.elim
  · unfold sNew at h
    split at h
    · refine (nil_call (n := 100) (k := fun v st' => v = .sa (.one (.ptr 0 0 0)) ∧ st' = [lkO true, some (.mp true [] 0), some (.mp true [] 0), some (.mp true [] 0), some (.mp true [] 0)]) hR hv (Eq.mpr (t_new ..) ⟨rfl, rfl⟩)).mono ?_
      rintro e w' ⟨v, st', α', val, he, hvv, ⟨rfl, rfl⟩, hto⟩
      obtain ⟨d0, hd0, u0, _, cs, fz, u1, u2, u3, _, u7, u4⟩ := hto.rep.good 0 _ rfl
      have hone : 1 = d0.cap := u7 rfl
      obtain ⟨_, u5⟩ := u4 0 (by simp [Ct.len])
      have hm : ∀ i, (hi : i < 4) → ∃ d, α' (i + 1) = some d ∧ d.val = .map (some d.blk) ∧ w'.heap[d.blk]? = some (.map #[] 0) := fun i hi => by
        have hg : St.get [lkO true, some (.mp true [] 0), some (.mp true [] 0), some (.mp true [] 0), some (.mp true [] 0)] (i + 1) = some (.mp true [] 0) := by
          match i, hi with
          | 0, _ => rfl
          | 1, _ => rfl
          | 2, _ => rfl
          | 3, _ => rfl
        obtain ⟨d, hd, h1, xs, h2, h3⟩ := hto.rep.good (i + 1) _ hg
        cases xs with
        | nil => exact ⟨d, hd, h1, by simpa using h2⟩
        | cons _ _ => exact h3.elim
      obtain ⟨d1, e1, v1, k1⟩ := hm 0 (by omega)
      obtain ⟨d2, e2, v2, k2⟩ := hm 1 (by omega)
      obtain ⟨d3, e3, v3, k3⟩ := hm 2 (by omega)
      obtain ⟨d4, e4, v4, k4⟩ := hm 3 (by omega)
      have hbl := hto.rep.blks (os := [0, 1, 2, 3, 4]) (by decide) (by
        intro o ho
        simp only [List.mem_cons, List.not_mem_nil, or_false] at ho
        rcases ho with rfl | rfl | rfl | rfl | rfl
        · exact ⟨_, d0, rfl, rfl, hd0, rfl⟩
        · exact ⟨_, d1, rfl, rfl, e1, rfl⟩
        · exact ⟨_, d2, rfl, rfl, e2, rfl⟩
        · exact ⟨_, d3, rfl, rfl, e3, rfl⟩
        · exact ⟨_, d4, rfl, rfl, e4, rfl⟩)
      have hbl2 : [d0.blk, d1.blk, d2.blk, d3.blk, d4.blk].Nodup := by simpa [blkAt, hd0, e1, e2, e3, e4] using hbl
      have hfz : fz = (0, 0) := by
        rcases u2.2 with h | ⟨h, _⟩
        · exact h
        · cases h
      rw [hfz] at u1
      have hmk : ∀ {kk : List IntKind}, MOk kk [] 0 := ⟨fun x h => (by cases h), List.Pairwise.nil, List.nodup_nil, fun x h => (by cases h)⟩
      have cell : ∀ j d, (hj : j < 4) → α' (j + 1) = some d → d.val = .map (some d.blk) → cs[d0.off + j]? = some (.map (some d.blk)) := fun j d hj hd hv => by
        obtain ⟨v, v1, v2, _⟩ := u5 j (.ref (j + 1)) (by
          match j, hj with
          | 0, _ => rfl
          | 1, _ => rfl
          | 2, _ => rfl
          | 3, _ => rfl)
        simp only [CellOk, SC.val?, hd, Option.some.injEq] at v1
        rw [← v1, hv] at v2
        simpa using v2
      have hgood : LkOk newD w' (d0.blk, d0.off) d1.blk d2.blk d3.blk d4.blk [] [] [] [] 0 0 0 0 :=
        ⟨⟨⟨cs, u1, by rw [← hone] at u3; simp only [Nat.one_mul] at u3; exact u3.symm, u2.1, cell 0 d1 (by omega) e1 v1, cell 1 d2 (by omega) e2 v2, cell 2 d3 (by omega) e3 v3, cell 3 d4 (by omega) e4 v4⟩, k1, k2, k3, k4⟩, hmk, hmk, hmk, hmk,
          fun l => .inr ⟨rfl, fun x h => by cases h⟩, fun l => .inr ⟨rfl, fun x h => by cases h⟩, fun l => .inr ⟨rfl, fun x h => by cases h⟩, fun l => .inr ⟨rfl, fun x h => by cases h⟩, by simpa [lkBlks] using hbl2⟩
      have hvv' : Value.pointer (some ⟨d0.blk, d0.off, none⟩) = val := by
        simpa [SV.rep, SA.rep, SC.val?, hd0] using hvv
      have hg' : absGood 0 newD w' { d0 with val := val } := ⟨_, _, _, _, _, _, _, _, _, _, _, _, _, hvv'.symm, hgood⟩
      have hfresh : ∀ b, absLies 0 newD w' { d0 with val := val } b → w.heap.size ≤ b := fun b hb => by
        have hb := (absLies_iff (t := 0) (D := newD) hvv'.symm hgood.hp).1 hb
        by_cases hlt : b < w.heap.size
        · exfalso
          have key : ∀ o so d, St.get [lkO true, some (.mp true [] 0), some (.mp true [] 0), some (.mp true [] 0), some (.mp true [] 0)] o = some so → α' o = some d → so.lies w' d b → False := fun o so d h1 h2 h3 => by
            rcases hto.lies o so d b h1 h2 hlt h3 with ⟨o', so', _, h4, _⟩ | ⟨h4, _⟩
            · cases o' <;> simp [St.get_eq] at h4
            · simp at h4
          simp only [lkBlks, List.filterMap_nil, List.append_nil, List.mem_cons, List.not_mem_nil, or_false] at hb
          rcases hb with rfl | rfl | rfl | rfl | rfl
          · exact key 0 _ d0 rfl hd0 rfl
          · exact key 1 _ d1 rfl e1 rfl
          · exact key 2 _ d2 rfl e2 rfl
          · exact key 3 _ d3 rfl e3 rfl
          · exact key 4 _ d4 rfl e4 rfl
        · omega
      have hget : ∀ o so, St.get [some (SO.abs true 0 newD)] o = some so → o = 0 ∧ so = .abs true 0 newD := by
        intro o so h
        cases o with
        | zero => simp [St.get_eq] at h; exact ⟨rfl, h.symm⟩
        | succ n => simp [St.get_eq] at h
      have a0 : (α.add 0 { d0 with val := val }) 0 = some { d0 with val := val } := Al.add_same
      refine ⟨.sa (.one (.ref 0)), _, α.add 0 { d0 with val := val }, val, he, by simp [SV.rep, SA.rep, SC.val?, a0], h, ⟨⟨fun o so ho => ?_, fun o o' so so' dd dd' b hne ho ho' hd hd' hw hl hf => ?_, fun o so dd b ho hd _ hl hi => ?_, fun o ho => ?_, fun o dd hd => ?_⟩, fun o ho => by simp at ho, by simp, fun o so dd b ho h2 h3 h4 => ?_, fun o so dd b ho h2 _ hi => ?_, fun b hb hw => ?_, fun b hb hnw => hto.kept b hb (by
        rintro ⟨o', so', _, h4, _⟩
        cases o' <;> simp [St.get_eq] at h4), hto.size, hto.tape, hto.os, hto.output⟩⟩
      · obtain ⟨rfl, rfl⟩ := hget o so ho
        exact ⟨_, a0, hg'⟩
      · obtain ⟨rfl, rfl⟩ := hget o so ho
        obtain ⟨rfl, rfl⟩ := hget o' so' ho'
        exact hne rfl
      · obtain ⟨rfl, rfl⟩ := hget o so ho
        exact hi
      · have ho : 1 ≤ o := ho
        rw [Al.add_other (by omega)]; exact hR.none o (by simp)
      · by_cases ho : o = 0
        · subst ho; rw [a0] at hd; cases hd; rw [show ({ d0 with val := val } : Den).val = val from rfl, ← hvv']; rfl
        · rw [Al.add_other ho] at hd; exact hR.cell o dd hd
      · obtain ⟨rfl, rfl⟩ := hget o so ho
        rw [a0] at h2; cases h2
        have := hfresh b h4
        omega
      · obtain ⟨rfl, rfl⟩ := hget o so ho
        exact hi.elim
      · obtain ⟨o, so, dd, ho, h2, _, h4⟩ := hw
        obtain ⟨rfl, rfl⟩ := hget o so ho
        rw [a0] at h2; cases h2
        have := hfresh b h4
        omega
    · exact h.elim
end Go.Ev
