/- Cycle: where waits rise, none wait in a ring. No conditions. -/
import Derived.Test.YtefkhlicocadcaaCyT0
import Derived.Test.YtefkhlicocadcaaLkR
import Derived.Test.YtefkhlicocadcaaRgL
set_option linter.unusedVariables false
set_option linter.unusedSimpArgs false
namespace Go.Ev
open Go Go.Proofs Go.Spec
attribute [local irreducible] ev evCall branch need again evOps
theorem cyFn : Try.prog.funcs[(21 : Nat)]? = some Try.f21 := by kernel_rfl
theorem cyBody : Try.f21.body = some (codeAt Try.prog 21 []) := by kernel_rfl
theorem cyRes : Try.f21.results = #[ResultVar.tmp 2] := by kernel_rfl
theorem cyTmps : Try.f21.ntmps = 44 := by kernel_rfl
noncomputable def cyO (way : List Nat) : Array Oper := (opsAt Try.prog 21 way).toArray
theorem cyCode : codeAt Try.prog 21 [] = .seq (codeAt Try.prog 21 [0]) (.seq (codeAt Try.prog 21 [1, 0]) (.seq (.seq (.region 3 (cyO [1, 1, 0, 0]) false)
    (.block 0 (.loop (.seq (.region 4 (cyO [1, 1, 0, 1, 0, 0, 0]) false) (.seq (.cond (.tmp 15) .skip (.exit 0)) (.block 1 (.seq (.region 5 (cyO [1, 1, 0, 1, 0, 0, 1, 1, 0, 0]) false)
      (.seq (codeAt Try.prog 21 [1, 1, 0, 1, 0, 0, 1, 1, 0, 1, 0]) (.seq (codeAt Try.prog 21 [1, 1, 0, 1, 0, 0, 1, 1, 0, 1, 1, 0]) (.block 2 (codeAt Try.prog 21 [1, 1, 0, 1, 0, 0, 1, 1, 0, 1, 1, 1, 0]))))))))))
    ) (codeAt Try.prog 21 [1, 1, 1]))) := by kernel_rfl
/-- One operation of a region, told. -/
def isOp (o : Option Oper) (op : Op) (d : Nat) : Prop := ∃ q, o = some q ∧ q.op = op ∧ q.dst = some d ∧ q.guard = none
theorem cyRange : isOp (cyO [1, 1, 0, 0])[4]? (.range 62 (.tmp 12)) 13 := ⟨_, rfl, rfl, rfl, rfl⟩
theorem cyNext : isOp (cyO [1, 1, 0, 1, 0, 0, 0])[0]? (.next (.tmp 13) false) 14 := ⟨_, rfl, rfl, rfl, rfl⟩
theorem cyExt : isOp (cyO [1, 1, 0, 1, 0, 0, 0])[1]? (.extract (.tmp 14) 0) 15 := ⟨_, rfl, rfl, rfl, rfl⟩
theorem cyEntry : isOp (cyO [1, 1, 0, 1, 0, 0, 1, 1, 0, 0])[0]? (.entry (.tmp 13)) 16 := ⟨_, rfl, rfl, rfl, rfl⟩
theorem cySize3 : (cyO [1, 1, 0, 0]).size = 5 := by kernel_rfl
theorem cySize4 : (cyO [1, 1, 0, 1, 0, 0, 0]).size = 2 := by kernel_rfl
theorem cySize5 : (cyO [1, 1, 0, 1, 0, 0, 1, 1, 0, 0]).size = 3 := by kernel_rfl
theorem cyMapT : ∃ k e, Try.prog.underlying 62 = some (.map k e) := ⟨_, _, rfl⟩

theorem tmp_at {a : Act} {t : Nat} {v : Value} (ht : t < a.tmps.size) (h : a.eval (.tmp t) = v) : a.tmps[t]? = some v := by
  simp only [Act.eval, Array.getD_eq_getD_getElem?] at h
  rw [Array.getElem?_eq_getElem ht] at h ⊢
  simpa using h
theorem cxCy_ok : CxOk Try.prog cxCy := mkCx_ok namesL mixedL (by
  intro y h
  simp only [List.mem_cons, List.not_mem_nil, or_false] at h
  rcases h with rfl | rfl
  · exact wa_sum
  · exact ho_sum)
/-- The inner loop's end. -/
def CyEnd (x : Nat) (D : LkD) (ob : Obj) : Exit → Fr → St → Prop := fun ex fr st => ex = .normal ∧ ∃ l st', fr = frm 44 l ∧ frmAt 0 l = some (.sa (.one (.ref 0))) ∧ frmAt 2 l = some (bR false) ∧ frmAt 13 l = some (.sa (.one (.ref 1))) ∧ st = some (.abs false x D) :: some (.box true ob) :: st'
theorem cy_inner {x : Nat} {D : LkD} {ob : Obj} {t n : Int} {l0 : Lk} (hD : Rise D) (ht : D.wa t = some l0) :
    ∀ (rem i : Nat) (a : Int), i + rem = 4 → ((i = 0 ∧ a = t) ∨ ∀ l, D.wa a = some l → l0.1 + i ≤ l.1 ∧ l0.1 < l.1) →
      ev cxCy (rem + 40) 1 21 (codeAt Try.prog 21 [1, 1, 0, 1, 0, 0, 1, 1, 0, 1, 1, 1, 0]) (frm 44 [(0, .sa (.one (.ref 0))), (2, bR false), (3, .sa (vI t)), (4, .sa (vI a)), (13, .sa (.one (.ref 1))), (23, .sa (vI n)), (24, .sa (vI i))])
        [some (.abs false x D), some (.box true ob)] (kBlock 2 (CyEnd x D ob)) := by
  have h0 := (hD t l0 ht).1
  intro rem
  induction rem with
  | zero =>
    intro i a h1 h2
    refine Eq.mpr (t_cyL ..) (Again.mk (brd (fun _ => br (fun hw => ⟨rfl, _, _, rfl, rfl, rfl, rfl, rfl⟩) (fun hw => ?_)) (fun _ => ⟨rfl, _, [], rfl, rfl, rfl, rfl, rfl⟩)))
    have hwb : waB D a = true := by simpa using hw
    obtain ⟨l, hl⟩ : ∃ l, D.wa a = some l := Option.isSome_iff_exists.1 hwb
    exfalso
    rcases h2 with h2 | h2
    · omega
    · have := h2 l hl
      have := (hD a l hl).1
      omega
  | succ rem ih =>
    intro i a h1 h2
    refine Eq.mpr (t_cyL (L := rem + 1) ..) (Again.mk (brd (fun _ => br (fun hw => ⟨rfl, _, _, rfl, rfl, rfl, rfl, rfl⟩) (fun hw => ?_)) (fun _ => ⟨rfl, _, [], rfl, rfl, rfl, rfl, rfl⟩)))
    have hwb : waB D a = true := by simpa using hw
    obtain ⟨l, hl⟩ : ∃ l, D.wa a = some l := Option.isSome_iff_exists.1 hwb
    have hc : waC D a = l.1 := by simp [waC, hl]
    have hn : waN D a = l.2 := by simp [waN, hl]
    obtain ⟨_, h, hh, hup⟩ := hD a l hl
    have hv : hoV D l.1 l.2 = h := by simp [hoV, hh]
    rw [hc, hn, hv]
    have hle : l0.1 + i ≤ l.1 := by
      rcases h2 with ⟨rfl, rfl⟩ | h2
      · rw [ht] at hl; cases hl; simp
      · exact (h2 l hl).1
    refine bref (fun e => ?_) ?_
    · subst e
      have := hup l0 ht
      omega
    · rw [add64 (by omega), show ((i : Nat) : Int) + 1 = ((i + 1 : Nat) : Int) from rfl]
      exact ih (i + 1) h (by omega) (.inr fun l' hl' => by have := hup l' hl'; omega)

theorem cy_call {α : Al} {w0 : World} {vals : List Value} {x : Nat} {wb : Bool} {D : AD} {k : SV → St → Prop} (hR : R α [some (.abs wb x D)] w0) (hv : RepsA α [.one (.ref 0)] vals) (hrise : riseB D = true) (hk : k (.sa (.one (.raw (.bool false)))) [some (.abs wb x D)]) :
    CallsIn Fence.wide 0 Try.prog 21 vals.toArray w0 (CallPost α [some (.abs wb x D)] w0 k) := by
  have hD : Rise D := @of_decide_eq_true _ (Classical.propDecidable _) hrise
  obtain ⟨d, hd, b0, b1, b2, b3, b4, x1, x2, x3, x4, c1, c2, c3, c4, hvd, hl⟩ := hR.good 0 _ rfl
  have hS : Split α x D w0 wb false [] [] [] [] [] [] (lkAl b0 b1 b2 b3 b4 []) x1 x2 x3 x4 c1 c2 c3 c4 := mkSplit hR hd hvd hl (MvOk.start hl.m1) (MvOk.start hl.m2) (MvOk.start hl.m3) (MvOk.start hl.m4) trivial (by simp [rdBlks]) (by simp [rdBlks]) (by simp)
  have hRs := hS.R
  have hns := hS.nowr
  generalize hαs : lkAl b0 b1 b2 b3 b4 [] = αs at hS hRs hns
  have hα0 : αs 0 = some ⟨b0.1, b0.2, 4, 1, .pointer (some ⟨b0.1, b0.2, none⟩), true⟩ := by rw [← hαs]; rfl
  have hα3 : αs 3 = some (mapDen b3) := by rw [← hαs]; rfl
  -- the locks, looked at alone
  have hRa : R α [some (.abs false x D)] w0 := by
    have hget : ∀ o so, St.get [some (SO.abs false x D)] o = some so → o = 0 ∧ so = .abs false x D := by
      intro o so h
      cases o with
      | zero => simp [St.get_eq] at h; exact ⟨rfl, h.symm⟩
      | succ n => simp [St.get_eq] at h
    refine ⟨fun o so ho => ?_, fun o o' so so' dd dd' b hne ho ho' _ _ hw _ _ => ?_, fun o so dd b ho _ hw _ _ => ?_, fun o ho => hR.none o ho, hR.cell⟩
    · obtain ⟨rfl, rfl⟩ := hget o so ho
      exact ⟨d, hd, b0, b1, b2, b3, b4, x1, x2, x3, x4, c1, c2, c3, c4, hvd, hl⟩
    · obtain ⟨rfl, rfl⟩ := hget o so ho; cases hw
    · obtain ⟨rfl, rfl⟩ := hget o so ho; cases hw
  have hna : ∀ b, ¬ Wr α [some (.abs false x D)] w0 b := by
    rintro b ⟨o, so, dd, ho, _, hw, _⟩
    cases o with
    | zero => simp [St.get_eq] at ho; subst ho; cases hw
    | succ n => simp [St.get_eq] at ho
  have hb3 : w0.heap[b3]? = some (.map x3.toArray c3) := hl.hp.h3
  have hb3lt : b3 < w0.heap.size := (Array.getElem?_eq_some_iff.1 hb3).1
  match vals, hv with
  | [v0], ⟨h0, _⟩ =>
  have hp0 : v0 = .pointer (some ⟨b0.1, b0.2, none⟩) := by
    simp only [SA.rep, SC.val?, hd, Option.some.injEq] at h0
    rw [← h0, hvd]
  subst hp0
  refine callsIn_of_wp_marks cyFn cyBody trivial ?_
  rw [cyCode, cyTmps]
  have hrun : ∀ {cx : Cx} (hx : CxOk Try.prog cx) (n : Nat), RunOk Try.prog (ev cx n) := fun hx n => (ev_sound hx n).1
  -- the end
  have fin : ∀ (a : Act) (w : World) (ob : Obj) (it : Nat), RgF w0 w ob it a.defers → a.tmps.size = 44 → a.eval (.tmp 2) = .bool false → LeavesInM Fence.wide 0 Try.prog Try.f21 a.tmps (CallPost α [some (.abs wb x D)] w0 k) a.defers .returning w := fun a w ob it hF hsz h2 => by
    refine hF.leave hR fun w' hto => ⟨.bool false, ?_, .sa (.one (.raw (.bool false))), _, α, _, rfl, rfl, hk, hto⟩
    have := results_run (P := Try.prog) (fn := Try.f21) (tmps := a.tmps) (vs := [.bool false]) (w := w') (by
      rw [cyRes]
      have h2 : a.tmps.getD 2 undef = .bool false := h2
      simp only [List.mapM_cons, List.mapM_nil, resM]
      rw [h2]
      simp)
    simpa using this
  have hf0 : FrOk αs (frm 44 [(0, .sa (.one (.ptr 0 0 0)))]) (#[Value.pointer (some ⟨b0.1, b0.2, none⟩)] ++ Array.replicate 43 undef) :=
    FrOk.ofL (by simp) fun p hp => by
      rw [List.mem_singleton.1 hp]
      exact ⟨_, by simp; rfl, by simp [SV.rep, SA.rep, SC.val?, hα0]⟩
  refine wpIn_seq (hrun cxL0_ok 50 (fun _ => rfl) (To.refl hRs) hf0 (MarksOk.nil _ _ _ _) (k := fun ex fr st => ex = .normal ∧ fr = frm 44 [(0, (.sa (.one (SC.ptr 0 0 0)))), (2, (.sa (.one (bv false))))] ∧ st = lkSt false [] x1 c1 [] x2 c2 [] x3 c3 [] x4 c4 []) (Eq.mpr (t_cyR0 ..) ⟨rfl, rfl, rfl⟩) ?_)
  rintro ex fr1 st1 α1 a1 w1 ⟨rfl, rfl, rfl⟩ hf1 hto1 hm1
  refine wpIn_seq (hrun cxL0_ok 50 (fun _ => rfl) hto1 hf1 hm1 (k := fun ex fr st => ex = .normal ∧ (∃ l, fr = frm 44 l ∧ frmAt 0 l = some (.sa (.one (SC.ptr 0 0 0))) ∧ frmAt 2 l = some (bR false)) ∧ st = lkSt false [] x1 c1 [] x2 c2 [] x3 c3 [] x4 c4 []) (Eq.mpr (t_cyR1 ..) ⟨rfl, ⟨_, rfl, rfl, rfl⟩, rfl⟩) ?_)
  rintro ex fr2 st2 α2 a2 w2 ⟨rfl, ⟨l2, rfl, hl20, hl22⟩, rfl⟩ hf2 hto2 hm2
  refine wpIn_seq (wpIn_seq (wpIn_region ?_))
  rw [cySize3, show List.range 5 = List.range' 0 4 ++ [4] from rfl]
  have hC : CallOk Try.prog (evCall cxL0 (ev cxL0 50)) := evCall_ok (run := ev cxL0 50) cxL0_ok (ev_sound cxL0_ok 50).1
  have hf2' : FrOk α2 (frm 44 [(0, .sa (.one (.ptr 0 0 0))), (2, bR false)]) a2.tmps := FrOk.ofL hf2.sizeL fun p hp => by
    simp only [List.mem_cons, List.not_mem_nil, or_false] at hp
    rcases hp with rfl | rfl
    · exact hf2.atL hl20 (by omega)
    · exact hf2.atL hl22 (by omega)
  refine evOps_pre (r := none) rfl cxL0_ok.ops hC (takeL 4 (opsAt Try.prog 21 [1, 1, 0, 0])) 0 (fun j o hj => ?_) hto2.rep hf2' (k := fun fr st => (∃ l, fr = frm 44 l ∧ frmAt 0 l = some (.sa (.one (SC.ptr 0 0 0))) ∧ frmAt 2 l = some (bR false) ∧ frmAt 12 l = some (.sa (.one (.ref 3)))) ∧ st = lkSt false [] x1 c1 [] x2 c2 [] x3 c3 [] x4 c4 []) (Eq.mpr (t_cy0 ..) ⟨⟨_, rfl, rfl, rfl, rfl⟩, rfl⟩) ?_
  · rw [takeL_eq, List.getElem?_take] at hj
    split at hj
    · rw [Nat.zero_add]; show (opsAt Try.prog 21 [1, 1, 0, 0]).toArray[j]? = some o; rw [List.getElem?_toArray]; exact hj
    · cases hj
  rintro fr3 st3 α3 a3 w3 ⟨⟨l3, rfl, hl30, hl32, hl312⟩, rfl⟩ hf3 hto3 hde3
  have hto3' := hto2.trans hto3
  have hm3 := (hm2.to hto3)
  rw [← hde3] at hm3
  have h312 : a3.eval (.tmp 12) = .map (some b3) := by
    obtain ⟨v, v1, v2⟩ := hf3.atL hl312 (by omega)
    have : α3 3 = some (mapDen b3) := by rw [hto3'.ext 3 (by simp [lkSt])]; exact hα3
    simp only [SV.rep, SA.rep, SC.val?, this, Option.some.injEq] at v2
    simp only [Act.eval, Array.getD_eq_getD_getElem?, v1, Option.getD_some, ← v2]
    rfl
  have hb33 : w3.heap[b3]? = some (.map x3.toArray c3) := (hto3'.kept b3 hb3lt (hns b3)).trans hb3
  obtain ⟨q, q1, q2, q3, q4⟩ := cyRange
  obtain ⟨mk, me, hmt⟩ := cyMapT
  refine op_value q1 q4 (semAt_range q2 (by rw [h312]; exact run_range_map w3 _ mk me b3 x3.toArray c3 hmt hb33)) ?_
  rw [q3]
  have hF3 : RgF w0 (w3.alloc (.mapIter (some b3) c3 #[] c3)) (.mapIter (some b3) c3 #[] c3) w3.heap.size (a3.put (some 13) (.pointer (some ⟨w3.heap.size, 0, none⟩))).defers := RgF.start hns hto3' hm3
  have hsz3 : a3.tmps.size = 44 := hf3.sizeL
  have ev_of : ∀ {β : Al} {l : List (Nat × SV)} {a : Act}, FrOk β (frm 44 l) a.tmps → ∀ {t : Nat} {sv : SV} {v : Value}, frmAt t l = some sv → t < 44 → (∀ u, SV.rep β sv u → u = v) → a.eval (.tmp t) = v := fun hf t sv v h1 h2 h3 => by
    obtain ⟨u, u1, u2⟩ := hf.atL h1 h2
    simp only [Act.eval, Array.getD_eq_getD_getElem?, u1, Option.getD_some]
    exact h3 u u2
  have rep_bool : ∀ {β : Al} {b : Bool} (u : Value), SV.rep β (bR b) u → u = .bool b := fun u h => by
    simp only [bR, SV.rep, SA.rep, SC.val?, Option.some.injEq] at h; exact h.symm
  have rep_ptr : ∀ {β : Al}, β 0 = αs 0 → ∀ (u : Value), SV.rep β (.sa (.one (SC.ptr 0 0 0))) u → u = .pointer (some ⟨b0.1, b0.2, none⟩) := fun hβ u h => by
    simp only [SV.rep, SA.rep, SC.val?, hβ, hα0, Option.some.injEq] at h
    rw [← h]; simp
  -- the loop
  let Inv : Array Nat → Act → World → Prop := fun seen a w => a.tmps.size = 44 ∧ a.eval (.tmp 0) = .pointer (some ⟨b0.1, b0.2, none⟩) ∧ a.eval (.tmp 2) = .bool false ∧
    ∃ it, a.eval (.tmp 13) = .pointer (some ⟨it, 0, none⟩) ∧ RgF w0 w (.mapIter (some b3) c3 seen c3) it a.defers
  obtain ⟨n1, n2, n3, n4, n5⟩ := cyNext
  obtain ⟨x1', x2', x3', x4', x5'⟩ := cyExt
  refine range_loop (itT := 13) (d1 := 14) (d2 := 15) (bm := b3) (cl := c3) (es := x3) cySize4 n2 x2' n5 x5' n3 x3' n4 x4' (by omega) hl.m3.young Inv (fun seen a w hi => ?_) ⟨#[], ?_⟩ (fun seen a w hi hall => ?_) (fun seen a w it e w1 hi hit he hse hw1 => ?_)
  · obtain ⟨i1, i2, i3, it, i4, i5⟩ := hi
    exact ⟨it, i4, i5.ob, (i5.kept b3 hb3lt).trans hb3, by omega, by omega⟩
  · refine ⟨by rw [put_size]; exact hsz3, ?_, ?_, w3.heap.size, eval_put_same (by omega), hF3⟩
    · rw [eval_put_other (by omega)]
      exact ev_of hf3 hl30 (by omega) (rep_ptr (hto3'.ext 0 (by simp [lkSt])))
    · rw [eval_put_other (by omega)]
      exact ev_of hf3 hl32 (by omega) rep_bool
  · -- none is left
    obtain ⟨i1, i2, i3, it, i4, i5⟩ := hi
    have hsz : (((a.put (some 14) (.tuple #[.bool false])).put (some 15) (.bool false))).tmps.size = 44 := by rw [put_size, put_size]; exact i1
    have i5' : RgF w0 w (.mapIter (some b3) c3 seen c3) it ((a.put (some 14) (.tuple #[.bool false])).put (some 15) (.bool false)).defers := i5
    refine box_piece cxL0_ok (n := 50) (f := 21) (fr := frm 44 [(0, .sa (.one (.ref 0)))]) (k := fun ex fr st => ex = .ret ∧ (∃ l, fr = frm 44 l ∧ frmAt 2 l = some (bR false)) ∧ St.get st 1 = some (.box true (.mapIter (some b3) c3 seen c3))) (fun h => by cases h) i5' hRa (FrOk.ofL hsz fun p hp => ?_) (Eq.mpr (t_cyE ..) ⟨rfl, ⟨_, rfl, rfl⟩, rfl⟩) ?_
    · rw [List.mem_singleton.1 hp]
      have h0 : ((a.put (some 14) (.tuple #[.bool false])).put (some 15) (.bool false)).eval (.tmp 0) = .pointer (some ⟨b0.1, b0.2, none⟩) := by rw [eval_put_other (by omega), eval_put_other (by omega)]; exact i2
      refine ⟨_, Array.getElem?_eq_getElem (by omega), ?_⟩
      have : (α.add 1 (itDen it)) 0 = some d := by rw [Al.add_other (by omega)]; exact hd
      simp only [SV.rep, SA.rep, SC.val?]
      rw [show List.length [some (SO.abs false x D)] = 1 from rfl, this]
      simp only [Act.eval, Array.getD_eq_getD_getElem?] at h0
      rw [Array.getElem?_eq_getElem (by omega)] at h0
      simp only [Option.getD_some] at h0
      rw [h0]; show some d.val = _; rw [hvd]
    · rintro ex fr' st' α' a' w' ⟨rfl, ⟨l, rfl, hl2⟩, hbox⟩ hf' hto' hm'
      obtain ⟨it', _, hF'⟩ := RgF.back hRa hna hto' hm' (by simp) hbox
      exact fin a' w' _ it' hF' hf'.sizeL (ev_of hf' hl2 (by omega) rep_bool)
  · -- a round
    obtain ⟨i1, i2, i3, it0, i4, i5⟩ := hi
    rw [hit] at i4
    simp only [Value.pointer.injEq, Option.some.injEq, Addr.mk.injEq, and_true] at i4
    subst i4
    have hF' := i5.step (ob' := .mapIter (some b3) c3 (seen.push e.born) c3) hw1 (fun h => by cases h)
    generalize hw' : ChangeMaps.setBlock w1 it (.mapIter (some b3) c3 (seen.push e.born) c3) = w' at hF'
    generalize ha' : (a.put (some 14) (.tuple #[.bool true, e.key, e.val])).put (some 15) (.bool true) = a' 
    have hde : a'.defers = a.defers := by rw [← ha']; rfl
    have hsz : a'.tmps.size = 44 := by rw [← ha', put_size, put_size]; exact i1
    have j0 : a'.eval (.tmp 0) = .pointer (some ⟨b0.1, b0.2, none⟩) := by rw [← ha', eval_put_other (by omega), eval_put_other (by omega)]; exact i2
    have j2 : a'.eval (.tmp 2) = .bool false := by rw [← ha', eval_put_other (by omega), eval_put_other (by omega)]; exact i3
    have j13 : a'.eval (.tmp 13) = .pointer (some ⟨it, 0, none⟩) := by rw [← ha', eval_put_other (by omega), eval_put_other (by omega)]; exact hit
    rw [← hde] at hF'
    obtain ⟨kl, hkl, hkey⟩ := hl.m3.ints e he
    obtain ⟨t, rfl⟩ : ∃ t, kl = [t] := by
      match kl, hkl with
      | [t], _ => exact ⟨t, rfl⟩
    obtain ⟨l0, hwa, hval⟩ : ∃ l0, D.wa t = some l0 ∧ e.val = lkV l0 := by
      rcases hl.wa t with ⟨l0, h1, y, h2, h3, h4⟩ | ⟨_, h2⟩
      · obtain rfl := hl.m3.one he h2 (hkey.trans h3.symm)
        exact ⟨l0, h1, h4⟩
      · exact absurd hkey (h2 e he)
    refine wpIn_block (wpIn_seq (wpIn_region ?_))
    rw [cySize5, show List.range 3 = 0 :: List.range' 1 2 from rfl]
    obtain ⟨y, y1, y2, y3, y4⟩ := cyEntry
    refine op_value y1 y4 (semAt_entry (v := .tuple #[e.key, e.val]) y2 (by rw [j13]; exact run_entry_at w' it b3 c3 seen x3.toArray c3 e hF'.ob ((hF'.kept b3 hb3lt).trans hb3) (by simpa using he) (by simpa using hl.m3.born))) ?_
    rw [y3]
    -- frames of a state with the iterator
    have frS : ∀ (a : Act) (l : List (Nat × SV)), a.tmps.size = 44 → a.eval (.tmp 0) = .pointer (some ⟨b0.1, b0.2, none⟩) → a.eval (.tmp 2) = .bool false → a.eval (.tmp 13) = .pointer (some ⟨it, 0, none⟩) →
        (∀ p ∈ l, ∃ v, a.tmps[p.1]? = some v ∧ ∀ β : Al, SV.rep β p.2 v) → FrOk (αs.add 5 (itDen it)) (frm 44 ((0, .sa (.one (.ptr 0 0 0))) :: (2, bR false) :: (13, .sa (.one (.ref 5))) :: l)) a.tmps := fun a l s1 s2 s3 s4 s5 => by
      have at_ : ∀ t v, t < 44 → a.eval (.tmp t) = v → a.tmps[t]? = some v := fun t v ht h => tmp_at (by rw [s1]; exact ht) h
      refine FrOk.ofL s1 fun p hp => ?_
      simp only [List.mem_cons] at hp
      rcases hp with rfl | rfl | rfl | hp
      · refine ⟨_, at_ 0 _ (by decide) s2, ?_⟩
        simp only [SV.rep, SA.rep, SC.val?]
        rw [Al.add_other (by omega), hα0]; simp
      · exact ⟨_, at_ 2 _ (by decide) s3, rfl⟩
      · refine ⟨_, at_ 13 _ (by decide) s4, ?_⟩
        simp only [SV.rep, SA.rep, SC.val?]
        rw [Al.add_same]; rfl
      · obtain ⟨v, v1, v2⟩ := s5 p hp
        exact ⟨v, v1, v2 _⟩
    have nob : (Obj.mapIter (some b3) c3 (seen.push e.born) c3) ≠ .deferred (some []) := fun h => by cases h
    generalize hob : (Obj.mapIter (some b3) c3 (seen.push e.born) c3) = ob at hF' nob
    have hlen : (lkSt false [] x1 c1 [] x2 c2 [] x3 c3 [] x4 c4 []).length = 5 := rfl
    -- the key
    have ha16 : (a'.put (some 16) (.tuple #[e.key, e.val])).tmps.size = 44 := by rw [put_size]; exact hsz
    have hf5 : FrOk (αs.add 5 (itDen it)) (frm 44 ((0, .sa (.one (.ptr 0 0 0))) :: (2, bR false) :: (13, .sa (.one (.ref 5))) :: [(16, .tup [vI t, lkA l0.1 l0.2])])) (a'.put (some 16) (.tuple #[e.key, e.val])).tmps := by
      refine frS _ _ ha16 (by rw [eval_put_other (by omega)]; exact j0) (by rw [eval_put_other (by omega)]; exact j2) (by rw [eval_put_other (by omega)]; exact j13) fun p hp => ?_
      rw [List.mem_singleton.1 hp]
      refine ⟨.tuple #[e.key, e.val], by simp [Act.put, hsz], fun β => ⟨[e.key, e.val], ⟨?_, ?_, trivial⟩, rfl⟩⟩
      · rw [hkey]; rfl
      · rw [hval]; exact rep_lkA
    have hto5 := hF'.to hRs
    have hmk5 := hF'.mk' hRs nob
    rw [hlen] at hto5 hmk5
    have hdrop : (cyO [1, 1, 0, 1, 0, 0, 1, 1, 0, 0]).toList.drop 1 = dropL 1 (opsAt Try.prog 21 [1, 1, 0, 1, 0, 0, 1, 1, 0, 0]) := by rw [dropL_eq]; rfl
    have hlen2 : (dropL 1 (opsAt Try.prog 21 [1, 1, 0, 1, 0, 0, 1, 1, 0, 0])).length = 2 := by kernel_rfl
    rw [← hlen2]
    refine evOps_sound (r := none) (cx := cxL0) (call := evCall cxL0 (ev cxL0 50)) rfl cxL0_ok.ops hC _ 1 hdrop hto5.rep hf5 (k := fun fr st => (∃ l, fr = frm 44 l ∧ frmAt 0 l = some (.sa (.one (SC.ptr 0 0 0))) ∧ frmAt 2 l = some (bR false) ∧ frmAt 3 l = some (.sa (vI t)) ∧ frmAt 13 l = some (.sa (.one (.ref 5)))) ∧ St.get st 5 = some (.box true ob))
      (Eq.mpr (t_cyR5 (t := t) (c := l0.1) (n := l0.2) (ob := ob) ..) ⟨⟨_, rfl, rfl, rfl, rfl, rfl⟩, rfl⟩) ?_
    rintro fr5 st5 α5 a5 w5 ⟨⟨l5, rfl, f50, f52, f53, f513⟩, hbox5⟩ hf5' hto5' hde5
    have hto5b := hto5.trans hto5'
    have hmk5b := hmk5.to hto5'
    rw [show a'.defers = a5.defers from hde5.symm] at hmk5b
    obtain ⟨it5, e5, hF5⟩ := RgF.back hRs hns hto5b hmk5b (by simp [lkSt]) hbox5
    -- slots behind a piece
    have slots : ∀ {β : Al} {a : Act} {l : List (Nat × SV)} {it' : Nat} {dd : Den}, FrOk β (frm 44 l) a.tmps → β 0 = αs 0 → β 5 = some dd → dd.val = .pointer (some ⟨it', 0, none⟩) → frmAt 0 l = some (.sa (.one (SC.ptr 0 0 0))) → frmAt 2 l = some (bR false) → frmAt 13 l = some (.sa (.one (.ref 5))) →
        a.tmps.size = 44 ∧ a.eval (.tmp 0) = .pointer (some ⟨b0.1, b0.2, none⟩) ∧ a.eval (.tmp 2) = .bool false ∧ a.eval (.tmp 13) = .pointer (some ⟨it', 0, none⟩) := fun hf h1 h2 h2v h3 h4 h5 =>
      ⟨hf.sizeL, ev_of hf h3 (by omega) (rep_ptr h1), ev_of hf h4 (by omega) rep_bool, ev_of hf h5 (by omega) fun u hu => by
        simp only [SV.rep, SA.rep, SC.val?, h2, Option.some.injEq] at hu
        rw [← hu, h2v]⟩
    have frS' : ∀ (it : Nat) (a : Act) (l : List (Nat × SV)), a.tmps.size = 44 → a.eval (.tmp 0) = .pointer (some ⟨b0.1, b0.2, none⟩) → a.eval (.tmp 2) = .bool false → a.eval (.tmp 13) = .pointer (some ⟨it, 0, none⟩) →
        (∀ p ∈ l, p.1 < 44 ∧ ∀ β : Al, SV.rep β p.2 (a.eval (.tmp p.1))) → FrOk (αs.add 5 (itDen it)) (frm 44 ((0, .sa (.one (.ptr 0 0 0))) :: (2, bR false) :: (13, .sa (.one (.ref 5))) :: l)) a.tmps := fun it a l s1 s2 s3 s4 s5 => by
      have at_ : ∀ t v, t < 44 → a.eval (.tmp t) = v → a.tmps[t]? = some v := fun t v ht h => tmp_at (by rw [s1]; exact ht) h
      refine FrOk.ofL s1 fun p hp => ?_
      simp only [List.mem_cons] at hp
      rcases hp with rfl | rfl | rfl | hp
      · refine ⟨_, at_ 0 _ (by decide) s2, ?_⟩
        simp only [SV.rep, SA.rep, SC.val?]
        rw [Al.add_other (by omega), hα0]; simp
      · exact ⟨_, at_ 2 _ (by decide) s3, rfl⟩
      · refine ⟨_, at_ 13 _ (by decide) s4, ?_⟩
        simp only [SV.rep, SA.rep, SC.val?]
        rw [Al.add_same]; rfl
      · obtain ⟨v1, v2⟩ := s5 p hp
        exact ⟨_, at_ p.1 _ v1 rfl, v2 _⟩
    have rep_int : ∀ {β : Al} {n : Int} (u : Value), SV.rep β (.sa (vI n)) u → u = .int .i64 n := fun u h => by
      simp only [vI, SV.rep, SA.rep, SC.val?, Option.some.injEq] at h; exact h.symm
    obtain ⟨s5a, s5b, s5c, s5d⟩ := slots hf5' (hto5b.ext 0 (by rw [hlen]; omega)) e5 rfl f50 f52 f513
    have s5e : a5.eval (.tmp 3) = .int .i64 t := ev_of hf5' f53 (by omega) rep_int
    have perm3 : ∀ {a : Act} {it : Nat} {l : List (Nat × SV)}, FrOk (αs.add 5 (itDen it)) (frm 44 ((0, .sa (.one (.ptr 0 0 0))) :: (2, bR false) :: (13, .sa (.one (.ref 5))) :: l)) a.tmps → (∀ l', (∀ p ∈ l', p ∈ ((0, .sa (.one (.ptr 0 0 0))) :: (2, bR false) :: (13, SV.sa (.one (.ref 5))) :: l)) → (∀ p ∈ l', frmAt p.1 ((0, .sa (.one (.ptr 0 0 0))) :: (2, bR false) :: (13, SV.sa (.one (.ref 5))) :: l) = some p.2 ∧ p.1 < 44) → FrOk (αs.add 5 (itDen it)) (frm 44 l') a.tmps) := fun hf l' _ h => FrOk.ofL hf.sizeL fun p hp => hf.atL (h p hp).1 (h p hp).2
    refine wpIn_seq (box_piece cxL0_ok (n := 50) (f := 21) (fr := frm 44 [(0, .sa (.one (.ptr 0 0 0))), (2, bR false), (3, .sa (vI t)), (13, .sa (.one (.ref 5)))]) nob hF5 hRs (perm3 (frS' it5 a5 [(3, .sa (vI t))] s5a s5b s5c s5d fun p hp => by rw [List.mem_singleton.1 hp]; exact ⟨by omega, fun β => by rw [s5e]; rfl⟩) _ (by simp) (by simp [frmAt]))
      (k := fun ex fr st => ex = .normal ∧ (∃ l, fr = frm 44 l ∧ frmAt 0 l = some (.sa (.one (SC.ptr 0 0 0))) ∧ frmAt 2 l = some (bR false) ∧ frmAt 3 l = some (.sa (vI t)) ∧ frmAt 4 l = some (.sa (vI t)) ∧ frmAt 13 l = some (.sa (.one (.ref 5)))) ∧ St.get st 5 = some (.box true ob))
      (Eq.mpr (t_cyR6 ..) ⟨rfl, ⟨_, rfl, rfl, rfl, rfl, rfl, rfl⟩, rfl⟩) ?_)
    rintro ex fr6 st6 α6 a6 w6 ⟨rfl, ⟨l6, rfl, f60, f62, f63, f64, f613⟩, hbox6⟩ hf6 hto6 hm6
    obtain ⟨it6, e6, hF6⟩ := RgF.back hRs hns hto6 hm6 (by simp [lkSt]) hbox6
    obtain ⟨s6a, s6b, s6c, s6d⟩ := slots hf6 (hto6.ext 0 (by rw [hlen]; omega)) e6 rfl f60 f62 f613
    have s6e : a6.eval (.tmp 3) = .int .i64 t := ev_of hf6 f63 (by omega) rep_int
    have s6f : a6.eval (.tmp 4) = .int .i64 t := ev_of hf6 f64 (by omega) rep_int
    refine wpIn_seq (box_piece cxL0_ok (n := 50) (f := 21) (fr := frm 44 [(0, .sa (.one (.ptr 0 0 0))), (2, bR false), (3, .sa (vI t)), (4, .sa (vI t)), (13, .sa (.one (.ref 5)))]) nob hF6 hRs (perm3 (frS' it6 a6 [(3, .sa (vI t)), (4, .sa (vI t))] s6a s6b s6c s6d fun p hp => by
        simp only [List.mem_cons, List.not_mem_nil, or_false] at hp
        rcases hp with rfl | rfl
        · exact ⟨by omega, fun β => by rw [s6e]; rfl⟩
        · exact ⟨by omega, fun β => by rw [s6f]; rfl⟩) _ (by simp) (by simp [frmAt]))
      (k := fun ex fr st => ex = .normal ∧ (∃ l, fr = frm 44 l ∧ frmAt 0 l = some (.sa (.one (SC.ptr 0 0 0))) ∧ frmAt 2 l = some (bR false) ∧ frmAt 3 l = some (.sa (vI t)) ∧ frmAt 4 l = some (.sa (vI t)) ∧ frmAt 13 l = some (.sa (.one (.ref 5))) ∧ frmAt 23 l = some (.sa (vI ((0 + x3.length : Nat) : Int))) ∧ frmAt 24 l = some (.sa (vI 0))) ∧ St.get st 5 = some (.box true ob))
      (Eq.mpr (t_cyR7 ..) ⟨rfl, ⟨_, rfl, rfl, rfl, rfl, rfl, rfl, rfl, rfl⟩, rfl⟩) ?_)
    rintro ex fr7 st7 α7 a7 w7 ⟨rfl, ⟨l7, rfl, f70, f72, f73, f74, f713, f723, f724⟩, hbox7⟩ hf7 hto7 hm7
    obtain ⟨it7, e7, hF7⟩ := RgF.back hRs hns hto7 hm7 (by simp [lkSt]) hbox7
    obtain ⟨s7a, s7b, s7c, s7d⟩ := slots hf7 (hto7.ext 0 (by rw [hlen]; omega)) e7 rfl f70 f72 f713
    have s7e : a7.eval (.tmp 3) = .int .i64 t := ev_of hf7 f73 (by omega) rep_int
    have s7f : a7.eval (.tmp 4) = .int .i64 t := ev_of hf7 f74 (by omega) rep_int
    have s7g : a7.eval (.tmp 23) = .int .i64 ((x3.length : Nat) : Int) := by rw [ev_of hf7 f723 (by omega) rep_int, Nat.zero_add]
    have s7h : a7.eval (.tmp 24) = .int .i64 0 := ev_of hf7 f724 (by omega) rep_int
    have at7 : ∀ t v, t < 44 → a7.eval (.tmp t) = v → a7.tmps[t]? = some v := fun t v ht h => tmp_at (by rw [s7a]; exact ht) h
    refine box_piece cxCy_ok (n := 45) (f := 21) (fr := frm 44 [(0, .sa (.one (.ref 0))), (2, bR false), (3, .sa (vI t)), (4, .sa (vI t)), (13, .sa (.one (.ref 1))), (23, .sa (vI x3.length)), (24, .sa (vI ((0 : Nat) : Int)))]) (k := CyEnd x D ob) nob hF7 hRa (FrOk.ofL s7a fun p hp => ?_) ?_ ?_
    · simp only [List.mem_cons, List.not_mem_nil, or_false] at hp
      rcases hp with rfl | rfl | rfl | rfl | rfl | rfl | rfl
      · refine ⟨_, at7 0 _ (by decide) s7b, ?_⟩
        simp only [SV.rep, SA.rep, SC.val?]
        rw [show List.length [some (SO.abs false x D)] = 1 from rfl, Al.add_other (by omega), hd]
        show some d.val = _; rw [hvd]
      · exact ⟨_, at7 2 _ (by decide) s7c, rfl⟩
      · exact ⟨_, at7 3 _ (by decide) s7e, rfl⟩
      · exact ⟨_, at7 4 _ (by decide) s7f, rfl⟩
      · refine ⟨_, at7 13 _ (by decide) s7d, ?_⟩
        simp only [SV.rep, SA.rep, SC.val?]
        rw [show List.length [some (SO.abs false x D)] = 1 from rfl, Al.add_same]; rfl
      · exact ⟨_, at7 23 _ (by decide) s7g, rfl⟩
      · exact ⟨_, at7 24 _ (by decide) s7h, rfl⟩
    · have := cy_inner (x := x) (ob := ob) (n := ((x3.length : Nat) : Int)) hD hwa 4 0 t (by omega) (.inl ⟨rfl, rfl⟩)
      rw [ev_succ]
      exact this
    · rintro ex fr' st' α' a' w' ⟨rfl, l, st'', rfl, h0, h2, h13, rfl⟩ hf' hto' hm'
      obtain ⟨it', e', hF''⟩ := RgF.back (j := 1) hRa hna hto' hm' (by simp) rfl
      subst hob
      refine ⟨hf'.sizeL, ev_of hf' h0 (by omega) fun u hu => ?_, ev_of hf' h2 (by omega) rep_bool, it', ev_of hf' h13 (by omega) fun u hu => ?_, hF''⟩
      · have : α' 0 = some d := (hto'.ext 0 (by simp)).trans hd
        simp only [SV.rep, SA.rep, SC.val?, this, Option.some.injEq] at hu
        rw [← hu, hvd]
      · generalize hdd : (⟨it', (α' 1).elim 0 (·.off), (α' 1).elim 0 (·.m), (α' 1).elim 0 (·.cap), .pointer (some ⟨it', 0, none⟩), (α' 1).elim true (·.live)⟩ : Den) = dd at e'
        have hdv : dd.val = .pointer (some ⟨it', 0, none⟩) := by rw [← hdd]
        simp only [SV.rep, SA.rep, SC.val?, e', Option.some.injEq] at hu
        rw [← hu, hdv]
theorem cy_sum : SumOk Try.prog 21 sCy := by
  refine fun args st => ⟨fun k h => ?_, fun k h α w vals hR hv => ?_⟩
  · unfold sCy at h ⊢
    split at h
    · split at h
      · exact lin_ret k h
      · exact h.elim
    · split at h
      · exact lin_need k h
      · exact h.elim
    · exact h.elim
  · unfold sCy at h
    split at h
    · split at h
      · exact nil_call (n := 100) hR hv (Eq.mpr (t_cyNil ..) h)
      · exact h.elim
    · split at h
      · obtain ⟨h1, h⟩ := need_iff.1 h
        exact cy_call hR hv h1 h
      · exact h.elim
    · exact h.elim
end Go.Ev
