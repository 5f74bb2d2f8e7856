/- lanyardref24: Take and Give: what they come to. No conditions. -/
import Derived.Test.YtefkhlicocadcaaLqT
import Derived.Test.YtefkhlicocadcaaLpS
set_option linter.unusedVariables false
set_option linter.unusedSimpArgs false
set_option maxHeartbeats 1000000
namespace Go.Ev
open Go Go.Proofs Go.Spec
attribute [local irreducible] ev evCall branch need again
theorem cxRt_ok : CxOk Try.prog cxRt := mkCx_ok namesL mixedL (by
  intro x h
  simp only [List.mem_cons, List.not_mem_nil, or_false] at h
  rcases h with rfl | rfl | rfl | rfl
  · exact wai_sum
  · exact hol_sum
  · exact hos_sum
  · exact fi_sum)
theorem qT_app {L : List Cm} {x : Cm} : qT (L ++ [x]) = qT L ++ [x.t] := by simp [qT]
theorem qC_app {L : List Cm} {x : Cm} : qC (L ++ [x]) = qC L ++ [x.c] := by simp [qC]
theorem qN_app {L : List Cm} {x : Cm} : qN (L ++ [x]) = qN L ++ [x.n] := by simp [qN]
theorem qS_app {L : List Cm} {x : Cm} : qS (L ++ [x]) = qS L ++ [x.s] := by simp [qS]
theorem fT {L : List Cm} : fitL 0 L.length (qT L) = qT L := fitL_same 0 _ _ (by simp [qT])
theorem fC {L : List Cm} : fitL 0 L.length (qC L) = qC L := fitL_same 0 _ _ (by simp [qC])
theorem fN {L : List Cm} : fitL 0 L.length (qN L) = qN L := fitL_same 0 _ _ (by simp [qN])
theorem fS {L : List Cm} : fitL 0 L.length (qS L) = qS L := fitL_same 0 _ _ (by simp [qS])
theorem rt_loop (L : List Cm) (ck t c n : Int) (hb : Bool) (hm : L.length ≤ 1000000) (k : SV → St → Prop) (M q : Nat) (hl : List Lk) (hh : hl.length ≤ 1000000)
    (hF : hl.any (fun l => decide (l.1 ≥ c)) = true → k (.tup [.one (bv false), .one (iv .i64 2)]) [rfO true ck, rfR true (L).length (qT (L)) (qC (L)) (qN (L)) (qS (L))])
    (hT : hl.any (fun l => decide (l.1 ≥ c)) = false → k (.tup [.one (bv (!hb)), .one (iv .i64 0)]) [rfO2 (if hb = true then ck else addK .i64 ck 1), none, rfR true (L.length + 1) (qT L ++ [t]) (qC L ++ [c]) (qN L ++ [n]) (qS L ++ [if hb = true then 0 else addK .i64 ck 1])]) :
    ∀ (suf pre : List Lk), hl = pre ++ suf → pre.any (fun l => decide (l.1 ≥ c)) = false → ev cxRt (suf.length + q + 60) 2 10 (codeAt Try.prog 10 [1, 1, 1, 1, 1, 1, 0, 1, 0]) (frm 90 [(0, (.sa (.one (SC.ptr 0 0 0)))), (1, (.sa (.one (iv .i64 t)))), (5, (.sa (.one (SC.ptr 2 0 0)))), (11, (.sa (.one (bv hb)))), (12, (.sa (.one (SC.ref 3)))), (13, (.sa (.one (iv .i64 ((pre.length : Nat) : Int)))))]) [rfO true ck, rfR true (L).length (qT (L)) (qC (L)) (qN (L)) (qS (L)), obj 38 2 [iv .u8 c, iv .i64 n], some (.own true .row 38 2 (.tab hl.length [.ints .u8 (fstL hl), .ints .i64 (sndL hl)]))] (kBlock 0 (kSeq (ev cxRt (M + 58) 2 10 (codeAt Try.prog 10 [1, 1, 1, 1, 1, 1, 1])) (kRet (Cx.P cxRt) [(ResultVar.tmp 6), (ResultVar.tmp 7)] 2 k))) := by
  intro suf
  induction suf with
  | nil =>
    intro pre e hp
    rw [show ([] : List Lk).length + q + 60 = q + 60 by simp, t_lq1 (Q := 0)]
    have : hl.length = pre.length := by rw [e]; simp
    have hT := hT (by rw [e, List.append_nil]; exact hp)
    rw [fT, fC, fN, fS]
    refine Again.mk (brf (by omega) (br (fun h => ?_) (fun h => ?_)))
    · have h : hb = false := by simpa using h
      subst h
      exact ndd (by omega) hT
    · have h : hb = true := by simpa using h
      subst h
      exact ndd (by omega) hT
  | cons x r ih =>
    intro pre e hp
    rw [show (x :: r).length + q + 60 = (r.length + 1 + q) + 60 by simp only [List.length_cons], t_lq1 (Q := 0)]
    have hle : hl.length = pre.length + (r.length + 1) := by rw [e]; simp
    have e1 : 0 + ((pre.length : Nat) : Int).toNat = pre.length := by omega
    have e2 : addK .i64 ((pre.length : Nat) : Int) 1 = (((pre ++ [x]).length : Nat) : Int) := by rw [add64 (by omega)]; simp
    have g0 : (fstL hl).getD pre.length 0 = x.1 := by rw [e]; simp [fstL, List.getD_eq_getElem?_getD]
    rw [e1, e2, g0]
    refine Again.mk (brt (by omega) (ndd (by omega) (ndd (by omega) (ndd (by omega) (br (fun h => ?_) (fun h => ?_))))))
    · exact hF (by rw [e]; simp only [List.any_append, List.any_cons, h]; simp)
    · have := ih (pre ++ [x]) (by rw [e]; simp) (by simp only [List.any_append, List.any_cons, List.any_nil, h, hp]; rfl)
      rw [show r.length + q + 60 = r.length + 1 + q + 59 by omega] at this
      exact this
theorem rt_sum : SumOk Try.prog 10 sRt := by
  refine sumOk_of cxRt_ok ?_ ?_
  · intro args st k h
    unfold sRt at h ⊢
    split at h
    · exact (Lin.need (Lin.branch (Lin.ret _ _) (Lin.ret _ _))) k h
    · exact h.elim
  · intro args st k h
    unfold sRt at h
    split at h
    · rename_i t c n ck m ts cs ns ss
      obtain ⟨h1, hk⟩ := need_iff.1 h
      obtain ⟨he, hc⟩ := Bool.and_eq_true_iff.1 h1
      obtain ⟨hc, ho⟩ := Bool.and_eq_true_iff.1 hc
      have hc := of_decide_eq_true hc
      obtain ⟨L, rfl, rfl, rfl, rfl, rfl, hm⟩ := even_ex he
      rw [zip_q] at hk ho
      have hh := (of_decide_eq_true ho).2.2
      have h1' : (even L.length (qT L) (qC L) (qN L) (qS L) && hoOk L t ck) = true := by rw [he, ho]; rfl
      have hF : ∀ e, rtE L ck t c n = e → e ≠ 0 → k (.tup [.one (bv false), .one (iv .i64 e)]) [rfO true ck, rfR true (L).length (qT (L)) (qC (L)) (qN (L)) (qS (L))] := by
        intro e h0 hne
        rcases branch_iff.1 hk with ⟨hb, hk⟩ | ⟨hb, hk⟩
        · exact (hne (h0 ▸ of_decide_eq_true hb)).elim
        · rw [← h0]; exact hk
      refine ⟨(holI L t ck).length + 9 + 60, ?_⟩
      show evCall cxRt (ev cxRt ((holI L t ck).length + 9 + 60)) 10 [.one (.ptr 0 0 0), .one (.raw (.int .i64 t)), .agg [.raw (.int .u8 c), .raw (.int .i64 n)]] [rfO true ck, rfR true (L).length (qT (L)) (qC (L)) (qN (L)) (qS (L))] k
      rw [t_lq0, zip_q]
      have E2 : c < 1 ∨ c > 3 → rtE L ck t c n = 2 := fun h => by unfold rtE; rw [if_pos h]
      refine br (fun h => hF 2 (E2 (Or.inl (of_decide_eq_true h))) (by decide)) (fun h3 => br (fun h => hF 2 (E2 (Or.inr (of_decide_eq_true h))) (by decide)) (fun h4 => nd he (nd he (br (fun h => ?_) (fun h5 => ?_)))))
      · have h3 := of_decide_eq_false h3
        have h4 := of_decide_eq_false h4
        exact hF 6 (by unfold rtE; rw [if_neg (by omega), if_pos (Or.inl h)]) (by decide)
      · have h3 := of_decide_eq_false h3
        have h4 := of_decide_eq_false h4
        have go : ¬ (holB L c n = true ∧ holV L c n = t) → (ev cxRt ((holI L t ck).length + 9 + 51) 2 10 (codeAt Try.prog 10 [1, 1, 1, 1, 1, 1, 0, 1, 0]) (frm 90 [(0, (.sa (.one (SC.ptr 0 0 0)))), (1, (.sa (.one (iv .i64 t)))), (5, (.sa (.one (SC.ptr 2 0 0)))), (11, (.sa (.one (bv (holB L c n))))), (12, (.sa (.one (SC.ref 3)))), (13, (.sa (.one (iv .i64 0))))]) [rfO true ck, rfR true (L).length (qT (L)) (qC (L)) (qN (L)) (qS (L)), obj 38 2 [iv .u8 c, iv .i64 n], some (.own true .row 38 2 (.tab (holN L t ck) [.ints .u8 (holC L t ck), .ints .i64 (holY L t ck)]))] (kBlock 0 (kSeq (ev cxRt ((holI L t ck).length + 9 + 53) 2 10 (codeAt Try.prog 10 [1, 1, 1, 1, 1, 1, 1])) (kRet (Cx.P cxRt) [(ResultVar.tmp 6), (ResultVar.tmp 7)] 2 k)))) := fun hno => by
          have hE : rtE L ck t c n = if (holI L t ck).any (fun l => decide (l.1 ≥ c)) = true then 2 else 0 := by
            unfold rtE
            rw [if_neg (by omega), if_neg]
            rintro (h | h)
            · rw [h5] at h; cases h
            · exact hno h
          rw [show (holI L t ck).length + 9 + 51 = (holI L t ck).length + 0 + 60 by omega, show (holI L t ck).length + 9 + 53 = ((holI L t ck).length + 4) + 58 by omega]
          refine rt_loop L ck t c n (holB L c n) hm k _ 0 (holI L t ck) hh (fun h => hF 2 (by rw [hE, if_pos h]) (by decide)) (fun h => ?_) (holI L t ck) [] rfl rfl
          have h0 : rtE L ck t c n = 0 := by rw [hE, if_neg (by rw [h]; simp)]
          rcases branch_iff.1 hk with ⟨hb, hk⟩ | ⟨hb, hk⟩
          · have a1 : rtB L ck t c n = !holB L c n := by unfold rtB; rw [decide_eq_true h0]; rfl
            have a2 : rtK L ck t c n = if holB L c n = true then ck else addK .i64 ck 1 := by
              unfold rtK; rw [a1, add64 (by omega)]; cases holB L c n <;> rfl
            have a3 : rtL L ck t c n = L ++ [⟨t, c, n, if holB L c n = true then 0 else addK .i64 ck 1⟩] := by
              unfold rtL; rw [if_pos h0, add64 (by omega)]
            rw [a1, a2, a3, qT_app, qC_app, qN_app, qS_app, show lenC (L ++ [⟨t, c, n, if holB L c n = true then 0 else addK .i64 ck 1⟩]) = L.length + 1 by simp [lenC]] at hk
            exact hk
          · exact (of_decide_eq_false hb h0).elim
        refine br (fun h6 => br (fun h => ?_) (fun h7 => ?_)) (fun h6 => ?_)
        · rw [eqK_t] at h
          exact hF 6 (by unfold rtE; rw [if_neg (by omega), if_pos (Or.inr ⟨h6, h⟩)]) (by decide)
        · rw [eqK_f] at h7
          exact nd h1' (go (fun hh => h7 hh.2))
        · exact nd h1' (go (fun hh => by rw [h6] at hh; cases hh.1))
    · exact h.elim
theorem fitL_take' {α : Type} (d : α) : ∀ {n : Nat} {l : List α}, n ≤ l.length → fitL d n l = l.take n
  | 0, l, _ => by cases l <;> simp [fitL]
  | n + 1, x :: r, h => by rw [fitL, fitL_take' d (by simpa using h)]; rfl
theorem setT {L : List Cm} {i : Int} {s : Int} : (qT L).set i.toNat ((qT L).getD i.toNat 0) = qT (setI L i s) := by
  rw [qT_at]; unfold qT setI; rw [List.map_set]
theorem qC_at {L : List Cm} {i : Int} : (qC L).getD i.toNat 0 = (atI L i).c := by
  unfold qC atI
  by_cases h : i.toNat < L.length
  · simp [List.getD_eq_getElem?_getD, List.getElem?_eq_getElem h]
  · simp [List.getD_eq_getElem?_getD, List.getElem?_eq_none (show L.length ≤ i.toNat by omega)]
theorem qN_at {L : List Cm} {i : Int} : (qN L).getD i.toNat 0 = (atI L i).n := by
  unfold qN atI
  by_cases h : i.toNat < L.length
  · simp [List.getD_eq_getElem?_getD, List.getElem?_eq_getElem h]
  · simp [List.getD_eq_getElem?_getD, List.getElem?_eq_none (show L.length ≤ i.toNat by omega)]
theorem setC {L : List Cm} {i : Int} {s : Int} : (qC L).set i.toNat ((qC L).getD i.toNat 0) = qC (setI L i s) := by
  rw [qC_at]; unfold qC setI; rw [List.map_set]
theorem setN {L : List Cm} {i : Int} {s : Int} : (qN L).set i.toNat ((qN L).getD i.toNat 0) = qN (setI L i s) := by
  rw [qN_at]; unfold qN setI; rw [List.map_set]
theorem setS {L : List Cm} {i : Int} {s : Int} : (qS L).set i.toNat s = qS (setI L i s) := by
  unfold qS setI; rw [List.map_set]
theorem rg_end (L L2 : List Cm) (ck c n : Int) (hm : L2.length ≤ 1000000) (hc : 0 ≤ ck ∧ ck ≤ 1000000) (k : SV → St → Prop) (M q : Nat)
    (hk : k (.sa (.one (iv .i64 0))) [rfO2 (if firstI L2 c n < 0 then ck else ck + 1), rfR true (L).length (qT (L)) (qC (L)) (qN (L)) (qS (L)), rfR true (lenC (rgN L2 ck c n)) (qT (rgN L2 ck c n)) (qC (rgN L2 ck c n)) (qN (rgN L2 ck c n)) (qS (rgN L2 ck c n))]) :
    ev cxRt (q + 60) 2 13 (codeAt Try.prog 13 [1, 1, 1, 1, 0]) (frm 67 [(0, (.sa (.one (SC.ptr 0 0 0)))), (5, (.sa (.one (SC.ptr 2 0 0))))]) [obj 29 2 [SC.ref 3, iv .i64 ck], rfR true (L).length (qT (L)) (qC (L)) (qN (L)) (qS (L)), obj 38 2 [iv .u8 c, iv .i64 n], rfR true (L2).length (qT (L2)) (qC (L2)) (qN (L2)) (qS (L2))] (kSeq (ev cxRt (M + 55) 2 13 (codeAt Try.prog 13 [1, 1, 1, 1, 1])) (kRet (Cx.P cxRt) [(ResultVar.tmp 6)] 2 k)) := by
  rw [t_lq3, zip_q]
  have hr := firstI_range L2 c n
  refine Again.mk (nd (even_q hm) (br (fun h => ?_) (fun h => ?_)))
  · have h := of_decide_eq_true h
    rw [fT, fC, fN, fS, Nat.zero_add, add64 (by omega), setT (s := ck + 1), setC (s := ck + 1), setN (s := ck + 1), setS]
    rw [if_neg (by omega)] at hk
    have : rgN L2 ck c n = setI L2 (firstI L2 c n) (ck + 1) := by unfold rgN; rw [if_neg (by omega)]
    rw [this, show lenC (setI L2 (firstI L2 c n) (ck + 1)) = L2.length by simp [lenC, setI]] at hk
    exact ndd (by omega) (ndd (by omega) (ndd (by omega) hk))
  · have h := of_decide_eq_false h
    rw [if_pos (by omega)] at hk
    have : rgN L2 ck c n = L2 := by unfold rgN; rw [if_pos (by omega)]
    rw [this] at hk
    exact hk
theorem rg_sum : SumOk Try.prog 13 sRg := by
  refine sumOk_of cxRt_ok ?_ ?_
  · intro args st k h
    unfold sRg at h ⊢
    split at h
    · exact (Lin.need (Lin.branch (Lin.ret _ _) (Lin.ret _ _))) k h
    · exact h.elim
  · intro args st k h
    unfold sRg at h
    split at h
    · rename_i t c n ck m ts cs ns ss
      obtain ⟨h1, hk⟩ := need_iff.1 h
      obtain ⟨he, hc⟩ := Bool.and_eq_true_iff.1 h1
      have hc := of_decide_eq_true hc
      obtain ⟨L, rfl, rfl, rfl, rfl, rfl, hm⟩ := even_ex he
      rw [zip_q] at hk
      refine ⟨20 + 60, ?_⟩
      show evCall cxRt (ev cxRt (20 + 60)) 13 [.one (.ptr 0 0 0), .one (.raw (.int .i64 t)), .agg [.raw (.int .u8 c), .raw (.int .i64 n)]] [rfO true ck, rfR true (L).length (qT (L)) (qC (L)) (qN (L)) (qS (L))] k
      rw [t_lq2, zip_q]
      have hr := firstI_range L c n
      have hF : ¬ (holB L c n = true ∧ holV L c n = t) → k (.sa (.one (iv .i64 4))) [rfO true ck, rfR true (L).length (qT (L)) (qC (L)) (qN (L)) (qS (L))] := by
        intro h0
        rcases branch_iff.1 hk with ⟨hb, hk⟩ | ⟨hb, hk⟩
        · have := of_decide_eq_true hb
          unfold rgE at this; rw [if_neg h0] at this; cases this
        · exact hk
      refine nd he (br (fun h => ?_) (fun h => ?_))
      · have h := of_decide_eq_true h
        exact hF (fun hh => by unfold holB at hh; exact of_decide_eq_true hh.1 h)
      · have h := of_decide_eq_false h
        refine ndd (by omega) (ndd (by omega) (ndd (by omega) (br (fun h2 => ?_) (fun h2 => ?_))))
        · rw [Bool.not_eq_true', eqK_f, Nat.zero_add, qT_at] at h2
          refine hF (fun hh => h2 ?_)
          have := hh.2
          unfold holV at this; rw [if_neg h] at this; exact this
        · rw [Bool.not_eq_false', eqK_t, Nat.zero_add, qT_at] at h2
          have h0 : rgE L t c n = 0 := by
            unfold rgE holB holV; rw [if_neg h, if_pos ⟨decide_eq_true h, h2⟩]
          generalize hi : firstI L c n = i at *
          have hk : ∀ M q, ev cxRt (q + 60) 2 13 (codeAt Try.prog 13 [1, 1, 1, 1, 0]) (frm 67 [(0, (.sa (.one (SC.ptr 0 0 0)))), (5, (.sa (.one (SC.ptr 2 0 0))))]) [obj 29 2 [SC.ref 3, iv .i64 ck], rfR true (L).length (qT (L)) (qC (L)) (qN (L)) (qS (L)), obj 38 2 [iv .u8 c, iv .i64 n], rfR true (delI L i).length (qT (delI L i)) (qC (delI L i)) (qN (delI L i)) (qS (delI L i))] (kSeq (ev cxRt (M + 55) 2 13 (codeAt Try.prog 13 [1, 1, 1, 1, 1])) (kRet (Cx.P cxRt) [(ResultVar.tmp 6)] 2 k)) := by
            intro M q
            refine rg_end L (delI L i) ck c n (by simp only [delI, List.length_append, List.length_take, List.length_drop]; omega) ⟨by omega, by omega⟩ k M q ?_
            rcases branch_iff.1 hk with ⟨hb, hk⟩ | ⟨hb, hk⟩
            · have a1 : rgL L ck t c n = rgN (delI L i) ck c n := by unfold rgL; rw [if_pos h0, hi]
              have a2 : rgK L ck t c n = if firstI (delI L i) c n < 0 then ck else ck + 1 := by
                unfold rgK; rw [hi]
                by_cases hz : firstI (delI L i) c n < 0
                · rw [if_pos hz, if_neg (fun hh => hh.2 hz)]
                · rw [if_neg hz, if_pos ⟨h0, hz⟩]
              rw [a1, a2] at hk
              exact hk
            · exact (of_decide_eq_false hb h0).elim
          have ea : addK .i64 i 1 = i + 1 := add64 (by omega)
          have et : (i + 1).toNat = i.toNat + 1 := by omega
          rw [ea, et]
          have cut := hk 20 15
          have dl : delI L i = L.take i.toNat ++ L.drop (i.toNat + 1) := rfl
          refine ndd (by omega) (ndd (by omega) (ndd (by omega) (ndd (by omega) (br (fun h3 => ?_) (fun h3 => ?_)))))
          · have h3 := of_decide_eq_true h3
            have i0 : i.toNat = 0 := by omega
            rw [i0, List.take_zero, List.nil_append] at dl
            refine ndd (by omega) (ndd (by omega) (ndd (by omega) (ndd (by omega) (ndd (by omega) (ndd (by omega) (br (fun h4 => ?_) (fun h4 => ?_)))))))
            · have h4 := of_decide_eq_true h4
              have : delI L i = [] := by rw [dl]; exact List.drop_eq_nil_of_le (by omega)
              rw [this] at cut
              exact ndd (by omega) cut
            · rw [dl] at cut
              rw [i0, show 0 + (0 + 1) = 0 + 1 from rfl]
              have c1 : (L.drop (0 + 1)).length = L.length - (0 + 1) := by simp
              have c2 : qT (L.drop (0 + 1)) = (qT L).drop (0 + 1) := by simp [qT, List.map_drop]
              have c3 : qC (L.drop (0 + 1)) = (qC L).drop (0 + 1) := by simp [qC, List.map_drop]
              have c4 : qN (L.drop (0 + 1)) = (qN L).drop (0 + 1) := by simp [qN, List.map_drop]
              have c5 : qS (L.drop (0 + 1)) = (qS L).drop (0 + 1) := by simp [qS, List.map_drop]
              rw [c1, c2, c3, c4, c5] at cut
              exact ndd (by omega) cut
          · refine ndd (by omega) (ndd (by omega) (ndd (by omega) (ndd (by omega) (ndd (by omega) (ndd (by omega) (ndd (by omega) ?_))))))
            rw [Nat.sub_zero, Nat.zero_add]
            have lt : i.toNat ≤ L.length := by omega
            have ft : ∀ f : Cm → Int, fitL 0 i.toNat (L.map f) ++ fitL 0 (L.length - (i.toNat + 1)) ((L.map f).drop (i.toNat + 1)) = (L.take i.toNat ++ L.drop (i.toNat + 1)).map f := by
              intro f
              rw [fitL_same 0 (L.length - (i.toNat + 1)) _ (by simp), List.map_append, List.map_drop, List.map_take]
              congr 1
              exact fitL_take' 0 (by simp; omega)
            have c1 : (delI L i).length = i.toNat + (L.length - (i.toNat + 1)) := by rw [dl]; simp; omega
            rw [c1, dl] at cut
            unfold qT qC qN qS at cut ⊢
            rw [ft, ft, ft, ft]
            exact cut
    · exact h.elim
end Go.Ev
