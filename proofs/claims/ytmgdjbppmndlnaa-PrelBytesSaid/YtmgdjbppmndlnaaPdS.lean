/- What bytes tell: the program's Take and the document's. No conditions. -/
import Derived.Test.YtmgdjbppmndlnaaPcU
import Derived.Test.YtmgdjbppmndlnaaPuS
import Derived.Test.YtmgdjbppmndlnaaPdT0
import Derived.Test.YtmgdjbppmndlnaaPdT1
set_option linter.unusedVariables false
namespace Go.Spec
open Go Go.Ev
theorem parse_by : ∀ (f : Nat) (ys : List Int), (∀ x ∈ ys, 0 ≤ x ∧ x ≤ 255) → ∀ t ∈ (parse f ys).1, (∀ x ∈ t.2.2, 0 ≤ x ∧ x ≤ 255) ∧ t.2.2.length ≤ ys.length
  | 0, ys, h, t, ht => by simp [parse] at ht
  | f + 1, ys, h, t, ht => by
    unfold parse at ht
    split at ht
    · cases ht
    · split at ht
      · rcases List.mem_cons.1 ht with e | e
        · subst e
          refine ⟨fun x hx => h x ?_, ?_⟩
          · exact List.mem_of_mem_take (List.mem_of_mem_drop hx)
          · show (valT ys).length ≤ ys.length
            unfold valT
            rw [List.length_drop, List.length_take]; omega
        · obtain ⟨h1, h2⟩ := parse_by f _ (by_drop h _) t e
          refine ⟨h1, ?_⟩
          rw [List.length_drop] at h2
          omega
      · cases ht
theorem val_by {xs : List Int} (h : ∀ x ∈ xs, 0 ≤ x ∧ x ≤ 255) : (∀ x ∈ valB xs, 0 ≤ x ∧ x ≤ 255) ∧ (valB xs).length ≤ xs.length := by
  unfold valB
  by_cases h0 : 0 < (valsB xs).length
  · rw [List.getD_eq_getElem?_getD, List.getElem?_eq_getElem h0, Option.getD_some]
    have hm := List.getElem_mem h0
    obtain ⟨t, ht, e⟩ := List.mem_map.1 hm
    rw [← e]
    exact parse_by _ _ h t ht
  · have : valsB xs = [] := List.eq_nil_of_length_eq_zero (by omega)
    rw [this]
    exact ⟨fun x hx => (by cases hx), Nat.zero_le _⟩
theorem chS_len : ∀ (n : Nat) (ys : List Int), (chS n ys).length = n
  | 0, _ => rfl
  | n + 1, ys => by rw [chS, List.length_cons, chS_len n]
theorem chQ_len : ∀ (n : Nat) (ys : List Int), (chQ n ys).length = n
  | 0, _ => rfl
  | n + 1, ys => by rw [chQ, List.length_cons, chQ_len n]
theorem drop_at (xs : List Int) (a i : Nat) : (xs.drop a).getD i 0 = xs.getD (a + i) 0 := by
  rw [List.getD_eq_getElem?_getD, List.getD_eq_getElem?_getD, List.getElem?_drop]
end Go.Spec
namespace Go.Ev
open Go Go.Proofs Go.Spec
attribute [local irreducible] ev evCall branch need again
theorem cxPt_ok : CxOk Try.prog cxPt := mkCx_ok namesPb mixedPb (by
  intro x h
  simp only [List.mem_cons, List.not_mem_nil, or_false] at h
  rcases h with rfl | rfl
  · exact list_sum
  · exact rises_sum)
theorem cxRt_ok : CxOk Try.prog cxRt := mkCx_ok namesPb mixedPb (by
  intro x h
  simp only [List.mem_cons, List.not_mem_nil, or_false] at h
  rcases h with rfl | rfl
  · exact all_sum
  · exact risR_sum)
theorem pt_loop (xs S Q : List Int) (pt : Int) (M : Nat) (k : SV → St → Prop) (hS : S.length ≤ 100000)
    (hT : risB S = true → k (.tup [.agg [iv .u32 pt, .ref 1], .one (iv .i64 0)]) [rdB false .ext 0 xs, skO true .row 31 S.length S Q])
    (hF : risB S = false → k (.tup [.agg [iv .u32 0, nilC], .one (iv .i64 2)]) [rdB false .ext 0 xs]) :
    ∀ (rem n : Nat) (ys ss qs : List Int), ys.length = 4 * rem → (∀ x ∈ ys, 0 ≤ x ∧ x ≤ 255) → ss.length = n → qs.length = n → ss ++ chS rem ys = S → qs ++ chQ rem ys = Q →
      ev cxPt (rem + 52) 1 8 (codeAt Try.prog 8 [1, 1, 1, 1, 1, 0, 1, 0]) (frm 118 [(2, (.sa (.one (SC.ptr 1 0 0)))), (6, (.sa (.one (SC.ref 2)))), (7, (.sa (.one (SC.ptr 3 0 0))))]) [rdB false .ext 0 xs, obj 25 2 [iv .u32 0, nilC], rdB false .ext 0 ys, obj 25 2 [iv .u32 pt, .ref 4], skO true .row 31 n ss qs] (kBlock 0 (kSeq (ev cxPt (M + 54) 1 8 (codeAt Try.prog 8 [1, 1, 1, 1, 1, 1])) (kRet (Cx.P cxPt) [(ResultVar.cell 2 25), (ResultVar.tmp 3)] 1 k))) := by
  intro rem
  induction rem with
  | zero =>
    intro n ys ss qs h1 h2 h3 h4 h5 h6
    refine Eq.mpr (t_pt1 xs ys ss qs pt n 0 M k) ?_
    rw [chS, List.append_nil] at h5
    rw [chQ, List.append_nil] at h6
    subst h5
    subst h6
    subst h3
    exact Again.mk (brf (by omega) (ndd ⟨rfl, by omega⟩ (brN hT hF)))
  | succ rem ih =>
    intro n ys ss qs h1 h2 h3 h4 h5 h6
    have hn : n + (rem + 1) = S.length := by rw [← h5, List.length_append, chS_len, h3]
    refine Eq.mpr (t_pt1 xs ys ss qs pt n (rem + 1) M k) ?_
    rw [or16 (by_getD h2 0) (by_getD h2 1), or16 (by_getD h2 2) (by_getD h2 3), fitL_same (0 : Int) n ss h3, fitL_same (0 : Int) n qs h4, List.take_of_length_le (by rw [List.length_drop]; omega)]
    refine Again.mk (brt (by omega) ?_)
    iterate 13 refine ndd (by omega) ?_
    refine evFuelP (ih (n + 1) (ys.drop 4) (ss ++ [256 * ys.getD 0 0 + ys.getD 1 0]) (qs ++ [256 * ys.getD 2 0 + ys.getD 3 0]) (by rw [List.length_drop]; omega) (by_drop h2 4) (by rw [List.length_append]; simp [h3]) (by rw [List.length_append]; simp [h4]) ?_ ?_) (by omega)
    · rw [List.append_assoc, ← h5]; rfl
    · rw [List.append_assoc, ← h6]; rfl
theorem sPt_lin (args : List SA) (st : St) : Lin (sPt args st) := by
  intro k h
  unfold sPt at h ⊢
  split at h
  · exact (Lin.need (Lin.branch (Lin.ret _ _) (Lin.ret _ _))) k h
  · exact h.elim
theorem okT_of (xs : List Int) : okT xs = (endsB xs && decide (cntB xs = 1 ∧ (kindsB xs).getD 0 0 = 192 ∧ (flagsB xs).getD 0 0 = 0 ∧ 4 ≤ (valB xs).length ∧ (valB xs).length % 4 = 0) && risB (ssT xs)) := rfl
theorem okT_no1 {xs : List Int} (h : endsB xs = false) : okT xs = false := by rw [okT_of, h]; rfl
theorem okT_no2 {xs : List Int} (h : ¬ (cntB xs = 1 ∧ (kindsB xs).getD 0 0 = 192 ∧ (flagsB xs).getD 0 0 = 0 ∧ 4 ≤ (valB xs).length ∧ (valB xs).length % 4 = 0)) : okT xs = false := by rw [okT_of, decide_eq_false h, Bool.and_false, Bool.false_and]
theorem okT_yes {xs : List Int} (h1 : endsB xs = true) (h : cntB xs = 1 ∧ (kindsB xs).getD 0 0 = 192 ∧ (flagsB xs).getD 0 0 = 0 ∧ 4 ≤ (valB xs).length ∧ (valB xs).length % 4 = 0) : okT xs = risB (ssT xs) := by rw [okT_of, h1, decide_eq_true h]; rfl
theorem take_sum : SumOk Try.prog 8 sPt := by
  refine sumOk_of cxPt_ok sPt_lin fun args st k h => ?_
  unfold sPt at h
  split at h
  · rename_i xs
    obtain ⟨h1, hK⟩ := need_iff.1 h
    obtain ⟨hx, h8⟩ := byB_of h1
    obtain ⟨hT, hF⟩ := br_pick hK
    obtain ⟨v1, v2⟩ := val_by h8
    refine ⟨nT xs + 60, ?_⟩
    refine Eq.mpr (t_pt xs (nT xs) k) ?_
    rw [show List.getD (valsB xs) 0 [] = valB xs from rfl]
    refine nd h1 (br (fun e => ?_) (fun e => hF (okT_no1 e)))
    refine br (fun e2 => hF (okT_no2 ?_)) (fun _ => ?_)
    · have : xs = [] := List.eq_nil_of_length_eq_zero (of_decide_eq_true e2)
      subst this
      intro c
      exact absurd c.1 (by decide)
    refine brN (fun c1 => ?_) (fun c1 => hF (okT_no2 (fun c => eqK_f.1 c1 (by omega))))
    have c1 := eqK_t.1 c1
    iterate 2 refine ndd (by omega) ?_
    refine brN (fun c2 => ?_) (fun c2 => hF (okT_no2 (fun c => eqK_f.1 c2 (by omega))))
    have c2 := eqK_t.1 c2
    iterate 2 refine ndd (by omega) ?_
    refine brN (fun c3 => ?_) (fun c3 => hF (okT_no2 (fun c => eqK_f.1 c3 (by omega))))
    have c3 := eqK_t.1 c3
    iterate 2 refine ndd (by omega) ?_
    refine brd (fun c4 => hF (okT_no2 (fun c => by omega))) (fun c4 => ?_)
    iterate 2 refine ndd (by omega) ?_
    rw [rem4]
    refine brN (fun c5 => ?_) (fun c5 => hF (okT_no2 (fun c => eqK_f.1 c5 (by omega))))
    have c5 := eqK_t.1 c5
    have ok := okT_yes e ⟨by omega, c2, c3, by omega, by omega⟩
    iterate 14 refine ndd (by omega) ?_
    rw [or32 (by_getD v1 0) (by_getD v1 1) (by_getD v1 2) (by_getD v1 3), List.take_of_length_le (by rw [List.length_drop]; omega)]
    have hdl : ((valB xs).drop 4).length = (valB xs).length - 4 := List.length_drop
    have hnn : nT xs = ((valB xs).drop 4).length / 4 := rfl
    have hsl : (ssT xs).length = nT xs := chS_len _ _
    exact pt_loop xs (ssT xs) (qsT xs) _ (nT xs) k (by omega) (fun r => by rw [hsl]; exact hT (by rw [ok]; exact r)) (fun r => hF (by rw [ok]; exact r)) (nT xs) 0 ((valB xs).drop 4) [] [] (by omega) (by_drop v1 4) rfl rfl rfl rfl
  · exact h.elim
theorem rt_loop (xs v S Q : List Int) (pt : Int) (M : Nat) (k : SV → St → Prop) (hv : ∀ x ∈ v, 0 ≤ x ∧ x ≤ 255) (hl : v.length ≤ 100000) (hS : S.length ≤ 100000) (hQ : Q.length ≤ 100000)
    (hT : risB S = true → k (.tup [.one (iv .u32 pt), .one (.ref 1), .one (.ref 2), .one (bv true)]) [rdB false .ext 0 xs, rd16 true .row 29 S, rd16 true .row 29 Q])
    (hF : risB S = false → k (.tup [.one (iv .u32 0), .one nilC, .one nilC, .one (bv false)]) [rdB false .ext 0 xs]) :
    ∀ (rem a : Nat) (ss qs : List Int), a + 4 * rem = v.length → ss ++ chS rem (v.drop a) = S → qs ++ chQ rem (v.drop a) = Q →
      ev cxRt (rem + 50) 1 9 (codeAt Try.prog 9 [1, 1, 1, 1, 1, 1, 1, 0, 1, 0]) (frm 118 [(8, (.sa (.one (SC.ref 1)))), (9, (.sa (.one (iv .u32 pt)))), (11, (.sa (.one (SC.ref 2)))), (12, (.sa (.one (SC.ref 3)))), (13, (.sa (.one (iv .i64 ((a : Nat) : Int)))))]) [rdB false .ext 0 xs, rdB false .ext 0 v, rd16 true .row 29 ss, rd16 true .row 29 qs] (kBlock 2 (kSeq (ev cxRt (M + 52) 1 9 (codeAt Try.prog 9 [1, 1, 1, 1, 1, 1, 1, 1])) (kRet (Cx.P cxRt) [(ResultVar.tmp 2), (ResultVar.tmp 3), (ResultVar.tmp 4), (ResultVar.tmp 5)] 1 k))) := by
  intro rem
  induction rem with
  | zero =>
    intro a ss qs h1 h5 h6
    refine Eq.mpr (t_rt1 xs v ss qs pt ((a : Nat) : Int) 0 M k) ?_
    rw [chS, List.append_nil] at h5
    rw [chQ, List.append_nil] at h6
    subst h5
    subst h6
    exact Again.mk (brf (by omega) (ndd (by omega) (brN hT hF)))
  | succ rem ih =>
    intro a ss qs h1 h5 h6
    have hn : ss.length + (rem + 1) = S.length := by rw [← h5, List.length_append, chS_len]
    have hn2 : qs.length + (rem + 1) = Q.length := by rw [← h6, List.length_append, chQ_len]
    refine Eq.mpr (t_rt1 xs v ss qs pt ((a : Nat) : Int) (rem + 1) M k) ?_
    have e1 : addK .i64 ((a : Nat) : Int) 1 = ((a + 1 : Nat) : Int) := by rw [add64 (by omega)]; omega
    have e2 : addK .i64 ((a : Nat) : Int) 2 = ((a + 2 : Nat) : Int) := by rw [add64 (by omega)]; omega
    have e3 : addK .i64 ((a : Nat) : Int) 3 = ((a + 3 : Nat) : Int) := by rw [add64 (by omega)]; omega
    have e4 : addK .i64 ((a : Nat) : Int) 4 = ((a + 4 : Nat) : Int) := by rw [add64 (by omega)]; omega
    rw [e1, e2, e3, e4]
    simp only [toN]
    rw [add16 (by_getD hv a) (by_getD hv (a + 1)), add16 (by_getD hv (a + 2)) (by_getD hv (a + 3))]
    refine Again.mk (brt (by omega) ?_)
    iterate 14 refine ndd (by omega) ?_
    refine evFuelP (ih (a + 4) (ss ++ [256 * v.getD a 0 + v.getD (a + 1) 0]) (qs ++ [256 * v.getD (a + 2) 0 + v.getD (a + 3) 0]) (by omega) ?_ ?_) (by omega)
    · rw [List.append_assoc, ← h5, chS, List.drop_drop, drop_at, drop_at]; rfl
    · rw [List.append_assoc, ← h6, chQ, List.drop_drop, drop_at, drop_at]; rfl
theorem sRt_lin (args : List SA) (st : St) : Lin (sRt args st) := by
  intro k h
  unfold sRt at h ⊢
  split at h
  · exact (Lin.need (Lin.branch (Lin.ret _ _) (Lin.ret _ _))) k h
  · exact h.elim
theorem takeR_sum : SumOk Try.prog 9 sRt := by
  refine sumOk_of cxRt_ok sRt_lin fun args st k h => ?_
  unfold sRt at h
  split at h
  · rename_i xs
    obtain ⟨h1, hK⟩ := need_iff.1 h
    obtain ⟨hx, h8⟩ := byB_of h1
    obtain ⟨hT, hF⟩ := br_pick hK
    obtain ⟨v1, v2⟩ := val_by h8
    refine ⟨nT xs + 60, ?_⟩
    refine Eq.mpr (t_rt xs (nT xs) k) ?_
    rw [show List.getD (valsB xs) 0 [] = valB xs from rfl]
    refine nd h1 (brN (fun e => ?_) (fun e => hF (okT_no1 e)))
    refine brN (fun c1 => ?_) (fun c1 => hF (okT_no2 (fun c => eqK_f.1 c1 (by omega))))
    have c1 := eqK_t.1 c1
    iterate 2 refine ndd (by omega) ?_
    refine brN (fun c2 => ?_) (fun c2 => hF (okT_no2 (fun c => eqK_f.1 c2 (by omega))))
    have c2 := eqK_t.1 c2
    iterate 2 refine ndd (by omega) ?_
    refine brN (fun c3 => ?_) (fun c3 => hF (okT_no2 (fun c => eqK_f.1 c3 (by omega))))
    have c3 := eqK_t.1 c3
    iterate 2 refine ndd (by omega) ?_
    refine brd (fun c4 => hF (okT_no2 (fun c => by omega))) (fun c4 => ?_)
    iterate 2 refine ndd (by omega) ?_
    rw [rem4]
    refine brN (fun c5 => ?_) (fun c5 => hF (okT_no2 (fun c => eqK_f.1 c5 (by omega))))
    have c5 := eqK_t.1 c5
    have ok := okT_yes e ⟨by omega, c2, c3, by omega, by omega⟩
    iterate 10 refine ndd (by omega) ?_
    rw [add32 (by_getD v1 0) (by_getD v1 1) (by_getD v1 2) (by_getD v1 3)]
    have hdl : ((valB xs).drop 4).length = (valB xs).length - 4 := List.length_drop
    have hnn : nT xs = ((valB xs).drop 4).length / 4 := rfl
    have hsl : (ssT xs).length = nT xs := chS_len _ _
    have hql : (qsT xs).length = nT xs := chQ_len _ _
    exact rt_loop xs (valB xs) (ssT xs) (qsT xs) _ (nT xs) k v1 (by omega) (by omega) (by omega) (fun r => hT (by rw [ok]; exact r)) (fun r => hF (by rw [ok]; exact r)) (nT xs) 4 [] [] (by omega) rfl rfl
  · exact h.elim
end Go.Ev
