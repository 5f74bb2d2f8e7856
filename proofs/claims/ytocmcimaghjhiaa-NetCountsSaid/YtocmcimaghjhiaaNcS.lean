/- More methods of a net, the name of a datagram, what is too heavy: what they do. No conditions. -/
import Derived.Test.YtocmcimaghjhiaaNcT0
import Derived.Test.YtocmcimaghjhiaaNcT1
import Derived.Test.YtocmcimaghjhiaaNtS
set_option linter.unusedVariables false
namespace Go.Ev
open Go Go.Proofs Go.Spec
attribute [local irreducible] ev evCall branch need again
theorem cxPk_ok : CxOk Try.prog cxPk := mkCx_ok namesN mixedN (by
  intro x h
  simp only [List.mem_cons, List.not_mem_nil, or_false] at h
  rcases h with rfl | rfl
  · exact place_sum
  · exact clone8_sum)
theorem cxHv_ok : CxOk Try.prog cxHv := mkCx_ok namesN mixedN (by simp)
theorem sPeek_lin (args : List SA) (st : St) : Lin (sPeek args st) := by
  intro k h
  unfold sPeek at h ⊢
  split at h
  · exact (Lin.need (Lin.branch (Lin.ret _ _) (Lin.ret _ _))) k h
  · exact h.elim
theorem sTwice_lin (args : List SA) (st : St) : Lin (sTwice args st) := by
  intro k h
  unfold sTwice at h ⊢
  split at h
  · exact (Lin.need (Lin.branch (Lin.ret _ _) (Lin.branch (Lin.ret _ _) (Lin.ret _ _)))) k h
  · exact h.elim
theorem sName_lin (args : List SA) (st : St) : Lin (sName args st) := by
  intro k h
  unfold sName at h ⊢
  split at h
  · exact (Lin.need (Lin.ret _ _)) k h
  · exact h.elim
theorem sHeavy_lin (args : List SA) (st : St) : Lin (sHeavy args st) := by
  intro k h
  unfold sHeavy at h ⊢
  split at h
  · exact (Lin.need (Lin.ret _ _)) k h
  · exact h.elim
theorem lenOk_at {bs : List (List Int)} (h : lenOk bs = true) (i : Nat) : (bs.getD i []).length ≤ 140737488355328 := by
  by_cases hi : i < bs.length
  · rw [List.getD_eq_getElem?_getD, List.getElem?_eq_getElem hi]
    exact of_decide_eq_true (List.all_eq_true.1 h _ (List.getElem_mem hi))
  · rw [List.getD_eq_getElem?_getD, List.getElem?_eq_none (by omega)]; simp
theorem takeAll (l : List Int) : l.take l.length = l := List.take_of_length_le (Nat.le_refl _)
theorem peek_sum : SumOk Try.prog 10 sPeek := by
  refine sumOk_of cxPk_ok sPeek_lin fun args st k h => ?_
  unfold sPeek at h
  split at h
  · rename_i i most n fs ts bs us
    obtain ⟨h1, h⟩ := need_iff.1 h
    obtain ⟨h1, h2⟩ := Bool.and_eq_true_iff.1 h1
    obtain ⟨hb, h2⟩ := Bool.and_eq_true_iff.1 h2
    obtain ⟨l1, l2, l3, l4, l5⟩ := netOk_iff.1 h1
    refine ⟨80, ?_⟩
    have hd := t_peek i most n fs ts us bs k
    unfold netT netO obj iv at hd
    unfold iv at h
    rw [hd]
    rcases branch_or h with ⟨e, h⟩ | ⟨e, h⟩
    · have e := of_decide_eq_true e
      subst e
      exact bret rfl h
    · have e := of_decide_eq_false e
      obtain ⟨p1, p2⟩ := placeK_in i (n := n) (by omega) l5
      have hp : 0 + (placeK i (n : Int)).toNat = placeN i n := by rw [Nat.zero_add]; rfl
      have hc := lenOk_at hb (placeN i n)
      refine bref (by omega) (ndd (by omega) (ndd p1 (ndd p2 (ndd (by omega) ?_))))
      rw [hp]
      simp only [takeAll]
      exact ndd (by omega) (ndd (by omega) h)
  · exact h.elim
theorem twice_sum : SumOk Try.prog 14 sTwice := by
  refine sumOk_of cxPk_ok sTwice_lin fun args st k h => ?_
  unfold sTwice at h
  split at h
  · rename_i i most n fs ts bs us
    obtain ⟨h1, h⟩ := need_iff.1 h
    obtain ⟨h1, h2⟩ := Bool.and_eq_true_iff.1 h1
    obtain ⟨hb, h2⟩ := Bool.and_eq_true_iff.1 h2
    obtain ⟨l1, l2, l3, l4, l5⟩ := netOk_iff.1 h1
    refine ⟨80, ?_⟩
    have hd := t_twice i most n fs ts us bs k
    unfold netT netO obj iv at hd
    unfold iv at h
    rw [hd]
    rcases branch_or h with ⟨e, h⟩ | ⟨e, h⟩
    · have e := of_decide_eq_true e
      subst e
      exact bret rfl h
    · have e := of_decide_eq_false e
      obtain ⟨p1, p2⟩ := placeK_in i (n := n) (by omega) l5
      have hp : 0 + (placeK i (n : Int)).toNat = placeN i n := by rw [Nat.zero_add]; rfl
      have hc := lenOk_at hb (placeN i n)
      refine bref (by omega) (ndd (by omega) (ndd p1 (ndd p2 (ndd (by omega) ?_))))
      rw [hp]
      rcases branch_or h with ⟨e2, h⟩ | ⟨e2, h⟩
      · exact br (fun _ => h) (fun e3 => by rw [e2] at e3; cases e3)
      · refine br (fun e3 => by rw [e2] at e3; cases e3) (fun _ => ?_)
        simp only [takeAll]
        rw [fitL_same _ _ _ l1, fitL_same _ _ _ l2, fitL_same _ _ _ l3, fitL_same _ _ _ l4]
        exact ndd (by omega) (ndd (by omega) (ndd (by omega) (ndd (by omega) h)))
  · exact h.elim
theorem strOf_size (l : List Int) : (strOf l).size = l.length := by simp [strOf, ByteArray.size]
theorem name_sum : SumOk Try.prog 9 sName := by
  refine sumOk_of cxPk_ok sName_lin fun args st k h => ?_
  unfold sName at h
  split at h
  · rename_i f t w kk T b
    obtain ⟨h1, h⟩ := need_iff.1 h
    have h1 := of_decide_eq_true h1
    refine ⟨80, ?_⟩
    have hd := t_name f t w kk T b k
    unfold iv at hd
    rw [hd, takeAll, strOf_size]
    exact ndd (by omega) (ndd (by omega) h)
  · exact h.elim
theorem drop_getDN {α : Type} {d : α} {xs : List α} {i : Nat} (h : i < xs.length) : xs.drop i = xs.getD i d :: xs.drop (i + 1) := by
  rw [List.drop_eq_getElem_cons h, List.getD_eq_getElem?_getD, List.getElem?_eq_getElem h]
  rfl
theorem hv_loop (n : Nat) (ks is bt fs ts us : List Int) (bs : List (List Int)) (c M : Nat) (k : SV → St → Prop) (hn : n ≤ 140737488355328) (hl : bs.length = n) (hb : lenOk bs = true)
    (hk : k (.sa (.one (bv (heavyB n bs)))) [doO n ks is bt fs ts bs us]) :
    ∀ (rem i a : Nat), i + rem = n → a ≤ 20000 → heavyL n (bs.drop i) a = heavyB n bs → ev cxHv (rem + c + 55) 1 7 (codeAt Try.prog 7 [1, 1, 0, 1, 0]) (frm 24 [(0, (.sa (.one (SC.ref 0)))), (3, (.sa (.one (iv .i64 (a : Int))))), (6, (.sa (.one (SC.ref 0)))), (7, (.sa (.one (iv .i64 ((n : Nat) : Int))))), (8, (.sa (.one (iv .i64 (i : Int)))))]) [doO n ks is bt fs ts bs us] (kBlock 0 (kSeq (ev cxHv (M + 57) 1 7 (codeAt Try.prog 7 [1, 1, 1])) (kRet (Cx.P cxHv) [(ResultVar.tmp 2)] 1 k))) := by
  intro rem
  induction rem with
  | zero =>
    intro i a h1 h2 h3
    have : i = n := by omega
    subst this
    rw [t_hvS]
    refine Again.mk (brf (by omega) ?_)
    rw [List.drop_of_length_le (by omega)] at h3
    unfold heavyL at h3
    rw [← h3] at hk
    have e : decide (((i : Nat) : Int) > 200) = decide (i > 200) := by
      by_cases h : i > 200
      · rw [decide_eq_true h, decide_eq_true (by omega)]
      · rw [decide_eq_false h, decide_eq_false (by omega)]
    rw [e]
    exact hk
  | succ rem ih =>
    intro i a h1 h2 h3
    rw [show rem + 1 + c + 55 = (rem + 1 + c) + 55 from rfl, t_hvS]
    have e1 : 0 + ((i : Nat) : Int).toNat = i := by omega
    rw [e1]
    have hx := lenOk_at hb i
    rw [drop_getDN (d := []) (by omega), heavyL] at h3
    generalize bs.getD i [] = x at hx h3 ⊢
    have e2 : addK .i64 (a : Int) ((x.length : Nat) : Int) = ((a + x.length : Nat) : Int) := by rw [add64 (by omega)]; omega
    have e3 : addK .i64 (i : Int) 1 = ((i + 1 : Nat) : Int) := by rw [add64 (by omega)]; omega
    rw [e2, e3]
    refine Again.mk (brt (by omega) (ndd (by omega) (ndd (by omega) (ndd (by omega) (brd (fun g => ?_) (fun g => ?_))))))
    · rw [decide_eq_true (by omega)] at h3
      dsimp only at h3
      rw [← h3] at hk
      exact hk
    · rw [decide_eq_false (by omega)] at h3
      exact evFuel (ih (i + 1) (a + x.length) (by omega) (by omega) h3) (by omega)
theorem heavy_sum : SumOk Try.prog 7 sHeavy := by
  refine sumOk_of cxHv_ok sHeavy_lin fun args st k h => ?_
  unfold sHeavy at h
  split at h
  · rename_i n ks is bt fs ts bs us
    obtain ⟨h1, hK⟩ := need_iff.1 h
    obtain ⟨h1, hb⟩ := Bool.and_eq_true_iff.1 h1
    obtain ⟨h1, h2⟩ := of_decide_eq_true h1
    refine ⟨n + 60, ?_⟩
    have := t_hv n ks is bt fs ts us bs n k
    unfold doO at this
    rw [this]
    exact hv_loop n ks is bt fs ts us bs 0 n k h1 h2 hb hK n 0 0 (by omega) (by omega) rfl
  · exact h.elim
theorem heavy_no {n : Nat} : ∀ {ds : List (List Int)} {a : Nat}, heavyL n ds a = false → n ≤ 200
  | [], a, h => by unfold heavyL at h; have := of_decide_eq_false h; omega
  | x :: r, a, h => by
    unfold heavyL at h
    split at h
    · cases h
    · exact heavy_no h
end Go.Ev
