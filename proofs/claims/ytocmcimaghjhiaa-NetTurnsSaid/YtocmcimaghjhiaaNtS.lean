/- The methods of a net: what they do. No conditions. -/
import Derived.Test.YtocmcimaghjhiaaNtT
import Derived.Test.YtocmcimaghjhiaaNtT2
import Derived.Test.YtocmcimaghjhiaaCl8S
import Derived.Test.YtocmcimaghjhiaaEvD
set_option linter.unusedVariables false
namespace Go.Ev
open Go Go.Proofs Go.Spec
attribute [local irreducible] ev evCall branch need again
theorem evFuel {c : Cx} {N N' m f : Nat} {co : Code} {fr : Fr} {st : St} {k : Exit → Fr → St → Prop} (h : ev c N m f co fr st k) (e : N = N') : ev c N' m f co fr st k := e ▸ h
theorem evFr {c : Cx} {N m f : Nat} {co : Code} {fr fr' : Fr} {st st' : St} {k : Exit → Fr → St → Prop} (h : ev c N m f co fr st k) (e1 : fr = fr') (e2 : st = st') : ev c N m f co fr' st' k := e1 ▸ e2 ▸ h
theorem kSt {k : SV → St → Prop} {v v' : SV} {s s' : St} (h : k v s) (e1 : v = v') (e2 : s = s') : k v' s' := e1 ▸ e2 ▸ h
theorem namesN : namesB Try.prog = true := by kernel_rfl
theorem mixedN : Try.prog.follows .mixedOrders = true := by kernel_rfl
theorem fit_take {α : Type} {d : α} : ∀ {n : Nat} {l : List α}, n ≤ l.length → fitL d n l = l.take n
  | 0, l, _ => by simp [fitL]
  | n + 1, [], h => by simp at h
  | n + 1, x :: r, h => by rw [fitL, fit_take (by simpa using h)]; rfl
theorem fit_front {α : Type} {d : α} {q : Nat} {A B C : List α} (h : A.length = q) : fitL d q (A ++ B ++ C) = A := by
  rw [fit_take (by simp [h]), List.append_assoc, List.take_left' h]
theorem del1 {α : Type} {d : α} {n m : Nat} {l B C : List α} (hl : l.length = n) (hm : m + 1 = n) : fitL d m (List.take m (fitL d n l) ++ B ++ C) = l.take m ++ l.drop (m + 1) := by
  rw [fitL_same d n l hl, fit_front (by rw [List.length_take]; omega), List.drop_of_length_le (by omega), List.append_nil]
theorem del2 {α : Type} {d : α} {n m q : Nat} {l B C E : List α} (hl : l.length = n) (hm : m < n) (hq : q = n - 1) (hE : E.length = 1) :
    fitL d q (List.take q (fitL d n (List.take m (fitL d n l) ++ fitL d (n - (m + 1)) (List.drop (m + 1) l) ++ E)) ++ B ++ C) = l.take m ++ l.drop (m + 1) := by
  subst hq
  rw [fitL_same d n l hl, fitL_same d (n - (m + 1)) _ (by rw [List.length_drop]; omega)]
  have h1 : (List.take m l ++ List.drop (m + 1) l).length = n - 1 := by rw [List.length_append, List.length_take, List.length_drop]; omega
  rw [fitL_same d n _ (by rw [List.length_append, h1, hE]; omega), fit_front (by rw [List.length_take, List.length_append, h1, hE]; omega), List.take_left' h1]
theorem sPlace_lin (args : List SA) (st : St) : Lin (sPlace args st) := by
  intro k h
  unfold sPlace at h ⊢
  split at h
  · exact (Lin.need (Lin.ret _ _)) k h
  · exact h.elim
theorem sDel_lin (args : List SA) (st : St) : Lin (sDel args st) := by
  intro k h
  unfold sDel at h ⊢
  split at h
  · exact (Lin.need (Lin.ret _ _)) k h
  · exact h.elim
theorem sSend_lin (args : List SA) (st : St) : Lin (sSend args st) := by
  intro k h
  unfold sSend at h ⊢
  split at h
  · exact (Lin.need (Lin.branch (Lin.ret _ _) (Lin.ret _ _))) k h
  · exact (Lin.need (Lin.ret _ _)) k h
  · exact h.elim
theorem sDeliver_lin (args : List SA) (st : St) : Lin (sDeliver args st) := by
  intro k h
  unfold sDeliver at h ⊢
  split at h
  · exact (Lin.need (Lin.branch (Lin.ret _ _) (Lin.ret _ _))) k h
  · exact h.elim
theorem sMinF_lin (args : List SA) (st : St) : Lin (sMinF args st) := by
  intro k h
  unfold sMinF at h ⊢
  split at h
  · exact (Lin.need (Lin.ret _ _)) k h
  · exact h.elim
theorem cxDe_ok : CxOk Try.prog cxDe := mkCx_ok namesN mixedN (by simp)
theorem place_sum : SumOk Try.prog 29 sPlace := by
  refine sumOk_of cxDe_ok sPlace_lin fun args st k h => ?_
  unfold sPlace at h
  split at h
  · rename_i i n
    obtain ⟨h1, h⟩ := need_iff.1 h
    have h1 := of_decide_eq_true h1
    refine ⟨60, ?_⟩
    rw [show (SC.raw (.int .i64 i)) = iv .i64 i from rfl, show (SC.raw (.int .i64 n)) = iv .i64 n from rfl, t_place]
    exact nd (by simpa using h1) (nd (by simpa using h1) h)
  · exact h.elim
theorem netOk_iff {n : Nat} {fs ts us : List Int} {bs : List (List Int)} : netOk n fs ts bs us = true ↔ fs.length = n ∧ ts.length = n ∧ bs.length = n ∧ us.length = n ∧ n ≤ 1000000 := by unfold netOk; exact decide_eq_true_iff
theorem del_sum : SumOk Try.prog 26 sDel := by
  refine sumOk_of cxDe_ok sDel_lin fun args st k h => ?_
  unfold sDel at h
  split at h
  · rename_i i j n fs ts bs us
    obtain ⟨h1, hk⟩ := need_iff.1 h
    clear h
    obtain ⟨h1, h2⟩ := Bool.and_eq_true_iff.1 h1
    obtain ⟨l1, l2, l3, l4, l5⟩ := netOk_iff.1 h1
    obtain ⟨h2, h3, e0⟩ := of_decide_eq_true h2
    subst e0
    obtain ⟨m, rfl⟩ : ∃ m : Nat, i = (m : Int) := ⟨i.toNat, by omega⟩
    refine ⟨60, ?_⟩
    have hd := t_del (m : Int) n fs ts us bs 0 k
    unfold netT at hd
    rw [show (SC.raw (.int .i64 (m : Int))) = iv .i64 (m : Int) from rfl, show (SC.raw (.int .i64 ((m : Int) + 1))) = iv .i64 ((m : Int) + 1) from rfl, hd]
    have e1 : ((m : Int) + 1).toNat = m + 1 := by omega
    simp only [Int.toNat_natCast, e1, Nat.zero_add, Nat.sub_zero]
    repeat' refine ndd (by omega) ?_
    refine brf (by omega) (bref (by omega) ?_)
    repeat' refine ndd (by omega) ?_
    refine brd (fun e => ?_) (fun e => ?_)
    · repeat' refine ndd (by omega) ?_
      refine brf (by omega) ?_
      refine ndd (by omega) (Again.mk (kSt hk rfl ?_))
      unfold netT woI woD
      have hm : n - 1 = m := by omega
      rw [del1 l1 (by omega), del1 l2 (by omega), del1 l3 (by omega), del1 l4 (by omega), Int.toNat_natCast, hm]
    · repeat' refine ndd (by omega) ?_
      refine brt (by omega) ?_
      repeat' refine ndd (by omega) ?_
      refine brf (by omega) ?_
      refine nd (by simp; omega) (ndd (by omega) (Again.mk (kSt hk rfl ?_)))
      unfold netT woI woD
      have hq : m + (n - (m + 1)) = n - 1 := by omega
      rw [del2 l1 (by omega) hq (by rw [List.length_drop, fitL_same _ _ _ l1]; omega), del2 l2 (by omega) hq (by rw [List.length_drop, fitL_same _ _ _ l2]; omega), del2 l3 (by omega) hq (by rw [List.length_drop, fitL_same _ _ _ l3]; omega), del2 l4 (by omega) hq (by rw [List.length_drop, fitL_same _ _ _ l4]; omega), Int.toNat_natCast, hq]
  · exact h.elim
theorem placeK_in (i : Int) {n : Nat} (h : 0 < n) (h2 : n ≤ 1000000) : 0 ≤ placeK i (n : Int) ∧ placeK i (n : Int) < (n : Int) := by
  unfold placeK
  rw [remK_eq, remK_eq]
  have h1 := Int.tmod_lt_of_pos i (show (0 : Int) < (n : Int) by omega)
  have h3 := Int.lt_tmod_of_pos i (show (0 : Int) < (n : Int) by omega)
  rw [add64 (by omega)]
  exact ⟨Int.tmod_nonneg _ (by omega), Int.tmod_lt_of_pos _ (by omega)⟩
theorem cxDl_ok : CxOk Try.prog cxDl := mkCx_ok namesN mixedN (by
  intro x h
  simp only [List.mem_cons, List.not_mem_nil, or_false] at h
  rcases h with rfl | rfl
  · exact place_sum
  · exact del_sum)
theorem dlv_sum : SumOk Try.prog 12 sDeliver := by
  refine sumOk_of cxDl_ok sDeliver_lin fun args st k h => ?_
  unfold sDeliver at h
  split at h
  · rename_i i most n fs ts bs us
    obtain ⟨h1, h⟩ := need_iff.1 h
    obtain ⟨h1, h2⟩ := Bool.and_eq_true_iff.1 h1
    obtain ⟨l1, l2, l3, l4, l5⟩ := netOk_iff.1 h1
    refine ⟨80, ?_⟩
    have hd := t_dlv i most n fs ts us bs 0 k
    unfold netT netO obj iv at hd
    unfold iv at h
    rw [hd]
    rcases branch_or h with ⟨e, h⟩ | ⟨e, h⟩
    · have e := of_decide_eq_true e
      subst e
      exact bret rfl h
    · have e := of_decide_eq_false e
      obtain ⟨p1, p2⟩ := placeK_in i (n := n) (by omega) l5
      refine bref (by omega) ?_
      refine ndd (by omega) (ndd p1 (ndd p2 (ndd (by omega) (nd ?_ (kSt h ?_ ?_)))))
      · rw [add64 (by omega)]
        exact Bool.and_eq_true_iff.2 ⟨decide_eq_true ⟨l1, l2, l3, l4, l5⟩, decide_eq_true ⟨p1, p2, rfl⟩⟩
      · simp only [Nat.zero_add]; rfl
      · simp only [Nat.zero_add]; rfl
  · exact h.elim
theorem cxS_ok : CxOk Try.prog cxS := mkCx_ok namesN mixedN (by
  intro x h
  simp only [List.mem_cons, List.not_mem_nil, or_false] at h
  subst h
  exact clone8_sum)
theorem send_sum : SumOk Try.prog 11 sSend := by
  refine sumOk_of cxS_ok sSend_lin fun args st k h => ?_
  unfold sSend at h
  split at h
  · rename_i f t a most n fs ts bs us b
    obtain ⟨h1, h⟩ := need_iff.1 h
    obtain ⟨h1, h2⟩ := Bool.and_eq_true_iff.1 h1
    obtain ⟨l1, l2, l3, l4, l5⟩ := netOk_iff.1 h1
    have h2 := of_decide_eq_true h2
    refine ⟨60, ?_⟩
    have hd := t_send f t a most n fs ts us b bs 0 k
    unfold netT netO obj iv rdB at hd
    unfold iv at h
    rw [hd]
    rcases branch_or h with ⟨e, h⟩ | ⟨e, h⟩
    · exact br (fun _ => h) (fun e2 => by rw [e] at e2; cases e2)
    · refine br (fun e2 => by rw [e] at e2; cases e2) (fun _ => ?_)
      have t1 : List.take b.length b = b := List.take_of_length_le (Nat.le_refl _)
      rw [t1, t1]
      refine ndd (by omega) (ndd (by omega) (ndd (by omega) (ndd (by omega) (kSt h rfl ?_))))
      rw [fitL_same _ _ _ l1, fitL_same _ _ _ l2, fitL_same _ _ _ l3, fitL_same _ _ _ l4]
      rfl
  · rename_i f t a most n fs ts bs us
    obtain ⟨h1, h⟩ := need_iff.1 h
    have h1 := of_decide_eq_true h1
    refine ⟨60, ?_⟩
    have hd := t_sendN f t a most n fs ts us bs 0 k
    unfold netT netO obj iv at hd
    unfold iv at h
    rw [hd]
    exact brt h1 h
  · exact h.elim
theorem cxM_ok : CxOk Try.prog cxM := mkCx_ok namesN mixedN (by simp)
theorem min_loop (w : Bool) (n : Nat) (fs ts us : List Int) (bs : List (List Int)) (c M : Nat) (k : SV → St → Prop) (hn : n ≤ 1000000)
    (hT : k (.sa (.agg [iv .u32 (fs.getD (minP us) 0), iv .u32 (ts.getD (minP us) 0), .ref 1, iv .u64 (us.getD (minP us) 0)])) ([some (SO.own w MK.row 61 4 (Ct.tab n [(Col.ints .u32 fs), (Col.ints .u32 ts), (Col.data .u8 bs), (Col.ints .u64 us)]))] ++ [rdB (bs.getD (minP us) [])])) :
    ∀ (rem i j : Nat), i + rem = n → argM us rem i j = minP us → ev cxM (rem + c + 54) 1 30 (codeAt Try.prog 30 [1, 1, 1, 0, 1, 0]) (frm 33 [(0, (.sa (.one (SC.ref 0)))), (1, (.sa (.one (SC.raw (Value.func (Fn.func 31) (Array.mk []) (Array.mk [])))))), (4, (.sa (.one (SC.ptr 1 0 0)))), (5, (.sa (.one (SC.ptr 2 0 0)))), (6, (.sa (.one (iv .i64 (i : Int)))))]) [(some (SO.own w MK.row 61 4 (Ct.tab n [(Col.ints .u32 fs), (Col.ints .u32 ts), (Col.data .u8 bs), (Col.ints .u64 us)]))), (obj 61 4 [(iv .u32 (0)), (iv .u32 (0)), (SC.raw (Value.slice Option.none 0 0)), (iv .u64 (0))]), (obj 61 4 [(iv .u32 (fs.getD j 0)), (iv .u32 (ts.getD j 0)), (SC.ref 3), (iv .u64 (us.getD j 0))]), rdB (bs.getD j [])] (kBlock 0 (kSeq (ev cxM (M + 56) 1 30 (codeAt Try.prog 30 [1, 1, 1, 1])) (kRet (Cx.P cxM) [(ResultVar.cell 4 61)] 1 k))) := by
  intro rem
  induction rem with
  | zero =>
    intro i j h1 h2
    rw [t_minS]
    have h2 : j = minP us := h2
    subst h2
    exact Again.mk (brf (by omega) hT)
  | succ rem ih =>
    intro i j h1 h2
    rw [show rem + 1 + c + 54 = (rem + 1 + c) + 54 from rfl, t_minS]
    have e0 : 0 + ((i : Nat) : Int).toNat = i := by omega
    rw [e0, add64 (by omega), show (i : Int) + 1 = ((i + 1 : Nat) : Int) by omega]
    refine Again.mk (brt (by omega) ?_)
    repeat' refine ndd (by omega) ?_
    refine brd (fun e => ?_) (fun e => ?_)
    · repeat' refine ndd (by omega) ?_
      have h2 : argM us rem (i + 1) (if us.getD i 0 < us.getD j 0 then i else j) = minP us := h2
      rw [if_pos e] at h2
      exact evFuel (ih (i + 1) i (by omega) h2) (by omega)
    · have h2 : argM us rem (i + 1) (if us.getD i 0 < us.getD j 0 then i else j) = minP us := h2
      rw [if_neg e] at h2
      exact evFuel (ih (i + 1) j (by omega) h2) (by omega)
theorem min_sum : SumOk Try.prog 30 sMinF := by
  refine sumOk_of cxM_ok sMinF_lin fun args st k h => ?_
  unfold sMinF at h
  split at h
  · rename_i w n fs ts bs us
    obtain ⟨h1, h⟩ := need_iff.1 h
    obtain ⟨h1, h2⟩ := Bool.and_eq_true_iff.1 h1
    obtain ⟨l1, l2, l3, l4, l5⟩ := netOk_iff.1 h1
    have h2 := of_decide_eq_true h2
    refine ⟨n + 60, ?_⟩
    rw [t_min]
    refine brf (by omega) (ndd (by omega) (ndd (by omega) ?_))
    refine evFuel (min_loop w n fs ts us bs 1 n k l5 h (n - 1) 1 0 (by omega) (by unfold minP; rw [l4])) (by omega)
  · exact h.elim
end Go.Ev
