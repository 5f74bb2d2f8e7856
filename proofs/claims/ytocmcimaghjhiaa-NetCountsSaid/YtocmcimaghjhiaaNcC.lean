/- The law NetCounts, run: whatever is sent, delivered, dropped and doubled. No conditions. -/
import Derived.Test.YtocmcimaghjhiaaNcT2
import Derived.Test.YtocmcimaghjhiaaNcT3
import Derived.Test.YtocmcimaghjhiaaNcT4
import Derived.Test.YtocmcimaghjhiaaNcS
import Derived.Test.YtocmcimaghjhiaaNcL
import Derived.Test.YtocmcimaghjhiaaWkN
set_option linter.unusedVariables false
namespace Go.Ev
open Go Go.Proofs Go.Spec
attribute [local irreducible] ev evCall branch need again
theorem cxNc_ok : CxOk Try.prog cxNc := by
  have h := mkCx_ok (P := Try.prog) (sums := [(6, sTrue), (7, sHeavy), (10, sPeek), (14, sTwice), (9, sName), (11, sSend), (12, sDeliver)])
    (live := [(3, 10, [0, 5, 6, 7, 8, 25, 26, 27], [⟨5, [1], 57⟩]), (3, 37, [5, 6, 7, 140, 141], [⟨5, [1], 57⟩])]) (wr := wrC) namesN mixedN (by
    intro x h
    simp only [List.mem_cons, List.not_mem_nil, or_false] at h
    rcases h with rfl | rfl | rfl | rfl | rfl | rfl | rfl
    · exact known_sum
    · exact heavy_sum
    · exact peek_sum
    · exact twice_sum
    · exact name_sum
    · exact send_sum
    · exact dlv_sum)
  exact ⟨h.prog, h.names, h.mixed, h.sum, h.ovl⟩
theorem brnq {x y : Int} {a b : Prop} (h : x = y) (h1 : b) : branch (Bool.not (eqK x y)) a b := by rw [eqK_t.2 h]; exact br (fun h => by cases h) (fun _ => h1)
theorem brns {x : ByteArray} {a b : Prop} (h1 : b) : branch (Bool.not (strEq x x)) a b := by rw [show strEq x x = true by simp [strEq]]; exact br (fun h => by cases h) (fun _ => h1)
theorem place_lt (i : Int) {n : Nat} (h : 0 < n) (h2 : n ≤ 1000000) : placeN i n < n := by
  obtain ⟨p1, p2⟩ := placeK_in i h h2
  unfold placeN; omega
def netF (fl : List Fl) : Option SO := netT fl.length (fl.map Fl.f) (fl.map Fl.t) (fl.map Fl.b) (fl.map Fl.u)
theorem lenOk_map {fl : List Fl} (h : ∀ x ∈ fl, x.b.length ≤ 140737488355328) : lenOk (fl.map Fl.b) = true := by
  unfold lenOk
  rw [List.all_map]
  exact List.all_eq_true.2 fun x hx => decide_eq_true (h x hx)
theorem getD_b {fl : List Fl} (h : ∀ x ∈ fl, x.b.length ≤ 140737488355328) (i : Nat) : (fl.getD i fz).b.length ≤ 140737488355328 := by
  by_cases hi : i < fl.length
  · rw [List.getD_eq_getElem?_getD, List.getElem?_eq_getElem hi]; exact h _ (List.getElem_mem hi)
  · rw [List.getD_eq_getElem?_getD, List.getElem?_eq_none (by omega)]; simp [fz]
theorem woX_mem {p : Nat} {fl : List Fl} {x : Fl} (h : x ∈ woX p fl) : x ∈ fl := by
  unfold woX at h
  rcases List.mem_append.1 h with h | h
  · exact List.mem_of_mem_take h
  · exact List.mem_of_mem_drop h
theorem netF_wo {p : Nat} {fl : List Fl} (h : p < fl.length) : netT (fl.length - 1) (woI p (fl.map Fl.f)) (woI p (fl.map Fl.t)) (woD p (fl.map Fl.b)) (woI p (fl.map Fl.u)) = netF (woX p fl) := by
  unfold netF
  rw [woI_map, woI_map, woI_map, woD_map, woX_len h]
theorem netF_snoc (fl : List Fl) (x : Fl) : netT (fl.length + 1) (fl.map Fl.f ++ [x.f]) (fl.map Fl.t ++ [x.t]) (fl.map Fl.b ++ [x.b]) (fl.map Fl.u ++ [x.u]) = netF (fl ++ [x]) := by
  unfold netF
  simp only [List.map_append, List.map_cons, List.map_nil, List.length_append, List.length_cons, List.length_nil, Nat.zero_add]
theorem nc_loop2 (most : Int) (n tot : Nat) (ks is bt fs ts us : List Int) (bs : List (List Int)) (c M : Nat) (k : SV → St → Prop) (ht : tot ≤ 1000000) (hT : ∀ st, k (.sa (.one (bv true))) st) :
    ∀ (rem i : Nat) (fl : List Fl) (kk : List ByteArray) (vs bb : List Int) (cl : Nat), i + rem = tot → fl.length = rem → InvM kk vs fl → (∀ x ∈ fl, x.b.length ≤ 140737488355328) →
      ev cxNc (rem + c + 49) 1 3 (codeAt Try.prog 3 [1, 1, 1, 1, 1, 1, 1, 1, 0, 1, 0]) (frm 168 [(5, (.sa (.one (SC.ptr 1 0 0)))), (6, (.sa (.one (SC.raw (Value.func (Fn.func 9) (Array.mk []) (Array.mk [])))))), (7, (.sa (.one (SC.ref 3)))), (140, (.sa (.one (iv .i64 (tot : Int))))), (141, (.sa (.one (iv .i64 (i : Int)))))]) [doO n ks is bt fs ts bs us, netO most 2, netF fl, lfM kk vs bb cl] (kBlock 3 (kSeq (ev cxNc (M + 51) 1 3 (codeAt Try.prog 3 [1, 1, 1, 1, 1, 1, 1, 1, 1])) (kRet (Cx.P cxNc) [(ResultVar.tmp 4)] 1 k))) := by
  intro rem
  induction rem with
  | zero =>
    intro i fl kk vs bb cl h1 h2 h3 h4
    unfold netF
    rw [t_ncE]
    refine Again.mk (brf (by omega) ?_)
    rw [h2]
    exact hT _
  | succ rem ih =>
    intro i fl kk vs bb cl h1 h2 h3 h4
    unfold netF
    rw [show rem + 1 + c + 49 = (rem + 1 + c) + 49 from rfl, t_ncE]
    have hp := place_lt 0 (n := fl.length) (by omega) (by omega)
    have hlen := getD_b h4 (placeN 0 fl.length)
    obtain ⟨hit, hv, h1c⟩ := inv_hit h3 hp
    have hcw := fun s => cnt_wo (s := s) hp
    have hNs := netF_wo hp
    have hwl := woX_len hp
    simp only [gf, gt, gb]
    generalize fl.getD (placeN 0 fl.length) fz = x at hlen hit hv h1c hcw ⊢
    have hfit := fitL_same 0 kk.length vs h3.1
    have hcb : cntN (nmS x.f x.t x.b) fl ≤ fl.length := List.countP_le_length
    have hs : subK .i64 (vs.getD (idxS (nmS x.f x.t x.b) kk) 0) 1 = (cntN (nmS x.f x.t x.b) fl : Int) - 1 := by rw [hv, sub64 (by omega)]
    have e6 : addK .i64 ((i : Nat) : Int) 1 = ((i + 1 : Nat) : Int) := by rw [add64 (by omega)]; omega
    rw [hfit, hs, e6]
    have hset : (vs.set (idxS (nmS x.f x.t x.b) kk) ((cntN (nmS x.f x.t x.b) fl : Int) - 1)).getD (idxS (nmS x.f x.t x.b) kk) 0 = (cntN (nmS x.f x.t x.b) fl : Int) - 1 := by
      rw [List.getD_eq_getElem?_getD, List.getElem?_set_self (by rw [h3.1]; exact hit)]; rfl
    have hc1 := hcw (nmS x.f x.t x.b)
    rw [if_pos rfl] at hc1
    refine Again.mk (brt (by omega) (nd (Bool.and_eq_true_iff.2 ⟨decide_eq_true (by simp only [List.length_map, true_and]; omega), rfl⟩) (brf (by omega) (ndd (by omega) (brt hit (brt hit (ndd (by omega) (brt hit (brf (by rw [hset]; omega) ?_)))))))))
    refine evFuel (evFr (ih (i + 1) (woX (placeN 0 fl.length) fl) kk _ bb cl (by omega) (by omega) (inv_set h3 hit ((cntN (nmS x.f x.t x.b) fl : Int) - 1) (by omega) (fun s' e => ?_)) (fun y hy => h4 y (woX_mem hy))) rfl ?_) (by omega)
    · have := hcw s'
      rw [if_neg e] at this
      omega
    · rw [← hNs]; rfl
def ncG (m0 : Int) (n M : Nat) (k : SV → St → Prop) (N : Nat) (tot i : Int) (st : St) : Prop := ev cxNc N 1 3 (codeAt Try.prog 3 [1, 1, 1, 1, 1, 1, 1, 0, 1, 0]) (frm 168 [(0, (.sa (.one (iv .i64 m0)))), (5, (.sa (.one (SC.ptr 1 0 0)))), (6, (.sa (.one (SC.raw (Value.func (Fn.func 9) (Array.mk []) (Array.mk [])))))), (7, (.sa (.one (SC.ref 3)))), (8, (.sa (.one (iv .i64 tot)))), (25, (.sa (.one (SC.ref 0)))), (26, (.sa (.one (iv .i64 ((n : Nat) : Int))))), (27, (.sa (.one (iv .i64 i))))]) st (kBlock 0 (kSeq (ev cxNc (M + 52) 1 3 (codeAt Try.prog 3 [1, 1, 1, 1, 1, 1, 1, 1])) (kRet (Cx.P cxNc) [(ResultVar.tmp 4)] 1 k)))
theorem inv_hitv {kk : List ByteArray} {vs : List Int} {fl : List Fl} {s : ByteArray} (h : InvM kk vs fl) (hit : idxS s kk < kk.length) : vs.getD (idxS s kk) 0 = (cntN s fl : Nat) := by
  have hv := h.2 s
  unfold valM at hv
  rw [if_pos hit] at hv
  exact hv
theorem inv_addh {kk : List ByteArray} {vs : List Int} {fl : List Fl} (h : InvM kk vs fl) (x : Fl) (hl : fl.length ≤ 1000000) (hit : idxS (nmS x.f x.t x.b) kk < kk.length) : InvM kk ((fitL 0 kk.length vs).set (idxS (nmS x.f x.t x.b) kk) (addK .i64 (vs.getD (idxS (nmS x.f x.t x.b) kk) 0) 1)) (fl ++ [x]) := by
  have hcb : cntN (nmS x.f x.t x.b) fl ≤ fl.length := List.countP_le_length
  rw [fitL_same 0 kk.length vs h.1, inv_hitv h hit, add64 (by omega)]
  exact inv_set h hit _ (by rw [cnt_snoc, if_pos rfl]; omega) (fun s' e => by rw [cnt_snoc, if_neg e]; omega)
theorem inv_addm {kk : List ByteArray} {vs : List Int} {fl : List Fl} (h : InvM kk vs fl) (x : Fl) (hit : ¬ idxS (nmS x.f x.t x.b) kk < kk.length) : InvM (kk ++ [nmS x.f x.t x.b]) (fitL 0 kk.length vs ++ [1]) (fl ++ [x]) := by
  have hv := h.2 (nmS x.f x.t x.b)
  unfold valM at hv
  rw [if_neg hit] at hv
  rw [fitL_same 0 kk.length vs h.1]
  exact inv_push h hit _ (by rw [cnt_snoc, if_pos rfl]; omega) (fun s' e => by rw [cnt_snoc, if_neg e]; omega)
theorem inv_del {kk : List ByteArray} {vs : List Int} {fl : List Fl} (h : InvM kk vs fl) (hl : fl.length ≤ 1000000) {p : Nat} (hp : p < fl.length) {x : Fl} (e : fl.getD p fz = x) : InvM kk ((fitL 0 kk.length vs).set (idxS (nmS x.f x.t x.b) kk) (subK .i64 (vs.getD (idxS (nmS x.f x.t x.b) kk) 0) 1)) (woX p fl) := by
  subst e
  have hcb : cntN (nmS (fl.getD p fz).f (fl.getD p fz).t (fl.getD p fz).b) fl ≤ fl.length := List.countP_le_length
  obtain ⟨hit, hv, h1⟩ := inv_hit h hp
  have hc1 := cnt_wo (s := nmS (fl.getD p fz).f (fl.getD p fz).t (fl.getD p fz).b) hp
  rw [if_pos rfl] at hc1
  rw [fitL_same 0 kk.length vs h.1, hv, sub64 (by omega)]
  refine inv_set h hit _ (by omega) (fun s' e => ?_)
  have := cnt_wo (s := s') hp
  rw [if_neg e] at this
  omega
theorem brtl {x y mx : Int} {a b d : Prop} (h : x = y) (h2 : ¬ y > mx) (h1 : d) : branch (Bool.not (eqK x y)) a (branch (decide (y > mx)) b d) := brnq h (brf h2 h1)
theorem nc_loop1 (m0 most : Int) (n : Nat) (ks is bt fs ts us : List Int) (bs : List (List Int)) (c M : Nat) (k : SV → St → Prop) (h0 : 0 ≤ most) (hm : most ≤ 100000) (hx : most ≤ (if m0 > 0 then m0 else 0)) (hn : n ≤ 1000000) (hb : ∀ i, (bs.getD i []).length ≤ 140737488355328) (hi : ∀ i, -9223372036854775808 ≤ is.getD i 0 ∧ is.getD i 0 ≤ 9223372036854775807) (hM : 100000 ≤ M) (hT : ∀ st, k (.sa (.one (bv true))) st) :
    ∀ (rem i : Nat) (fl : List Fl) (kk : List ByteArray) (vs bb : List Int) (cl : Nat), i + rem = n → InvM kk vs fl → (fl.length : Int) ≤ most → (∀ x ∈ fl, x.b.length ≤ 140737488355328) →
      ncG m0 n M k (rem + c + 50) (fl.length : Int) (i : Int) [doO n ks is bt fs ts bs us, netO most 2, netF fl, lfM kk vs bb cl] := by
  intro rem
  induction rem with
  | zero =>
    intro i fl kk vs bb cl h1 h2 h3 h4
    unfold ncG netF
    rw [t_ncS]
    refine Again.mk (brf (by omega) ?_)
    exact evFuel (nc_loop2 most n fl.length ks is bt fs ts us bs (M - fl.length) M k (by omega) hT fl.length 0 fl kk vs bb cl (by omega) rfl h2 h4) (by omega)
  | succ rem ih =>
    intro i fl kk vs bb cl h1 h2 h3 h4
    have e6 : addK .i64 ((i : Nat) : Int) 1 = ((i + 1 : Nat) : Int) := by rw [add64 (by omega)]; omega
    have ea : addK .i64 ((fl.length : Nat) : Int) 1 = ((fl.length : Nat) : Int) + 1 := by rw [add64 (by omega)]
    have es : subK .i64 ((fl.length : Nat) : Int) 1 = ((fl.length : Nat) : Int) - 1 := by rw [sub64 (by omega)]
    have step : ∀ (fl' : List Fl) (kk' : List ByteArray) (vs' bb' : List Int) (cl' : Nat) (tot' : Int) (st' : St), InvM kk' vs' fl' → (fl'.length : Int) ≤ most → (∀ x ∈ fl', x.b.length ≤ 140737488355328) → tot' = (fl'.length : Int) → st' = [doO n ks is bt fs ts bs us, netO most 2, netF fl', lfM kk' vs' bb' cl'] → ncG m0 n M k (rem + 1 + c + 49) tot' ((i + 1 : Nat) : Int) st' := by
      intro fl' kk' vs' bb' cl' tot' st' a1 a2 a3 a4 a5
      have a6 := ih (i + 1) fl' kk' vs' bb' cl' (by omega) a1 a2 a3
      rw [a4, a5]
      unfold ncG at a6 ⊢
      exact evFuel a6 (by omega)
    have same := step fl kk vs bb cl (fl.length : Int) _ h2 h3 h4 rfl rfl
    have add : ∀ (x : Fl) (kk' : List ByteArray) (vs' bb' : List Int) (cl' : Nat), x.b.length ≤ 140737488355328 → (fl.length : Int) < most → InvM kk' vs' (fl ++ [x]) → ncG m0 n M k (rem + 1 + c + 49) ((fl.length : Int) + 1) ((i + 1 : Nat) : Int) [doO n ks is bt fs ts bs us, netO most 2, netT (fl.length + 1) (fl.map Fl.f ++ [x.f]) (fl.map Fl.t ++ [x.t]) (fl.map Fl.b ++ [x.b]) (fl.map Fl.u ++ [x.u]), lfM kk' vs' bb' cl'] := by
      intro x kk' vs' bb' cl' a1 a2 a3
      refine step (fl ++ [x]) kk' vs' bb' cl' _ _ a3 (by rw [List.length_append]; simp only [List.length_cons, List.length_nil]; omega) (fun y hy => ?_) (by rw [List.length_append]; simp) (by rw [netF_snoc])
      rcases List.mem_append.1 hy with hy | hy
      · exact h4 y hy
      · rw [List.mem_singleton.1 hy]; exact a1
    have del : ∀ (p : Nat) (x : Fl) (kk' : List ByteArray) (vs' bb' : List Int) (cl' : Nat), p < fl.length → InvM kk' vs' (woX p fl) → ncG m0 n M k (rem + 1 + c + 49) ((fl.length : Int) - 1) ((i + 1 : Nat) : Int) [doO n ks is bt fs ts bs us, netO most 2, netT (fl.length - 1) (woI p (fl.map Fl.f)) (woI p (fl.map Fl.t)) (woD p (fl.map Fl.b)) (woI p (fl.map Fl.u)), lfM kk' vs' bb' cl'] := by
      intro p x kk' vs' bb' cl' a1 a3
      exact step (woX p fl) kk' vs' bb' cl' _ _ a3 (by rw [woX_len a1]; omega) (fun y hy => h4 y (woX_mem hy)) (by rw [woX_len a1]; omega) (by rw [netF_wo a1])
    have ok : decide ((fl.map Fl.f).length = fl.length ∧ (fl.map Fl.t).length = fl.length ∧ (fl.map Fl.b).length = fl.length ∧ (fl.map Fl.u).length = fl.length ∧ fl.length ≤ 1000000) = true := decide_eq_true (by simp only [List.length_map, true_and]; omega)
    have ho := lenOk_map h4
    have hbi := hb i
    have hii := hi i
    have tl : ¬ ((fl.length : Nat) : Int) > (if m0 > 0 then m0 else 0) := by omega
    have e0 : 0 + ((i : Nat) : Int).toNat = i := by omega
    unfold ncG netF
    rw [show rem + 1 + c + 50 = (rem + 1 + c) + 50 from rfl, t_ncS, e0, e6, ea, es]
    refine Again.mk (brt (by omega) (ndd (by omega) (ndd (by omega) (ndd (by omega) (nd (Bool.and_eq_true_iff.2 ⟨ok, Bool.and_eq_true_iff.2 ⟨ho, decide_eq_true hii⟩⟩) (brd (fun hq => ?_) (fun hq => ?_)))))))
    · refine bre (fun _ => ?_) (fun _ => ?_)
      · refine nd (Bool.and_eq_true_iff.2 ⟨ok, decide_eq_true hbi⟩) (brd (fun _ => brtl rfl tl same) (fun hf => ndd hbi ?_))
        refine brd (fun hit => brt hit (brtl (by omega) (by omega) ?_)) (fun hit => brf hit (brtl (by omega) (by omega) ?_))
        · exact add ⟨fs.getD i 0, ts.getD i 0, bs.getD i [], us.getD i 0⟩ _ _ _ _ hbi (by omega) (inv_addh h2 ⟨fs.getD i 0, ts.getD i 0, bs.getD i [], us.getD i 0⟩ (by omega) hit)
        · exact add ⟨fs.getD i 0, ts.getD i 0, bs.getD i [], us.getD i 0⟩ _ _ _ _ hbi (by omega) (inv_addm h2 ⟨fs.getD i 0, ts.getD i 0, bs.getD i [], us.getD i 0⟩ hit)
      refine bre (fun _ => ?_) (fun _ => ?_)
      · exact nd (Bool.and_eq_true_iff.2 ⟨ok, decide_eq_true hii⟩) (brt hq (brtl rfl tl same))
      refine bre (fun _ => ?_) (fun _ => ?_)
      · exact nd (Bool.and_eq_true_iff.2 ⟨ok, decide_eq_true hii⟩) (brt hq (brtl rfl tl same))
      refine bre (fun _ => ?_) (fun _ => ?_)
      · exact nd (Bool.and_eq_true_iff.2 ⟨ok, Bool.and_eq_true_iff.2 ⟨ho, decide_eq_true hii⟩⟩) (brt hq (brtl rfl tl same))
      exact brtl rfl tl same
    · have hp := place_lt (is.getD i 0) (n := fl.length) (by omega) (by omega)
      have hlen := getD_b h4 (placeN (is.getD i 0) fl.length)
      obtain ⟨hit, hv, h1c⟩ := inv_hit h2 hp
      have hd := inv_del h2 (by omega) hp rfl
      simp only [gf, gt, gb, gu]
      generalize fl.getD (placeN (is.getD i 0) fl.length) fz = x at hlen hit hv h1c hd ⊢
      refine bre (fun _ => ?_) (fun _ => ?_)
      · refine nd (Bool.and_eq_true_iff.2 ⟨ok, decide_eq_true hbi⟩) (brd (fun _ => brtl rfl tl same) (fun hf => ndd hbi ?_))
        refine brd (fun hit => brt hit (brtl (by omega) (by omega) ?_)) (fun hit => brf hit (brtl (by omega) (by omega) ?_))
        · exact add ⟨fs.getD i 0, ts.getD i 0, bs.getD i [], us.getD i 0⟩ _ _ _ _ hbi (by omega) (inv_addh h2 ⟨fs.getD i 0, ts.getD i 0, bs.getD i [], us.getD i 0⟩ (by omega) hit)
        · exact add ⟨fs.getD i 0, ts.getD i 0, bs.getD i [], us.getD i 0⟩ _ _ _ _ hbi (by omega) (inv_addm h2 ⟨fs.getD i 0, ts.getD i 0, bs.getD i [], us.getD i 0⟩ hit)
      refine bre (fun _ => ?_) (fun _ => ?_)
      · refine nd (Bool.and_eq_true_iff.2 ⟨ok, decide_eq_true hii⟩) (brf hq (ndd hlen (ndd hlen (brns (ndd hlen (brt hit (bref (by omega) (ndd hlen (brt hit (brt hit (brtl (by omega) (by omega) ?_)))))))))))
        exact del _ x _ _ _ _ hp hd
      refine bre (fun _ => ?_) (fun _ => ?_)
      · refine nd (Bool.and_eq_true_iff.2 ⟨ok, decide_eq_true hii⟩) (brf hq (ndd hlen (brt hit (brt hit (brtl (by omega) (by omega) ?_)))))
        exact del _ x _ _ _ _ hp hd
      refine bre (fun _ => ?_) (fun _ => ?_)
      · refine nd (Bool.and_eq_true_iff.2 ⟨ok, Bool.and_eq_true_iff.2 ⟨ho, decide_eq_true hii⟩⟩) (brf hq (brd (fun _ => brtl rfl tl same) (fun hf => ndd hlen (brt hit (brt hit (brtl (by omega) (by omega) ?_))))))
        exact add x _ _ _ _ hlen (by omega) (inv_addh h2 x (by omega) hit)
      exact brtl rfl tl same
theorem nc_run (m0 : Int) (n : Nat) (ks is bt fs ts us : List Int) (bs : List (List Int)) (k : SV → St → Prop) (hl : bs.length = n) (hnn : n ≤ 140737488355328) (hb : ∀ i, (bs.getD i []).length ≤ 140737488355328) (ho : lenOk bs = true) (hi : ∀ i, -9223372036854775808 ≤ is.getD i 0 ∧ is.getD i 0 ≤ 9223372036854775807) (hT : ∀ st, k (.sa (.one (bv true))) st) :
    ∃ N, evCall cxNc (ev cxNc N) 3 [.one (iv .i64 m0), .one (.ref 0)] [doO n ks is bt fs ts bs us] k := by
  refine ⟨n + 100000 + 60, ?_⟩
  rw [t_nc]
  refine nd (Bool.and_eq_true_iff.2 ⟨decide_eq_true ⟨hnn, hl⟩, ho⟩) (br (fun _ => hT _) (fun hh => ?_))
  have hn := heavy_no hh
  have h := nc_loop1 m0 (if (if (100000 : Int) < m0 then 100000 else m0) > 0 then (if (100000 : Int) < m0 then 100000 else m0) else 0) n ks is bt fs ts us bs 100000 (n + 100000) k (by (repeat' split) <;> omega) (by (repeat' split) <;> omega) (by (repeat' split) <;> omega) (by omega) hb hi (by omega) hT n 0 [] [] [] [] 0 (by omega) ⟨rfl, fun s => by simp [valM, idxS, cntN]⟩ (by simp only [List.length_nil]; (repeat' split) <;> omega) (by simp)
  unfold ncG at h
  exact h
end Go.Ev
