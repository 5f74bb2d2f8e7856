/- Taking from a queue, how heavy a script is, and the law OutqRoom, run. No conditions. -/
import Derived.Test.YtipmphkcbhjinaaOrT0
import Derived.Test.YtipmphkcbhjinaaOrT1
import Derived.Test.YtipmphkcbhjinaaOqA
import Derived.Test.YtipmphkcbhjinaaRcS
import Derived.Test.YtipmphkcbhjinaaWkQ
set_option linter.unusedVariables false
set_option linter.unusedSimpArgs false
namespace Go.Ev
open Go Go.Proofs Go.Spec
attribute [local irreducible] ev evCall branch need again
theorem sTake_lin (args : List SA) (st : St) : Lin (sTake args st) := by
  intro k h
  unfold sTake at h ⊢
  split at h
  · unfold qAll q13 at h ⊢
    split at h
    · unfold q9 at h ⊢
      split at h
      · unfold q11 at h ⊢
        split at h
        · exact (Lin.need (Lin.branch (Lin.ret _ _) (Lin.ret _ _))) k h
        · exact h.elim
      · exact h.elim
    · exact h.elim
  · exact h.elim
theorem cxTk_ok : CxOk Try.prog cxTk := mkCx_ok namesC mixedC (by
  intro x h
  simp only [List.mem_cons, List.not_mem_nil, or_false] at h
  subst h
  exact clone8_sum)
theorem fit_drop {α : Type} {d : α} {n : Nat} {l : List α} (h : l.length = n) : fitL d (n - 1) (l.drop 1) = l.drop 1 := fitL_same d _ _ (by rw [List.length_drop, h])
theorem take_sum : SumOk Try.prog 12 sTake := by
  refine sumOk_of cxTk_ok sTake_lin fun args st k h => ?_
  unfold sTake at h
  split at h
  · rename_i row n ts fs ss ns ps ds
    unfold qAll q13 at h
    split at h
    case h_2 => exact h.elim
    rename_i mtu st sr rr mm ri rmin rmax it pt al beat life rest
    unfold q9 at h
    split at h
    case h_2 => exact h.elim
    rename_i tsn s0 s1 s2 s3 s4 s5 s6 s7 rest
    unfold q11 at h
    split at h
    case h_2 => exact h.elim
    rename_i s8 s9 sa sb sc sd se sf r by_ tk
    obtain ⟨h0, hk⟩ := need_iff.1 h
    clear h
    obtain ⟨hr, h3⟩ := Bool.and_eq_true_iff.1 h0
    clear h0
    obtain rfl := Nat.eq_of_beq_eq_true hr
    clear hr
    obtain ⟨h1, h2⟩ := Bool.and_eq_true_iff.1 h3
    clear h3
    obtain ⟨l1, l2, l3, l4, l5, l6, l7⟩ := pieOk_iff.1 h1
    have h2 := of_decide_eq_true h2
    refine ⟨60, ?_⟩
    have hd := t_take mtu st sr rr mm ri rmin rmax it pt al beat life tsn s0 s1 s2 s3 s4 s5 s6 s7 s8 s9 sa sb sc sd se sf by_ tk n ts fs ss ns ps ds k
    unfold obj iv at hd
    unfold iv at hk
    rw [hd]
    rcases branch_or hk with ⟨e1, hk⟩ | ⟨e1, hk⟩
    · have e1 := of_decide_eq_true e1
      exact bret (by omega) hk
    have e1 := of_decide_eq_false e1
    refine bref (by omega) ?_
    have t1 : List.take (ds.getD 0 []).length (ds.getD 0 []) = ds.getD 0 [] := List.take_of_length_le (Nat.le_refl _)
    rw [t1, fit_drop l1, fit_drop l2, fit_drop l3, fit_drop l4, fit_drop l5, fit_drop l6]
    exact ndd (by omega) (ndd (by omega) (ndd (by omega) (ndd (by omega) (ndd (by omega) (ndd (by omega) (ndd (by omega) (ndd (by omega) (Again.mk (kSt hk rfl rfl)))))))))
  · exact h.elim

/-! how heavy a script is -/
theorem sHeavy_lin (args : List SA) (st : St) : Lin (sHeavy args st) := by
  intro k h
  unfold sHeavy at h ⊢
  split at h
  · exact (Lin.need (Lin.ret _ _)) k h
  · exact h.elim
theorem cxHv_ok : CxOk Try.prog cxHv := mkCx_ok namesC mixedC (by simp)
theorem ite_flip (a : Int) : (if (100000 : Int) < a then (100000 : Int) else a) = (if a < 100000 then a else 100000) := by split <;> split <;> omega
theorem hv_loop (n : Nat) (kinds nums sids ppids : List Int) (unos : List Bool) (dss : List (List Int)) (c M : Nat) (k : SV → St → Prop) (hl : dss.length = n) (hn : n ≤ 140737488355328) (hk : k (.sa (.one (bv (heavyB n dss)))) [(some (.own false .ext 0 6 (.tab n [.ints .u8 kinds, .ints .i64 nums, .ints .u16 sids, .bools unos, .ints .u32 ppids, .data .u8 dss])))]) :
    ∀ (rem i : Nat) (s : Int), i + rem = n → 0 ≤ s → s ≤ 60000 → heavyB n dss = (heavyF s (dss.drop i) || decide (((n : Nat) : Int) > 500)) → ev cxHv (rem + c + 55) 1 7 (codeAt Try.prog 7 [1, 1, 0, 1, 0]) (frm 26 [(0, (.sa (.one (SC.ref 0)))), (3, (.sa (.one (iv .i64 (s : Int))))), (6, (.sa (.one (SC.ref 0)))), (7, (.sa (.one (iv .i64 ((n : Nat) : Int))))), (8, (.sa (.one (iv .i64 ((i : Nat) : Int)))))]) [(some (.own false .ext 0 6 (.tab n [.ints .u8 kinds, .ints .i64 nums, .ints .u16 sids, .bools unos, .ints .u32 ppids, .data .u8 dss])))] (kBlock 0 (kSeq (ev cxHv (M + 57) 1 7 (codeAt Try.prog 7 [1, 1, 1])) (kRet (Cx.P cxHv) [(ResultVar.tmp 2)] 1 k))) := by
  intro rem
  induction rem with
  | zero =>
    intro i s h1 h2 h3 h4
    rw [t_hvS]
    refine Again.mk (brf (by omega) (kSt hk ?_ rfl))
    have hd : dss.drop i = [] := List.drop_of_length_le (by omega)
    rw [h4, hd]
    rfl
  | succ rem ih =>
    intro i s h1 h2 h3 h4
    rw [show rem + 1 + c + 55 = (rem + 1 + c) + 55 from rfl, t_hvS]
    have e0 : 0 + ((i : Nat) : Int).toNat = i := by omega
    have e6 : addK .i64 ((i : Nat) : Int) 1 = ((i + 1 : Nat) : Int) := by rw [add64 (by omega)]; omega
    have hd : dss.drop i = dss.getD i [] :: dss.drop (i + 1) := by
      rw [List.drop_eq_getElem_cons (by omega), List.getD_eq_getElem?_getD, List.getElem?_eq_getElem (by omega)]; rfl
    rw [hd, heavyF] at h4
    rw [e0, e6, ite_flip]
    generalize hm : (if (((dss.getD i []).length : Nat) : Int) < 100000 then (((dss.getD i []).length : Nat) : Int) else 100000) = m at h4 ⊢
    have hm2 : 0 ≤ m ∧ m ≤ 100000 := by rw [← hm]; split <;> omega
    rw [add64 (a := 1) (b := m) (by omega), add64 (by omega)]
    refine Again.mk (brt (by omega) (ndd (by omega) (ndd (by omega) (ndd (by omega) ?_))))
    refine brd (fun e => kSt hk ?_ rfl) (fun e => ?_)
    · rw [if_pos e] at h4; rw [h4]; rfl
    · rw [if_neg e] at h4
      exact evFuel (ih (i + 1) (s + (1 + m)) (by omega) (by omega) (by omega) h4) (by omega)
theorem heavy_sum : SumOk Try.prog 7 sHeavy := by
  refine sumOk_of cxHv_ok sHeavy_lin fun args st k h => ?_
  unfold sHeavy at h
  split at h
  · rename_i n kinds nums sids unos ppids dss
    obtain ⟨h1, hk⟩ := need_iff.1 h
    have h1 := of_decide_eq_true h1
    refine ⟨n + 60, ?_⟩
    rw [t_hv]
    exact hv_loop n kinds nums sids ppids unos dss 0 n k h1.1 h1.2 hk n 0 0 (by omega) (by omega) (by omega) rfl
  · exact h.elim

/-! lengths -/
theorem lensL_nil : lensL [] = 0 := rfl
theorem lensL_cons (d : List Int) (r : List (List Int)) : lensL (d :: r) = d.length + lensL r := by simp [lensL]
theorem lensL_app (a b : List (List Int)) : lensL (a ++ b) = lensL a + lensL b := by simp [lensL]
theorem lensL_drop {l : List (List Int)} {i : Nat} (h : i < l.length) : lensL (l.drop i) = (l.getD i []).length + lensL (l.drop (i + 1)) := by
  have hd : l.drop i = l.getD i [] :: l.drop (i + 1) := by
    rw [List.drop_eq_getElem_cons h, List.getD_eq_getElem?_getD, List.getElem?_eq_getElem h]; rfl
  rw [hd, lensL_cons]
theorem lensL_parts (b : Nat) (xs : List Int) : ∀ n, lensL (partsL b n xs) = min (n * b) xs.length
  | 0 => by simp [partsL, lensL]
  | n + 1 => by
    rw [partsL_succ, lensL_app, lensL_parts b xs n, lensL_cons, lensL_nil, List.length_take, List.length_drop, Nat.succ_mul]
    omega
theorem lensL_cutD {size : Int} {xs : List Int} (h1 : 1 ≤ size) (h2 : 1 ≤ xs.length) : lensL (cutD size xs) = xs.length := by
  have hq := cutN_geA (s := cutS size xs.length) (len := xs.length) (by unfold cutS; omega) h2
  unfold cutD
  rw [lensL_parts]
  omega
theorem heavy_lens : ∀ (l : List (List Int)) (s : Int), 0 ≤ s → heavyF s l = false → s ≤ 60000 → s + (lensL l : Int) ≤ 60000
  | [], s, _, _, h => by rw [lensL_nil]; omega
  | d :: r, s, h0, h, h3 => by
    rw [heavyF] at h
    generalize hm : (if ((d.length : Nat) : Int) < 100000 then ((d.length : Nat) : Int) else 100000) = m at h
    have hm2 : 0 ≤ m ∧ (m < 100000 → m = d.length) := by rw [← hm]; split <;> omega
    by_cases hs : s + (1 + m) > 60000
    · rw [if_pos hs] at h; cases h
    · rw [if_neg hs] at h
      have := heavy_lens r (s + (1 + m)) (by omega) h (by omega)
      rw [lensL_cons]
      omega

/-! the law -/
theorem cxRm_ok : CxOk Try.prog cxRm := mkCx_ok namesC mixedC (by
  intro x h
  simp only [List.mem_cons, List.not_mem_nil, or_false] at h
  rcases h with rfl | rfl | rfl | rfl | rfl
  · exact known_sum
  · exact heavy_sum
  · exact check_sum
  · exact acc_sum
  · exact take_sum)
theorem room_chk {sr b t : Int} {KF1 KF2 KF3 X : Prop} (h1 : 0 ≤ b) (h2 : 0 ≤ t) (h3 : b + t ≤ sr) (h4 : sr ≤ 65536) (hX : X) :
    branch (Bool.not (eqK (addK .i64 (addK .i64 (subK .i64 (subK .i64 sr b) t) b) t) sr)) KF1 (branch (decide (subK .i64 (subK .i64 sr b) t < 0)) KF2 (branch (decide (t < 0)) KF3 X)) := by
  rw [sub64 (a := sr) (b := b) (by omega), sub64 (by omega), add64 (a := sr - b - t) (b := b) (by omega), add64 (by omega), eqK_t.2 (by omega)]
  exact br (fun h => by cases h) (fun _ => brf (by omega) (brf (by omega) hX))
theorem free_eq {sr b t : Int} (h1 : 0 ≤ b) (h2 : 0 ≤ t) (h3 : b + t ≤ sr) (h4 : sr ≤ 65536) : subK .i64 (subK .i64 sr b) t = sr - b - t := by
  rw [sub64 (a := sr) (b := b) (by omega), sub64 (by omega)]
set_option maxHeartbeats 1000000 in
theorem room_loop (mtu st sr rr mm ri rmin rmax it pt al beat life : Int) (n : Nat) (kinds nums sids ppids : List Int) (unos : List Bool) (dss : List (List Int)) (M c : Nat) (k : SV → St → Prop) (hT : ∀ st, k (.sa (.one (bv true))) st)
    (hl : dss.length = n) (hn : n ≤ 500) (hs : ∀ i, 0 ≤ sids.getD i 0) (hm : 64 ≤ mtu ∧ mtu ≤ 1500) (hst : 0 ≤ st ∧ st ≤ 16) (hsr : sr ≤ 65536) (hnum : ∀ i, -9223372036854775808 ≤ nums.getD i 0 ∧ nums.getD i 0 ≤ 9223372036854775807) :
    ∀ (rem i : Nat) (tk tsn s0 s1 s2 s3 s4 s5 s6 s7 s8 s9 sa sb sc sd se sf : Int) (q : Nat) (ts fs ss ns ps : List Int) (ds : List (List Int)), i + rem = n → pieOk q ts fs ss ns ps ds = true → q + lensL (dss.drop i) ≤ 60000 → 0 ≤ tsn ∧ tsn ≤ 4294967295 → 0 ≤ tk → (lensL ds : Int) + tk ≤ sr →
      ev cxRm (rem + c + 52) 1 3 (codeAt Try.prog 3 [1, 1, 1, 1, 1, 0, 1, 0]) (frm 110 [(2, (.sa (.one (SC.ref 0)))), (3, (.sa (.one (SC.ptr 1 0 0)))), (7, (.sa (.one (SC.ptr 2 0 0)))), (9, (.sa (.one (iv .i64 tk)))), (28, (.sa (.one (SC.ref 0)))), (29, (.sa (.one (iv .i64 ((n : Nat) : Int))))), (30, (.sa (.one (iv .i64 ((i : Nat) : Int)))))]) [(some (.own false .ext 0 6 (.tab n [.ints .u8 kinds, .ints .i64 nums, .ints .u16 sids, .bools unos, .ints .u32 ppids, .data .u8 dss]))), (obj 25 13 [iv .i64 mtu, iv .u16 st, iv .i64 sr, iv .i64 rr, iv .i64 mm, iv .u32 ri, iv .u32 rmin, iv .u32 rmax, iv .u8 it, iv .u8 pt, iv .u8 al, iv .u32 beat, iv .u32 life]), obj 66 33 (iv .i64 (mtu) :: iv .u16 (st) :: iv .i64 (sr) :: iv .i64 (rr) :: iv .i64 (mm) :: iv .u32 (ri) :: iv .u32 (rmin) :: iv .u32 (rmax) :: iv .u8 (it) :: iv .u8 (pt) :: iv .u8 (al) :: iv .u32 (beat) :: iv .u32 (life) :: iv .u32 (tsn) :: iv .u16 (s0) :: iv .u16 (s1) :: iv .u16 (s2) :: iv .u16 (s3) :: iv .u16 (s4) :: iv .u16 (s5) :: iv .u16 (s6) :: iv .u16 (s7) :: iv .u16 (s8) :: iv .u16 (s9) :: iv .u16 (sa) :: iv .u16 (sb) :: iv .u16 (sc) :: iv .u16 (sd) :: iv .u16 (se) :: iv .u16 (sf) :: .ref 3 :: iv .i64 ((lensL ds : Nat) : Int) :: iv .i64 (tk) :: []), some (.own true .row 41 6 (.tab q [.ints .u32 ts, .ints .u8 fs, .ints .u16 ss, .ints .u16 ns, .ints .u32 ps, .data .u8 ds]))] (kBlock 0 (kSeq (ev cxRm (M + 54) 1 3 (codeAt Try.prog 3 [1, 1, 1, 1, 1, 1])) (kRet (Cx.P cxRm) [(ResultVar.tmp 6)] 1 k))) := by
  intro rem
  induction rem with
  | zero =>
    intro i tk tsn s0 s1 s2 s3 s4 s5 s6 s7 s8 s9 sa sb sc sd se sf q ts fs ss ns ps ds h1 h2 h3 h4 h5 h6
    rw [t_rmS]
    exact Again.mk (brf (by omega) (hT _))
  | succ rem ih =>
    intro i tk tsn s0 s1 s2 s3 s4 s5 s6 s7 s8 s9 sa sb sc sd se sf q ts fs ss ns ps ds h1 h2 h3 h4 h5 h6
    obtain ⟨l1, l2, l3, l4, l5, l6, l7⟩ := pieOk_iff.1 h2
    rw [show rem + 1 + c + 52 = (rem + 1 + c) + 52 from rfl, t_rmS]
    have e0 : 0 + ((i : Nat) : Int).toNat = i := by omega
    have e6 : addK .i64 ((i : Nat) : Int) 1 = ((i + 1 : Nat) : Int) := by rw [add64 (by omega)]; omega
    have hdr := lensL_drop (l := dss) (i := i) (by omega)
    have hsi := hs i
    have hnu := hnum i
    have hbt := free_eq (sr := sr) (b := (lensL ds : Int)) (t := tk) (by omega) h5 h6 hsr
    have hok : decide (ts.length = q ∧ fs.length = q ∧ ss.length = q ∧ ns.length = q ∧ ps.length = q ∧ ds.length = q ∧ q ≤ 1000000) = true := decide_eq_true ⟨l1, l2, l3, l4, l5, l6, l7⟩
    rw [e0, e6]
    have hz : addK .i64 tk 0 = tk := by rw [add64 (by omega)]; omega
    have stay : ev cxRm (rem + 1 + c + 51) 1 3 (codeAt Try.prog 3 [1, 1, 1, 1, 1, 0, 1, 0]) (frm 110 [(2, (.sa (.one (SC.ref 0)))), (3, (.sa (.one (SC.ptr 1 0 0)))), (7, (.sa (.one (SC.ptr 2 0 0)))), (9, (.sa (.one (iv .i64 tk)))), (28, (.sa (.one (SC.ref 0)))), (29, (.sa (.one (iv .i64 ((n : Nat) : Int))))), (30, (.sa (.one (iv .i64 ((i + 1 : Nat) : Int)))))]) [(some (.own false .ext 0 6 (.tab n [.ints .u8 kinds, .ints .i64 nums, .ints .u16 sids, .bools unos, .ints .u32 ppids, .data .u8 dss]))), (obj 25 13 [iv .i64 mtu, iv .u16 st, iv .i64 sr, iv .i64 rr, iv .i64 mm, iv .u32 ri, iv .u32 rmin, iv .u32 rmax, iv .u8 it, iv .u8 pt, iv .u8 al, iv .u32 beat, iv .u32 life]), obj 66 33 (iv .i64 (mtu) :: iv .u16 (st) :: iv .i64 (sr) :: iv .i64 (rr) :: iv .i64 (mm) :: iv .u32 (ri) :: iv .u32 (rmin) :: iv .u32 (rmax) :: iv .u8 (it) :: iv .u8 (pt) :: iv .u8 (al) :: iv .u32 (beat) :: iv .u32 (life) :: iv .u32 (tsn) :: iv .u16 (s0) :: iv .u16 (s1) :: iv .u16 (s2) :: iv .u16 (s3) :: iv .u16 (s4) :: iv .u16 (s5) :: iv .u16 (s6) :: iv .u16 (s7) :: iv .u16 (s8) :: iv .u16 (s9) :: iv .u16 (sa) :: iv .u16 (sb) :: iv .u16 (sc) :: iv .u16 (sd) :: iv .u16 (se) :: iv .u16 (sf) :: .ref 3 :: iv .i64 ((lensL ds : Nat) : Int) :: iv .i64 (tk) :: []), some (.own true .row 41 6 (.tab q [.ints .u32 ts, .ints .u8 fs, .ints .u16 ss, .ints .u16 ns, .ints .u32 ps, .data .u8 ds]))] (kBlock 0 (kSeq (ev cxRm (M + 54) 1 3 (codeAt Try.prog 3 [1, 1, 1, 1, 1, 1])) (kRet (Cx.P cxRm) [(ResultVar.tmp 6)] 1 k))) := evFuel (ih (i + 1) tk tsn s0 s1 s2 s3 s4 s5 s6 s7 s8 s9 sa sb sc sd se sf q ts fs ss ns ps ds (by omega) h2 (by omega) h4 h5 h6) (by omega)
    refine Again.mk (brt (by omega) (ndd (by omega) (ndd (by omega) (ndd (by omega) ?_))))
    refine bre (fun hk0 => ?_) (fun hk0 => bre (fun hk1 => ?_) (fun hk1 => bre (fun hk3 => ?_) (fun hk3 => ?_)))
    · -- Accept
      refine nd (by rw [hok, decide_eq_true ⟨by omega, by omega, hm.1, hm.2, hst.1, hst.2, hsi, h4.1, h4.2⟩]; rfl) ?_
      refine brd (fun _ => room_chk (by omega) h5 h6 hsr stay) (fun hx0 => ?_)
      refine brd (fun _ => room_chk (by omega) h5 h6 hsr stay) (fun _ => ?_)
      refine brd (fun _ => room_chk (by omega) h5 h6 hsr stay) (fun _ => ?_)
      unfold freeQ
      rw [hbt]
      refine brd (fun hf => brf (by omega) ?_) (fun hf => brf (by omega) ?_)
      · rw [← hbt]
        exact room_chk (by omega) h5 h6 hsr stay
      · have hNb := cutN_le (size := mtu - 28) (n := (dss.getD i []).length) (by omega) (by omega)
        have hlc := lensL_cutD (size := mtu - 28) (xs := dss.getD i []) (by omega) (by omega)
        have hcl := cutD_len (mtu - 28) (dss.getD i [])
        have hb : addK .i64 ((lensL ds : Nat) : Int) (((dss.getD i []).length : Nat) : Int) = ((lensL (ds ++ cutD (mtu - 28) (dss.getD i [])) : Nat) : Int) := by rw [add64 (by omega), lensL_app, hlc]; omega
        have hb2 := lensL_app ds (cutD (mtu - 28) (dss.getD i []))
        have hts : 0 ≤ tsnAdd tsn (cutN (cutS (mtu - 28) (dss.getD i []).length) (dss.getD i []).length) ∧ tsnAdd tsn (cutN (cutS (mtu - 28) (dss.getD i []).length) (dss.getD i []).length) ≤ 4294967295 := by unfold tsnAdd; rw [IntKind.wrap_u32]; omega
        rw [hb]
        refine room_chk (by omega) h5 (by omega) hsr ?_
        refine evFuel (ih (i + 1) tk _ _ _ _ _ _ _ _ _ _ _ _ _ _ _ _ _ _ _ _ _ _ _ _ (by omega) (pieOk_iff.2 ?_) (by omega) hts h5 (by omega)) (by omega)
        rw [List.length_append, List.length_append, List.length_append, List.length_append, List.length_append, List.length_append, l1, l2, l3, l4, l5, l6, tsnL_len, cutF_len, List.length_replicate, List.length_replicate, List.length_replicate, hcl]
        exact ⟨rfl, rfl, rfl, rfl, rfl, rfl, by omega⟩
    · -- Take
      by_cases hq : q = 0
      · refine nd (by rw [hok, decide_eq_true (show (ds.getD 0 []).length ≤ 140737488355328 by
          cases ds with
          | nil => simp
          | cons d r => simp at l6; omega)]; rfl) (brt hq ?_)
        rw [hz]
        exact room_chk (by omega) h5 h6 hsr stay
      · have hd0 := lensL_drop (l := ds) (i := 0) (by omega)
        simp only [List.drop_zero, Nat.zero_add] at hd0
        refine nd (by rw [hok, decide_eq_true (show (ds.getD 0 []).length ≤ 140737488355328 by omega)]; rfl) (brf hq ?_)
        have hb : subK .i64 ((lensL ds : Nat) : Int) (((ds.getD 0 []).length : Nat) : Int) = ((lensL (ds.drop 1) : Nat) : Int) := by rw [sub64 (by omega)]; omega
        have ht : addK .i64 tk (((ds.getD 0 []).length : Nat) : Int) = tk + (((ds.getD 0 []).length : Nat) : Int) := add64 (by omega)
        rw [hb, ht]
        refine room_chk (by omega) (by omega) (by omega) hsr ?_
        refine evFuel (ih (i + 1) _ tsn s0 s1 s2 s3 s4 s5 s6 s7 s8 s9 sa sb sc sd se sf (q - 1) _ _ _ _ _ _ (by omega) (pieOk_iff.2 ?_) (by omega) h4 (by omega) (by omega)) (by omega)
        rw [List.length_drop, List.length_drop, List.length_drop, List.length_drop, List.length_drop, List.length_drop, l1, l2, l3, l4, l5, l6]
        exact ⟨rfl, rfl, rfl, rfl, rfl, rfl, by omega⟩
    · -- Freed
      refine brd (fun _ => room_chk (by omega) h5 h6 hsr stay) (fun hn1 => ?_)
      refine brd (fun _ => room_chk (by omega) h5 h6 hsr stay) (fun hn2 => ?_)
      have ht : subK .i64 tk (nums.getD i 0) = tk - nums.getD i 0 := sub64 (by omega)
      rw [ht]
      exact room_chk (by omega) (by omega) (by omega) hsr (evFuel (ih (i + 1) (tk - nums.getD i 0) tsn s0 s1 s2 s3 s4 s5 s6 s7 s8 s9 sa sb sc sd se sf q ts fs ss ns ps ds (by omega) h2 (by omega) h4 (by omega) (by omega)) (by omega))
    · exact room_chk (by omega) h5 h6 hsr stay
end Go.Ev
