/- The law OutqCalls, run: a round, and all of them. No conditions. -/
import Derived.Test.YtipmphkcbhjinaaOcT3
import Derived.Test.YtipmphkcbhjinaaOcT4
import Derived.Test.YtipmphkcbhjinaaOcT5
import Derived.Test.YtipmphkcbhjinaaOcS
set_option linter.unusedVariables false
set_option linter.unusedSimpArgs false
namespace Go.Ev
open Go Go.Proofs Go.Spec
attribute [local irreducible] ev evCall branch need again
def ocA (c : Cfg) (n : Nat) (kinds nums sids ppids : List Int) (unos : List Bool) (dss : List (List Int)) (T : Int) (sF : Nat → Int) (tn m : Nat) (cts cfs css cns cps : List Int) (cds : List (List Int)) (fr : Int) (sn : List Int) (f M i : Nat) (k : SV → St → Prop) : Prop := ev cxOc f 1 5 (codeAt Try.prog 5 [1, 1, 1, 1, 1, 1, 0, 1, 0]) (frm 154 [(7, (.sa (.one (SC.ptr 1 0 0)))), (9, (.sa (.one (SC.ptr 3 0 0)))), (47, (.sa (.one (SC.ref 0)))), (48, (.sa (.one (iv .i64 ((n : Nat) : Int))))), (49, (.sa (.one (iv .i64 ((i : Nat) : Int)))))]) [(some (.own false .ext 0 6 (.tab n [.ints .u8 kinds, .ints .i64 nums, .ints .u16 sids, .bools unos, .ints .u32 ppids, .data .u8 dss]))), obj 66 33 (iv .i64 (c.mtu) :: iv .u16 (c.st) :: iv .i64 (c.sr) :: iv .i64 (c.rr) :: iv .i64 (c.mm) :: iv .u32 (c.ri) :: iv .u32 (c.rmin) :: iv .u32 (c.rmax) :: iv .u8 (c.it) :: iv .u8 (c.pt) :: iv .u8 (c.al) :: iv .u32 (c.beat) :: iv .u32 (c.life) :: iv .u32 (T) :: iv .u16 (sF 0) :: iv .u16 (sF 1) :: iv .u16 (sF 2) :: iv .u16 (sF 3) :: iv .u16 (sF 4) :: iv .u16 (sF 5) :: iv .u16 (sF 6) :: iv .u16 (sF 7) :: iv .u16 (sF 8) :: iv .u16 (sF 9) :: iv .u16 (sF 10) :: iv .u16 (sF 11) :: iv .u16 (sF 12) :: iv .u16 (sF 13) :: iv .u16 (sF 14) :: iv .u16 (sF 15) :: .ref 2 :: iv .i64 ((lensL (cds.drop tn) : Nat) : Int) :: iv .i64 (((lensL (cds.take tn) : Nat) : Int) - fr) :: []), some (.own true .row 41 6 (.tab (m - tn) [.ints .u32 (cts.drop tn), .ints .u8 (cfs.drop tn), .ints .u16 (css.drop tn), .ints .u16 (cns.drop tn), .ints .u32 (cps.drop tn), .data .u8 (cds.drop tn)])), obj 55 18 [iv .i64 c.mtu, iv .u16 c.st, iv .i64 c.sr, iv .i64 c.rr, iv .i64 c.mm, iv .u32 c.ri, iv .u32 c.rmin, iv .u32 c.rmax, iv .u8 c.it, iv .u8 c.pt, iv .u8 c.al, iv .u32 c.beat, iv .u32 c.life, iv .u32 (T), .sl 4 0 c.st.toNat none, .ref 5, iv .i64 ((tn : Nat) : Int), iv .i64 fr], some (.mem true .whole 22 1 (.ints .u16 sn)), some (.own true .row 41 6 (.tab m [.ints .u32 cts, .ints .u8 cfs, .ints .u16 css, .ints .u16 cns, .ints .u32 cps, .data .u8 cds]))] (kBlock 0 (kSeq (ev cxOc (M + 53) 1 5 (codeAt Try.prog 5 [1, 1, 1, 1, 1, 1, 1])) (kRet (Cx.P cxOc) [(ResultVar.tmp 6)] 1 k)))
def ocT (c : Cfg) (n : Nat) (kinds nums sids ppids : List Int) (unos : List Bool) (dss : List (List Int)) (T : Int) (sF : Nat → Int) (tn m : Nat) (cts cfs css cns cps : List Int) (cds : List (List Int)) (fr : Int) (sn : List Int) (L M i : Nat) (k : SV → St → Prop) : Prop := ev cxOc (L + 42) 1 5 (codeAt Try.prog 5 [1, 1, 1, 1, 1, 1, 0, 1, 0, 0, 1, 1, 0, 0, 1, 1, 0, 0]) (frm 154 [(7, (.sa (.one (SC.ptr 1 0 0)))), (9, (.sa (.one (SC.ptr 3 0 0)))), (11, (.sa (.one (iv .i64 ((i : Nat) : Int))))), (47, (.sa (.one (SC.ref 0)))), (48, (.sa (.one (iv .i64 ((n : Nat) : Int))))), (49, (.sa (.one (iv .i64 ((i : Nat) : Int)))))]) [(some (.own false .ext 0 6 (.tab n [.ints .u8 kinds, .ints .i64 nums, .ints .u16 sids, .bools unos, .ints .u32 ppids, .data .u8 dss]))), obj 66 33 (iv .i64 (c.mtu) :: iv .u16 (c.st) :: iv .i64 (c.sr) :: iv .i64 (c.rr) :: iv .i64 (c.mm) :: iv .u32 (c.ri) :: iv .u32 (c.rmin) :: iv .u32 (c.rmax) :: iv .u8 (c.it) :: iv .u8 (c.pt) :: iv .u8 (c.al) :: iv .u32 (c.beat) :: iv .u32 (c.life) :: iv .u32 (T) :: iv .u16 (sF 0) :: iv .u16 (sF 1) :: iv .u16 (sF 2) :: iv .u16 (sF 3) :: iv .u16 (sF 4) :: iv .u16 (sF 5) :: iv .u16 (sF 6) :: iv .u16 (sF 7) :: iv .u16 (sF 8) :: iv .u16 (sF 9) :: iv .u16 (sF 10) :: iv .u16 (sF 11) :: iv .u16 (sF 12) :: iv .u16 (sF 13) :: iv .u16 (sF 14) :: iv .u16 (sF 15) :: .ref 2 :: iv .i64 ((lensL (cds.drop tn) : Nat) : Int) :: iv .i64 (((lensL (cds.take tn) : Nat) : Int) - fr) :: []), some (.own true .row 41 6 (.tab (m - tn) [.ints .u32 (cts.drop tn), .ints .u8 (cfs.drop tn), .ints .u16 (css.drop tn), .ints .u16 (cns.drop tn), .ints .u32 (cps.drop tn), .data .u8 (cds.drop tn)])), obj 55 18 [iv .i64 c.mtu, iv .u16 c.st, iv .i64 c.sr, iv .i64 c.rr, iv .i64 c.mm, iv .u32 c.ri, iv .u32 c.rmin, iv .u32 c.rmax, iv .u8 c.it, iv .u8 c.pt, iv .u8 c.al, iv .u32 c.beat, iv .u32 c.life, iv .u32 (T), .sl 4 0 c.st.toNat none, .ref 5, iv .i64 ((tn : Nat) : Int), iv .i64 fr], some (.mem true .whole 22 1 (.ints .u16 sn)), some (.own true .row 41 6 (.tab m [.ints .u32 cts, .ints .u8 cfs, .ints .u16 css, .ints .u16 cns, .ints .u32 cps, .data .u8 cds]))] (kSeq (ev cxOc (L + 42) 1 5 (codeAt Try.prog 5 [1, 1, 1, 1, 1, 1, 0, 1, 0, 0, 1, 1, 0, 0, 1, 1, 0, 1])) (kSeq (ev cxOc (L + 43) 1 5 (codeAt Try.prog 5 [1, 1, 1, 1, 1, 1, 0, 1, 0, 0, 1, 1, 0, 0, 1, 1, 1])) (kBlock 1 (kSeq (ev cxOc (L + 47) 1 5 (codeAt Try.prog 5 [1, 1, 1, 1, 1, 1, 0, 1, 0, 0, 1, 1, 1])) (kSeq (ev cxOc (L + 50) 1 5 (codeAt Try.prog 5 [1, 1, 1, 1, 1, 1, 0, 1, 0])) (kBlock 0 (kSeq (ev cxOc (M + 53) 1 5 (codeAt Try.prog 5 [1, 1, 1, 1, 1, 1, 1])) (kRet (Cx.P cxOc) [(ResultVar.tmp 6)] 1 k))))))))
structure OcI (c : Cfg) (dl : Nat) (T : Int) (sF : Nat → Int) (tn m : Nat) (cts cfs css cns cps : List Int) (cds : List (List Int)) (fr : Int) (sn : List Int) : Prop where
  ok : pieOk m cts cfs css cns cps cds = true
  ht : tn ≤ m
  hm : m + dl ≤ 60000
  hd : lensL cds + dl ≤ 60000
  f0 : 0 ≤ fr
  f1 : fr ≤ lensL (cds.take tn)
  sl : sn.length = c.st.toNat
  sq : ∀ j, j < c.st.toNat → sn.getD j 0 = sF j
  T0 : 0 ≤ T ∧ T ≤ 4294967295
theorem brF {b : Bool} {y z : Prop} (h : b = false) (h1 : z) : branch b y z := br (fun h' => by rw [h] at h'; cases h') (fun _ => h1)
theorem sl16 (sF : Nat → Int) {j : Nat} (h : j < 16) : [sF 0, sF 1, sF 2, sF 3, sF 4, sF 5, sF 6, sF 7, sF 8, sF 9, sF 10, sF 11, sF 12, sF 13, sF 14, sF 15].getD j 0 = sF j := by
  match j, h with
  | 0, _ => rfl
  | 1, _ => rfl
  | 2, _ => rfl
  | 3, _ => rfl
  | 4, _ => rfl
  | 5, _ => rfl
  | 6, _ => rfl
  | 7, _ => rfl
  | 8, _ => rfl
  | 9, _ => rfl
  | 10, _ => rfl
  | 11, _ => rfl
  | 12, _ => rfl
  | 13, _ => rfl
  | 14, _ => rfl
  | 15, _ => rfl
  | j + 16, h => exact absurd h (by omega)
theorem getD_drop0 {α : Type} (l : List α) (t : Nat) (d : α) : (l.drop t).getD 0 d = l.getD t d := by
  rw [List.getD_eq_getElem?_getD, List.getD_eq_getElem?_getD, List.getElem?_drop]; rfl
theorem oc_tail (c : Cfg) (n : Nat) (kinds nums sids ppids : List Int) (unos : List Bool) (dss : List (List Int)) (T : Int) (sF : Nat → Int) (tn m : Nat) (cts cfs css cns cps : List Int) (cds : List (List Int)) (fr : Int) (sn : List Int) (L M i : Nat) (k : SV → St → Prop) (hm : 64 ≤ c.mtu ∧ c.mtu ≤ 1500) (hst : 0 ≤ c.st ∧ c.st ≤ 16) (hsr : 0 ≤ c.sr ∧ c.sr ≤ 65536) {dl : Nat} (I : OcI c dl T sF tn m cts cfs css cns cps cds fr sn) (hi : i ≤ 500) (h : ocA c n kinds nums sids ppids unos dss T sF tn m cts cfs css cns cps cds fr sn (L + 50) M (i + 1) k) : ocT c n kinds nums sids ppids unos dss T sF tn m cts cfs css cns cps cds fr sn L M i k := by
  obtain ⟨l1, l2, l3, l4, l5, l6, l7⟩ := pieOk_iff.1 I.ok
  have i1 := I.ht
  have i2 := I.hm
  have i3 := I.hd
  have i4 := I.f0
  have i5 := I.f1
  have i6 := I.T0
  have two := lensL_two cds tn
  have e6 : addK .i64 ((i : Nat) : Int) 1 = ((i + 1 : Nat) : Int) := by rw [add64 (by omega)]; omega
  have b1 : bytesN cds 0 ((m : Nat) : Int) = lensL cds := by
    unfold bytesN
    rw [List.take_of_length_le (by omega)]; rfl
  have b2 : bytesN cds ((tn : Nat) : Int) ((m : Nat) : Int) = lensL (cds.drop tn) := by
    unfold bytesN
    rw [List.take_of_length_le (by omega), Int.toNat_natCast]
  have hb1 : byOk m cds 0 ((m : Nat) : Int) = true := decide_eq_true ⟨by omega, by omega, by omega, by omega⟩
  have hb2 : byOk m cds ((tn : Nat) : Int) ((m : Nat) : Int) = true := decide_eq_true ⟨by omega, by omega, by omega, by omega⟩
  have hokm : decide (cts.length = m ∧ cfs.length = m ∧ css.length = m ∧ cns.length = m ∧ cps.length = m ∧ cds.length = m ∧ m ≤ 1000000) = true := decide_eq_true ⟨by first | omega | (simp only [List.length_drop]; omega), by first | omega | (simp only [List.length_drop]; omega), by first | omega | (simp only [List.length_drop]; omega), by first | omega | (simp only [List.length_drop]; omega), by first | omega | (simp only [List.length_drop]; omega), by first | omega | (simp only [List.length_drop]; omega), by omega⟩
  have hokq : decide ((cts.drop tn).length = m - tn ∧ (cfs.drop tn).length = m - tn ∧ (css.drop tn).length = m - tn ∧ (cns.drop tn).length = m - tn ∧ (cps.drop tn).length = m - tn ∧ (cds.drop tn).length = m - tn ∧ m - tn ≤ 1000000) = true := decide_eq_true ⟨by first | omega | (simp only [List.length_drop]; omega), by first | omega | (simp only [List.length_drop]; omega), by first | omega | (simp only [List.length_drop]; omega), by first | omega | (simp only [List.length_drop]; omega), by first | omega | (simp only [List.length_drop]; omega), by first | omega | (simp only [List.length_drop]; omega), by omega⟩
  have hokr : decide (((cts.drop tn).drop 1).length = m - tn - 1 ∧ ((cfs.drop tn).drop 1).length = m - tn - 1 ∧ ((css.drop tn).drop 1).length = m - tn - 1 ∧ ((cns.drop tn).drop 1).length = m - tn - 1 ∧ ((cps.drop tn).drop 1).length = m - tn - 1 ∧ ((cds.drop tn).drop 1).length = m - tn - 1 ∧ m - tn - 1 ≤ 1000000) = true := decide_eq_true ⟨by first | omega | (simp only [List.length_drop]; omega), by first | omega | (simp only [List.length_drop]; omega), by first | omega | (simp only [List.length_drop]; omega), by first | omega | (simp only [List.length_drop]; omega), by first | omega | (simp only [List.length_drop]; omega), by first | omega | (simp only [List.length_drop]; omega), by omega⟩
  have lq : ∀ x : List Int, x.length = m → (x.drop tn).length = m - tn := fun x hx => by rw [List.length_drop, hx]
  have ha1 : accOk (m - tn) 1 c.mtu c.st 0 T = true := decide_eq_true ⟨by omega, by omega, hm.1, hm.2, hst.1, hst.2, by omega, i6.1, i6.2⟩
  have ha2 : accOk (m - tn - 1) 1 c.mtu c.st 0 T = true := decide_eq_true ⟨by omega, by omega, hm.1, hm.2, hst.1, hst.2, by omega, i6.1, i6.2⟩
  have hd0 : ((cds.drop tn).getD 0 []).length ≤ 140737488355328 := by
    rw [getD_drop0]
    by_cases e : tn < cds.length
    · have := lensL_drop (l := cds) (i := tn) e
      omega
    · rw [List.getD_eq_getElem?_getD, List.getElem?_eq_none (by omega)]; simp
  unfold ocA at h
  unfold ocT
  rw [t_ocT, b1, b2, e6]
  refine Again.mk (nd (by rw [hokm, hb1]; rfl) (brF ?_ (nd (by rw [hokm, hb2]; rfl) (brF (by rw [eqK_t.2 rfl]; rfl) (brF (by rw [eqK_t.2 rfl]; rfl) ?_)))))
  · rw [sub64 (a := c.sr) (by omega), sub64 (by omega), sub64 (by omega), add64 (by omega), eqK_t.2 (by omega)]; rfl
  · refine br (fun _ => ?_) (fun _ => h)
    refine nd hokq (nd (by rw [hokq, decide_eq_true hd0]; rfl) (brd (fun hq => ?_) (fun hq => ?_)))
    · exact nd (by rw [hokq, ha1]; rfl) (br (fun _ => h) (fun _ => br (fun _ => h) (fun _ => br (fun _ => h) (fun _ => h))))
    · exact nd (by rw [hokr, ha2]; rfl) (br (fun _ => h) (fun _ => br (fun _ => h) (fun _ => br (fun _ => h) (fun _ => h))))
theorem oc_loop (c : Cfg) (n : Nat) (kinds nums sids ppids : List Int) (unos : List Bool) (dss : List (List Int)) (M d : Nat) (k : SV → St → Prop) (hT : ∀ st, k (.sa (.one (bv true))) st) (hm : 64 ≤ c.mtu ∧ c.mtu ≤ 1500) (hst : 0 ≤ c.st ∧ c.st ≤ 16) (hsr : 0 ≤ c.sr ∧ c.sr ≤ 65536)
    (hl : dss.length = n) (hn : n ≤ 500) (hs : ∀ i, 0 ≤ sids.getD i 0 ∧ sids.getD i 0 ≤ 65535) :
    ∀ (rem i : Nat) (T : Int) (sF : Nat → Int) (tn m : Nat) (cts cfs css cns cps : List Int) (cds : List (List Int)) (fr : Int) (sn : List Int), i + rem = n → OcI c (lensL (dss.drop i)) T sF tn m cts cfs css cns cps cds fr sn → ocA c n kinds nums sids ppids unos dss T sF tn m cts cfs css cns cps cds fr sn (rem + d + 51) M i k := by
  intro rem
  induction rem with
  | zero =>
    intro i T sF tn m cts cfs css cns cps cds fr sn h1 I
    unfold ocA
    rw [show 0 + d + 51 = (0 + d) + 51 from rfl, t_ocL]
    exact Again.mk (brf (by omega) (hT _))
  | succ rem ih =>
    intro i T sF tn m cts cfs css cns cps cds fr sn h1 I
    obtain ⟨l1, l2, l3, l4, l5, l6, l7⟩ := pieOk_iff.1 I.ok
    have i1 := I.ht
    have i2 := I.hm
    have i3 := I.hd
    have i4 := I.f0
    have i5 := I.f1
    have i6 := I.T0
    have two := lensL_two cds tn
    have hdr := lensL_drop (l := dss) (i := i) (by omega)
    have hsi := hs i
    have e0 : 0 + ((i : Nat) : Int).toNat = i := by omega
    have tail : ∀ (T : Int) (sF : Nat → Int) (tn m : Nat) (cts cfs css cns cps : List Int) (cds : List (List Int)) (fr : Int) (sn : List Int), OcI c (lensL (dss.drop (i + 1))) T sF tn m cts cfs css cns cps cds fr sn → ocT c n kinds nums sids ppids unos dss T sF tn m cts cfs css cns cps cds fr sn (rem + 1 + d) M i k := fun T sF tn m cts cfs css cns cps cds fr sn I =>
      oc_tail c n kinds nums sids ppids unos dss T sF tn m cts cfs css cns cps cds fr sn (rem + 1 + d) M i k hm hst hsr I (by omega) (by
        have h := ih (i + 1) T sF tn m cts cfs css cns cps cds fr sn (by omega) I
        unfold ocA at h ⊢
        exact evFuel h (by omega))
    have I1 : OcI c (lensL (dss.drop (i + 1))) T sF tn m cts cfs css cns cps cds fr sn := ⟨I.ok, I.ht, by omega, by omega, I.f0, I.f1, I.sl, I.sq, I.T0⟩
    have stay := tail T sF tn m cts cfs css cns cps cds fr sn I1
    unfold ocT at stay
    have hokm : decide (cts.length = m ∧ cfs.length = m ∧ css.length = m ∧ cns.length = m ∧ cps.length = m ∧ cds.length = m ∧ m ≤ 1000000) = true := decide_eq_true ⟨by first | omega | (simp only [List.length_drop]; omega), by first | omega | (simp only [List.length_drop]; omega), by first | omega | (simp only [List.length_drop]; omega), by first | omega | (simp only [List.length_drop]; omega), by first | omega | (simp only [List.length_drop]; omega), by first | omega | (simp only [List.length_drop]; omega), by omega⟩
    have hokq : decide ((cts.drop tn).length = m - tn ∧ (cfs.drop tn).length = m - tn ∧ (css.drop tn).length = m - tn ∧ (cns.drop tn).length = m - tn ∧ (cps.drop tn).length = m - tn ∧ (cds.drop tn).length = m - tn ∧ m - tn ≤ 1000000) = true := decide_eq_true ⟨by first | omega | (simp only [List.length_drop]; omega), by first | omega | (simp only [List.length_drop]; omega), by first | omega | (simp only [List.length_drop]; omega), by first | omega | (simp only [List.length_drop]; omega), by first | omega | (simp only [List.length_drop]; omega), by first | omega | (simp only [List.length_drop]; omega), by omega⟩
    have hd0 : ((cds.drop tn).getD 0 []).length ≤ 140737488355328 := by
      rw [getD_drop0]
      by_cases e : tn < cds.length
      · have := lensL_drop (l := cds) (i := tn) e
        omega
      · rw [List.getD_eq_getElem?_getD, List.getElem?_eq_none (by omega)]; simp
    unfold ocA
    rw [show rem + 1 + d + 51 = (rem + 1 + d) + 51 from rfl, t_ocL, e0]
    refine Again.mk (brt (by omega) (ndd (by omega) (ndd (by omega) (ndd (by omega) ?_))))
    refine bre (fun hk0 => ?_) (fun hk0 => bre (fun hk1 => ?_) (fun hk1 => bre (fun hk2 => ?_) (fun hk2 => bre (fun hk3 => ?_) (fun hk3 => stay))))
    · -- a message
      have hfQ : freeQ c.sr ((lensL (cds.drop tn) : Nat) : Int) (((lensL (cds.take tn) : Nat) : Int) - fr) = c.sr - lensL cds + fr := by
        unfold freeQ
        rw [sub64 (a := c.sr) (by omega), sub64 (by omega)]; omega
      have hfR : freeR c.sr ((lensL cds : Nat) : Int) fr = c.sr - lensL cds + fr := by
        unfold freeR
        rw [sub64 (by omega), add64 (by omega)]
      have hac : accOk (m - tn) (dss.getD i []).length c.mtu c.st (sids.getD i 0) T = true := decide_eq_true ⟨by omega, by omega, hm.1, hm.2, hst.1, hst.2, hsi.1, i6.1, i6.2⟩
      have hra : ∀ X, X → need (true && (decide (cts.length = m ∧ cfs.length = m ∧ css.length = m ∧ cns.length = m ∧ cps.length = m ∧ cds.length = m ∧ m ≤ 1000000) && decide ((dss.getD i []).length ≤ 1000000 ∧ m + (dss.getD i []).length ≤ 1000000 ∧ 64 ≤ c.mtu ∧ c.mtu ≤ 1500 ∧ 0 ≤ c.st ∧ c.st ≤ 16 ∧ 0 ≤ sids.getD i 0 ∧ sids.getD i 0 ≤ 65535 ∧ sn.length = c.st.toNat ∧ c.st.toNat = c.st.toNat ∧ lensL cds ≤ 1000000000))) X := fun X hX =>
        nd (by rw [hokm, decide_eq_true ⟨by omega, by omega, hm.1, hm.2, hst.1, hst.2, hsi.1, hsi.2, I.sl, rfl, by omega⟩]; rfl) hX
      rw [hfQ, hfR]
      refine nd (by rw [hokq, hac]; rfl) ?_
      refine brd (fun c1 => hra _ (brt c1 stay)) (fun c1 => ?_)
      refine brd (fun c2 => hra _ (brf c1 (brt c2 stay))) (fun c2 => ?_)
      refine brd (fun c3 => hra _ (brf c1 (brf c2 (brt c3 stay)))) (fun c3 => ?_)
      refine brd (fun c4 => hra _ (brf c1 (brf c2 (brf c3 (brt c4 stay))))) (fun c4 => ?_)
      refine hra _ (brf c1 (brf c2 (brf c3 (brf c4 ?_))))
      have hNb := cutN_le (size := c.mtu - 28) (n := (dss.getD i []).length) (by omega) (by omega)
      have hlc := lensL_cutD (size := c.mtu - 28) (xs := dss.getD i []) (by omega) (by omega)
      have hcl := cutD_len (c.mtu - 28) (dss.getD i [])
      generalize hN : cutN (cutS (c.mtu - 28) (dss.getD i []).length) (dss.getD i []).length = N at hNb hcl ⊢
      have hsid : (sids.getD i 0).toNat < 16 := by omega
      have hss : ssnOf (unos.getD i false) (sids.getD i 0) [sF 0, sF 1, sF 2, sF 3, sF 4, sF 5, sF 6, sF 7, sF 8, sF 9, sF 10, sF 11, sF 12, sF 13, sF 14, sF 15] = ssnR (unos.getD i false) (sids.getD i 0) sn := by
        unfold ssnOf ssnR
        rw [sl16 sF hsid, I.sq _ (by omega)]
      have two2 := lensL_app cds (cutD (c.mtu - 28) (dss.getD i []))
      have td : (cds ++ cutD (c.mtu - 28) (dss.getD i [])).take tn = cds.take tn := List.take_append_of_le_length (by omega)
      have tl := lensL_app (cds.drop tn) (cutD (c.mtu - 28) (dss.getD i []))
      have hb : addK .i64 ((lensL (cds.drop tn) : Nat) : Int) (((dss.getD i []).length : Nat) : Int) = ((lensL (cds.drop tn ++ cutD (c.mtu - 28) (dss.getD i [])) : Nat) : Int) := by rw [add64 (by omega)]; omega
      have hts : 0 ≤ tsnAdd T N ∧ tsnAdd T N ≤ 4294967295 := by unfold tsnAdd; rw [IntKind.wrap_u32]; omega
      have h := tail (tsnAdd T N) (fun j => bmp (unos.getD i false) (sids.getD i 0) j (sF j)) tn (m + N) (cts ++ tsnL T N) (cfs ++ cutF (unos.getD i false) N) (css ++ List.replicate N (sids.getD i 0)) (cns ++ List.replicate N (ssnR (unos.getD i false) (sids.getD i 0) sn)) (cps ++ List.replicate N (ppids.getD i 0)) (cds ++ cutD (c.mtu - 28) (dss.getD i [])) fr (snR (unos.getD i false) (sids.getD i 0) sn)
        ⟨pieOk_iff.2 (by
          rw [List.length_append, List.length_append, List.length_append, List.length_append, List.length_append, List.length_append, l1, l2, l3, l4, l5, l6, tsnL_len, cutF_len, List.length_replicate, List.length_replicate, List.length_replicate, hcl]
          exact ⟨rfl, rfl, rfl, rfl, rfl, rfl, by omega⟩), by omega, by omega, by omega, i4, by rw [td]; exact i5, by
          unfold snR
          by_cases hu : unos.getD i false = true
          · rw [if_pos hu]; exact I.sl
          · rw [if_neg hu, List.length_set]; exact I.sl, fun j hj => by
          have hj2 := I.sq j hj
          unfold snR bmp
          by_cases hu : unos.getD i false = true
          · rw [if_pos hu, hu, if_neg (fun hc => by cases hc.1)]; exact hj2
          · have hu : unos.getD i false = false := by simpa using hu
            rw [hu, if_neg (by decide), List.getD_eq_getElem?_getD, List.getElem?_set]
            by_cases e : (sids.getD i 0).toNat = j
            · rw [if_pos e, if_pos (by have := I.sl; omega), if_pos ⟨rfl, by omega⟩, e, hj2]; rfl
            · rw [if_neg e, if_neg (fun hc => e (by have := hc.2; omega)), ← hj2, List.getD_eq_getElem?_getD], hts⟩
      unfold ocT at h
      rw [td, List.drop_append_of_le_length (by omega), List.drop_append_of_le_length (by omega), List.drop_append_of_le_length (by omega), List.drop_append_of_le_length (by omega), List.drop_append_of_le_length (by omega), List.drop_append_of_le_length (by omega), show m + N - tn = (m - tn) + N by omega] at h
      rw [hss, hb]
      exact h
    · -- a piece is taken
      have hk2 : kinds.getD i 0 ≠ 2 := by omega
      by_cases hq : m - tn = 0
      · exact bret (by omega) (bret hk1 (nd (by rw [hokq, decide_eq_true hd0]; rfl) (brt hq (bret (by omega) (bref hk2 stay)))))
      · have htn : tn < m := by omega
        have et : subK .i64 (addK .i64 ((tn : Nat) : Int) 1) 1 = ((tn : Nat) : Int) := by rw [add64 (by omega), sub64 (by omega)]; omega
        have et0 : 0 + ((tn : Nat) : Int).toNat = tn := by omega
        have et1 : addK .i64 ((tn : Nat) : Int) 1 = ((tn + 1 : Nat) : Int) := by rw [add64 (by omega)]; omega
        have hdl := lensL_drop (l := cds) (i := tn) (by omega)
        have two2 := lensL_two cds (tn + 1)
        have hb : subK .i64 ((lensL (cds.drop tn) : Nat) : Int) (((cds.getD tn []).length : Nat) : Int) = ((lensL (cds.drop (tn + 1)) : Nat) : Int) := by rw [sub64 (by omega)]; omega
        have hk : addK .i64 (((lensL (cds.take tn) : Nat) : Int) - fr) (((cds.getD tn []).length : Nat) : Int) = ((lensL (cds.take (tn + 1)) : Nat) : Int) - fr := by rw [add64 (by omega)]; omega
        have h := tail T sF (tn + 1) m cts cfs css cns cps cds fr sn ⟨I1.ok, by omega, I1.hm, I1.hd, i4, by omega, I1.sl, I1.sq, I1.T0⟩
        unfold ocT at h
        simp only [getD_drop0, List.drop_drop] at hd0 ⊢
        rw [et, et0, et1, hb, hk, Nat.sub_sub]
        refine bref (by omega) (ndd (by omega) (ndd (by omega) (ndd (by omega) (ndd (by rw [List.length_take]; omega) ?_))))
        refine bret hk1 (nd (by rw [hokq, decide_eq_true hd0]; rfl) (brf hq (bref (by omega) (ndd (by omega) (ndd (by omega) (ndd (by omega) ?_))))))
        refine bref hk2 (bret rfl (bret rfl (bret rfl (bret rfl (bret rfl (ndd (by omega) (ndd (by omega) (brF (by simp [strEq]) ?_))))))))
        exact h
    · -- a piece is looked at
      by_cases hq : m - tn = 0
      · exact bret (by omega) (bref hk1 (bret (by omega) (bret hk2 stay)))
      · have htn : tn < m := by omega
        have et : subK .i64 (addK .i64 ((tn : Nat) : Int) 1) 1 = ((tn : Nat) : Int) := by rw [add64 (by omega), sub64 (by omega)]; omega
        have et0 : 0 + ((tn : Nat) : Int).toNat = tn := by omega
        have hdl := lensL_drop (l := cds) (i := tn) (by omega)
        have ett : ∀ l : List Int, l.take l.length = l := fun l => List.take_of_length_le (Nat.le_refl _)
        simp only [getD_drop0, ett]
        rw [et, et0]
        refine bref (by omega) (ndd (by omega) (ndd (by omega) (ndd (by omega) (ndd (by omega) ?_))))
        refine bref hk1 (bref (by omega) (ndd (by omega) (ndd (by omega) (ndd (by omega) ?_))))
        refine bret hk2 (bret rfl (bret rfl (bret rfl (bret rfl (bret rfl (ndd (by omega) (ndd (by omega) (brF (by simp [strEq]) ?_))))))))
        exact stay
    · -- bytes are freed
      have b2 : bytesN cds 0 ((tn : Nat) : Int) = lensL (cds.take tn) := by
        unfold bytesN
        rw [Int.toNat_natCast]; rfl
      have hb2 : byOk m cds 0 ((tn : Nat) : Int) = true := decide_eq_true ⟨by omega, by omega, by omega, by omega⟩
      have es : subK .i64 ((lensL (cds.take tn) : Nat) : Int) fr = ((lensL (cds.take tn) : Nat) : Int) - fr := sub64 (by omega)
      rw [b2, es]
      refine brd (fun c1 => brt c1 stay) (fun c1 => brd (fun c2 => brf c1 (nd (by rw [hokm, hb2]; rfl) (brt c2 stay))) (fun c2 => brf c1 (nd (by rw [hokm, hb2]; rfl) (brf c2 ?_))))
      have ea : addK .i64 fr (nums.getD i 0) = fr + nums.getD i 0 := add64 (by omega)
      have eb : subK .i64 (((lensL (cds.take tn) : Nat) : Int) - fr) (nums.getD i 0) = ((lensL (cds.take tn) : Nat) : Int) - (fr + nums.getD i 0) := by rw [sub64 (by omega)]; omega
      have h := tail T sF tn m cts cfs css cns cps cds (fr + nums.getD i 0) sn ⟨I1.ok, I1.ht, I1.hm, I1.hd, by omega, by omega, I1.sl, I1.sq, I1.T0⟩
      unfold ocT at h
      rw [ea, eb]
      exact h
end Go.Ev
