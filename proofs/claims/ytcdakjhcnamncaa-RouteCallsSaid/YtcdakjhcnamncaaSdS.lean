/- Addresses of a side that may be, as the document says it; no routes of what may not be. No conditions. -/
import Derived.Test.YtcdakjhcnamncaaTeT
import Derived.Test.YtcdakjhcnamncaaRtS2
import Derived.Test.YtcdakjhcnamncaaTeS
set_option linter.unusedVariables false
set_option linter.unusedSimpArgs false
namespace Go.Ev
open Go Go.Proofs Go.Spec
attribute [local irreducible] ev evCall branch need again
theorem cxSd_ok : CxOk Try.prog cxSd := mkCx_ok namesRk mixedRk (by simp)
theorem evFS {c : Cx} {N N' m f : Nat} {co : Code} {fr : Fr} {st : St} {k : Exit → Fr → St → Prop} (h : ev c N m f co fr st k) (e : N = N') : ev c N' m f co fr st k := e ▸ h
theorem brN {b : Bool} {p q : Prop} (h1 : b = true → q) (h2 : b = false → p) : branch (Bool.not b) p q := by
 cases b with
 | true => exact br (fun h => by cases h) (fun _ => h1 rfl)
 | false => exact br (fun _ => h2 rfl) (fun h => by cases h)
theorem has_cons (a y : Int) (r : List Int) : hasL (y :: r) a = (eqK a y || hasL r a) := by
 unfold hasL; rw [List.contains_cons, eqK_eq]
theorem tk_drop {xs : List Int} {i j : Nat} (hi : i ≤ xs.length) (hj : j < i) : (xs.take i).drop j = xs.getD j 0 :: (xs.take i).drop (j + 1) := by
 rw [List.drop_eq_getElem_cons (by rw [List.length_take]; omega), List.getElem_take, List.getD_eq_getElem?_getD, List.getElem?_eq_getElem (by omega)]
 rfl
theorem dr_cons {xs : List Int} {i : Nat} (hi : i < xs.length) : xs.drop i = xs.getD i 0 :: xs.drop (i + 1) := by
 rw [List.drop_eq_getElem_cons hi, List.getD_eq_getElem?_getD, List.getElem?_eq_getElem hi]
 rfl
theorem tk_snoc {xs : List Int} {i : Nat} (hi : i < xs.length) : xs.take (i + 1) = xs.take i ++ [xs.getD i 0] := by
 rw [List.take_add_one, List.getD_eq_getElem?_getD, List.getElem?_eq_getElem hi]
 rfl
theorem sd_in (xs : List Int) (i C A M : Nat) (k : KT) (c : Bool) (hi : i < xs.length) (hl : xs.length ≤ 1000000)
   (hn : ev cxSd (A + 34) 1 37 (codeAt Try.prog 37 [1, 1, 0, 1, 0]) (frm 46 [(0, (.sa (.one (SC.ref 0)))), (3, (.sa (.one (bv c)))), (4, (.sa (.one (iv .i64 ((i + 1 : Nat) : Int)))))]) [exO xs] (kBlock 0 (kSeq (ev cxSd (M + 37) 1 37 (codeAt Try.prog 37 [1, 1, 1])) (kRet (Cx.P cxSd) [(ResultVar.tmp 2)] 1 k)))) :
   ∀ (rem j : Nat) (ok : Bool), j + rem = i → (ok && !hasL ((xs.take i).drop j) (xs.getD i 0)) = c →
     ev cxSd (rem + C + 28) 1 37 (codeAt Try.prog 37 [1, 1, 0, 1, 0, 0, 1, 0, 0, 1, 1, 0]) (frm 46 [(0, (.sa (.one (SC.ref 0)))), (3, (.sa (.one (bv ok)))), (4, (.sa (.one (iv .i64 ((i : Nat) : Int))))), (5, (.sa (.one (iv .i64 ((j : Nat) : Int)))))]) [exO xs] (kBlock 2 (kBlock 1 (kSeq (ev cxSd (A + 32) 1 37 (codeAt Try.prog 37 [1, 1, 0, 1, 0, 0, 1, 1])) (kSeq (ev cxSd (A + 34) 1 37 (codeAt Try.prog 37 [1, 1, 0, 1, 0])) (kBlock 0 (kSeq (ev cxSd (M + 37) 1 37 (codeAt Try.prog 37 [1, 1, 1])) (kRet (Cx.P cxSd) [(ResultVar.tmp 2)] 1 k))))))) := by
 intro rem
 induction rem with
 | zero =>
   intro j ok h1 h2
   obtain rfl : j = i := by omega
   refine Eq.mpr (t_sd2 xs ok ((j : Nat) : Int) ((j : Nat) : Int) (0 + C) A M k) ?_
   rw [List.drop_of_length_le (by rw [List.length_take]; omega)] at h2
   have h2 : ok = c := by rw [← h2]; cases ok <;> rfl
   subst h2
   have e3 : addK .i64 (j : Int) 1 = ((j + 1 : Nat) : Int) := by rw [add64 (by omega)]; omega
   rw [e3]
   exact Again.mk (brf (by omega) hn)
 | succ rem ih =>
   intro j ok h1 h2
   refine Eq.mpr (t_sd2 xs ok ((i : Nat) : Int) ((j : Nat) : Int) (rem + 1 + C) A M k) ?_
   have e3 : addK .i64 (j : Int) 1 = ((j + 1 : Nat) : Int) := by rw [add64 (by omega)]; omega
   have z : ∀ m : Nat, 0 + Int.toNat (m : Int) = m := fun m => by omega
   rw [e3, z, z]
   rw [tk_drop (by omega) (show j < i by omega), has_cons] at h2
   refine Again.mk (brt (by omega) (br (fun e => ?_) (fun e => ?_)))
   · iterate 6 refine ndd (by omega) ?_
     subst e
     refine evFS (ih (j + 1) _ (by omega) ?_) (by omega)
     rw [← h2]
     cases eqK (xs.getD i 0) (xs.getD j 0) <;> simp
   · subst e
     refine evFS (ih (j + 1) false (by omega) ?_) (by omega)
     rw [← h2]; rfl
theorem sd_out (xs : List Int) (C M : Nat) (k : KT) (hC : xs.length ≤ C) (hl : xs.length ≤ 1000000) (hk : k (.sa (.one (bv (addrB xs)))) [exO xs]) :
   ∀ (rem i : Nat) (ok : Bool), i + rem = xs.length → (ok && freshB (xs.take i) (xs.drop i)) = addrB xs →
     ev cxSd (rem + C + 35) 1 37 (codeAt Try.prog 37 [1, 1, 0, 1, 0]) (frm 46 [(0, (.sa (.one (SC.ref 0)))), (3, (.sa (.one (bv ok)))), (4, (.sa (.one (iv .i64 ((i : Nat) : Int)))))]) [exO xs] (kBlock 0 (kSeq (ev cxSd (M + 37) 1 37 (codeAt Try.prog 37 [1, 1, 1])) (kRet (Cx.P cxSd) [(ResultVar.tmp 2)] 1 k))) := by
 intro rem
 induction rem with
 | zero =>
   intro i ok h1 h2
   refine Eq.mpr (t_sd1 xs ok ((i : Nat) : Int) (0 + C) M k) ?_
   rw [List.drop_of_length_le (by omega)] at h2
   have h2 : ok = addrB xs := by rw [← h2]; unfold freshB; rw [Bool.and_true]
   rw [← h2] at hk
   exact Again.mk (brf (by omega) hk)
 | succ rem ih =>
   intro i ok h1 h2
   refine Eq.mpr (t_sd1 xs ok ((i : Nat) : Int) (rem + 1 + C) M k) ?_
   have z : ∀ m : Nat, 0 + Int.toNat (m : Int) = m := fun m => by omega
   rw [z]
   rw [dr_cons (by omega)] at h2
   unfold freshB at h2
   have go : ∀ ok1 : Bool, (ok1 && !hasL (xs.take i) (xs.getD i 0)) = (ok && !(eqK (xs.getD i 0) 0 || hasL (xs.take i) (xs.getD i 0))) → ev cxSd (rem + 1 + C + 28) 1 37 (codeAt Try.prog 37 [1, 1, 0, 1, 0, 0, 1, 0, 0, 1, 1, 0]) (frm 46 [(0, (.sa (.one (SC.ref 0)))), (3, (.sa (.one (bv ok1)))), (4, (.sa (.one (iv .i64 ((i : Nat) : Int))))), (5, (.sa (.one (iv .i64 (0)))))]) [exO xs] (kBlock 2 (kBlock 1 (kSeq (ev cxSd (rem + 1 + C + 32) 1 37 (codeAt Try.prog 37 [1, 1, 0, 1, 0, 0, 1, 1])) (kSeq (ev cxSd (rem + 1 + C + 34) 1 37 (codeAt Try.prog 37 [1, 1, 0, 1, 0])) (kBlock 0 (kSeq (ev cxSd (M + 37) 1 37 (codeAt Try.prog 37 [1, 1, 1])) (kRet (Cx.P cxSd) [(ResultVar.tmp 2)] 1 k))))))) := by
     intro ok1 ho
     refine evFS (sd_in xs i (rem + 1 + C - i) (rem + 1 + C) M k _ (by omega) hl ?_ i 0 ok1 (by omega) ho) (by omega)
     refine evFS (ih (i + 1) _ (by omega) ?_) (by omega)
     rw [← h2, tk_snoc (by omega)]
     cases ok <;> simp [Bool.and_assoc]
   refine Again.mk (brt (by omega) (br (fun e => ?_) (fun e => ?_)))
   · iterate 3 refine ndd (by omega) ?_
     subst e
     refine go _ ?_
     cases eqK (xs.getD i 0) 0 <;> simp
   · subst e
     exact go false rfl
theorem fAddr_lin2 (vas : List VA) : Lin (fAddr vas) := by
 intro k h
 unfold fAddr at h ⊢
 split at h
 · exact (Lin.need (Lin.ret _ _)) k h
 · exact h.elim
theorem side_sum : SumOk Try.prog 37 sAddr := by
 refine pureSum_ok cxSd_ok fAddr_lin2 fun vas K h => ?_
 unfold fAddr at h
 split at h
 · rename_i xs
   obtain ⟨h1, hK⟩ := need_iff.1 h
   have hl := of_decide_eq_true h1
   refine ⟨(xs.length + xs.length) + 40, ?_⟩
   show evCall cxSd (ev cxSd ((xs.length + xs.length) + 40)) 37 [.one (.ref 0)] [exO xs] (pureK 1 K)
   refine Eq.mpr (t_sd xs (xs.length + xs.length) (pureK 1 K)) ?_
   have d3 : decide (((xs.length : Nat) : Int) ≤ 3) = decide (xs.length ≤ 3) := by
     by_cases c : xs.length ≤ 3
     · rw [decide_eq_true c, decide_eq_true (by omega)]
     · rw [decide_eq_false c, decide_eq_false (by omega)]
   have ea : addrB xs = (freshB [] xs && (decide (1 ≤ xs.length) && decide (xs.length ≤ 3))) := rfl
   refine brd (fun g => ?_) (fun g => ?_)
   · rw [d3]
     refine sd_out xs xs.length (xs.length + xs.length) (pureK 1 K) (Nat.le_refl _) hl hK xs.length 0 _ (by omega) ?_
     rw [ea, decide_eq_true (show 1 ≤ xs.length by omega), Bool.true_and, Bool.and_comm]; rfl
   · refine sd_out xs xs.length (xs.length + xs.length) (pureK 1 K) (Nat.le_refl _) hl hK xs.length 0 _ (by omega) ?_
     rw [ea, decide_eq_false (show ¬ 1 ≤ xs.length by omega)]; simp
 · exact h.elim
theorem cxRfB_ok : CxOk Try.prog cxRfB := mkCx_ok namesRk mixedRk (by
 intro y h
 simp only [List.mem_cons, List.not_mem_nil, or_false] at h
 rcases h with rfl | rfl
 · exact side_sum
 · exact may_sum)
theorem fRfBad_lin (vas : List VA) : Lin (fRfBad vas) := by
 intro k h
 unfold fRfBad at h ⊢
 split at h
 · exact (Lin.need (Lin.ret _ _)) k h
 · exact h.elim
theorem rfbad_sum : SumOk Try.prog 24 sRfBad := by
 refine pureSum_ok cxRfB_ok fRfBad_lin fun vas K h => ?_
 unfold fRfBad at h
 split at h
 · rename_i mtu ss sr rr mm ri rmin rmax it pt al beat life xs ys
   obtain ⟨h1, hK⟩ := need_iff.1 h
   obtain ⟨hx, h1⟩ := Bool.and_eq_true_iff.1 h1
   obtain ⟨hy, h1⟩ := Bool.and_eq_true_iff.1 h1
   have hx := of_decide_eq_true hx
   have hy := of_decide_eq_true hy
   refine ⟨60, ?_⟩
   show evCall cxRfB (ev cxRfB 60) 24 [.agg (cellsCfg ⟨mtu, ss, sr, rr, mm, ri, rmin, rmax, it, pt, al, beat, life⟩), .one (.ref 0), .one (.ref 1)] [exO xs, exO ys] (pureK 2 K)
   refine Eq.mpr (t_rfb mtu ss sr rr mm ri rmin rmax it pt al beat life xs ys (pureK 2 K)) ?_
   rw [List.take_length, List.take_length]
   refine brN (fun _ => ?_) (fun _ => hK)
   refine ndd (by omega) (ndd (by omega) (brN (fun e => ?_) (fun _ => hK)))
   refine ndd (by omega) (ndd (by omega) (brN (fun e2 => ?_) (fun _ => hK)))
   exfalso
   rw [e, e2] at h1
   cases h1
 · exact h.elim
theorem cxRlB_ok (hw : SumOk Try.prog 7 sTrue) : CxOk Try.prog cxRlB := mkCx_ok namesRk mixedRk (by
 intro y h
 simp only [List.mem_cons, List.not_mem_nil, or_false] at h
 rcases h with rfl | rfl | rfl
 · exact hw
 · exact rnbad_sum
 · exact rfbad_sum)
theorem rlb_run (mtu ss sr rr mm ri rmin rmax it pt al beat life : Int) (n : Nat) (xs ys ks is : List Int) (k : KT) (hb : (addrB xs && addrB ys) = false) (hT : ∀ st, k (.sa (.one (bv true))) st) :
   ∃ N, evCall cxRlB (ev cxRlB N) 6 [(.agg (cellsCfg ⟨mtu, ss, sr, rr, mm, ri, rmin, rmax, it, pt, al, beat, life⟩)), .one (.ref 0), .one (.ref 1), .one (.ref 2)] [exO xs, exO ys, taO n ks is] k := by
 refine ⟨60, ?_⟩
 refine Eq.mpr (t_rlb mtu ss sr rr mm ri rmin rmax it pt al beat life xs ys ks is n k) ?_
 refine brd (fun _ => hT _) (fun _ => brd (fun _ => hT _) (fun h1 => brd (fun _ => hT _) (fun h2 => ?_)))
 rw [List.take_length, List.take_length]
 have ok : (decide (xs.length ≤ 1000000) && (decide (ys.length ≤ 1000000) && Bool.not (addrB xs && addrB ys))) = true := by
   rw [decide_eq_true (by omega), decide_eq_true (by omega), hb]; rfl
 refine ndd (by omega) (ndd (by omega) (nd ok ?_))
 refine ndd (by omega) (ndd (by omega) (nd ok ?_))
 exact hT _
end Go.Ev
