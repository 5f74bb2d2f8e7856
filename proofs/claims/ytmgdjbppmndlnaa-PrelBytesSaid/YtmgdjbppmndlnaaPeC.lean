/- The law PrelBytes, run. No conditions. -/
import Derived.Test.YtmgdjbppmndlnaaPdS
import Derived.Test.YtmgdjbppmndlnaaPeT0
import Derived.Test.YtmgdjbppmndlnaaPeT1
import Derived.Test.YtmgdjbppmndlnaaPeT2
import Derived.Test.YtmgdjbppmndlnaaPeT3
import Derived.Test.YtmgdjbppmndlnaaWkB
set_option linter.unusedVariables false
namespace Go.Ev
open Go Go.Proofs Go.Spec
attribute [local irreducible] ev evCall branch need again
theorem cxPb_ok : CxOk Try.prog cxPb := mkCx_ok namesPb mixedPb (by
  intro x h
  simp only [List.mem_cons, List.not_mem_nil, or_false] at h
  rcases h with rfl | rfl | rfl | rfl | rfl
  · exact known_sum
  · exact put_sum
  · exact bytes_sum
  · exact take_sum
  · exact takeR_sum)
theorem nT_le {xs : List Int} (h : byB xs = true) : nT xs ≤ 100000 ∧ (ssT xs).length = nT xs ∧ (qsT xs).length = nT xs := by
  obtain ⟨h1, h2⟩ := byB_of h
  obtain ⟨v1, v2⟩ := val_by h2
  refine ⟨?_, chS_len _ _, chQ_len _ _⟩
  unfold nT
  rw [List.length_drop]
  omega
theorem ld1_loop (n m : Nat) (ss qs bs cs us vs : List Int) (C A B : Nat) (k : SV → St → Prop) (hu : us.length = m) (hv : vs.length = m) (hm : m ≤ 100000) (hT : ∀ st, k (.sa (.one (bv true))) st) :
    ∀ (rem i : Nat), i + rem = m → ev cxPb (rem + C + 39) 2 3 (codeAt Try.prog 3 [1, 1, 1, 1, 1, 1, 1, 0, 1, 0, 0, 1, 1, 0, 0, 1, 1, 1, 1, 1, 0]) (frm 162 [(18, (.sa (.one (SC.ref 2)))), (19, (.sa (.one (SC.ref 3)))), (91, (.sa (.one (SC.sl 4 0 2 Option.none)))), (92, (.sa (.one (iv .i64 2)))), (93, (.sa (.one (iv .i64 1)))), (136, (.sa (.one (SC.ref 6)))), (137, (.sa (.one (iv .i64 ((m : Nat) : Int))))), (138, (.sa (.one (iv .i64 ((i : Nat) : Int)))))]) [skO false .ext 0 n ss qs, rdB false .ext 0 bs, rd16 true .row 29 us, rd16 true .row 29 vs, (some (SO.mem true MK.whole 26 1 (Ct.lst [[(SC.ref 1)], [(SC.ref 5)]]))), rdB false .ext 0 cs, skO true .row 31 m us vs] (kBlock 4 (kBlock 3 (kSeq (ev cxPb (A + 46) 2 3 (codeAt Try.prog 3 [1, 1, 1, 1, 1, 1, 1, 0, 1, 0, 0, 1, 1, 1])) (kSeq (ev cxPb (A + 49) 2 3 (codeAt Try.prog 3 [1, 1, 1, 1, 1, 1, 1, 0, 1, 0])) (kBlock 2 (kSeq (ev cxPb (B + 52) 2 3 (codeAt Try.prog 3 [1, 1, 1, 1, 1, 1, 1, 1])) (kRet (Cx.P cxPb) [(ResultVar.tmp 4)] 2 k))))))) := by
  intro rem
  induction rem with
  | zero =>
    intro i h1
    refine Eq.mpr (t_ld1 n m ss qs bs cs us vs us vs ((i : Nat) : Int) (0 + C) A B k) ?_
    refine Again.mk (brf (by omega) ?_)
    exact hT _
  | succ rem ih =>
    intro i h1
    refine Eq.mpr (t_ld1 n m ss qs bs cs us vs us vs ((i : Nat) : Int) (rem + 1 + C) A B k) ?_
    have e3 : addK .i64 (i : Int) 1 = ((i + 1 : Nat) : Int) := by rw [add64 (by omega)]; omega
    rw [e3, toN]
    refine Again.mk (brt (by omega) ?_)
    iterate 6 refine ndd (by omega) ?_
    refine brN (fun _ => ?_) (fun c => absurd rfl (eqK_f.1 c))
    iterate 3 refine ndd (by omega) ?_
    refine brN (fun _ => ?_) (fun c => absurd rfl (eqK_f.1 c))
    exact evFuelP (ih (i + 1) (by omega)) (by omega)

theorem ld0_loop (n m : Nat) (ss qs bs cs us vs : List Int) (C M : Nat) (k : SV → St → Prop) (hu : us.length = m) (hv : vs.length = m) (hm : m ≤ 100000) (hc : byB cs = true) (hM : nT cs ≤ M) (hT : ∀ st, k (.sa (.one (bv true))) st) :
    ∀ (rem i : Nat), i + rem = m → ev cxPb (rem + C + 39) 2 3 (codeAt Try.prog 3 [1, 1, 1, 1, 1, 1, 1, 0, 1, 0, 0, 1, 1, 0, 0, 1, 1, 1, 1, 1, 0]) (frm 162 [(18, (.sa (.one (SC.ref 2)))), (19, (.sa (.one (SC.ref 3)))), (91, (.sa (.one (SC.sl 4 0 2 Option.none)))), (92, (.sa (.one (iv .i64 2)))), (93, (.sa (.one (iv .i64 0)))), (136, (.sa (.one (SC.ref 6)))), (137, (.sa (.one (iv .i64 ((m : Nat) : Int))))), (138, (.sa (.one (iv .i64 ((i : Nat) : Int)))))]) [skO false .ext 0 n ss qs, rdB false .ext 0 bs, rd16 true .row 29 us, rd16 true .row 29 vs, (some (SO.mem true MK.whole 26 1 (Ct.lst [[(SC.ref 1)], [(SC.ref 5)]]))), rdB false .ext 0 cs, skO true .row 31 m us vs] (kBlock 4 (kBlock 3 (kSeq (ev cxPb (M + 1 + 46) 2 3 (codeAt Try.prog 3 [1, 1, 1, 1, 1, 1, 1, 0, 1, 0, 0, 1, 1, 1])) (kSeq (ev cxPb (M + 1 + 49) 2 3 (codeAt Try.prog 3 [1, 1, 1, 1, 1, 1, 1, 0, 1, 0])) (kBlock 2 (kSeq (ev cxPb (M + 1 + 52) 2 3 (codeAt Try.prog 3 [1, 1, 1, 1, 1, 1, 1, 1])) (kRet (Cx.P cxPb) [(ResultVar.tmp 4)] 2 k))))))) := by
  intro rem
  induction rem with
  | zero =>
    intro i h1
    refine Eq.mpr (t_ld0 n m ss qs bs cs us vs us vs ((i : Nat) : Int) (0 + C) (M + 1) k) ?_
    refine Again.mk (brf (by omega) ?_)
    obtain ⟨c1, c2, c3⟩ := nT_le hc
    refine nd hc (br (fun e => nd hc ?_) (fun e => nd hc ?_))
    · refine br (fun _ => ?_) (fun c => by rw [e] at c; cases c)
      refine brN (fun _ => ?_) (fun c => absurd rfl (eqK_f.1 c))
      refine brN (fun _ => ?_) (fun c => absurd (by rw [c2]) (eqK_f.1 c))
      exact evFuelP (ld1_loop n (nT cs) ss qs bs cs (ssT cs) (qsT cs) (M - nT cs) M (M + 1) k c2 c3 c1 hT (nT cs) 0 (by omega)) (by omega)
    · refine br (fun c => by rw [e] at c; cases c) (fun _ => ?_)
      exact evFuelP (ld1_loop n 0 ss qs bs cs [] [] M M (M + 1) k rfl rfl (by omega) hT 0 0 rfl) (by omega)
  | succ rem ih =>
    intro i h1
    refine Eq.mpr (t_ld0 n m ss qs bs cs us vs us vs ((i : Nat) : Int) (rem + 1 + C) (M + 1) k) ?_
    have e3 : addK .i64 (i : Int) 1 = ((i + 1 : Nat) : Int) := by rw [add64 (by omega)]; omega
    rw [e3, toN]
    refine Again.mk (brt (by omega) ?_)
    iterate 6 refine ndd (by omega) ?_
    refine brN (fun _ => ?_) (fun c => absurd rfl (eqK_f.1 c))
    iterate 3 refine ndd (by omega) ?_
    refine brN (fun _ => ?_) (fun c => absurd rfl (eqK_f.1 c))
    exact evFuelP (ih (i + 1) (by omega)) (by omega)

theorem lc_run (n : Nat) (ss qs bs cs : List Int) (M : Nat) (k : SV → St → Prop) (hb : byB bs = true) (hc : byB cs = true) (hM : nT bs + nT cs ≤ M) (hT : ∀ st, k (.sa (.one (bv true))) st) : ev cxPb (M + 1 + 51) 2 3 (codeAt Try.prog 3 [1, 1, 1, 1, 1, 1, 1, 0, 0]) (frm 162 [(1, (.sa (.one (SC.ref 1)))), (9, (.sa (.one (SC.ref 2))))]) [skO false .ext 0 n ss qs, rdB false .ext 0 bs, rdB false .ext 0 cs] (kSeq (ev cxPb (M + 1 + 51) 2 3 (codeAt Try.prog 3 [1, 1, 1, 1, 1, 1, 1, 0, 1])) (kSeq (ev cxPb (M + 1 + 52) 2 3 (codeAt Try.prog 3 [1, 1, 1, 1, 1, 1, 1, 1])) (kRet (Cx.P cxPb) [(ResultVar.tmp 4)] 2 k))) := by
  refine Eq.mpr (t_lc n ss qs bs cs (M + 1) (M + 1) k) ?_
  obtain ⟨b1, b2, b3⟩ := nT_le hb
  obtain ⟨c1, c2, c3⟩ := nT_le hc
  refine Again.mk (nd hb (br (fun e => nd hb ?_) (fun e => nd hb ?_)))
  · refine br (fun _ => ?_) (fun c => by rw [e] at c; cases c)
    refine brN (fun _ => ?_) (fun c => absurd rfl (eqK_f.1 c))
    refine brN (fun _ => ?_) (fun c => absurd (by rw [b2]) (eqK_f.1 c))
    exact evFuelP (ld0_loop n (nT bs) ss qs bs cs (ssT bs) (qsT bs) (M + 1 - nT bs) M k b2 b3 b1 hc (by omega) hT (nT bs) 0 (by omega)) (by omega)
  · refine br (fun c => by rw [e] at c; cases c) (fun _ => ?_)
    exact evFuelP (ld0_loop n 0 ss qs bs cs [] [] (M + 1) M k rfl rfl (by omega) hc (by omega) hT 0 0 rfl) (by omega)
theorem take_snoc {xs : List Int} {i : Nat} (h : i < xs.length) : xs.take i ++ [xs.getD i 0] = xs.take (i + 1) := by
  rw [List.take_add_one, List.getD_eq_getElem?_getD, List.getElem?_eq_getElem h]
  rfl
theorem brsN {x : ByteArray} {a b : Prop} (h1 : b) : branch (Bool.not (strEq x x)) a b := by rw [show strEq x x = true by simp [strEq]]; exact br (fun h => by cases h) (fun _ => h1)
theorem lb_loop (pt : Int) (n : Nat) (ss qs bs : List Int) (C M : Nat) (k : SV → St → Prop) (ok : okSk pt ss qs n = true)
    (hnext : ∀ cs, (cs = [] ∨ cs = fwdB pt ss qs) → ev cxPb (M + 51) 2 3 (codeAt Try.prog 3 [1, 1, 1, 1, 1, 1, 1, 0, 0]) (frm 162 [(1, (.sa (.one (SC.ref 1)))), (9, (.sa (.one (SC.ref 2))))]) [skO false .ext 0 n ss qs, rdB false .ext 0 bs, rdB false .ext 0 cs] (kSeq (ev cxPb (M + 51) 2 3 (codeAt Try.prog 3 [1, 1, 1, 1, 1, 1, 1, 0, 1])) (kSeq (ev cxPb (M + 52) 2 3 (codeAt Try.prog 3 [1, 1, 1, 1, 1, 1, 1, 1])) (kRet (Cx.P cxPb) [(ResultVar.tmp 4)] 2 k)))) :
    ∀ (rem i : Nat), i + rem = n → ev cxPb (rem + C + 54) 2 3 (codeAt Try.prog 3 [1, 1, 1, 0, 1, 0]) (frm 162 [(1, (.sa (.one (SC.ref 1)))), (2, (.sa (.one (SC.ptr 2 0 0)))), (5, (.sa (.one (SC.ref 3)))), (6, (.sa (.one (SC.ref 4)))), (34, (.sa (.one (SC.ref 0)))), (35, (.sa (.one (iv .i64 ((n : Nat) : Int))))), (36, (.sa (.one (iv .i64 ((i : Nat) : Int)))))]) [skO false .ext 0 n ss qs, rdB false .ext 0 bs, obj 25 2 [iv .u32 pt, .ref 0], rd16 true .row 29 (ss.take i), rd16 true .row 29 (qs.take i)] (kBlock 0 (kSeq (ev cxPb (M + 56) 2 3 (codeAt Try.prog 3 [1, 1, 1, 1])) (kRet (Cx.P cxPb) [(ResultVar.tmp 4)] 2 k))) := by
  obtain ⟨o1, o2, o3, o4, o5, o6, o7⟩ := okSk_of ok
  intro rem
  induction rem with
  | zero =>
    intro i h1
    obtain rfl : i = n := by omega
    refine Eq.mpr (t_lb pt ((i : Nat) : Int) i ss qs bs (ss.take i) (qs.take i) (0 + C) M k) ?_
    rw [List.take_of_length_le (show ss.length ≤ i by omega), List.take_of_length_le (show qs.length ≤ i by omega)]
    refine Again.mk (brf (by omega) (nd ok (br (fun e => nd (by rw [o1]; exact ok) ?_) (fun e => nd (by rw [o1]; exact ok) ?_))))
    · refine br (fun _ => ?_) (fun c => by rw [e] at c; cases c)
      refine ndd (by omega) (ndd (by omega) (brsN ?_))
      refine brN (fun _ => ?_) (fun c => by rw [e] at c; cases c)
      exact hnext _ (.inr rfl)
    · refine br (fun c => by rw [e] at c; cases c) (fun _ => ?_)
      refine brN (fun c => by rw [e] at c; cases c) (fun _ => ?_)
      exact hnext _ (.inl rfl)
  | succ rem ih =>
    intro i h1
    refine Eq.mpr (t_lb pt ((i : Nat) : Int) n ss qs bs (ss.take i) (qs.take i) (rem + 1 + C) M k) ?_
    have e3 : addK .i64 (i : Int) 1 = ((i + 1 : Nat) : Int) := by rw [add64 (by omega)]; omega
    rw [e3, toN, take_snoc (by omega), take_snoc (by omega)]
    refine Again.mk (brt (by omega) ?_)
    iterate 3 refine ndd (by omega) ?_
    iterate 2 refine ndd (by rw [List.length_take]; omega) ?_
    exact evFuelP (ih (i + 1) (by omega)) (by omega)
theorem pb_run (pt : Int) (n : Nat) (ss qs bs : List Int) (k : SV → St → Prop) (h1 : ss.length = n) (h2 : qs.length = n) (hp : 0 ≤ pt ∧ pt ≤ 4294967295) (hs : ∀ x ∈ ss, 0 ≤ x ∧ x ≤ 65535) (hq : ∀ x ∈ qs, 0 ≤ x ∧ x ≤ 65535) (hb : ∀ x ∈ bs, 0 ≤ x ∧ x ≤ 255) (hT : ∀ st, k (.sa (.one (bv true))) st) :
    ∃ N, evCall cxPb (ev cxPb N) 3 [.agg [iv .u32 pt, .ref 0], .one (.ref 1)] [skO false .ext 0 n ss qs, rdB false .ext 0 bs] k := by
  refine ⟨(n + (nT bs + nT (fwdB pt ss qs)) + 1) + 60, ?_⟩
  refine Eq.mpr (t_la pt n ss qs bs _ k) ?_
  refine brd (fun _ => hT _) (fun g => brd (fun _ => hT _) (fun g2 => ?_))
  have ok : okSk pt ss qs n = true := decide_eq_true ⟨h1, h2, by omega, hp.1, hp.2, hs, hq⟩
  have hbs : byB bs = true := decide_eq_true ⟨by omega, hb⟩
  have hh := lb_loop pt n ss qs bs ((nT bs + nT (fwdB pt ss qs)) + 1) (n + (nT bs + nT (fwdB pt ss qs)) + 1) k ok (fun cs hc => ?_) n 0 (by omega)
  · exact evFuelP hh (by omega)
  · refine lc_run n ss qs bs cs (n + (nT bs + nT (fwdB pt ss qs))) k hbs ?_ ?_ hT
    · rcases hc with rfl | rfl
      · rfl
      · exact fwd_by pt ss qs (by omega)
    · rcases hc with rfl | rfl
      · have : nT [] = 0 := rfl
        omega
      · omega
end Go.Ev
