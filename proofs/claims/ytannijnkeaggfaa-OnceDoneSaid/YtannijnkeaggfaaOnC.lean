/- The law OnceDone: a move. No conditions. -/
import Derived.Test.YtannijnkeaggfaaOnTA
import Derived.Test.YtannijnkeaggfaaOnTB
import Derived.Test.YtannijnkeaggfaaOnTC
import Derived.Test.YtannijnkeaggfaaOnT00
import Derived.Test.YtannijnkeaggfaaOnT10
import Derived.Test.YtannijnkeaggfaaOnT01
import Derived.Test.YtannijnkeaggfaaOnT11
import Derived.Test.YtannijnkeaggfaaOnW
import Derived.Test.YtannijnkeaggfaaOnP
set_option linter.unusedSimpArgs false
set_option linter.unusedVariables false
namespace Go.Ev
open Go Go.Proofs Go.Spec
theorem brD {p : Prop} [Decidable p] {a b : Prop} (h1 : p → a) (h2 : ¬ p → b) : branch (decide p) a b := br (fun e => h1 (of_decide_eq_true e)) (fun e => h2 (of_decide_eq_false e))
theorem brE {x y : Int} {a b : Prop} (h1 : x = y → a) (h2 : x ≠ y → b) : branch (eqK x y) a b := br (fun e => h1 (eqK_t.1 e)) (fun e => h2 (eqK_f.1 e))
theorem brN {x y : Int} {a b : Prop} (h1 : x ≠ y → a) (h2 : x = y → b) : branch (Bool.not (eqK x y)) a b := br (fun e => h1 (by rw [eqK_eq] at e; simpa using e)) (fun e => h2 (by rw [eqK_eq] at e; simpa using e))
theorem ndD {p q : Prop} [Decidable p] (h1 : p) (h2 : q) : need (decide p) q := nd (decide_eq_true h1) h2
theorem ndN {p q : Prop} [Decidable p] (h1 : ¬ p) (h2 : q) : need (Bool.not (decide p)) q := nd (by simpa using h1) h2
attribute [local irreducible] ev evCall branch need again codeAt

def stT (arg : Option SO) (s : Tw) (m p : Nat) : St := match s with
  | ⟨next, dnext, none, none, did, asked, got, qn, qq, rn, ra⟩ => [arg, (obj 37 9 [(SC.ptr 2 0 0), (SC.ptr 3 0 0), (SC.ref 6), (SC.ref 7), (iv .i64 got), (SC.ref 8), (SC.ref 9), (bv true), (bv false)]), (obj 78 2 [(iv .u32 next), (SC.raw (Value.pointer Option.none))]), (obj 90 3 [(iv .u32 dnext), (SC.ref 4), (SC.raw (Value.pointer Option.none))]), (some (SO.clo (Fn.func 32) [] [(.one (SC.ptr 5 0 0))])), (obj 65 1 [(SC.ptr 1 0 2)]), (some (SO.own true MK.row 22 1 (Ct.ints .u32 did))), (some (SO.own true MK.row 22 1 (Ct.ints .u32 asked))), (some (SO.own true MK.row 39 2 (Ct.tab m [(Col.ints .u32 qn), (Col.ints .u32 qq)]))), (some (SO.own true MK.row 69 2 (Ct.tab p [(Col.ints .u32 rn), (Col.ints .u64 ra)])))]
  | ⟨next, dnext, (some (on, oq)), none, did, asked, got, qn, qq, rn, ra⟩ => [arg, (obj 37 9 [(SC.ptr 2 0 0), (SC.ptr 4 0 0), (SC.ref 7), (SC.ref 8), (iv .i64 got), (SC.ref 9), (SC.ref 10), (bv true), (bv false)]), (obj 78 2 [(iv .u32 next), (SC.ptr 3 0 0)]), (obj 39 2 [(iv .u32 on), (iv .u32 oq)]), (obj 90 3 [(iv .u32 dnext), (SC.ref 5), (SC.raw (Value.pointer Option.none))]), (some (SO.clo (Fn.func 32) [] [(.one (SC.ptr 6 0 0))])), (obj 65 1 [(SC.ptr 1 0 2)]), (some (SO.own true MK.row 22 1 (Ct.ints .u32 did))), (some (SO.own true MK.row 22 1 (Ct.ints .u32 asked))), (some (SO.own true MK.row 39 2 (Ct.tab m [(Col.ints .u32 qn), (Col.ints .u32 qq)]))), (some (SO.own true MK.row 69 2 (Ct.tab p [(Col.ints .u32 rn), (Col.ints .u64 ra)])))]
  | ⟨next, dnext, none, (some (kn, ka)), did, asked, got, qn, qq, rn, ra⟩ => [arg, (obj 37 9 [(SC.ptr 2 0 0), (SC.ptr 3 0 0), (SC.ref 7), (SC.ref 8), (iv .i64 got), (SC.ref 9), (SC.ref 10), (bv true), (bv false)]), (obj 78 2 [(iv .u32 next), (SC.raw (Value.pointer Option.none))]), (obj 90 3 [(iv .u32 dnext), (SC.ref 4), (SC.ptr 6 0 0)]), (some (SO.clo (Fn.func 32) [] [(.one (SC.ptr 5 0 0))])), (obj 65 1 [(SC.ptr 1 0 2)]), (obj 69 2 [(iv .u32 kn), (iv .u64 ka)]), (some (SO.own true MK.row 22 1 (Ct.ints .u32 did))), (some (SO.own true MK.row 22 1 (Ct.ints .u32 asked))), (some (SO.own true MK.row 39 2 (Ct.tab m [(Col.ints .u32 qn), (Col.ints .u32 qq)]))), (some (SO.own true MK.row 69 2 (Ct.tab p [(Col.ints .u32 rn), (Col.ints .u64 ra)])))]
  | ⟨next, dnext, (some (on, oq)), (some (kn, ka)), did, asked, got, qn, qq, rn, ra⟩ => [arg, (obj 37 9 [(SC.ptr 2 0 0), (SC.ptr 4 0 0), (SC.ref 8), (SC.ref 9), (iv .i64 got), (SC.ref 10), (SC.ref 11), (bv true), (bv false)]), (obj 78 2 [(iv .u32 next), (SC.ptr 3 0 0)]), (obj 39 2 [(iv .u32 on), (iv .u32 oq)]), (obj 90 3 [(iv .u32 dnext), (SC.ref 5), (SC.ptr 7 0 0)]), (some (SO.clo (Fn.func 32) [] [(.one (SC.ptr 6 0 0))])), (obj 65 1 [(SC.ptr 1 0 2)]), (obj 69 2 [(iv .u32 kn), (iv .u64 ka)]), (some (SO.own true MK.row 22 1 (Ct.ints .u32 did))), (some (SO.own true MK.row 22 1 (Ct.ints .u32 asked))), (some (SO.own true MK.row 39 2 (Ct.tab m [(Col.ints .u32 qn), (Col.ints .u32 qq)]))), (some (SO.own true MK.row 69 2 (Ct.tab p [(Col.ints .u32 rn), (Col.ints .u64 ra)])))]
def argT (n : Nat) (ks ns qs : List Int) : Option SO := (some (SO.own false MK.ext 0 3 (Ct.tab n [(Col.ints .u8 ks), (Col.ints .u16 ns), (Col.ints .u32 qs)])))
def frO (n : Nat) (i : Int) : Fr := (frm 173 [(5, (.sa (.one (SC.ptr 1 0 0)))), (20, (.sa (.one (SC.ref 0)))), (21, (.sa (.one (iv .i64 ((n : Nat) : Int))))), (22, (.sa (.one (iv .i64 i))))])
def frIn (s : Tw) (n : Nat) (i : Int) (j : Int) : Fr := match s with
  | ⟨next, dnext, none, none, did, asked, got, qn, qq, rn, ra⟩ => (frm 173 [(5, (.sa (.one (SC.ptr 1 0 0)))), (20, (.sa (.one (SC.ref 0)))), (21, (.sa (.one (iv .i64 ((n : Nat) : Int))))), (22, (.sa (.one (iv .i64 i)))), (75, (.sa (.one (SC.ref 6)))), (76, (.sa (.one (iv .i64 (((List.length did) : Nat) : Int))))), (77, (.sa (.one (iv .i64 j))))])
  | ⟨next, dnext, (some (on, oq)), none, did, asked, got, qn, qq, rn, ra⟩ => (frm 173 [(5, (.sa (.one (SC.ptr 1 0 0)))), (20, (.sa (.one (SC.ref 0)))), (21, (.sa (.one (iv .i64 ((n : Nat) : Int))))), (22, (.sa (.one (iv .i64 i)))), (75, (.sa (.one (SC.ref 7)))), (76, (.sa (.one (iv .i64 (((List.length did) : Nat) : Int))))), (77, (.sa (.one (iv .i64 j))))])
  | ⟨next, dnext, none, (some (kn, ka)), did, asked, got, qn, qq, rn, ra⟩ => (frm 173 [(5, (.sa (.one (SC.ptr 1 0 0)))), (20, (.sa (.one (SC.ref 0)))), (21, (.sa (.one (iv .i64 ((n : Nat) : Int))))), (22, (.sa (.one (iv .i64 i)))), (75, (.sa (.one (SC.ref 7)))), (76, (.sa (.one (iv .i64 (((List.length did) : Nat) : Int))))), (77, (.sa (.one (iv .i64 j))))])
  | ⟨next, dnext, (some (on, oq)), (some (kn, ka)), did, asked, got, qn, qq, rn, ra⟩ => (frm 173 [(5, (.sa (.one (SC.ptr 1 0 0)))), (20, (.sa (.one (SC.ref 0)))), (21, (.sa (.one (iv .i64 ((n : Nat) : Int))))), (22, (.sa (.one (iv .i64 i)))), (75, (.sa (.one (SC.ref 8)))), (76, (.sa (.one (iv .i64 (((List.length did) : Nat) : Int))))), (77, (.sa (.one (iv .i64 j))))])
noncomputable def kOut (M : Nat) (k : SV → St → Prop) : Exit → Fr → St → Prop := (kBlock 0 (kSeq (ev cxO (M + 56) 1 3 (codeAt Try.prog 3 [1, 1, 1, 1])) (kRet (Cx.P cxO) [(ResultVar.tmp 4)] 1 k)))
noncomputable def kChk (N M : Nat) (k : SV → St → Prop) : Exit → Fr → St → Prop := (kSeq (ev cxO (N + 45) 1 3 (codeAt Try.prog 3 [1, 1, 1, 0, 1, 0, 0, 1, 1, 0, 0, 1, 1, 0, 1])) (kSeq (ev cxO (N + 46) 1 3 (codeAt Try.prog 3 [1, 1, 1, 0, 1, 0, 0, 1, 1, 0, 0, 1, 1, 1])) (kBlock 1 (kSeq (ev cxO (N + 50) 1 3 (codeAt Try.prog 3 [1, 1, 1, 0, 1, 0, 0, 1, 1, 1])) (kSeq (ev cxO (N + 53) 1 3 (codeAt Try.prog 3 [1, 1, 1, 0, 1, 0])) (kOut M k))))))
noncomputable def kIn (N M : Nat) (k : SV → St → Prop) : Exit → Fr → St → Prop := (kBlock 2 (kBlock 1 (kSeq (ev cxO (N + 50) 1 3 (codeAt Try.prog 3 [1, 1, 1, 0, 1, 0, 0, 1, 1, 1])) (kSeq (ev cxO (N + 53) 1 3 (codeAt Try.prog 3 [1, 1, 1, 0, 1, 0])) (kOut M k)))))
noncomputable def kEnd (M : Nat) (k : SV → St → Prop) : Exit → Fr → St → Prop := (kSeq (ev cxO (M + 55) 1 3 (codeAt Try.prog 3 [1, 1, 1, 1, 1])) (kRet (Cx.P cxO) [(ResultVar.tmp 4)] 1 k))
def HeadP (N M n : Nat) (i : Int) (a : Option SO) (s : Tw) (m p : Nat) (k : SV → St → Prop) : Prop := ev cxO (N + 54) 1 3 (codeAt Try.prog 3 [1, 1, 1, 0, 1, 0]) (frO n i) (stT a s m p) (kOut M k)
def CutP (N M n : Nat) (i : Int) (a : Option SO) (s : Tw) (m p : Nat) (k : SV → St → Prop) : Prop := ev cxO (N + 45) 1 3 (codeAt Try.prog 3 [1, 1, 1, 0, 1, 0, 0, 1, 1, 0, 0, 1, 1, 0, 0]) (frO n i) (stT a s m p) (kChk N M k)
def InP (L N M n : Nat) (i j : Int) (a : Option SO) (s : Tw) (m p : Nat) (k : SV → St → Prop) : Prop := ev cxO (L + 44) 1 3 (codeAt Try.prog 3 [1, 1, 1, 0, 1, 0, 0, 1, 1, 0, 0, 1, 1, 1, 1, 0]) (frIn s n i j) (stT a s m p) (kIn N M k)
def EndP (M : Nat) (a : Option SO) (s : Tw) (m p : Nat) (k : SV → St → Prop) : Prop := ev cxO (M + 55) 1 3 (codeAt Try.prog 3 [1, 1, 1, 1, 0]) (frm 173 [(5, (.sa (.one (SC.ptr 1 0 0))))]) (stT a s m p) (kEnd M k)
theorem remK_nat {x : Int} (h : 0 ≤ x ∧ x ≤ 65535) (m : Nat) : remK (IntKind.wrap .i64 x) (m : Int) = ((x.toNat % m : Nat) : Int) := by
  rw [remK_eq, i64_small (by omega)]
  obtain ⟨n, rfl⟩ := Int.eq_ofNat_of_zero_le h.1
  rw [Int.toNat_natCast]
  exact (Int.ofNat_tmod n m).symm
theorem kinds8 {x : Int} (h : 0 ≤ x) : x = 0 ∨ x = 1 ∨ x = 2 ∨ x = 3 ∨ x = 4 ∨ x = 5 ∨ x = 6 ∨ x = 7 ∨ ∃ k8 : Nat, x = ((k8 + 8 : Nat) : Int) := by
  by_cases h8 : 8 ≤ x
  · exact .inr (.inr (.inr (.inr (.inr (.inr (.inr (.inr ⟨(x - 8).toNat, by omega⟩)))))))
  · omega
theorem mod_or (x m : Nat) : m = 0 ∨ x % m < m := by
  rcases Nat.eq_zero_or_pos m with h | h
  · exact .inl h
  · exact .inr (Nat.mod_lt _ h)

theorem step_A00 {n0 : Int} {c N M n i : Nat} {ks ns qs : List Int} {next dnext got : Int} {did asked qn qq rn ra : List Int} {k : SV → St → Prop} (hI : Spec.Inv n0 c ⟨next, dnext, none, none, did, asked, got, qn, qq, rn, ra⟩) (hc : c ≤ 300) (hin : i ≤ n) (hn : n ≤ 300)
    (hks : ∀ j, 0 ≤ ks.getD j 0) (hns : ∀ j, 0 ≤ ns.getD j 0 ∧ ns.getD j 0 ≤ 65535) (hqs : ∀ j, 0 ≤ qs.getD j 0 ∧ qs.getD j 0 ≤ 4294967295)
    (hC : i < n → ∀ (s' : Tw) (m p : Nat), Spec.Inv n0 (c + 1) s' → m = s'.qn.length → p = s'.rn.length → CutP N M n i (argT n ks ns qs) s' m p k)
    (hE : i = n → EndP M (argT n ks ns qs) ⟨next, dnext, none, none, did, asked, got, qn, qq, rn, ra⟩ qn.length rn.length k) : HeadP N M n i (argT n ks ns qs) ⟨next, dnext, none, none, did, asked, got, qn, qq, rn, ra⟩ qn.length rn.length k := by
  have hq := hI.q.1
  have hr := hI.r.1
  have ham := hI.am
  have hqm := hI.qm
  have hrm := hI.rm
  have hle := hI.le
  have hx := hqs i
  simp only at hq hr ham hqm hrm hle
  have hjq := mod_or (ns.getD i 0).toNat qn.length
  have hjr := mod_or (ns.getD i 0).toNat rn.length
  have f1 : fitL 0 qn.length qn = qn := fitL_self _
  have f2 : fitL 0 qn.length qq = qq := fitL_id _ _ _ hq
  have f3 : fitL 0 rn.length rn = rn := fitL_self _
  have f4 : fitL 0 rn.length ra = ra := fitL_id _ _ _ hr
  have r1 := remK_nat (hns i) qn.length
  have r2 := remK_nat (hns i) rn.length
  have w1 : ∀ j, j < qn.length → (woL j qn).length = qn.length - 1 := fun j h => woL_len h
  have w2 : ∀ j, j < rn.length → (woL j rn).length = rn.length - 1 := fun j h => woL_len h
  refine Eq.mpr (t_dA00 next dnext got (i : Int) 0 0 0 0 false n qn.length rn.length ks ns qs did asked qn qq rn ra N M k) ⟨?_⟩
  refine brD (fun hlt => ?_) (fun hge => hE (by omega))
  have hC := hC (by omega)
  refine ndD (by omega) (ndD (by omega) (ndD (by omega) ?_))
  have hk := kinds8 (x := List.getD ks (0 + (Int.toNat (i : Int))) 0) (hks _)
  rcases hk with e | e | e | e | e | e | e | e | ⟨k8, e⟩ <;> rw [e]
  · refine Eq.mpr (t_DP00_0 (List.getD ns (0 + (Int.toNat (i : Int))) (0)) (List.getD qs (0 + (Int.toNat (i : Int))) (0)) next dnext got (i : Int) 0 0 0 0 false n qn.length rn.length ks ns qs did asked qn qq rn ra N M k) ⟨?_⟩
    try simp only [Nat.zero_add, Int.toNat_natCast, f1, f2, f3, f4, r1, r2, List.length_append, List.length_cons, List.length_nil]
    generalize (ns.getD i 0).toNat % qn.length = jq at *
    generalize (ns.getD i 0).toNat % rn.length = jr at *
    repeat' first
      | refine brE (fun _ => ?_) (fun _ => ?_)
      | refine brN (fun _ => ?_) (fun _ => ?_)
      | refine brD (fun _ => ?_) (fun _ => ?_)
      | refine br (fun _ => ?_) (fun _ => ?_)
      | refine ndN ?_ ?_
      | refine ndD ?_ ?_
    all_goals first
      | omega
      | exact ⟨trivial, by omega⟩
      | (simp only [true_and]; omega)
      | exact hC _ _ _ hI.later rfl rfl
      | (exfalso; omega)
      | exact hC _ _ _ (hI.qwo (j := jq) (by simp only; omega)) (w1 jq (by omega)).symm rfl
      | exact hC _ _ _ (hI.qdup (j := jq) (by simp only; omega)) (by simp) rfl
      | exact hC _ _ _ (hI.rwo (j := jr) (by simp only; omega)) rfl (w2 jr (by omega)).symm
      | exact hC _ _ _ (hI.rdup (j := jr) (by simp only; omega)) rfl (by simp)
      | exact hC _ _ _ (hI.qnew (by omega) (j := jq) (by simp only; omega) (by assumption)) (w1 jq (by omega)).symm (by simp)
      | exact hC _ _ _ (hI.ask rfl hx) (by simp) rfl
  · refine Eq.mpr (t_DP00_1 (List.getD ns (0 + (Int.toNat (i : Int))) (0)) (List.getD qs (0 + (Int.toNat (i : Int))) (0)) next dnext got (i : Int) 0 0 0 0 false n qn.length rn.length ks ns qs did asked qn qq rn ra N M k) ⟨?_⟩
    try simp only [Nat.zero_add, Int.toNat_natCast, f1, f2, f3, f4, r1, r2, List.length_append, List.length_cons, List.length_nil]
    generalize (ns.getD i 0).toNat % qn.length = jq at *
    generalize (ns.getD i 0).toNat % rn.length = jr at *
    repeat' first
      | refine brE (fun _ => ?_) (fun _ => ?_)
      | refine brN (fun _ => ?_) (fun _ => ?_)
      | refine brD (fun _ => ?_) (fun _ => ?_)
      | refine br (fun _ => ?_) (fun _ => ?_)
      | refine ndN ?_ ?_
      | refine ndD ?_ ?_
    all_goals first
      | omega
      | exact ⟨trivial, by omega⟩
      | (simp only [true_and]; omega)
      | exact hC _ _ _ hI.later rfl rfl
      | (exfalso; omega)
      | exact hC _ _ _ (hI.qwo (j := jq) (by simp only; omega)) (w1 jq (by omega)).symm rfl
      | exact hC _ _ _ (hI.qdup (j := jq) (by simp only; omega)) (by simp) rfl
      | exact hC _ _ _ (hI.rwo (j := jr) (by simp only; omega)) rfl (w2 jr (by omega)).symm
      | exact hC _ _ _ (hI.rdup (j := jr) (by simp only; omega)) rfl (by simp)
      | exact hC _ _ _ (hI.qnew (by omega) (j := jq) (by simp only; omega) (by assumption)) (w1 jq (by omega)).symm (by simp)
      | exact hC _ _ _ (hI.ask rfl hx) (by simp) rfl
  · refine Eq.mpr (t_DP00_2 (List.getD ns (0 + (Int.toNat (i : Int))) (0)) (List.getD qs (0 + (Int.toNat (i : Int))) (0)) next dnext got (i : Int) 0 0 0 0 false n qn.length rn.length ks ns qs did asked qn qq rn ra N M k) ⟨?_⟩
    try simp only [Nat.zero_add, Int.toNat_natCast, f1, f2, f3, f4, r1, r2, List.length_append, List.length_cons, List.length_nil]
    generalize (ns.getD i 0).toNat % qn.length = jq at *
    generalize (ns.getD i 0).toNat % rn.length = jr at *
    repeat' first
      | refine brE (fun _ => ?_) (fun _ => ?_)
      | refine brN (fun _ => ?_) (fun _ => ?_)
      | refine brD (fun _ => ?_) (fun _ => ?_)
      | refine br (fun _ => ?_) (fun _ => ?_)
      | refine ndN ?_ ?_
      | refine ndD ?_ ?_
    all_goals first
      | omega
      | exact ⟨trivial, by omega⟩
      | (simp only [true_and]; omega)
      | exact hC _ _ _ hI.later rfl rfl
      | (exfalso; omega)
      | exact hC _ _ _ (hI.qwo (j := jq) (by simp only; omega)) (w1 jq (by omega)).symm rfl
      | exact hC _ _ _ (hI.qdup (j := jq) (by simp only; omega)) (by simp) rfl
      | exact hC _ _ _ (hI.rwo (j := jr) (by simp only; omega)) rfl (w2 jr (by omega)).symm
      | exact hC _ _ _ (hI.rdup (j := jr) (by simp only; omega)) rfl (by simp)
      | exact hC _ _ _ (hI.qnew (by omega) (j := jq) (by simp only; omega) (by assumption)) (w1 jq (by omega)).symm (by simp)
      | exact hC _ _ _ (hI.ask rfl hx) (by simp) rfl
  · refine Eq.mpr (t_DP00_3 (List.getD ns (0 + (Int.toNat (i : Int))) (0)) (List.getD qs (0 + (Int.toNat (i : Int))) (0)) next dnext got (i : Int) 0 0 0 0 false n qn.length rn.length ks ns qs did asked qn qq rn ra N M k) ⟨?_⟩
    try simp only [Nat.zero_add, Int.toNat_natCast, f1, f2, f3, f4, r1, r2, List.length_append, List.length_cons, List.length_nil]
    generalize (ns.getD i 0).toNat % qn.length = jq at *
    generalize (ns.getD i 0).toNat % rn.length = jr at *
    repeat' first
      | refine brE (fun _ => ?_) (fun _ => ?_)
      | refine brN (fun _ => ?_) (fun _ => ?_)
      | refine brD (fun _ => ?_) (fun _ => ?_)
      | refine br (fun _ => ?_) (fun _ => ?_)
      | refine ndN ?_ ?_
      | refine ndD ?_ ?_
    all_goals first
      | omega
      | exact ⟨trivial, by omega⟩
      | (simp only [true_and]; omega)
      | exact hC _ _ _ hI.later rfl rfl
      | (exfalso; omega)
      | exact hC _ _ _ (hI.qwo (j := jq) (by simp only; omega)) (w1 jq (by omega)).symm rfl
      | exact hC _ _ _ (hI.qdup (j := jq) (by simp only; omega)) (by simp) rfl
      | exact hC _ _ _ (hI.rwo (j := jr) (by simp only; omega)) rfl (w2 jr (by omega)).symm
      | exact hC _ _ _ (hI.rdup (j := jr) (by simp only; omega)) rfl (by simp)
      | exact hC _ _ _ (hI.qnew (by omega) (j := jq) (by simp only; omega) (by assumption)) (w1 jq (by omega)).symm (by simp)
      | exact hC _ _ _ (hI.ask rfl hx) (by simp) rfl
  · refine Eq.mpr (t_DP00_4 (List.getD ns (0 + (Int.toNat (i : Int))) (0)) (List.getD qs (0 + (Int.toNat (i : Int))) (0)) next dnext got (i : Int) 0 0 0 0 false n qn.length rn.length ks ns qs did asked qn qq rn ra N M k) ⟨?_⟩
    try simp only [Nat.zero_add, Int.toNat_natCast, f1, f2, f3, f4, r1, r2, List.length_append, List.length_cons, List.length_nil]
    generalize (ns.getD i 0).toNat % qn.length = jq at *
    generalize (ns.getD i 0).toNat % rn.length = jr at *
    repeat' first
      | refine brE (fun _ => ?_) (fun _ => ?_)
      | refine brN (fun _ => ?_) (fun _ => ?_)
      | refine brD (fun _ => ?_) (fun _ => ?_)
      | refine br (fun _ => ?_) (fun _ => ?_)
      | refine ndN ?_ ?_
      | refine ndD ?_ ?_
    all_goals first
      | omega
      | exact ⟨trivial, by omega⟩
      | (simp only [true_and]; omega)
      | exact hC _ _ _ hI.later rfl rfl
      | (exfalso; omega)
      | exact hC _ _ _ (hI.qwo (j := jq) (by simp only; omega)) (w1 jq (by omega)).symm rfl
      | exact hC _ _ _ (hI.qdup (j := jq) (by simp only; omega)) (by simp) rfl
      | exact hC _ _ _ (hI.rwo (j := jr) (by simp only; omega)) rfl (w2 jr (by omega)).symm
      | exact hC _ _ _ (hI.rdup (j := jr) (by simp only; omega)) rfl (by simp)
      | exact hC _ _ _ (hI.qnew (by omega) (j := jq) (by simp only; omega) (by assumption)) (w1 jq (by omega)).symm (by simp)
      | exact hC _ _ _ (hI.ask rfl hx) (by simp) rfl
  · refine Eq.mpr (t_DP00_5 (List.getD ns (0 + (Int.toNat (i : Int))) (0)) (List.getD qs (0 + (Int.toNat (i : Int))) (0)) next dnext got (i : Int) 0 0 0 0 false n qn.length rn.length ks ns qs did asked qn qq rn ra N M k) ⟨?_⟩
    try simp only [Nat.zero_add, Int.toNat_natCast, f1, f2, f3, f4, r1, r2, List.length_append, List.length_cons, List.length_nil]
    generalize (ns.getD i 0).toNat % qn.length = jq at *
    generalize (ns.getD i 0).toNat % rn.length = jr at *
    repeat' first
      | refine brE (fun _ => ?_) (fun _ => ?_)
      | refine brN (fun _ => ?_) (fun _ => ?_)
      | refine brD (fun _ => ?_) (fun _ => ?_)
      | refine br (fun _ => ?_) (fun _ => ?_)
      | refine ndN ?_ ?_
      | refine ndD ?_ ?_
    all_goals first
      | omega
      | exact ⟨trivial, by omega⟩
      | (simp only [true_and]; omega)
      | exact hC _ _ _ hI.later rfl rfl
      | (exfalso; omega)
      | exact hC _ _ _ (hI.qwo (j := jq) (by simp only; omega)) (w1 jq (by omega)).symm rfl
      | exact hC _ _ _ (hI.qdup (j := jq) (by simp only; omega)) (by simp) rfl
      | exact hC _ _ _ (hI.rwo (j := jr) (by simp only; omega)) rfl (w2 jr (by omega)).symm
      | exact hC _ _ _ (hI.rdup (j := jr) (by simp only; omega)) rfl (by simp)
      | exact hC _ _ _ (hI.qnew (by omega) (j := jq) (by simp only; omega) (by assumption)) (w1 jq (by omega)).symm (by simp)
      | exact hC _ _ _ (hI.ask rfl hx) (by simp) rfl
  · refine Eq.mpr (t_DP00_6 (List.getD ns (0 + (Int.toNat (i : Int))) (0)) (List.getD qs (0 + (Int.toNat (i : Int))) (0)) next dnext got (i : Int) 0 0 0 0 false n qn.length rn.length ks ns qs did asked qn qq rn ra N M k) ⟨?_⟩
    try simp only [Nat.zero_add, Int.toNat_natCast, f1, f2, f3, f4, r1, r2, List.length_append, List.length_cons, List.length_nil]
    generalize (ns.getD i 0).toNat % qn.length = jq at *
    generalize (ns.getD i 0).toNat % rn.length = jr at *
    repeat' first
      | refine brE (fun _ => ?_) (fun _ => ?_)
      | refine brN (fun _ => ?_) (fun _ => ?_)
      | refine brD (fun _ => ?_) (fun _ => ?_)
      | refine br (fun _ => ?_) (fun _ => ?_)
      | refine ndN ?_ ?_
      | refine ndD ?_ ?_
    all_goals first
      | omega
      | exact ⟨trivial, by omega⟩
      | (simp only [true_and]; omega)
      | exact hC _ _ _ hI.later rfl rfl
      | (exfalso; omega)
      | exact hC _ _ _ (hI.qwo (j := jq) (by simp only; omega)) (w1 jq (by omega)).symm rfl
      | exact hC _ _ _ (hI.qdup (j := jq) (by simp only; omega)) (by simp) rfl
      | exact hC _ _ _ (hI.rwo (j := jr) (by simp only; omega)) rfl (w2 jr (by omega)).symm
      | exact hC _ _ _ (hI.rdup (j := jr) (by simp only; omega)) rfl (by simp)
      | exact hC _ _ _ (hI.qnew (by omega) (j := jq) (by simp only; omega) (by assumption)) (w1 jq (by omega)).symm (by simp)
      | exact hC _ _ _ (hI.ask rfl hx) (by simp) rfl
  · refine Eq.mpr (t_DP00_7 (List.getD ns (0 + (Int.toNat (i : Int))) (0)) (List.getD qs (0 + (Int.toNat (i : Int))) (0)) next dnext got (i : Int) 0 0 0 0 false n qn.length rn.length ks ns qs did asked qn qq rn ra N M k) ⟨?_⟩
    try simp only [Nat.zero_add, Int.toNat_natCast, f1, f2, f3, f4, r1, r2, List.length_append, List.length_cons, List.length_nil]
    generalize (ns.getD i 0).toNat % qn.length = jq at *
    generalize (ns.getD i 0).toNat % rn.length = jr at *
    repeat' first
      | refine brE (fun _ => ?_) (fun _ => ?_)
      | refine brN (fun _ => ?_) (fun _ => ?_)
      | refine brD (fun _ => ?_) (fun _ => ?_)
      | refine br (fun _ => ?_) (fun _ => ?_)
      | refine ndN ?_ ?_
      | refine ndD ?_ ?_
    all_goals first
      | omega
      | exact ⟨trivial, by omega⟩
      | (simp only [true_and]; omega)
      | exact hC _ _ _ hI.later rfl rfl
      | (exfalso; omega)
      | exact hC _ _ _ (hI.qwo (j := jq) (by simp only; omega)) (w1 jq (by omega)).symm rfl
      | exact hC _ _ _ (hI.qdup (j := jq) (by simp only; omega)) (by simp) rfl
      | exact hC _ _ _ (hI.rwo (j := jr) (by simp only; omega)) rfl (w2 jr (by omega)).symm
      | exact hC _ _ _ (hI.rdup (j := jr) (by simp only; omega)) rfl (by simp)
      | exact hC _ _ _ (hI.qnew (by omega) (j := jq) (by simp only; omega) (by assumption)) (w1 jq (by omega)).symm (by simp)
      | exact hC _ _ _ (hI.ask rfl hx) (by simp) rfl
  · refine Eq.mpr (t_DP00_8 (List.getD ns (0 + (Int.toNat (i : Int))) (0)) (List.getD qs (0 + (Int.toNat (i : Int))) (0)) next dnext got (i : Int) 0 0 0 0 false n qn.length rn.length ks ns qs did asked qn qq rn ra k8 N M k) ⟨?_⟩
    try simp only [Nat.zero_add, Int.toNat_natCast, f1, f2, f3, f4, r1, r2, List.length_append, List.length_cons, List.length_nil]
    generalize (ns.getD i 0).toNat % qn.length = jq at *
    generalize (ns.getD i 0).toNat % rn.length = jr at *
    repeat' first
      | refine brE (fun _ => ?_) (fun _ => ?_)
      | refine brN (fun _ => ?_) (fun _ => ?_)
      | refine brD (fun _ => ?_) (fun _ => ?_)
      | refine br (fun _ => ?_) (fun _ => ?_)
      | refine ndN ?_ ?_
      | refine ndD ?_ ?_
    all_goals first
      | omega
      | exact ⟨trivial, by omega⟩
      | (simp only [true_and]; omega)
      | exact hC _ _ _ hI.later rfl rfl
      | (exfalso; omega)
      | exact hC _ _ _ (hI.qwo (j := jq) (by simp only; omega)) (w1 jq (by omega)).symm rfl
      | exact hC _ _ _ (hI.qdup (j := jq) (by simp only; omega)) (by simp) rfl
      | exact hC _ _ _ (hI.rwo (j := jr) (by simp only; omega)) rfl (w2 jr (by omega)).symm
      | exact hC _ _ _ (hI.rdup (j := jr) (by simp only; omega)) rfl (by simp)
      | exact hC _ _ _ (hI.qnew (by omega) (j := jq) (by simp only; omega) (by assumption)) (w1 jq (by omega)).symm (by simp)
      | exact hC _ _ _ (hI.ask rfl hx) (by simp) rfl
theorem step_A10 {n0 : Int} {c N M n i : Nat} {ks ns qs : List Int} {next dnext on oq got : Int} {did asked qn qq rn ra : List Int} {k : SV → St → Prop} (hI : Spec.Inv n0 c ⟨next, dnext, (some (on, oq)), none, did, asked, got, qn, qq, rn, ra⟩) (hc : c ≤ 300) (hin : i ≤ n) (hn : n ≤ 300)
    (hks : ∀ j, 0 ≤ ks.getD j 0) (hns : ∀ j, 0 ≤ ns.getD j 0 ∧ ns.getD j 0 ≤ 65535) (hqs : ∀ j, 0 ≤ qs.getD j 0 ∧ qs.getD j 0 ≤ 4294967295)
    (hC : i < n → ∀ (s' : Tw) (m p : Nat), Spec.Inv n0 (c + 1) s' → m = s'.qn.length → p = s'.rn.length → CutP N M n i (argT n ks ns qs) s' m p k)
    (hE : i = n → EndP M (argT n ks ns qs) ⟨next, dnext, (some (on, oq)), none, did, asked, got, qn, qq, rn, ra⟩ qn.length rn.length k) : HeadP N M n i (argT n ks ns qs) ⟨next, dnext, (some (on, oq)), none, did, asked, got, qn, qq, rn, ra⟩ qn.length rn.length k := by
  have hq := hI.q.1
  have hr := hI.r.1
  have ham := hI.am
  have hqm := hI.qm
  have hrm := hI.rm
  have hle := hI.le
  have hx := hqs i
  simp only at hq hr ham hqm hrm hle
  have hjq := mod_or (ns.getD i 0).toNat qn.length
  have hjr := mod_or (ns.getD i 0).toNat rn.length
  have f1 : fitL 0 qn.length qn = qn := fitL_self _
  have f2 : fitL 0 qn.length qq = qq := fitL_id _ _ _ hq
  have f3 : fitL 0 rn.length rn = rn := fitL_self _
  have f4 : fitL 0 rn.length ra = ra := fitL_id _ _ _ hr
  have r1 := remK_nat (hns i) qn.length
  have r2 := remK_nat (hns i) rn.length
  have w1 : ∀ j, j < qn.length → (woL j qn).length = qn.length - 1 := fun j h => woL_len h
  have w2 : ∀ j, j < rn.length → (woL j rn).length = rn.length - 1 := fun j h => woL_len h
  have hpos : 0 < asked.length := hI.out.1
  have hsub : subK .i64 ((asked.length : Nat) : Int) 1 = ((asked.length - 1 : Nat) : Int) := by rw [subK_eq, i64_small (by omega)]; omega
  have hbad : ∀ j, j < rn.length → rn.getD j 0 = on → IntKind.wrap .u32 (shrK .u64 (ra.getD j 0) 32) = asked.getD (asked.length - 1) 0 ∧ Bool.not (eqK (IntKind.wrap .u32 (ra.getD j 0)) (IntKind.wrap .u32 ((asked.length : Nat) : Int))) = false := by
    intro j hj e
    have h := (hI.rok (by omega) (j := j) hj rfl e).2
    simp only at h
    have hx := getD_rng hI.rng (asked.length - 1)
    simp only at hx
    rw [h, shrK_eq]
    have e2 : min (Int.toNat 32) (IntKind.bits .u64) = 32 := rfl
    rw [e2, Int.fdiv_eq_ediv_of_nonneg _ (by decide)]
    have e3 : (2 : Int) ^ 32 = 4294967296 := rfl
    rw [e3]
    refine ⟨by rw [IntKind.wrap_u32]; omega, ?_⟩
    have e4 : IntKind.wrap .u32 (asked.getD (asked.length - 1) 0 * 4294967296 + ((asked.length : Nat) : Int)) = IntKind.wrap .u32 ((asked.length : Nat) : Int) := by
      rw [IntKind.wrap_u32, IntKind.wrap_u32]; omega
    rw [e4, eqK_eq, beq_self_eq_true]; rfl
  refine Eq.mpr (t_dA10 next dnext got (i : Int) on oq 0 0 false n qn.length rn.length ks ns qs did asked qn qq rn ra N M k) ⟨?_⟩
  refine brD (fun hlt => ?_) (fun hge => hE (by omega))
  have hC := hC (by omega)
  refine ndD (by omega) (ndD (by omega) (ndD (by omega) ?_))
  have hk := kinds8 (x := List.getD ks (0 + (Int.toNat (i : Int))) 0) (hks _)
  rcases hk with e | e | e | e | e | e | e | e | ⟨k8, e⟩ <;> rw [e]
  · refine Eq.mpr (t_DP10_0 (List.getD ns (0 + (Int.toNat (i : Int))) (0)) (List.getD qs (0 + (Int.toNat (i : Int))) (0)) next dnext got (i : Int) on oq 0 0 false n qn.length rn.length ks ns qs did asked qn qq rn ra N M k) ⟨?_⟩
    try simp only [Nat.zero_add, Int.toNat_natCast, f1, f2, f3, f4, r1, r2, hsub, List.length_append, List.length_cons, List.length_nil]
    generalize (ns.getD i 0).toNat % qn.length = jq at *
    generalize (ns.getD i 0).toNat % rn.length = jr at *
    repeat' first
      | refine brE (fun _ => ?_) (fun _ => ?_)
      | refine brN (fun _ => ?_) (fun _ => ?_)
      | refine brD (fun _ => ?_) (fun _ => ?_)
      | refine br (fun _ => ?_) (fun _ => ?_)
      | refine ndN ?_ ?_
      | refine ndD ?_ ?_
    all_goals first
      | omega
      | exact ⟨trivial, by omega⟩
      | (simp only [true_and]; omega)
      | exact hC _ _ _ hI.later rfl rfl
      | (exfalso; omega)
      | exact hC _ _ _ (hI.qwo (j := jq) (by simp only; omega)) (w1 jq (by omega)).symm rfl
      | exact hC _ _ _ (hI.qdup (j := jq) (by simp only; omega)) (by simp) rfl
      | exact hC _ _ _ (hI.rwo (j := jr) (by simp only; omega)) rfl (w2 jr (by omega)).symm
      | exact hC _ _ _ (hI.rdup (j := jr) (by simp only; omega)) rfl (by simp)
      | exact hC _ _ _ (hI.qnew (by omega) (j := jq) (by simp only; omega) (by assumption)) (w1 jq (by omega)).symm (by simp)
      | exact hC _ _ _ (hI.again rfl) (by simp) rfl
      | (rw [(hbad jr (by omega) (by assumption)).2]; exact hC _ _ _ (hI.rok (by omega) (j := jr) (by simp only; omega) rfl (by assumption)).1 rfl (w2 jr (by omega)).symm)
      | exact absurd (hbad jr (by omega) (by assumption)).1 (by assumption)
  · refine Eq.mpr (t_DP10_1 (List.getD ns (0 + (Int.toNat (i : Int))) (0)) (List.getD qs (0 + (Int.toNat (i : Int))) (0)) next dnext got (i : Int) on oq 0 0 false n qn.length rn.length ks ns qs did asked qn qq rn ra N M k) ⟨?_⟩
    try simp only [Nat.zero_add, Int.toNat_natCast, f1, f2, f3, f4, r1, r2, hsub, List.length_append, List.length_cons, List.length_nil]
    generalize (ns.getD i 0).toNat % qn.length = jq at *
    generalize (ns.getD i 0).toNat % rn.length = jr at *
    repeat' first
      | refine brE (fun _ => ?_) (fun _ => ?_)
      | refine brN (fun _ => ?_) (fun _ => ?_)
      | refine brD (fun _ => ?_) (fun _ => ?_)
      | refine br (fun _ => ?_) (fun _ => ?_)
      | refine ndN ?_ ?_
      | refine ndD ?_ ?_
    all_goals first
      | omega
      | exact ⟨trivial, by omega⟩
      | (simp only [true_and]; omega)
      | exact hC _ _ _ hI.later rfl rfl
      | (exfalso; omega)
      | exact hC _ _ _ (hI.qwo (j := jq) (by simp only; omega)) (w1 jq (by omega)).symm rfl
      | exact hC _ _ _ (hI.qdup (j := jq) (by simp only; omega)) (by simp) rfl
      | exact hC _ _ _ (hI.rwo (j := jr) (by simp only; omega)) rfl (w2 jr (by omega)).symm
      | exact hC _ _ _ (hI.rdup (j := jr) (by simp only; omega)) rfl (by simp)
      | exact hC _ _ _ (hI.qnew (by omega) (j := jq) (by simp only; omega) (by assumption)) (w1 jq (by omega)).symm (by simp)
      | exact hC _ _ _ (hI.again rfl) (by simp) rfl
      | (rw [(hbad jr (by omega) (by assumption)).2]; exact hC _ _ _ (hI.rok (by omega) (j := jr) (by simp only; omega) rfl (by assumption)).1 rfl (w2 jr (by omega)).symm)
      | exact absurd (hbad jr (by omega) (by assumption)).1 (by assumption)
  · refine Eq.mpr (t_DP10_2 (List.getD ns (0 + (Int.toNat (i : Int))) (0)) (List.getD qs (0 + (Int.toNat (i : Int))) (0)) next dnext got (i : Int) on oq 0 0 false n qn.length rn.length ks ns qs did asked qn qq rn ra N M k) ⟨?_⟩
    try simp only [Nat.zero_add, Int.toNat_natCast, f1, f2, f3, f4, r1, r2, hsub, List.length_append, List.length_cons, List.length_nil]
    generalize (ns.getD i 0).toNat % qn.length = jq at *
    generalize (ns.getD i 0).toNat % rn.length = jr at *
    repeat' first
      | refine brE (fun _ => ?_) (fun _ => ?_)
      | refine brN (fun _ => ?_) (fun _ => ?_)
      | refine brD (fun _ => ?_) (fun _ => ?_)
      | refine br (fun _ => ?_) (fun _ => ?_)
      | refine ndN ?_ ?_
      | refine ndD ?_ ?_
    all_goals first
      | omega
      | exact ⟨trivial, by omega⟩
      | (simp only [true_and]; omega)
      | exact hC _ _ _ hI.later rfl rfl
      | (exfalso; omega)
      | exact hC _ _ _ (hI.qwo (j := jq) (by simp only; omega)) (w1 jq (by omega)).symm rfl
      | exact hC _ _ _ (hI.qdup (j := jq) (by simp only; omega)) (by simp) rfl
      | exact hC _ _ _ (hI.rwo (j := jr) (by simp only; omega)) rfl (w2 jr (by omega)).symm
      | exact hC _ _ _ (hI.rdup (j := jr) (by simp only; omega)) rfl (by simp)
      | exact hC _ _ _ (hI.qnew (by omega) (j := jq) (by simp only; omega) (by assumption)) (w1 jq (by omega)).symm (by simp)
      | exact hC _ _ _ (hI.again rfl) (by simp) rfl
      | (rw [(hbad jr (by omega) (by assumption)).2]; exact hC _ _ _ (hI.rok (by omega) (j := jr) (by simp only; omega) rfl (by assumption)).1 rfl (w2 jr (by omega)).symm)
      | exact absurd (hbad jr (by omega) (by assumption)).1 (by assumption)
  · refine Eq.mpr (t_DP10_3 (List.getD ns (0 + (Int.toNat (i : Int))) (0)) (List.getD qs (0 + (Int.toNat (i : Int))) (0)) next dnext got (i : Int) on oq 0 0 false n qn.length rn.length ks ns qs did asked qn qq rn ra N M k) ⟨?_⟩
    try simp only [Nat.zero_add, Int.toNat_natCast, f1, f2, f3, f4, r1, r2, hsub, List.length_append, List.length_cons, List.length_nil]
    generalize (ns.getD i 0).toNat % qn.length = jq at *
    generalize (ns.getD i 0).toNat % rn.length = jr at *
    repeat' first
      | refine brE (fun _ => ?_) (fun _ => ?_)
      | refine brN (fun _ => ?_) (fun _ => ?_)
      | refine brD (fun _ => ?_) (fun _ => ?_)
      | refine br (fun _ => ?_) (fun _ => ?_)
      | refine ndN ?_ ?_
      | refine ndD ?_ ?_
    all_goals first
      | omega
      | exact ⟨trivial, by omega⟩
      | (simp only [true_and]; omega)
      | exact hC _ _ _ hI.later rfl rfl
      | (exfalso; omega)
      | exact hC _ _ _ (hI.qwo (j := jq) (by simp only; omega)) (w1 jq (by omega)).symm rfl
      | exact hC _ _ _ (hI.qdup (j := jq) (by simp only; omega)) (by simp) rfl
      | exact hC _ _ _ (hI.rwo (j := jr) (by simp only; omega)) rfl (w2 jr (by omega)).symm
      | exact hC _ _ _ (hI.rdup (j := jr) (by simp only; omega)) rfl (by simp)
      | exact hC _ _ _ (hI.qnew (by omega) (j := jq) (by simp only; omega) (by assumption)) (w1 jq (by omega)).symm (by simp)
      | exact hC _ _ _ (hI.again rfl) (by simp) rfl
      | (rw [(hbad jr (by omega) (by assumption)).2]; exact hC _ _ _ (hI.rok (by omega) (j := jr) (by simp only; omega) rfl (by assumption)).1 rfl (w2 jr (by omega)).symm)
      | exact absurd (hbad jr (by omega) (by assumption)).1 (by assumption)
  · refine Eq.mpr (t_DP10_4 (List.getD ns (0 + (Int.toNat (i : Int))) (0)) (List.getD qs (0 + (Int.toNat (i : Int))) (0)) next dnext got (i : Int) on oq 0 0 false n qn.length rn.length ks ns qs did asked qn qq rn ra N M k) ⟨?_⟩
    try simp only [Nat.zero_add, Int.toNat_natCast, f1, f2, f3, f4, r1, r2, hsub, List.length_append, List.length_cons, List.length_nil]
    generalize (ns.getD i 0).toNat % qn.length = jq at *
    generalize (ns.getD i 0).toNat % rn.length = jr at *
    repeat' first
      | refine brE (fun _ => ?_) (fun _ => ?_)
      | refine brN (fun _ => ?_) (fun _ => ?_)
      | refine brD (fun _ => ?_) (fun _ => ?_)
      | refine br (fun _ => ?_) (fun _ => ?_)
      | refine ndN ?_ ?_
      | refine ndD ?_ ?_
    all_goals first
      | omega
      | exact ⟨trivial, by omega⟩
      | (simp only [true_and]; omega)
      | exact hC _ _ _ hI.later rfl rfl
      | (exfalso; omega)
      | exact hC _ _ _ (hI.qwo (j := jq) (by simp only; omega)) (w1 jq (by omega)).symm rfl
      | exact hC _ _ _ (hI.qdup (j := jq) (by simp only; omega)) (by simp) rfl
      | exact hC _ _ _ (hI.rwo (j := jr) (by simp only; omega)) rfl (w2 jr (by omega)).symm
      | exact hC _ _ _ (hI.rdup (j := jr) (by simp only; omega)) rfl (by simp)
      | exact hC _ _ _ (hI.qnew (by omega) (j := jq) (by simp only; omega) (by assumption)) (w1 jq (by omega)).symm (by simp)
      | exact hC _ _ _ (hI.again rfl) (by simp) rfl
      | (rw [(hbad jr (by omega) (by assumption)).2]; exact hC _ _ _ (hI.rok (by omega) (j := jr) (by simp only; omega) rfl (by assumption)).1 rfl (w2 jr (by omega)).symm)
      | exact absurd (hbad jr (by omega) (by assumption)).1 (by assumption)
  · refine Eq.mpr (t_DP10_5 (List.getD ns (0 + (Int.toNat (i : Int))) (0)) (List.getD qs (0 + (Int.toNat (i : Int))) (0)) next dnext got (i : Int) on oq 0 0 false n qn.length rn.length ks ns qs did asked qn qq rn ra N M k) ⟨?_⟩
    try simp only [Nat.zero_add, Int.toNat_natCast, f1, f2, f3, f4, r1, r2, hsub, List.length_append, List.length_cons, List.length_nil]
    generalize (ns.getD i 0).toNat % qn.length = jq at *
    generalize (ns.getD i 0).toNat % rn.length = jr at *
    repeat' first
      | refine brE (fun _ => ?_) (fun _ => ?_)
      | refine brN (fun _ => ?_) (fun _ => ?_)
      | refine brD (fun _ => ?_) (fun _ => ?_)
      | refine br (fun _ => ?_) (fun _ => ?_)
      | refine ndN ?_ ?_
      | refine ndD ?_ ?_
    all_goals first
      | omega
      | exact ⟨trivial, by omega⟩
      | (simp only [true_and]; omega)
      | exact hC _ _ _ hI.later rfl rfl
      | (exfalso; omega)
      | exact hC _ _ _ (hI.qwo (j := jq) (by simp only; omega)) (w1 jq (by omega)).symm rfl
      | exact hC _ _ _ (hI.qdup (j := jq) (by simp only; omega)) (by simp) rfl
      | exact hC _ _ _ (hI.rwo (j := jr) (by simp only; omega)) rfl (w2 jr (by omega)).symm
      | exact hC _ _ _ (hI.rdup (j := jr) (by simp only; omega)) rfl (by simp)
      | exact hC _ _ _ (hI.qnew (by omega) (j := jq) (by simp only; omega) (by assumption)) (w1 jq (by omega)).symm (by simp)
      | exact hC _ _ _ (hI.again rfl) (by simp) rfl
      | (rw [(hbad jr (by omega) (by assumption)).2]; exact hC _ _ _ (hI.rok (by omega) (j := jr) (by simp only; omega) rfl (by assumption)).1 rfl (w2 jr (by omega)).symm)
      | exact absurd (hbad jr (by omega) (by assumption)).1 (by assumption)
  · refine Eq.mpr (t_DP10_6 (List.getD ns (0 + (Int.toNat (i : Int))) (0)) (List.getD qs (0 + (Int.toNat (i : Int))) (0)) next dnext got (i : Int) on oq 0 0 false n qn.length rn.length ks ns qs did asked qn qq rn ra N M k) ⟨?_⟩
    try simp only [Nat.zero_add, Int.toNat_natCast, f1, f2, f3, f4, r1, r2, hsub, List.length_append, List.length_cons, List.length_nil]
    generalize (ns.getD i 0).toNat % qn.length = jq at *
    generalize (ns.getD i 0).toNat % rn.length = jr at *
    repeat' first
      | refine brE (fun _ => ?_) (fun _ => ?_)
      | refine brN (fun _ => ?_) (fun _ => ?_)
      | refine brD (fun _ => ?_) (fun _ => ?_)
      | refine br (fun _ => ?_) (fun _ => ?_)
      | refine ndN ?_ ?_
      | refine ndD ?_ ?_
    all_goals first
      | omega
      | exact ⟨trivial, by omega⟩
      | (simp only [true_and]; omega)
      | exact hC _ _ _ hI.later rfl rfl
      | (exfalso; omega)
      | exact hC _ _ _ (hI.qwo (j := jq) (by simp only; omega)) (w1 jq (by omega)).symm rfl
      | exact hC _ _ _ (hI.qdup (j := jq) (by simp only; omega)) (by simp) rfl
      | exact hC _ _ _ (hI.rwo (j := jr) (by simp only; omega)) rfl (w2 jr (by omega)).symm
      | exact hC _ _ _ (hI.rdup (j := jr) (by simp only; omega)) rfl (by simp)
      | exact hC _ _ _ (hI.qnew (by omega) (j := jq) (by simp only; omega) (by assumption)) (w1 jq (by omega)).symm (by simp)
      | exact hC _ _ _ (hI.again rfl) (by simp) rfl
      | (rw [(hbad jr (by omega) (by assumption)).2]; exact hC _ _ _ (hI.rok (by omega) (j := jr) (by simp only; omega) rfl (by assumption)).1 rfl (w2 jr (by omega)).symm)
      | exact absurd (hbad jr (by omega) (by assumption)).1 (by assumption)
  · refine Eq.mpr (t_DP10_7 (List.getD ns (0 + (Int.toNat (i : Int))) (0)) (List.getD qs (0 + (Int.toNat (i : Int))) (0)) next dnext got (i : Int) on oq 0 0 false n qn.length rn.length ks ns qs did asked qn qq rn ra N M k) ⟨?_⟩
    try simp only [Nat.zero_add, Int.toNat_natCast, f1, f2, f3, f4, r1, r2, hsub, List.length_append, List.length_cons, List.length_nil]
    generalize (ns.getD i 0).toNat % qn.length = jq at *
    generalize (ns.getD i 0).toNat % rn.length = jr at *
    repeat' first
      | refine brE (fun _ => ?_) (fun _ => ?_)
      | refine brN (fun _ => ?_) (fun _ => ?_)
      | refine brD (fun _ => ?_) (fun _ => ?_)
      | refine br (fun _ => ?_) (fun _ => ?_)
      | refine ndN ?_ ?_
      | refine ndD ?_ ?_
    all_goals first
      | omega
      | exact ⟨trivial, by omega⟩
      | (simp only [true_and]; omega)
      | exact hC _ _ _ hI.later rfl rfl
      | (exfalso; omega)
      | exact hC _ _ _ (hI.qwo (j := jq) (by simp only; omega)) (w1 jq (by omega)).symm rfl
      | exact hC _ _ _ (hI.qdup (j := jq) (by simp only; omega)) (by simp) rfl
      | exact hC _ _ _ (hI.rwo (j := jr) (by simp only; omega)) rfl (w2 jr (by omega)).symm
      | exact hC _ _ _ (hI.rdup (j := jr) (by simp only; omega)) rfl (by simp)
      | exact hC _ _ _ (hI.qnew (by omega) (j := jq) (by simp only; omega) (by assumption)) (w1 jq (by omega)).symm (by simp)
      | exact hC _ _ _ (hI.again rfl) (by simp) rfl
      | (rw [(hbad jr (by omega) (by assumption)).2]; exact hC _ _ _ (hI.rok (by omega) (j := jr) (by simp only; omega) rfl (by assumption)).1 rfl (w2 jr (by omega)).symm)
      | exact absurd (hbad jr (by omega) (by assumption)).1 (by assumption)
  · refine Eq.mpr (t_DP10_8 (List.getD ns (0 + (Int.toNat (i : Int))) (0)) (List.getD qs (0 + (Int.toNat (i : Int))) (0)) next dnext got (i : Int) on oq 0 0 false n qn.length rn.length ks ns qs did asked qn qq rn ra k8 N M k) ⟨?_⟩
    try simp only [Nat.zero_add, Int.toNat_natCast, f1, f2, f3, f4, r1, r2, hsub, List.length_append, List.length_cons, List.length_nil]
    generalize (ns.getD i 0).toNat % qn.length = jq at *
    generalize (ns.getD i 0).toNat % rn.length = jr at *
    repeat' first
      | refine brE (fun _ => ?_) (fun _ => ?_)
      | refine brN (fun _ => ?_) (fun _ => ?_)
      | refine brD (fun _ => ?_) (fun _ => ?_)
      | refine br (fun _ => ?_) (fun _ => ?_)
      | refine ndN ?_ ?_
      | refine ndD ?_ ?_
    all_goals first
      | omega
      | exact ⟨trivial, by omega⟩
      | (simp only [true_and]; omega)
      | exact hC _ _ _ hI.later rfl rfl
      | (exfalso; omega)
      | exact hC _ _ _ (hI.qwo (j := jq) (by simp only; omega)) (w1 jq (by omega)).symm rfl
      | exact hC _ _ _ (hI.qdup (j := jq) (by simp only; omega)) (by simp) rfl
      | exact hC _ _ _ (hI.rwo (j := jr) (by simp only; omega)) rfl (w2 jr (by omega)).symm
      | exact hC _ _ _ (hI.rdup (j := jr) (by simp only; omega)) rfl (by simp)
      | exact hC _ _ _ (hI.qnew (by omega) (j := jq) (by simp only; omega) (by assumption)) (w1 jq (by omega)).symm (by simp)
      | exact hC _ _ _ (hI.again rfl) (by simp) rfl
      | (rw [(hbad jr (by omega) (by assumption)).2]; exact hC _ _ _ (hI.rok (by omega) (j := jr) (by simp only; omega) rfl (by assumption)).1 rfl (w2 jr (by omega)).symm)
      | exact absurd (hbad jr (by omega) (by assumption)).1 (by assumption)
theorem step_A01 {n0 : Int} {c N M n i : Nat} {ks ns qs : List Int} {next dnext kn ka got : Int} {did asked qn qq rn ra : List Int} {k : SV → St → Prop} (hI : Spec.Inv n0 c ⟨next, dnext, none, (some (kn, ka)), did, asked, got, qn, qq, rn, ra⟩) (hc : c ≤ 300) (hin : i ≤ n) (hn : n ≤ 300)
    (hks : ∀ j, 0 ≤ ks.getD j 0) (hns : ∀ j, 0 ≤ ns.getD j 0 ∧ ns.getD j 0 ≤ 65535) (hqs : ∀ j, 0 ≤ qs.getD j 0 ∧ qs.getD j 0 ≤ 4294967295)
    (hC : i < n → ∀ (s' : Tw) (m p : Nat), Spec.Inv n0 (c + 1) s' → m = s'.qn.length → p = s'.rn.length → CutP N M n i (argT n ks ns qs) s' m p k)
    (hE : i = n → EndP M (argT n ks ns qs) ⟨next, dnext, none, (some (kn, ka)), did, asked, got, qn, qq, rn, ra⟩ qn.length rn.length k) : HeadP N M n i (argT n ks ns qs) ⟨next, dnext, none, (some (kn, ka)), did, asked, got, qn, qq, rn, ra⟩ qn.length rn.length k := by
  have hq := hI.q.1
  have hr := hI.r.1
  have ham := hI.am
  have hqm := hI.qm
  have hrm := hI.rm
  have hle := hI.le
  have hx := hqs i
  simp only at hq hr ham hqm hrm hle
  have hjq := mod_or (ns.getD i 0).toNat qn.length
  have hjr := mod_or (ns.getD i 0).toNat rn.length
  have f1 : fitL 0 qn.length qn = qn := fitL_self _
  have f2 : fitL 0 qn.length qq = qq := fitL_id _ _ _ hq
  have f3 : fitL 0 rn.length rn = rn := fitL_self _
  have f4 : fitL 0 rn.length ra = ra := fitL_id _ _ _ hr
  have r1 := remK_nat (hns i) qn.length
  have r2 := remK_nat (hns i) rn.length
  have w1 : ∀ j, j < qn.length → (woL j qn).length = qn.length - 1 := fun j h => woL_len h
  have w2 : ∀ j, j < rn.length → (woL j rn).length = rn.length - 1 := fun j h => woL_len h
  refine Eq.mpr (t_dA01 next dnext got (i : Int) 0 0 kn ka false n qn.length rn.length ks ns qs did asked qn qq rn ra N M k) ⟨?_⟩
  refine brD (fun hlt => ?_) (fun hge => hE (by omega))
  have hC := hC (by omega)
  refine ndD (by omega) (ndD (by omega) (ndD (by omega) ?_))
  have hk := kinds8 (x := List.getD ks (0 + (Int.toNat (i : Int))) 0) (hks _)
  rcases hk with e | e | e | e | e | e | e | e | ⟨k8, e⟩ <;> rw [e]
  · refine Eq.mpr (t_DP01_0 (List.getD ns (0 + (Int.toNat (i : Int))) (0)) (List.getD qs (0 + (Int.toNat (i : Int))) (0)) next dnext got (i : Int) 0 0 kn ka false n qn.length rn.length ks ns qs did asked qn qq rn ra N M k) ⟨?_⟩
    try simp only [Nat.zero_add, Int.toNat_natCast, f1, f2, f3, f4, r1, r2, List.length_append, List.length_cons, List.length_nil]
    generalize (ns.getD i 0).toNat % qn.length = jq at *
    generalize (ns.getD i 0).toNat % rn.length = jr at *
    repeat' first
      | refine brE (fun _ => ?_) (fun _ => ?_)
      | refine brN (fun _ => ?_) (fun _ => ?_)
      | refine brD (fun _ => ?_) (fun _ => ?_)
      | refine br (fun _ => ?_) (fun _ => ?_)
      | refine ndN ?_ ?_
      | refine ndD ?_ ?_
    all_goals first
      | omega
      | exact ⟨trivial, by omega⟩
      | (simp only [true_and]; omega)
      | exact hC _ _ _ hI.later rfl rfl
      | (exfalso; omega)
      | exact hC _ _ _ (hI.qwo (j := jq) (by simp only; omega)) (w1 jq (by omega)).symm rfl
      | exact hC _ _ _ (hI.qdup (j := jq) (by simp only; omega)) (by simp) rfl
      | exact hC _ _ _ (hI.rwo (j := jr) (by simp only; omega)) rfl (w2 jr (by omega)).symm
      | exact hC _ _ _ (hI.rdup (j := jr) (by simp only; omega)) rfl (by simp)
      | exact hC _ _ _ (hI.qnew (by omega) (j := jq) (by simp only; omega) (by assumption)) (w1 jq (by omega)).symm (by simp)
      | exact hC _ _ _ (hI.ask rfl hx) (by simp) rfl
      | exact hC _ _ _ (hI.qold (j := jq) (by simp only; omega) rfl) (w1 jq (by omega)).symm (by simp)
  · refine Eq.mpr (t_DP01_1 (List.getD ns (0 + (Int.toNat (i : Int))) (0)) (List.getD qs (0 + (Int.toNat (i : Int))) (0)) next dnext got (i : Int) 0 0 kn ka false n qn.length rn.length ks ns qs did asked qn qq rn ra N M k) ⟨?_⟩
    try simp only [Nat.zero_add, Int.toNat_natCast, f1, f2, f3, f4, r1, r2, List.length_append, List.length_cons, List.length_nil]
    generalize (ns.getD i 0).toNat % qn.length = jq at *
    generalize (ns.getD i 0).toNat % rn.length = jr at *
    repeat' first
      | refine brE (fun _ => ?_) (fun _ => ?_)
      | refine brN (fun _ => ?_) (fun _ => ?_)
      | refine brD (fun _ => ?_) (fun _ => ?_)
      | refine br (fun _ => ?_) (fun _ => ?_)
      | refine ndN ?_ ?_
      | refine ndD ?_ ?_
    all_goals first
      | omega
      | exact ⟨trivial, by omega⟩
      | (simp only [true_and]; omega)
      | exact hC _ _ _ hI.later rfl rfl
      | (exfalso; omega)
      | exact hC _ _ _ (hI.qwo (j := jq) (by simp only; omega)) (w1 jq (by omega)).symm rfl
      | exact hC _ _ _ (hI.qdup (j := jq) (by simp only; omega)) (by simp) rfl
      | exact hC _ _ _ (hI.rwo (j := jr) (by simp only; omega)) rfl (w2 jr (by omega)).symm
      | exact hC _ _ _ (hI.rdup (j := jr) (by simp only; omega)) rfl (by simp)
      | exact hC _ _ _ (hI.qnew (by omega) (j := jq) (by simp only; omega) (by assumption)) (w1 jq (by omega)).symm (by simp)
      | exact hC _ _ _ (hI.ask rfl hx) (by simp) rfl
      | exact hC _ _ _ (hI.qold (j := jq) (by simp only; omega) rfl) (w1 jq (by omega)).symm (by simp)
  · refine Eq.mpr (t_DP01_2 (List.getD ns (0 + (Int.toNat (i : Int))) (0)) (List.getD qs (0 + (Int.toNat (i : Int))) (0)) next dnext got (i : Int) 0 0 kn ka false n qn.length rn.length ks ns qs did asked qn qq rn ra N M k) ⟨?_⟩
    try simp only [Nat.zero_add, Int.toNat_natCast, f1, f2, f3, f4, r1, r2, List.length_append, List.length_cons, List.length_nil]
    generalize (ns.getD i 0).toNat % qn.length = jq at *
    generalize (ns.getD i 0).toNat % rn.length = jr at *
    repeat' first
      | refine brE (fun _ => ?_) (fun _ => ?_)
      | refine brN (fun _ => ?_) (fun _ => ?_)
      | refine brD (fun _ => ?_) (fun _ => ?_)
      | refine br (fun _ => ?_) (fun _ => ?_)
      | refine ndN ?_ ?_
      | refine ndD ?_ ?_
    all_goals first
      | omega
      | exact ⟨trivial, by omega⟩
      | (simp only [true_and]; omega)
      | exact hC _ _ _ hI.later rfl rfl
      | (exfalso; omega)
      | exact hC _ _ _ (hI.qwo (j := jq) (by simp only; omega)) (w1 jq (by omega)).symm rfl
      | exact hC _ _ _ (hI.qdup (j := jq) (by simp only; omega)) (by simp) rfl
      | exact hC _ _ _ (hI.rwo (j := jr) (by simp only; omega)) rfl (w2 jr (by omega)).symm
      | exact hC _ _ _ (hI.rdup (j := jr) (by simp only; omega)) rfl (by simp)
      | exact hC _ _ _ (hI.qnew (by omega) (j := jq) (by simp only; omega) (by assumption)) (w1 jq (by omega)).symm (by simp)
      | exact hC _ _ _ (hI.ask rfl hx) (by simp) rfl
      | exact hC _ _ _ (hI.qold (j := jq) (by simp only; omega) rfl) (w1 jq (by omega)).symm (by simp)
  · refine Eq.mpr (t_DP01_3 (List.getD ns (0 + (Int.toNat (i : Int))) (0)) (List.getD qs (0 + (Int.toNat (i : Int))) (0)) next dnext got (i : Int) 0 0 kn ka false n qn.length rn.length ks ns qs did asked qn qq rn ra N M k) ⟨?_⟩
    try simp only [Nat.zero_add, Int.toNat_natCast, f1, f2, f3, f4, r1, r2, List.length_append, List.length_cons, List.length_nil]
    generalize (ns.getD i 0).toNat % qn.length = jq at *
    generalize (ns.getD i 0).toNat % rn.length = jr at *
    repeat' first
      | refine brE (fun _ => ?_) (fun _ => ?_)
      | refine brN (fun _ => ?_) (fun _ => ?_)
      | refine brD (fun _ => ?_) (fun _ => ?_)
      | refine br (fun _ => ?_) (fun _ => ?_)
      | refine ndN ?_ ?_
      | refine ndD ?_ ?_
    all_goals first
      | omega
      | exact ⟨trivial, by omega⟩
      | (simp only [true_and]; omega)
      | exact hC _ _ _ hI.later rfl rfl
      | (exfalso; omega)
      | exact hC _ _ _ (hI.qwo (j := jq) (by simp only; omega)) (w1 jq (by omega)).symm rfl
      | exact hC _ _ _ (hI.qdup (j := jq) (by simp only; omega)) (by simp) rfl
      | exact hC _ _ _ (hI.rwo (j := jr) (by simp only; omega)) rfl (w2 jr (by omega)).symm
      | exact hC _ _ _ (hI.rdup (j := jr) (by simp only; omega)) rfl (by simp)
      | exact hC _ _ _ (hI.qnew (by omega) (j := jq) (by simp only; omega) (by assumption)) (w1 jq (by omega)).symm (by simp)
      | exact hC _ _ _ (hI.ask rfl hx) (by simp) rfl
      | exact hC _ _ _ (hI.qold (j := jq) (by simp only; omega) rfl) (w1 jq (by omega)).symm (by simp)
  · refine Eq.mpr (t_DP01_4 (List.getD ns (0 + (Int.toNat (i : Int))) (0)) (List.getD qs (0 + (Int.toNat (i : Int))) (0)) next dnext got (i : Int) 0 0 kn ka false n qn.length rn.length ks ns qs did asked qn qq rn ra N M k) ⟨?_⟩
    try simp only [Nat.zero_add, Int.toNat_natCast, f1, f2, f3, f4, r1, r2, List.length_append, List.length_cons, List.length_nil]
    generalize (ns.getD i 0).toNat % qn.length = jq at *
    generalize (ns.getD i 0).toNat % rn.length = jr at *
    repeat' first
      | refine brE (fun _ => ?_) (fun _ => ?_)
      | refine brN (fun _ => ?_) (fun _ => ?_)
      | refine brD (fun _ => ?_) (fun _ => ?_)
      | refine br (fun _ => ?_) (fun _ => ?_)
      | refine ndN ?_ ?_
      | refine ndD ?_ ?_
    all_goals first
      | omega
      | exact ⟨trivial, by omega⟩
      | (simp only [true_and]; omega)
      | exact hC _ _ _ hI.later rfl rfl
      | (exfalso; omega)
      | exact hC _ _ _ (hI.qwo (j := jq) (by simp only; omega)) (w1 jq (by omega)).symm rfl
      | exact hC _ _ _ (hI.qdup (j := jq) (by simp only; omega)) (by simp) rfl
      | exact hC _ _ _ (hI.rwo (j := jr) (by simp only; omega)) rfl (w2 jr (by omega)).symm
      | exact hC _ _ _ (hI.rdup (j := jr) (by simp only; omega)) rfl (by simp)
      | exact hC _ _ _ (hI.qnew (by omega) (j := jq) (by simp only; omega) (by assumption)) (w1 jq (by omega)).symm (by simp)
      | exact hC _ _ _ (hI.ask rfl hx) (by simp) rfl
      | exact hC _ _ _ (hI.qold (j := jq) (by simp only; omega) rfl) (w1 jq (by omega)).symm (by simp)
  · refine Eq.mpr (t_DP01_5 (List.getD ns (0 + (Int.toNat (i : Int))) (0)) (List.getD qs (0 + (Int.toNat (i : Int))) (0)) next dnext got (i : Int) 0 0 kn ka false n qn.length rn.length ks ns qs did asked qn qq rn ra N M k) ⟨?_⟩
    try simp only [Nat.zero_add, Int.toNat_natCast, f1, f2, f3, f4, r1, r2, List.length_append, List.length_cons, List.length_nil]
    generalize (ns.getD i 0).toNat % qn.length = jq at *
    generalize (ns.getD i 0).toNat % rn.length = jr at *
    repeat' first
      | refine brE (fun _ => ?_) (fun _ => ?_)
      | refine brN (fun _ => ?_) (fun _ => ?_)
      | refine brD (fun _ => ?_) (fun _ => ?_)
      | refine br (fun _ => ?_) (fun _ => ?_)
      | refine ndN ?_ ?_
      | refine ndD ?_ ?_
    all_goals first
      | omega
      | exact ⟨trivial, by omega⟩
      | (simp only [true_and]; omega)
      | exact hC _ _ _ hI.later rfl rfl
      | (exfalso; omega)
      | exact hC _ _ _ (hI.qwo (j := jq) (by simp only; omega)) (w1 jq (by omega)).symm rfl
      | exact hC _ _ _ (hI.qdup (j := jq) (by simp only; omega)) (by simp) rfl
      | exact hC _ _ _ (hI.rwo (j := jr) (by simp only; omega)) rfl (w2 jr (by omega)).symm
      | exact hC _ _ _ (hI.rdup (j := jr) (by simp only; omega)) rfl (by simp)
      | exact hC _ _ _ (hI.qnew (by omega) (j := jq) (by simp only; omega) (by assumption)) (w1 jq (by omega)).symm (by simp)
      | exact hC _ _ _ (hI.ask rfl hx) (by simp) rfl
      | exact hC _ _ _ (hI.qold (j := jq) (by simp only; omega) rfl) (w1 jq (by omega)).symm (by simp)
  · refine Eq.mpr (t_DP01_6 (List.getD ns (0 + (Int.toNat (i : Int))) (0)) (List.getD qs (0 + (Int.toNat (i : Int))) (0)) next dnext got (i : Int) 0 0 kn ka false n qn.length rn.length ks ns qs did asked qn qq rn ra N M k) ⟨?_⟩
    try simp only [Nat.zero_add, Int.toNat_natCast, f1, f2, f3, f4, r1, r2, List.length_append, List.length_cons, List.length_nil]
    generalize (ns.getD i 0).toNat % qn.length = jq at *
    generalize (ns.getD i 0).toNat % rn.length = jr at *
    repeat' first
      | refine brE (fun _ => ?_) (fun _ => ?_)
      | refine brN (fun _ => ?_) (fun _ => ?_)
      | refine brD (fun _ => ?_) (fun _ => ?_)
      | refine br (fun _ => ?_) (fun _ => ?_)
      | refine ndN ?_ ?_
      | refine ndD ?_ ?_
    all_goals first
      | omega
      | exact ⟨trivial, by omega⟩
      | (simp only [true_and]; omega)
      | exact hC _ _ _ hI.later rfl rfl
      | (exfalso; omega)
      | exact hC _ _ _ (hI.qwo (j := jq) (by simp only; omega)) (w1 jq (by omega)).symm rfl
      | exact hC _ _ _ (hI.qdup (j := jq) (by simp only; omega)) (by simp) rfl
      | exact hC _ _ _ (hI.rwo (j := jr) (by simp only; omega)) rfl (w2 jr (by omega)).symm
      | exact hC _ _ _ (hI.rdup (j := jr) (by simp only; omega)) rfl (by simp)
      | exact hC _ _ _ (hI.qnew (by omega) (j := jq) (by simp only; omega) (by assumption)) (w1 jq (by omega)).symm (by simp)
      | exact hC _ _ _ (hI.ask rfl hx) (by simp) rfl
      | exact hC _ _ _ (hI.qold (j := jq) (by simp only; omega) rfl) (w1 jq (by omega)).symm (by simp)
  · refine Eq.mpr (t_DP01_7 (List.getD ns (0 + (Int.toNat (i : Int))) (0)) (List.getD qs (0 + (Int.toNat (i : Int))) (0)) next dnext got (i : Int) 0 0 kn ka false n qn.length rn.length ks ns qs did asked qn qq rn ra N M k) ⟨?_⟩
    try simp only [Nat.zero_add, Int.toNat_natCast, f1, f2, f3, f4, r1, r2, List.length_append, List.length_cons, List.length_nil]
    generalize (ns.getD i 0).toNat % qn.length = jq at *
    generalize (ns.getD i 0).toNat % rn.length = jr at *
    repeat' first
      | refine brE (fun _ => ?_) (fun _ => ?_)
      | refine brN (fun _ => ?_) (fun _ => ?_)
      | refine brD (fun _ => ?_) (fun _ => ?_)
      | refine br (fun _ => ?_) (fun _ => ?_)
      | refine ndN ?_ ?_
      | refine ndD ?_ ?_
    all_goals first
      | omega
      | exact ⟨trivial, by omega⟩
      | (simp only [true_and]; omega)
      | exact hC _ _ _ hI.later rfl rfl
      | (exfalso; omega)
      | exact hC _ _ _ (hI.qwo (j := jq) (by simp only; omega)) (w1 jq (by omega)).symm rfl
      | exact hC _ _ _ (hI.qdup (j := jq) (by simp only; omega)) (by simp) rfl
      | exact hC _ _ _ (hI.rwo (j := jr) (by simp only; omega)) rfl (w2 jr (by omega)).symm
      | exact hC _ _ _ (hI.rdup (j := jr) (by simp only; omega)) rfl (by simp)
      | exact hC _ _ _ (hI.qnew (by omega) (j := jq) (by simp only; omega) (by assumption)) (w1 jq (by omega)).symm (by simp)
      | exact hC _ _ _ (hI.ask rfl hx) (by simp) rfl
      | exact hC _ _ _ (hI.qold (j := jq) (by simp only; omega) rfl) (w1 jq (by omega)).symm (by simp)
  · refine Eq.mpr (t_DP01_8 (List.getD ns (0 + (Int.toNat (i : Int))) (0)) (List.getD qs (0 + (Int.toNat (i : Int))) (0)) next dnext got (i : Int) 0 0 kn ka false n qn.length rn.length ks ns qs did asked qn qq rn ra k8 N M k) ⟨?_⟩
    try simp only [Nat.zero_add, Int.toNat_natCast, f1, f2, f3, f4, r1, r2, List.length_append, List.length_cons, List.length_nil]
    generalize (ns.getD i 0).toNat % qn.length = jq at *
    generalize (ns.getD i 0).toNat % rn.length = jr at *
    repeat' first
      | refine brE (fun _ => ?_) (fun _ => ?_)
      | refine brN (fun _ => ?_) (fun _ => ?_)
      | refine brD (fun _ => ?_) (fun _ => ?_)
      | refine br (fun _ => ?_) (fun _ => ?_)
      | refine ndN ?_ ?_
      | refine ndD ?_ ?_
    all_goals first
      | omega
      | exact ⟨trivial, by omega⟩
      | (simp only [true_and]; omega)
      | exact hC _ _ _ hI.later rfl rfl
      | (exfalso; omega)
      | exact hC _ _ _ (hI.qwo (j := jq) (by simp only; omega)) (w1 jq (by omega)).symm rfl
      | exact hC _ _ _ (hI.qdup (j := jq) (by simp only; omega)) (by simp) rfl
      | exact hC _ _ _ (hI.rwo (j := jr) (by simp only; omega)) rfl (w2 jr (by omega)).symm
      | exact hC _ _ _ (hI.rdup (j := jr) (by simp only; omega)) rfl (by simp)
      | exact hC _ _ _ (hI.qnew (by omega) (j := jq) (by simp only; omega) (by assumption)) (w1 jq (by omega)).symm (by simp)
      | exact hC _ _ _ (hI.ask rfl hx) (by simp) rfl
      | exact hC _ _ _ (hI.qold (j := jq) (by simp only; omega) rfl) (w1 jq (by omega)).symm (by simp)
theorem step_A11 {n0 : Int} {c N M n i : Nat} {ks ns qs : List Int} {next dnext on oq kn ka got : Int} {did asked qn qq rn ra : List Int} {k : SV → St → Prop} (hI : Spec.Inv n0 c ⟨next, dnext, (some (on, oq)), (some (kn, ka)), did, asked, got, qn, qq, rn, ra⟩) (hc : c ≤ 300) (hin : i ≤ n) (hn : n ≤ 300)
    (hks : ∀ j, 0 ≤ ks.getD j 0) (hns : ∀ j, 0 ≤ ns.getD j 0 ∧ ns.getD j 0 ≤ 65535) (hqs : ∀ j, 0 ≤ qs.getD j 0 ∧ qs.getD j 0 ≤ 4294967295)
    (hC : i < n → ∀ (s' : Tw) (m p : Nat), Spec.Inv n0 (c + 1) s' → m = s'.qn.length → p = s'.rn.length → CutP N M n i (argT n ks ns qs) s' m p k)
    (hE : i = n → EndP M (argT n ks ns qs) ⟨next, dnext, (some (on, oq)), (some (kn, ka)), did, asked, got, qn, qq, rn, ra⟩ qn.length rn.length k) : HeadP N M n i (argT n ks ns qs) ⟨next, dnext, (some (on, oq)), (some (kn, ka)), did, asked, got, qn, qq, rn, ra⟩ qn.length rn.length k := by
  have hq := hI.q.1
  have hr := hI.r.1
  have ham := hI.am
  have hqm := hI.qm
  have hrm := hI.rm
  have hle := hI.le
  have hx := hqs i
  simp only at hq hr ham hqm hrm hle
  have hjq := mod_or (ns.getD i 0).toNat qn.length
  have hjr := mod_or (ns.getD i 0).toNat rn.length
  have f1 : fitL 0 qn.length qn = qn := fitL_self _
  have f2 : fitL 0 qn.length qq = qq := fitL_id _ _ _ hq
  have f3 : fitL 0 rn.length rn = rn := fitL_self _
  have f4 : fitL 0 rn.length ra = ra := fitL_id _ _ _ hr
  have r1 := remK_nat (hns i) qn.length
  have r2 := remK_nat (hns i) rn.length
  have w1 : ∀ j, j < qn.length → (woL j qn).length = qn.length - 1 := fun j h => woL_len h
  have w2 : ∀ j, j < rn.length → (woL j rn).length = rn.length - 1 := fun j h => woL_len h
  have hpos : 0 < asked.length := hI.out.1
  have hsub : subK .i64 ((asked.length : Nat) : Int) 1 = ((asked.length - 1 : Nat) : Int) := by rw [subK_eq, i64_small (by omega)]; omega
  have hbad : ∀ j, j < rn.length → rn.getD j 0 = on → IntKind.wrap .u32 (shrK .u64 (ra.getD j 0) 32) = asked.getD (asked.length - 1) 0 ∧ Bool.not (eqK (IntKind.wrap .u32 (ra.getD j 0)) (IntKind.wrap .u32 ((asked.length : Nat) : Int))) = false := by
    intro j hj e
    have h := (hI.rok (by omega) (j := j) hj rfl e).2
    simp only at h
    have hx := getD_rng hI.rng (asked.length - 1)
    simp only at hx
    rw [h, shrK_eq]
    have e2 : min (Int.toNat 32) (IntKind.bits .u64) = 32 := rfl
    rw [e2, Int.fdiv_eq_ediv_of_nonneg _ (by decide)]
    have e3 : (2 : Int) ^ 32 = 4294967296 := rfl
    rw [e3]
    refine ⟨by rw [IntKind.wrap_u32]; omega, ?_⟩
    have e4 : IntKind.wrap .u32 (asked.getD (asked.length - 1) 0 * 4294967296 + ((asked.length : Nat) : Int)) = IntKind.wrap .u32 ((asked.length : Nat) : Int) := by
      rw [IntKind.wrap_u32, IntKind.wrap_u32]; omega
    rw [e4, eqK_eq, beq_self_eq_true]; rfl
  refine Eq.mpr (t_dA11 next dnext got (i : Int) on oq kn ka false n qn.length rn.length ks ns qs did asked qn qq rn ra N M k) ⟨?_⟩
  refine brD (fun hlt => ?_) (fun hge => hE (by omega))
  have hC := hC (by omega)
  refine ndD (by omega) (ndD (by omega) (ndD (by omega) ?_))
  have hk := kinds8 (x := List.getD ks (0 + (Int.toNat (i : Int))) 0) (hks _)
  rcases hk with e | e | e | e | e | e | e | e | ⟨k8, e⟩ <;> rw [e]
  · refine Eq.mpr (t_DP11_0 (List.getD ns (0 + (Int.toNat (i : Int))) (0)) (List.getD qs (0 + (Int.toNat (i : Int))) (0)) next dnext got (i : Int) on oq kn ka false n qn.length rn.length ks ns qs did asked qn qq rn ra N M k) ⟨?_⟩
    try simp only [Nat.zero_add, Int.toNat_natCast, f1, f2, f3, f4, r1, r2, hsub, List.length_append, List.length_cons, List.length_nil]
    generalize (ns.getD i 0).toNat % qn.length = jq at *
    generalize (ns.getD i 0).toNat % rn.length = jr at *
    repeat' first
      | refine brE (fun _ => ?_) (fun _ => ?_)
      | refine brN (fun _ => ?_) (fun _ => ?_)
      | refine brD (fun _ => ?_) (fun _ => ?_)
      | refine br (fun _ => ?_) (fun _ => ?_)
      | refine ndN ?_ ?_
      | refine ndD ?_ ?_
    all_goals first
      | omega
      | exact ⟨trivial, by omega⟩
      | (simp only [true_and]; omega)
      | exact hC _ _ _ hI.later rfl rfl
      | (exfalso; omega)
      | exact hC _ _ _ (hI.qwo (j := jq) (by simp only; omega)) (w1 jq (by omega)).symm rfl
      | exact hC _ _ _ (hI.qdup (j := jq) (by simp only; omega)) (by simp) rfl
      | exact hC _ _ _ (hI.rwo (j := jr) (by simp only; omega)) rfl (w2 jr (by omega)).symm
      | exact hC _ _ _ (hI.rdup (j := jr) (by simp only; omega)) rfl (by simp)
      | exact hC _ _ _ (hI.qnew (by omega) (j := jq) (by simp only; omega) (by assumption)) (w1 jq (by omega)).symm (by simp)
      | exact hC _ _ _ (hI.again rfl) (by simp) rfl
      | (rw [(hbad jr (by omega) (by assumption)).2]; exact hC _ _ _ (hI.rok (by omega) (j := jr) (by simp only; omega) rfl (by assumption)).1 rfl (w2 jr (by omega)).symm)
      | exact absurd (hbad jr (by omega) (by assumption)).1 (by assumption)
      | exact hC _ _ _ (hI.qold (j := jq) (by simp only; omega) rfl) (w1 jq (by omega)).symm (by simp)
  · refine Eq.mpr (t_DP11_1 (List.getD ns (0 + (Int.toNat (i : Int))) (0)) (List.getD qs (0 + (Int.toNat (i : Int))) (0)) next dnext got (i : Int) on oq kn ka false n qn.length rn.length ks ns qs did asked qn qq rn ra N M k) ⟨?_⟩
    try simp only [Nat.zero_add, Int.toNat_natCast, f1, f2, f3, f4, r1, r2, hsub, List.length_append, List.length_cons, List.length_nil]
    generalize (ns.getD i 0).toNat % qn.length = jq at *
    generalize (ns.getD i 0).toNat % rn.length = jr at *
    repeat' first
      | refine brE (fun _ => ?_) (fun _ => ?_)
      | refine brN (fun _ => ?_) (fun _ => ?_)
      | refine brD (fun _ => ?_) (fun _ => ?_)
      | refine br (fun _ => ?_) (fun _ => ?_)
      | refine ndN ?_ ?_
      | refine ndD ?_ ?_
    all_goals first
      | omega
      | exact ⟨trivial, by omega⟩
      | (simp only [true_and]; omega)
      | exact hC _ _ _ hI.later rfl rfl
      | (exfalso; omega)
      | exact hC _ _ _ (hI.qwo (j := jq) (by simp only; omega)) (w1 jq (by omega)).symm rfl
      | exact hC _ _ _ (hI.qdup (j := jq) (by simp only; omega)) (by simp) rfl
      | exact hC _ _ _ (hI.rwo (j := jr) (by simp only; omega)) rfl (w2 jr (by omega)).symm
      | exact hC _ _ _ (hI.rdup (j := jr) (by simp only; omega)) rfl (by simp)
      | exact hC _ _ _ (hI.qnew (by omega) (j := jq) (by simp only; omega) (by assumption)) (w1 jq (by omega)).symm (by simp)
      | exact hC _ _ _ (hI.again rfl) (by simp) rfl
      | (rw [(hbad jr (by omega) (by assumption)).2]; exact hC _ _ _ (hI.rok (by omega) (j := jr) (by simp only; omega) rfl (by assumption)).1 rfl (w2 jr (by omega)).symm)
      | exact absurd (hbad jr (by omega) (by assumption)).1 (by assumption)
      | exact hC _ _ _ (hI.qold (j := jq) (by simp only; omega) rfl) (w1 jq (by omega)).symm (by simp)
  · refine Eq.mpr (t_DP11_2 (List.getD ns (0 + (Int.toNat (i : Int))) (0)) (List.getD qs (0 + (Int.toNat (i : Int))) (0)) next dnext got (i : Int) on oq kn ka false n qn.length rn.length ks ns qs did asked qn qq rn ra N M k) ⟨?_⟩
    try simp only [Nat.zero_add, Int.toNat_natCast, f1, f2, f3, f4, r1, r2, hsub, List.length_append, List.length_cons, List.length_nil]
    generalize (ns.getD i 0).toNat % qn.length = jq at *
    generalize (ns.getD i 0).toNat % rn.length = jr at *
    repeat' first
      | refine brE (fun _ => ?_) (fun _ => ?_)
      | refine brN (fun _ => ?_) (fun _ => ?_)
      | refine brD (fun _ => ?_) (fun _ => ?_)
      | refine br (fun _ => ?_) (fun _ => ?_)
      | refine ndN ?_ ?_
      | refine ndD ?_ ?_
    all_goals first
      | omega
      | exact ⟨trivial, by omega⟩
      | (simp only [true_and]; omega)
      | exact hC _ _ _ hI.later rfl rfl
      | (exfalso; omega)
      | exact hC _ _ _ (hI.qwo (j := jq) (by simp only; omega)) (w1 jq (by omega)).symm rfl
      | exact hC _ _ _ (hI.qdup (j := jq) (by simp only; omega)) (by simp) rfl
      | exact hC _ _ _ (hI.rwo (j := jr) (by simp only; omega)) rfl (w2 jr (by omega)).symm
      | exact hC _ _ _ (hI.rdup (j := jr) (by simp only; omega)) rfl (by simp)
      | exact hC _ _ _ (hI.qnew (by omega) (j := jq) (by simp only; omega) (by assumption)) (w1 jq (by omega)).symm (by simp)
      | exact hC _ _ _ (hI.again rfl) (by simp) rfl
      | (rw [(hbad jr (by omega) (by assumption)).2]; exact hC _ _ _ (hI.rok (by omega) (j := jr) (by simp only; omega) rfl (by assumption)).1 rfl (w2 jr (by omega)).symm)
      | exact absurd (hbad jr (by omega) (by assumption)).1 (by assumption)
      | exact hC _ _ _ (hI.qold (j := jq) (by simp only; omega) rfl) (w1 jq (by omega)).symm (by simp)
  · refine Eq.mpr (t_DP11_3 (List.getD ns (0 + (Int.toNat (i : Int))) (0)) (List.getD qs (0 + (Int.toNat (i : Int))) (0)) next dnext got (i : Int) on oq kn ka false n qn.length rn.length ks ns qs did asked qn qq rn ra N M k) ⟨?_⟩
    try simp only [Nat.zero_add, Int.toNat_natCast, f1, f2, f3, f4, r1, r2, hsub, List.length_append, List.length_cons, List.length_nil]
    generalize (ns.getD i 0).toNat % qn.length = jq at *
    generalize (ns.getD i 0).toNat % rn.length = jr at *
    repeat' first
      | refine brE (fun _ => ?_) (fun _ => ?_)
      | refine brN (fun _ => ?_) (fun _ => ?_)
      | refine brD (fun _ => ?_) (fun _ => ?_)
      | refine br (fun _ => ?_) (fun _ => ?_)
      | refine ndN ?_ ?_
      | refine ndD ?_ ?_
    all_goals first
      | omega
      | exact ⟨trivial, by omega⟩
      | (simp only [true_and]; omega)
      | exact hC _ _ _ hI.later rfl rfl
      | (exfalso; omega)
      | exact hC _ _ _ (hI.qwo (j := jq) (by simp only; omega)) (w1 jq (by omega)).symm rfl
      | exact hC _ _ _ (hI.qdup (j := jq) (by simp only; omega)) (by simp) rfl
      | exact hC _ _ _ (hI.rwo (j := jr) (by simp only; omega)) rfl (w2 jr (by omega)).symm
      | exact hC _ _ _ (hI.rdup (j := jr) (by simp only; omega)) rfl (by simp)
      | exact hC _ _ _ (hI.qnew (by omega) (j := jq) (by simp only; omega) (by assumption)) (w1 jq (by omega)).symm (by simp)
      | exact hC _ _ _ (hI.again rfl) (by simp) rfl
      | (rw [(hbad jr (by omega) (by assumption)).2]; exact hC _ _ _ (hI.rok (by omega) (j := jr) (by simp only; omega) rfl (by assumption)).1 rfl (w2 jr (by omega)).symm)
      | exact absurd (hbad jr (by omega) (by assumption)).1 (by assumption)
      | exact hC _ _ _ (hI.qold (j := jq) (by simp only; omega) rfl) (w1 jq (by omega)).symm (by simp)
  · refine Eq.mpr (t_DP11_4 (List.getD ns (0 + (Int.toNat (i : Int))) (0)) (List.getD qs (0 + (Int.toNat (i : Int))) (0)) next dnext got (i : Int) on oq kn ka false n qn.length rn.length ks ns qs did asked qn qq rn ra N M k) ⟨?_⟩
    try simp only [Nat.zero_add, Int.toNat_natCast, f1, f2, f3, f4, r1, r2, hsub, List.length_append, List.length_cons, List.length_nil]
    generalize (ns.getD i 0).toNat % qn.length = jq at *
    generalize (ns.getD i 0).toNat % rn.length = jr at *
    repeat' first
      | refine brE (fun _ => ?_) (fun _ => ?_)
      | refine brN (fun _ => ?_) (fun _ => ?_)
      | refine brD (fun _ => ?_) (fun _ => ?_)
      | refine br (fun _ => ?_) (fun _ => ?_)
      | refine ndN ?_ ?_
      | refine ndD ?_ ?_
    all_goals first
      | omega
      | exact ⟨trivial, by omega⟩
      | (simp only [true_and]; omega)
      | exact hC _ _ _ hI.later rfl rfl
      | (exfalso; omega)
      | exact hC _ _ _ (hI.qwo (j := jq) (by simp only; omega)) (w1 jq (by omega)).symm rfl
      | exact hC _ _ _ (hI.qdup (j := jq) (by simp only; omega)) (by simp) rfl
      | exact hC _ _ _ (hI.rwo (j := jr) (by simp only; omega)) rfl (w2 jr (by omega)).symm
      | exact hC _ _ _ (hI.rdup (j := jr) (by simp only; omega)) rfl (by simp)
      | exact hC _ _ _ (hI.qnew (by omega) (j := jq) (by simp only; omega) (by assumption)) (w1 jq (by omega)).symm (by simp)
      | exact hC _ _ _ (hI.again rfl) (by simp) rfl
      | (rw [(hbad jr (by omega) (by assumption)).2]; exact hC _ _ _ (hI.rok (by omega) (j := jr) (by simp only; omega) rfl (by assumption)).1 rfl (w2 jr (by omega)).symm)
      | exact absurd (hbad jr (by omega) (by assumption)).1 (by assumption)
      | exact hC _ _ _ (hI.qold (j := jq) (by simp only; omega) rfl) (w1 jq (by omega)).symm (by simp)
  · refine Eq.mpr (t_DP11_5 (List.getD ns (0 + (Int.toNat (i : Int))) (0)) (List.getD qs (0 + (Int.toNat (i : Int))) (0)) next dnext got (i : Int) on oq kn ka false n qn.length rn.length ks ns qs did asked qn qq rn ra N M k) ⟨?_⟩
    try simp only [Nat.zero_add, Int.toNat_natCast, f1, f2, f3, f4, r1, r2, hsub, List.length_append, List.length_cons, List.length_nil]
    generalize (ns.getD i 0).toNat % qn.length = jq at *
    generalize (ns.getD i 0).toNat % rn.length = jr at *
    repeat' first
      | refine brE (fun _ => ?_) (fun _ => ?_)
      | refine brN (fun _ => ?_) (fun _ => ?_)
      | refine brD (fun _ => ?_) (fun _ => ?_)
      | refine br (fun _ => ?_) (fun _ => ?_)
      | refine ndN ?_ ?_
      | refine ndD ?_ ?_
    all_goals first
      | omega
      | exact ⟨trivial, by omega⟩
      | (simp only [true_and]; omega)
      | exact hC _ _ _ hI.later rfl rfl
      | (exfalso; omega)
      | exact hC _ _ _ (hI.qwo (j := jq) (by simp only; omega)) (w1 jq (by omega)).symm rfl
      | exact hC _ _ _ (hI.qdup (j := jq) (by simp only; omega)) (by simp) rfl
      | exact hC _ _ _ (hI.rwo (j := jr) (by simp only; omega)) rfl (w2 jr (by omega)).symm
      | exact hC _ _ _ (hI.rdup (j := jr) (by simp only; omega)) rfl (by simp)
      | exact hC _ _ _ (hI.qnew (by omega) (j := jq) (by simp only; omega) (by assumption)) (w1 jq (by omega)).symm (by simp)
      | exact hC _ _ _ (hI.again rfl) (by simp) rfl
      | (rw [(hbad jr (by omega) (by assumption)).2]; exact hC _ _ _ (hI.rok (by omega) (j := jr) (by simp only; omega) rfl (by assumption)).1 rfl (w2 jr (by omega)).symm)
      | exact absurd (hbad jr (by omega) (by assumption)).1 (by assumption)
      | exact hC _ _ _ (hI.qold (j := jq) (by simp only; omega) rfl) (w1 jq (by omega)).symm (by simp)
  · refine Eq.mpr (t_DP11_6 (List.getD ns (0 + (Int.toNat (i : Int))) (0)) (List.getD qs (0 + (Int.toNat (i : Int))) (0)) next dnext got (i : Int) on oq kn ka false n qn.length rn.length ks ns qs did asked qn qq rn ra N M k) ⟨?_⟩
    try simp only [Nat.zero_add, Int.toNat_natCast, f1, f2, f3, f4, r1, r2, hsub, List.length_append, List.length_cons, List.length_nil]
    generalize (ns.getD i 0).toNat % qn.length = jq at *
    generalize (ns.getD i 0).toNat % rn.length = jr at *
    repeat' first
      | refine brE (fun _ => ?_) (fun _ => ?_)
      | refine brN (fun _ => ?_) (fun _ => ?_)
      | refine brD (fun _ => ?_) (fun _ => ?_)
      | refine br (fun _ => ?_) (fun _ => ?_)
      | refine ndN ?_ ?_
      | refine ndD ?_ ?_
    all_goals first
      | omega
      | exact ⟨trivial, by omega⟩
      | (simp only [true_and]; omega)
      | exact hC _ _ _ hI.later rfl rfl
      | (exfalso; omega)
      | exact hC _ _ _ (hI.qwo (j := jq) (by simp only; omega)) (w1 jq (by omega)).symm rfl
      | exact hC _ _ _ (hI.qdup (j := jq) (by simp only; omega)) (by simp) rfl
      | exact hC _ _ _ (hI.rwo (j := jr) (by simp only; omega)) rfl (w2 jr (by omega)).symm
      | exact hC _ _ _ (hI.rdup (j := jr) (by simp only; omega)) rfl (by simp)
      | exact hC _ _ _ (hI.qnew (by omega) (j := jq) (by simp only; omega) (by assumption)) (w1 jq (by omega)).symm (by simp)
      | exact hC _ _ _ (hI.again rfl) (by simp) rfl
      | (rw [(hbad jr (by omega) (by assumption)).2]; exact hC _ _ _ (hI.rok (by omega) (j := jr) (by simp only; omega) rfl (by assumption)).1 rfl (w2 jr (by omega)).symm)
      | exact absurd (hbad jr (by omega) (by assumption)).1 (by assumption)
      | exact hC _ _ _ (hI.qold (j := jq) (by simp only; omega) rfl) (w1 jq (by omega)).symm (by simp)
  · refine Eq.mpr (t_DP11_7 (List.getD ns (0 + (Int.toNat (i : Int))) (0)) (List.getD qs (0 + (Int.toNat (i : Int))) (0)) next dnext got (i : Int) on oq kn ka false n qn.length rn.length ks ns qs did asked qn qq rn ra N M k) ⟨?_⟩
    try simp only [Nat.zero_add, Int.toNat_natCast, f1, f2, f3, f4, r1, r2, hsub, List.length_append, List.length_cons, List.length_nil]
    generalize (ns.getD i 0).toNat % qn.length = jq at *
    generalize (ns.getD i 0).toNat % rn.length = jr at *
    repeat' first
      | refine brE (fun _ => ?_) (fun _ => ?_)
      | refine brN (fun _ => ?_) (fun _ => ?_)
      | refine brD (fun _ => ?_) (fun _ => ?_)
      | refine br (fun _ => ?_) (fun _ => ?_)
      | refine ndN ?_ ?_
      | refine ndD ?_ ?_
    all_goals first
      | omega
      | exact ⟨trivial, by omega⟩
      | (simp only [true_and]; omega)
      | exact hC _ _ _ hI.later rfl rfl
      | (exfalso; omega)
      | exact hC _ _ _ (hI.qwo (j := jq) (by simp only; omega)) (w1 jq (by omega)).symm rfl
      | exact hC _ _ _ (hI.qdup (j := jq) (by simp only; omega)) (by simp) rfl
      | exact hC _ _ _ (hI.rwo (j := jr) (by simp only; omega)) rfl (w2 jr (by omega)).symm
      | exact hC _ _ _ (hI.rdup (j := jr) (by simp only; omega)) rfl (by simp)
      | exact hC _ _ _ (hI.qnew (by omega) (j := jq) (by simp only; omega) (by assumption)) (w1 jq (by omega)).symm (by simp)
      | exact hC _ _ _ (hI.again rfl) (by simp) rfl
      | (rw [(hbad jr (by omega) (by assumption)).2]; exact hC _ _ _ (hI.rok (by omega) (j := jr) (by simp only; omega) rfl (by assumption)).1 rfl (w2 jr (by omega)).symm)
      | exact absurd (hbad jr (by omega) (by assumption)).1 (by assumption)
      | exact hC _ _ _ (hI.qold (j := jq) (by simp only; omega) rfl) (w1 jq (by omega)).symm (by simp)
  · refine Eq.mpr (t_DP11_8 (List.getD ns (0 + (Int.toNat (i : Int))) (0)) (List.getD qs (0 + (Int.toNat (i : Int))) (0)) next dnext got (i : Int) on oq kn ka false n qn.length rn.length ks ns qs did asked qn qq rn ra k8 N M k) ⟨?_⟩
    try simp only [Nat.zero_add, Int.toNat_natCast, f1, f2, f3, f4, r1, r2, hsub, List.length_append, List.length_cons, List.length_nil]
    generalize (ns.getD i 0).toNat % qn.length = jq at *
    generalize (ns.getD i 0).toNat % rn.length = jr at *
    repeat' first
      | refine brE (fun _ => ?_) (fun _ => ?_)
      | refine brN (fun _ => ?_) (fun _ => ?_)
      | refine brD (fun _ => ?_) (fun _ => ?_)
      | refine br (fun _ => ?_) (fun _ => ?_)
      | refine ndN ?_ ?_
      | refine ndD ?_ ?_
    all_goals first
      | omega
      | exact ⟨trivial, by omega⟩
      | (simp only [true_and]; omega)
      | exact hC _ _ _ hI.later rfl rfl
      | (exfalso; omega)
      | exact hC _ _ _ (hI.qwo (j := jq) (by simp only; omega)) (w1 jq (by omega)).symm rfl
      | exact hC _ _ _ (hI.qdup (j := jq) (by simp only; omega)) (by simp) rfl
      | exact hC _ _ _ (hI.rwo (j := jr) (by simp only; omega)) rfl (w2 jr (by omega)).symm
      | exact hC _ _ _ (hI.rdup (j := jr) (by simp only; omega)) rfl (by simp)
      | exact hC _ _ _ (hI.qnew (by omega) (j := jq) (by simp only; omega) (by assumption)) (w1 jq (by omega)).symm (by simp)
      | exact hC _ _ _ (hI.again rfl) (by simp) rfl
      | (rw [(hbad jr (by omega) (by assumption)).2]; exact hC _ _ _ (hI.rok (by omega) (j := jr) (by simp only; omega) rfl (by assumption)).1 rfl (w2 jr (by omega)).symm)
      | exact absurd (hbad jr (by omega) (by assumption)).1 (by assumption)
      | exact hC _ _ _ (hI.qold (j := jq) (by simp only; omega) rfl) (w1 jq (by omega)).symm (by simp)
end Go.Ev
