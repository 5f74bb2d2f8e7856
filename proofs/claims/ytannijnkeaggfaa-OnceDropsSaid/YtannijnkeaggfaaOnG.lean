/- The law OnceDrops: a move, the check behind it, all moves. No conditions. -/
import Derived.Test.YtannijnkeaggfaaOnUA
import Derived.Test.YtannijnkeaggfaaOnUB
import Derived.Test.YtannijnkeaggfaaOnUC
import Derived.Test.YtannijnkeaggfaaOnU00
import Derived.Test.YtannijnkeaggfaaOnU10
import Derived.Test.YtannijnkeaggfaaOnU01
import Derived.Test.YtannijnkeaggfaaOnU11
import Derived.Test.YtannijnkeaggfaaOnT5
import Derived.Test.YtannijnkeaggfaaOnW
import Derived.Test.YtannijnkeaggfaaOnQ
set_option linter.unusedSimpArgs false
set_option linter.unusedVariables false
namespace Go.Ev
open Go Go.Proofs Go.Spec
theorem brD {p : Prop} [Decidable p] {a b : Prop} (h1 : p → a) (h2 : ¬ p → b) : branch (decide p) a b := br (fun e => h1 (of_decide_eq_true e)) (fun e => h2 (of_decide_eq_false e))
theorem brE {x y : Int} {a b : Prop} (h1 : x = y → a) (h2 : x ≠ y → b) : branch (eqK x y) a b := br (fun e => h1 (eqK_t.1 e)) (fun e => h2 (eqK_f.1 e))
theorem brN {x y : Int} {a b : Prop} (h1 : x ≠ y → a) (h2 : x = y → b) : branch (Bool.not (eqK x y)) a b := br (fun e => h1 (by rw [eqK_eq] at e; simpa using e)) (fun e => h2 (by rw [eqK_eq] at e; simpa using e))
theorem ndD {p q : Prop} [Decidable p] (h1 : p) (h2 : q) : need (decide p) q := nd (decide_eq_true h1) h2
theorem ndN {p q : Prop} [Decidable p] (h1 : ¬ p) (h2 : q) : need (Bool.not (decide p)) q := nd (by simpa using h1) h2
theorem remK_nat {x : Int} (h : 0 ≤ x ∧ x ≤ 65535) (m : Nat) : remK (IntKind.wrap .i64 x) (m : Int) = ((x.toNat % m : Nat) : Int) := by
  rw [remK_eq, i64_small (by omega)]
  obtain ⟨n, rfl⟩ := Int.eq_ofNat_of_zero_le h.1
  rw [Int.toNat_natCast]
  exact (Int.ofNat_tmod n m).symm
theorem kinds9 {x : Int} (h : 0 ≤ x) (h8 : x ≠ 8) : x = 0 ∨ x = 1 ∨ x = 2 ∨ x = 3 ∨ x = 4 ∨ x = 5 ∨ x = 6 ∨ x = 7 ∨ ∃ k8 : Nat, x = ((k8 + 9 : Nat) : Int) := by
  by_cases h9 : 9 ≤ x
  · exact .inr (.inr (.inr (.inr (.inr (.inr (.inr (.inr ⟨(x - 9).toNat, by omega⟩)))))))
  · omega
theorem mod_or (x m : Nat) : m = 0 ∨ x % m < m := by
  rcases Nat.eq_zero_or_pos m with h | h
  · exact .inl h
  · exact .inr (Nat.mod_lt _ h)
attribute [local irreducible] ev evCall branch need again codeAt

def stE (arg : Option SO) (bad : Bool) (s : Tw) (m p : Nat) (tl : St) : St := match s with
  | ⟨next, dnext, none, none, did, asked, got, qn, qq, rn, ra⟩ => arg :: (obj 37 9 [(SC.ptr 2 0 0), (SC.ptr 3 0 0), (SC.ref 6), (SC.ref 7), (iv .i64 got), (SC.ref 8), (SC.ref 9), (bv false), (bv bad)]) :: (obj 78 2 [(iv .u32 next), (SC.raw (Value.pointer Option.none))]) :: (obj 90 3 [(iv .u32 dnext), (SC.ref 4), (SC.raw (Value.pointer Option.none))]) :: (some (SO.clo (Fn.func 32) [] [(.one (SC.ptr 5 0 0))])) :: (obj 65 1 [(SC.ptr 1 0 2)]) :: (some (SO.own true MK.row 22 1 (Ct.ints .u32 did))) :: (some (SO.own true MK.row 22 1 (Ct.ints .u32 asked))) :: (some (SO.own true MK.row 39 2 (Ct.tab m [(Col.ints .u32 qn), (Col.ints .u32 qq)]))) :: (some (SO.own true MK.row 69 2 (Ct.tab p [(Col.ints .u32 rn), (Col.ints .u64 ra)]))) :: tl
  | ⟨next, dnext, (some (on, oq)), none, did, asked, got, qn, qq, rn, ra⟩ => arg :: (obj 37 9 [(SC.ptr 2 0 0), (SC.ptr 4 0 0), (SC.ref 7), (SC.ref 8), (iv .i64 got), (SC.ref 9), (SC.ref 10), (bv false), (bv bad)]) :: (obj 78 2 [(iv .u32 next), (SC.ptr 3 0 0)]) :: (obj 39 2 [(iv .u32 on), (iv .u32 oq)]) :: (obj 90 3 [(iv .u32 dnext), (SC.ref 5), (SC.raw (Value.pointer Option.none))]) :: (some (SO.clo (Fn.func 32) [] [(.one (SC.ptr 6 0 0))])) :: (obj 65 1 [(SC.ptr 1 0 2)]) :: (some (SO.own true MK.row 22 1 (Ct.ints .u32 did))) :: (some (SO.own true MK.row 22 1 (Ct.ints .u32 asked))) :: (some (SO.own true MK.row 39 2 (Ct.tab m [(Col.ints .u32 qn), (Col.ints .u32 qq)]))) :: (some (SO.own true MK.row 69 2 (Ct.tab p [(Col.ints .u32 rn), (Col.ints .u64 ra)]))) :: tl
  | ⟨next, dnext, none, (some (kn, ka)), did, asked, got, qn, qq, rn, ra⟩ => arg :: (obj 37 9 [(SC.ptr 2 0 0), (SC.ptr 3 0 0), (SC.ref 7), (SC.ref 8), (iv .i64 got), (SC.ref 9), (SC.ref 10), (bv false), (bv bad)]) :: (obj 78 2 [(iv .u32 next), (SC.raw (Value.pointer Option.none))]) :: (obj 90 3 [(iv .u32 dnext), (SC.ref 4), (SC.ptr 6 0 0)]) :: (some (SO.clo (Fn.func 32) [] [(.one (SC.ptr 5 0 0))])) :: (obj 65 1 [(SC.ptr 1 0 2)]) :: (obj 69 2 [(iv .u32 kn), (iv .u64 ka)]) :: (some (SO.own true MK.row 22 1 (Ct.ints .u32 did))) :: (some (SO.own true MK.row 22 1 (Ct.ints .u32 asked))) :: (some (SO.own true MK.row 39 2 (Ct.tab m [(Col.ints .u32 qn), (Col.ints .u32 qq)]))) :: (some (SO.own true MK.row 69 2 (Ct.tab p [(Col.ints .u32 rn), (Col.ints .u64 ra)]))) :: tl
  | ⟨next, dnext, (some (on, oq)), (some (kn, ka)), did, asked, got, qn, qq, rn, ra⟩ => arg :: (obj 37 9 [(SC.ptr 2 0 0), (SC.ptr 4 0 0), (SC.ref 8), (SC.ref 9), (iv .i64 got), (SC.ref 10), (SC.ref 11), (bv false), (bv bad)]) :: (obj 78 2 [(iv .u32 next), (SC.ptr 3 0 0)]) :: (obj 39 2 [(iv .u32 on), (iv .u32 oq)]) :: (obj 90 3 [(iv .u32 dnext), (SC.ref 5), (SC.ptr 7 0 0)]) :: (some (SO.clo (Fn.func 32) [] [(.one (SC.ptr 6 0 0))])) :: (obj 65 1 [(SC.ptr 1 0 2)]) :: (obj 69 2 [(iv .u32 kn), (iv .u64 ka)]) :: (some (SO.own true MK.row 22 1 (Ct.ints .u32 did))) :: (some (SO.own true MK.row 22 1 (Ct.ints .u32 asked))) :: (some (SO.own true MK.row 39 2 (Ct.tab m [(Col.ints .u32 qn), (Col.ints .u32 qq)]))) :: (some (SO.own true MK.row 69 2 (Ct.tab p [(Col.ints .u32 rn), (Col.ints .u64 ra)]))) :: tl
def argT (n : Nat) (ks ns qs : List Int) : Option SO := (some (SO.own false MK.ext 0 3 (Ct.tab n [(Col.ints .u8 ks), (Col.ints .u16 ns), (Col.ints .u32 qs)])))
def frD (n0 : Int) (n : Nat) (i : Int) : Fr := (frm 131 [(0, (.sa (.one (iv .u32 n0)))), (5, (.sa (.one (SC.ptr 1 0 0)))), (20, (.sa (.one (SC.ref 0)))), (21, (.sa (.one (iv .i64 ((n : Nat) : Int))))), (22, (.sa (.one (iv .i64 i))))])
def frC (s : Tw) (n0 : Int) (n : Nat) (i : Int) (w : Int) : Fr := match s with
  | ⟨next, dnext, none, none, did, asked, got, qn, qq, rn, ra⟩ => (frm 131 [(0, (.sa (.one (iv .u32 n0)))), (5, (.sa (.one (SC.ptr 1 0 0)))), (7, (.sa (.one (SC.ptr 10 0 0)))), (8, (.sa (.one (iv .i64 w)))), (20, (.sa (.one (SC.ref 0)))), (21, (.sa (.one (iv .i64 ((n : Nat) : Int))))), (22, (.sa (.one (iv .i64 i))))])
  | ⟨next, dnext, (some (on, oq)), none, did, asked, got, qn, qq, rn, ra⟩ => (frm 131 [(0, (.sa (.one (iv .u32 n0)))), (5, (.sa (.one (SC.ptr 1 0 0)))), (7, (.sa (.one (SC.ptr 11 0 0)))), (8, (.sa (.one (iv .i64 w)))), (20, (.sa (.one (SC.ref 0)))), (21, (.sa (.one (iv .i64 ((n : Nat) : Int))))), (22, (.sa (.one (iv .i64 i))))])
  | ⟨next, dnext, none, (some (kn, ka)), did, asked, got, qn, qq, rn, ra⟩ => (frm 131 [(0, (.sa (.one (iv .u32 n0)))), (5, (.sa (.one (SC.ptr 1 0 0)))), (7, (.sa (.one (SC.ptr 11 0 0)))), (8, (.sa (.one (iv .i64 w)))), (20, (.sa (.one (SC.ref 0)))), (21, (.sa (.one (iv .i64 ((n : Nat) : Int))))), (22, (.sa (.one (iv .i64 i))))])
  | ⟨next, dnext, (some (on, oq)), (some (kn, ka)), did, asked, got, qn, qq, rn, ra⟩ => (frm 131 [(0, (.sa (.one (iv .u32 n0)))), (5, (.sa (.one (SC.ptr 1 0 0)))), (7, (.sa (.one (SC.ptr 12 0 0)))), (8, (.sa (.one (iv .i64 w)))), (20, (.sa (.one (SC.ref 0)))), (21, (.sa (.one (iv .i64 ((n : Nat) : Int))))), (22, (.sa (.one (iv .i64 i))))])
def frJ (s : Tw) (n0 : Int) (n : Nat) (i j : Int) : Fr := match s with
  | ⟨next, dnext, none, none, did, asked, got, qn, qq, rn, ra⟩ => (frm 131 [(0, (.sa (.one (iv .u32 n0)))), (5, (.sa (.one (SC.ptr 1 0 0)))), (20, (.sa (.one (SC.ref 0)))), (21, (.sa (.one (iv .i64 ((n : Nat) : Int))))), (22, (.sa (.one (iv .i64 i)))), (80, (.sa (.one (SC.ref 6)))), (81, (.sa (.one (iv .i64 (((List.length did) : Nat) : Int))))), (82, (.sa (.one (iv .i64 j))))])
  | ⟨next, dnext, (some (on, oq)), none, did, asked, got, qn, qq, rn, ra⟩ => (frm 131 [(0, (.sa (.one (iv .u32 n0)))), (5, (.sa (.one (SC.ptr 1 0 0)))), (20, (.sa (.one (SC.ref 0)))), (21, (.sa (.one (iv .i64 ((n : Nat) : Int))))), (22, (.sa (.one (iv .i64 i)))), (80, (.sa (.one (SC.ref 7)))), (81, (.sa (.one (iv .i64 (((List.length did) : Nat) : Int))))), (82, (.sa (.one (iv .i64 j))))])
  | ⟨next, dnext, none, (some (kn, ka)), did, asked, got, qn, qq, rn, ra⟩ => (frm 131 [(0, (.sa (.one (iv .u32 n0)))), (5, (.sa (.one (SC.ptr 1 0 0)))), (20, (.sa (.one (SC.ref 0)))), (21, (.sa (.one (iv .i64 ((n : Nat) : Int))))), (22, (.sa (.one (iv .i64 i)))), (80, (.sa (.one (SC.ref 7)))), (81, (.sa (.one (iv .i64 (((List.length did) : Nat) : Int))))), (82, (.sa (.one (iv .i64 j))))])
  | ⟨next, dnext, (some (on, oq)), (some (kn, ka)), did, asked, got, qn, qq, rn, ra⟩ => (frm 131 [(0, (.sa (.one (iv .u32 n0)))), (5, (.sa (.one (SC.ptr 1 0 0)))), (20, (.sa (.one (SC.ref 0)))), (21, (.sa (.one (iv .i64 ((n : Nat) : Int))))), (22, (.sa (.one (iv .i64 i)))), (80, (.sa (.one (SC.ref 8)))), (81, (.sa (.one (iv .i64 (((List.length did) : Nat) : Int))))), (82, (.sa (.one (iv .i64 j))))])
noncomputable def kOut (M : Nat) (k : SV → St → Prop) : Exit → Fr → St → Prop := (kBlock 0 (kSeq (ev cxP (M + 55) 1 5 (codeAt Try.prog 5 [1, 1, 1, 1, 1])) (kRet (Cx.P cxP) [(ResultVar.tmp 4)] 1 k)))
noncomputable def kChk (N M : Nat) (k : SV → St → Prop) : Exit → Fr → St → Prop := (kSeq (ev cxP (N + 42) 1 5 (codeAt Try.prog 5 [1, 1, 1, 1, 0, 1, 0, 0, 1, 1, 0, 0, 1, 1, 1, 0, 1, 1])) (kSeq (ev cxP (N + 44) 1 5 (codeAt Try.prog 5 [1, 1, 1, 1, 0, 1, 0, 0, 1, 1, 0, 0, 1, 1, 1, 1])) (kBlock 1 (kSeq (ev cxP (N + 49) 1 5 (codeAt Try.prog 5 [1, 1, 1, 1, 0, 1, 0, 0, 1, 1, 1])) (kSeq (ev cxP (N + 52) 1 5 (codeAt Try.prog 5 [1, 1, 1, 1, 0, 1, 0])) (kOut M k))))))
noncomputable def kIn (N M : Nat) (k : SV → St → Prop) : Exit → Fr → St → Prop := (kBlock 2 (kBlock 1 (kSeq (ev cxP (N + 49) 1 5 (codeAt Try.prog 5 [1, 1, 1, 1, 0, 1, 0, 0, 1, 1, 1])) (kSeq (ev cxP (N + 52) 1 5 (codeAt Try.prog 5 [1, 1, 1, 1, 0, 1, 0])) (kOut M k)))))
def HeadP (N M n : Nat) (n0 i : Int) (a : Option SO) (bad : Bool) (s : Tw) (m p : Nat) (k : SV → St → Prop) : Prop := ev cxP (N + 53) 1 5 (codeAt Try.prog 5 [1, 1, 1, 1, 0, 1, 0]) (frD n0 n i) (stE a bad s m p []) (kOut M k)
def CutP (N M n : Nat) (n0 i w : Int) (a : Option SO) (bad : Bool) (xk xn xq : Int) (s : Tw) (m p : Nat) (k : SV → St → Prop) : Prop := ev cxP (N + 42) 1 5 (codeAt Try.prog 5 [1, 1, 1, 1, 0, 1, 0, 0, 1, 1, 0, 0, 1, 1, 1, 0, 1, 0]) (frC s n0 n i w) (stE a bad s m p [(obj 29 3 [(iv .u8 xk), (iv .u16 xn), (iv .u32 xq)])]) (kChk N M k)
def InP (L N M n : Nat) (n0 i j : Int) (a : Option SO) (bad : Bool) (s : Tw) (m p : Nat) (k : SV → St → Prop) : Prop := ev cxP (L + 42) 1 5 (codeAt Try.prog 5 [1, 1, 1, 1, 0, 1, 0, 0, 1, 1, 0, 0, 1, 1, 1, 1, 1, 0]) (frJ s n0 n i j) (stE a bad s m p []) (kIn N M k)
theorem step_D00 {n0 : Int} {c M n i : Nat} {bad : Bool} {ks ns qs : List Int} {next dnext got : Int} {did asked qn qq rn ra : List Int} {k : SV → St → Prop} (hI : InvD n0 c ⟨next, dnext, none, none, did, asked, got, qn, qq, rn, ra⟩) {N : Nat} (hc : c ≤ 300) (hin : i ≤ n) (hn : n ≤ 300) (hks : ∀ j, 0 ≤ ks.getD j 0) (hns : ∀ j, 0 ≤ ns.getD j 0 ∧ ns.getD j 0 ≤ 65535)
    (hC : i < n → ∀ (s' : Tw) (m p : Nat) (bad' : Bool) (xk xn xq : Int), InvD n0 (c + 1) s' → m = s'.qn.length → p = s'.rn.length → s'.did.length ≤ did.length + 1 → (xk = 2 ∨ s'.did.length = did.length) → CutP (N + 1) M n n0 i (did.length : Int) (argT n ks ns qs) bad' xk xn xq s' m p k)
    (hH : i < n → ∀ s' : Tw, InvD n0 (c + 1) s' → HeadP N M n n0 ((i + 1 : Nat) : Int) (argT n ks ns qs) bad s' s'.qn.length s'.rn.length k)
    (hK : k (.sa (.one (bv true))) [argT n ks ns qs]) : HeadP (N + 1) M n n0 i (argT n ks ns qs) bad ⟨next, dnext, none, none, did, asked, got, qn, qq, rn, ra⟩ qn.length rn.length k := by
  have hq := hI.q.1
  have hr := hI.r
  have ham := hI.am
  have hqm := hI.qm
  have hrm := hI.rm
  have hle := hI.le
  simp only at hq hr ham hqm hrm hle
  have hjq := mod_or (ns.getD i 0).toNat qn.length
  have hjr := mod_or (ns.getD i 0).toNat rn.length
  have f1 : fitL 0 qn.length qn = qn := fitL_id _ _ _ rfl
  have f2 : fitL 0 qn.length qq = qq := fitL_id _ _ _ hq
  have f3 : fitL 0 rn.length rn = rn := fitL_id _ _ _ rfl
  have f4 : fitL 0 rn.length ra = ra := fitL_id _ _ _ hr
  have r1 := remK_nat (hns i) qn.length
  have r2 := remK_nat (hns i) rn.length
  have w1 : ∀ j, j < qn.length → (woL j qn).length = qn.length - 1 := fun j h => woL_len h
  have w2 : ∀ j, j < rn.length → (woL j rn).length = rn.length - 1 := fun j h => woL_len h
  refine Eq.mpr (t_pA00 n0 next dnext got (i : Int) 0 0 0 0 bad n qn.length rn.length ks ns qs did asked qn qq rn ra (N + 1) M k) ⟨?_⟩
  refine brD (fun hlt => ?_) (fun hge => ?_)
  · have hC := hC (by omega)
    have hH := hH (by omega)
    refine ndD (by omega) (ndD (by omega) (ndD (by omega) ?_))
    refine brE (fun _ => ?_) (fun h8 => ?_)
    · have e2 : addK .i64 (i : Int) 1 = ((i + 1 : Nat) : Int) := by rw [addK_eq, i64_small (by omega)]; omega
      rw [e2]
      exact hH _ hI.drop
    have hk := kinds9 (x := List.getD ks (0 + (Int.toNat (i : Int))) 0) (hks _) h8
    rcases hk with e | e | e | e | e | e | e | e | ⟨k8, e⟩ <;> rw [e]
    · refine Eq.mpr (t_pP00_0 (List.getD ns (0 + (Int.toNat (i : Int))) (0)) (List.getD qs (0 + (Int.toNat (i : Int))) (0)) n0 next dnext got (i : Int) 0 0 0 0 bad n qn.length rn.length ks ns qs did asked qn qq rn ra (N + 1) M k) ⟨?_⟩
      try simp only [Nat.zero_add, Int.toNat_natCast, f1, f2, f3, f4, r1, r2, List.length_append, List.length_cons, List.length_nil]
      generalize (ns.getD i 0).toNat % qn.length = jq at *
      generalize (ns.getD i 0).toNat % rn.length = jr at *
      repeat' first
        | refine brE (fun _ => ?_) (fun _ => ?_)
        | refine brN (fun _ => ?_) (fun _ => ?_)
        | refine brD (fun _ => ?_) (fun _ => ?_)
        | refine br (fun _ => ?_) (fun _ => ?_)
        | refine ndN ?_ ?_
        | refine ndD ?_ ?_
      all_goals first
      | omega
      | exact ⟨trivial, by omega⟩
      | (simp only [true_and]; omega)
      | exact hC _ _ _ _ _ _ _ hI.later rfl rfl (by simp only; omega) (.inr rfl)
      | (exfalso; omega)
      | exact hC _ _ _ _ _ _ _ (hI.qwo (j := jq) (by simp only; omega)) (w1 jq (by omega)).symm rfl (by simp only; omega) (.inr rfl)
      | exact hC _ _ _ _ _ _ _ (hI.qdup (j := jq) (by simp only; omega)) (by simp) rfl (by simp only; omega) (.inr rfl)
      | exact hC _ _ _ _ _ _ _ (hI.rwo (j := jr) (by simp only; omega)) rfl (w2 jr (by omega)).symm (by simp only; omega) (.inr rfl)
      | exact hC _ _ _ _ _ _ _ (hI.rdup _ _) rfl (by simp) (by simp only; omega) (.inr rfl)
      | exact hC _ _ _ _ _ _ _ (hI.qnew (by omega) (j := jq) (by simp only; omega) (by assumption) (some (_, _)) _ _) (w1 jq (by omega)).symm (by simp) (by simp) (.inl rfl)
      | exact hC _ _ _ _ _ _ _ (hI.ask _) (by simp) rfl (by simp only; omega) (by first | exact .inl rfl | exact .inr rfl)
    · refine Eq.mpr (t_pP00_1 (List.getD ns (0 + (Int.toNat (i : Int))) (0)) (List.getD qs (0 + (Int.toNat (i : Int))) (0)) n0 next dnext got (i : Int) 0 0 0 0 bad n qn.length rn.length ks ns qs did asked qn qq rn ra (N + 1) M k) ⟨?_⟩
      try simp only [Nat.zero_add, Int.toNat_natCast, f1, f2, f3, f4, r1, r2, List.length_append, List.length_cons, List.length_nil]
      generalize (ns.getD i 0).toNat % qn.length = jq at *
      generalize (ns.getD i 0).toNat % rn.length = jr at *
      repeat' first
        | refine brE (fun _ => ?_) (fun _ => ?_)
        | refine brN (fun _ => ?_) (fun _ => ?_)
        | refine brD (fun _ => ?_) (fun _ => ?_)
        | refine br (fun _ => ?_) (fun _ => ?_)
        | refine ndN ?_ ?_
        | refine ndD ?_ ?_
      all_goals first
      | omega
      | exact ⟨trivial, by omega⟩
      | (simp only [true_and]; omega)
      | exact hC _ _ _ _ _ _ _ hI.later rfl rfl (by simp only; omega) (.inr rfl)
      | (exfalso; omega)
      | exact hC _ _ _ _ _ _ _ (hI.qwo (j := jq) (by simp only; omega)) (w1 jq (by omega)).symm rfl (by simp only; omega) (.inr rfl)
      | exact hC _ _ _ _ _ _ _ (hI.qdup (j := jq) (by simp only; omega)) (by simp) rfl (by simp only; omega) (.inr rfl)
      | exact hC _ _ _ _ _ _ _ (hI.rwo (j := jr) (by simp only; omega)) rfl (w2 jr (by omega)).symm (by simp only; omega) (.inr rfl)
      | exact hC _ _ _ _ _ _ _ (hI.rdup _ _) rfl (by simp) (by simp only; omega) (.inr rfl)
      | exact hC _ _ _ _ _ _ _ (hI.qnew (by omega) (j := jq) (by simp only; omega) (by assumption) (some (_, _)) _ _) (w1 jq (by omega)).symm (by simp) (by simp) (.inl rfl)
      | exact hC _ _ _ _ _ _ _ (hI.ask _) (by simp) rfl (by simp only; omega) (by first | exact .inl rfl | exact .inr rfl)
    · refine Eq.mpr (t_pP00_2 (List.getD ns (0 + (Int.toNat (i : Int))) (0)) (List.getD qs (0 + (Int.toNat (i : Int))) (0)) n0 next dnext got (i : Int) 0 0 0 0 bad n qn.length rn.length ks ns qs did asked qn qq rn ra (N + 1) M k) ⟨?_⟩
      try simp only [Nat.zero_add, Int.toNat_natCast, f1, f2, f3, f4, r1, r2, List.length_append, List.length_cons, List.length_nil]
      generalize (ns.getD i 0).toNat % qn.length = jq at *
      generalize (ns.getD i 0).toNat % rn.length = jr at *
      repeat' first
        | refine brE (fun _ => ?_) (fun _ => ?_)
        | refine brN (fun _ => ?_) (fun _ => ?_)
        | refine brD (fun _ => ?_) (fun _ => ?_)
        | refine br (fun _ => ?_) (fun _ => ?_)
        | refine ndN ?_ ?_
        | refine ndD ?_ ?_
      all_goals first
      | omega
      | exact ⟨trivial, by omega⟩
      | (simp only [true_and]; omega)
      | exact hC _ _ _ _ _ _ _ hI.later rfl rfl (by simp only; omega) (.inr rfl)
      | (exfalso; omega)
      | exact hC _ _ _ _ _ _ _ (hI.qwo (j := jq) (by simp only; omega)) (w1 jq (by omega)).symm rfl (by simp only; omega) (.inr rfl)
      | exact hC _ _ _ _ _ _ _ (hI.qdup (j := jq) (by simp only; omega)) (by simp) rfl (by simp only; omega) (.inr rfl)
      | exact hC _ _ _ _ _ _ _ (hI.rwo (j := jr) (by simp only; omega)) rfl (w2 jr (by omega)).symm (by simp only; omega) (.inr rfl)
      | exact hC _ _ _ _ _ _ _ (hI.rdup _ _) rfl (by simp) (by simp only; omega) (.inr rfl)
      | exact hC _ _ _ _ _ _ _ (hI.qnew (by omega) (j := jq) (by simp only; omega) (by assumption) (some (_, _)) _ _) (w1 jq (by omega)).symm (by simp) (by simp) (.inl rfl)
      | exact hC _ _ _ _ _ _ _ (hI.ask _) (by simp) rfl (by simp only; omega) (by first | exact .inl rfl | exact .inr rfl)
    · refine Eq.mpr (t_pP00_3 (List.getD ns (0 + (Int.toNat (i : Int))) (0)) (List.getD qs (0 + (Int.toNat (i : Int))) (0)) n0 next dnext got (i : Int) 0 0 0 0 bad n qn.length rn.length ks ns qs did asked qn qq rn ra (N + 1) M k) ⟨?_⟩
      try simp only [Nat.zero_add, Int.toNat_natCast, f1, f2, f3, f4, r1, r2, List.length_append, List.length_cons, List.length_nil]
      generalize (ns.getD i 0).toNat % qn.length = jq at *
      generalize (ns.getD i 0).toNat % rn.length = jr at *
      repeat' first
        | refine brE (fun _ => ?_) (fun _ => ?_)
        | refine brN (fun _ => ?_) (fun _ => ?_)
        | refine brD (fun _ => ?_) (fun _ => ?_)
        | refine br (fun _ => ?_) (fun _ => ?_)
        | refine ndN ?_ ?_
        | refine ndD ?_ ?_
      all_goals first
      | omega
      | exact ⟨trivial, by omega⟩
      | (simp only [true_and]; omega)
      | exact hC _ _ _ _ _ _ _ hI.later rfl rfl (by simp only; omega) (.inr rfl)
      | (exfalso; omega)
      | exact hC _ _ _ _ _ _ _ (hI.qwo (j := jq) (by simp only; omega)) (w1 jq (by omega)).symm rfl (by simp only; omega) (.inr rfl)
      | exact hC _ _ _ _ _ _ _ (hI.qdup (j := jq) (by simp only; omega)) (by simp) rfl (by simp only; omega) (.inr rfl)
      | exact hC _ _ _ _ _ _ _ (hI.rwo (j := jr) (by simp only; omega)) rfl (w2 jr (by omega)).symm (by simp only; omega) (.inr rfl)
      | exact hC _ _ _ _ _ _ _ (hI.rdup _ _) rfl (by simp) (by simp only; omega) (.inr rfl)
      | exact hC _ _ _ _ _ _ _ (hI.qnew (by omega) (j := jq) (by simp only; omega) (by assumption) (some (_, _)) _ _) (w1 jq (by omega)).symm (by simp) (by simp) (.inl rfl)
      | exact hC _ _ _ _ _ _ _ (hI.ask _) (by simp) rfl (by simp only; omega) (by first | exact .inl rfl | exact .inr rfl)
    · refine Eq.mpr (t_pP00_4 (List.getD ns (0 + (Int.toNat (i : Int))) (0)) (List.getD qs (0 + (Int.toNat (i : Int))) (0)) n0 next dnext got (i : Int) 0 0 0 0 bad n qn.length rn.length ks ns qs did asked qn qq rn ra (N + 1) M k) ⟨?_⟩
      try simp only [Nat.zero_add, Int.toNat_natCast, f1, f2, f3, f4, r1, r2, List.length_append, List.length_cons, List.length_nil]
      generalize (ns.getD i 0).toNat % qn.length = jq at *
      generalize (ns.getD i 0).toNat % rn.length = jr at *
      repeat' first
        | refine brE (fun _ => ?_) (fun _ => ?_)
        | refine brN (fun _ => ?_) (fun _ => ?_)
        | refine brD (fun _ => ?_) (fun _ => ?_)
        | refine br (fun _ => ?_) (fun _ => ?_)
        | refine ndN ?_ ?_
        | refine ndD ?_ ?_
      all_goals first
      | omega
      | exact ⟨trivial, by omega⟩
      | (simp only [true_and]; omega)
      | exact hC _ _ _ _ _ _ _ hI.later rfl rfl (by simp only; omega) (.inr rfl)
      | (exfalso; omega)
      | exact hC _ _ _ _ _ _ _ (hI.qwo (j := jq) (by simp only; omega)) (w1 jq (by omega)).symm rfl (by simp only; omega) (.inr rfl)
      | exact hC _ _ _ _ _ _ _ (hI.qdup (j := jq) (by simp only; omega)) (by simp) rfl (by simp only; omega) (.inr rfl)
      | exact hC _ _ _ _ _ _ _ (hI.rwo (j := jr) (by simp only; omega)) rfl (w2 jr (by omega)).symm (by simp only; omega) (.inr rfl)
      | exact hC _ _ _ _ _ _ _ (hI.rdup _ _) rfl (by simp) (by simp only; omega) (.inr rfl)
      | exact hC _ _ _ _ _ _ _ (hI.qnew (by omega) (j := jq) (by simp only; omega) (by assumption) (some (_, _)) _ _) (w1 jq (by omega)).symm (by simp) (by simp) (.inl rfl)
      | exact hC _ _ _ _ _ _ _ (hI.ask _) (by simp) rfl (by simp only; omega) (by first | exact .inl rfl | exact .inr rfl)
    · refine Eq.mpr (t_pP00_5 (List.getD ns (0 + (Int.toNat (i : Int))) (0)) (List.getD qs (0 + (Int.toNat (i : Int))) (0)) n0 next dnext got (i : Int) 0 0 0 0 bad n qn.length rn.length ks ns qs did asked qn qq rn ra (N + 1) M k) ⟨?_⟩
      try simp only [Nat.zero_add, Int.toNat_natCast, f1, f2, f3, f4, r1, r2, List.length_append, List.length_cons, List.length_nil]
      generalize (ns.getD i 0).toNat % qn.length = jq at *
      generalize (ns.getD i 0).toNat % rn.length = jr at *
      repeat' first
        | refine brE (fun _ => ?_) (fun _ => ?_)
        | refine brN (fun _ => ?_) (fun _ => ?_)
        | refine brD (fun _ => ?_) (fun _ => ?_)
        | refine br (fun _ => ?_) (fun _ => ?_)
        | refine ndN ?_ ?_
        | refine ndD ?_ ?_
      all_goals first
      | omega
      | exact ⟨trivial, by omega⟩
      | (simp only [true_and]; omega)
      | exact hC _ _ _ _ _ _ _ hI.later rfl rfl (by simp only; omega) (.inr rfl)
      | (exfalso; omega)
      | exact hC _ _ _ _ _ _ _ (hI.qwo (j := jq) (by simp only; omega)) (w1 jq (by omega)).symm rfl (by simp only; omega) (.inr rfl)
      | exact hC _ _ _ _ _ _ _ (hI.qdup (j := jq) (by simp only; omega)) (by simp) rfl (by simp only; omega) (.inr rfl)
      | exact hC _ _ _ _ _ _ _ (hI.rwo (j := jr) (by simp only; omega)) rfl (w2 jr (by omega)).symm (by simp only; omega) (.inr rfl)
      | exact hC _ _ _ _ _ _ _ (hI.rdup _ _) rfl (by simp) (by simp only; omega) (.inr rfl)
      | exact hC _ _ _ _ _ _ _ (hI.qnew (by omega) (j := jq) (by simp only; omega) (by assumption) (some (_, _)) _ _) (w1 jq (by omega)).symm (by simp) (by simp) (.inl rfl)
      | exact hC _ _ _ _ _ _ _ (hI.ask _) (by simp) rfl (by simp only; omega) (by first | exact .inl rfl | exact .inr rfl)
    · refine Eq.mpr (t_pP00_6 (List.getD ns (0 + (Int.toNat (i : Int))) (0)) (List.getD qs (0 + (Int.toNat (i : Int))) (0)) n0 next dnext got (i : Int) 0 0 0 0 bad n qn.length rn.length ks ns qs did asked qn qq rn ra (N + 1) M k) ⟨?_⟩
      try simp only [Nat.zero_add, Int.toNat_natCast, f1, f2, f3, f4, r1, r2, List.length_append, List.length_cons, List.length_nil]
      generalize (ns.getD i 0).toNat % qn.length = jq at *
      generalize (ns.getD i 0).toNat % rn.length = jr at *
      repeat' first
        | refine brE (fun _ => ?_) (fun _ => ?_)
        | refine brN (fun _ => ?_) (fun _ => ?_)
        | refine brD (fun _ => ?_) (fun _ => ?_)
        | refine br (fun _ => ?_) (fun _ => ?_)
        | refine ndN ?_ ?_
        | refine ndD ?_ ?_
      all_goals first
      | omega
      | exact ⟨trivial, by omega⟩
      | (simp only [true_and]; omega)
      | exact hC _ _ _ _ _ _ _ hI.later rfl rfl (by simp only; omega) (.inr rfl)
      | (exfalso; omega)
      | exact hC _ _ _ _ _ _ _ (hI.qwo (j := jq) (by simp only; omega)) (w1 jq (by omega)).symm rfl (by simp only; omega) (.inr rfl)
      | exact hC _ _ _ _ _ _ _ (hI.qdup (j := jq) (by simp only; omega)) (by simp) rfl (by simp only; omega) (.inr rfl)
      | exact hC _ _ _ _ _ _ _ (hI.rwo (j := jr) (by simp only; omega)) rfl (w2 jr (by omega)).symm (by simp only; omega) (.inr rfl)
      | exact hC _ _ _ _ _ _ _ (hI.rdup _ _) rfl (by simp) (by simp only; omega) (.inr rfl)
      | exact hC _ _ _ _ _ _ _ (hI.qnew (by omega) (j := jq) (by simp only; omega) (by assumption) (some (_, _)) _ _) (w1 jq (by omega)).symm (by simp) (by simp) (.inl rfl)
      | exact hC _ _ _ _ _ _ _ (hI.ask _) (by simp) rfl (by simp only; omega) (by first | exact .inl rfl | exact .inr rfl)
    · refine Eq.mpr (t_pP00_7 (List.getD ns (0 + (Int.toNat (i : Int))) (0)) (List.getD qs (0 + (Int.toNat (i : Int))) (0)) n0 next dnext got (i : Int) 0 0 0 0 bad n qn.length rn.length ks ns qs did asked qn qq rn ra (N + 1) M k) ⟨?_⟩
      try simp only [Nat.zero_add, Int.toNat_natCast, f1, f2, f3, f4, r1, r2, List.length_append, List.length_cons, List.length_nil]
      generalize (ns.getD i 0).toNat % qn.length = jq at *
      generalize (ns.getD i 0).toNat % rn.length = jr at *
      repeat' first
        | refine brE (fun _ => ?_) (fun _ => ?_)
        | refine brN (fun _ => ?_) (fun _ => ?_)
        | refine brD (fun _ => ?_) (fun _ => ?_)
        | refine br (fun _ => ?_) (fun _ => ?_)
        | refine ndN ?_ ?_
        | refine ndD ?_ ?_
      all_goals first
      | omega
      | exact ⟨trivial, by omega⟩
      | (simp only [true_and]; omega)
      | exact hC _ _ _ _ _ _ _ hI.later rfl rfl (by simp only; omega) (.inr rfl)
      | (exfalso; omega)
      | exact hC _ _ _ _ _ _ _ (hI.qwo (j := jq) (by simp only; omega)) (w1 jq (by omega)).symm rfl (by simp only; omega) (.inr rfl)
      | exact hC _ _ _ _ _ _ _ (hI.qdup (j := jq) (by simp only; omega)) (by simp) rfl (by simp only; omega) (.inr rfl)
      | exact hC _ _ _ _ _ _ _ (hI.rwo (j := jr) (by simp only; omega)) rfl (w2 jr (by omega)).symm (by simp only; omega) (.inr rfl)
      | exact hC _ _ _ _ _ _ _ (hI.rdup _ _) rfl (by simp) (by simp only; omega) (.inr rfl)
      | exact hC _ _ _ _ _ _ _ (hI.qnew (by omega) (j := jq) (by simp only; omega) (by assumption) (some (_, _)) _ _) (w1 jq (by omega)).symm (by simp) (by simp) (.inl rfl)
      | exact hC _ _ _ _ _ _ _ (hI.ask _) (by simp) rfl (by simp only; omega) (by first | exact .inl rfl | exact .inr rfl)
    · refine Eq.mpr (t_pP00_8 (List.getD ns (0 + (Int.toNat (i : Int))) (0)) (List.getD qs (0 + (Int.toNat (i : Int))) (0)) n0 next dnext got (i : Int) 0 0 0 0 bad n qn.length rn.length ks ns qs did asked qn qq rn ra k8 (N + 1) M k) ⟨?_⟩
      try simp only [Nat.zero_add, Int.toNat_natCast, f1, f2, f3, f4, r1, r2, List.length_append, List.length_cons, List.length_nil]
      generalize (ns.getD i 0).toNat % qn.length = jq at *
      generalize (ns.getD i 0).toNat % rn.length = jr at *
      repeat' first
        | refine brE (fun _ => ?_) (fun _ => ?_)
        | refine brN (fun _ => ?_) (fun _ => ?_)
        | refine brD (fun _ => ?_) (fun _ => ?_)
        | refine br (fun _ => ?_) (fun _ => ?_)
        | refine ndN ?_ ?_
        | refine ndD ?_ ?_
      all_goals first
      | omega
      | exact ⟨trivial, by omega⟩
      | (simp only [true_and]; omega)
      | exact hC _ _ _ _ _ _ _ hI.later rfl rfl (by simp only; omega) (.inr rfl)
      | (exfalso; omega)
      | exact hC _ _ _ _ _ _ _ (hI.qwo (j := jq) (by simp only; omega)) (w1 jq (by omega)).symm rfl (by simp only; omega) (.inr rfl)
      | exact hC _ _ _ _ _ _ _ (hI.qdup (j := jq) (by simp only; omega)) (by simp) rfl (by simp only; omega) (.inr rfl)
      | exact hC _ _ _ _ _ _ _ (hI.rwo (j := jr) (by simp only; omega)) rfl (w2 jr (by omega)).symm (by simp only; omega) (.inr rfl)
      | exact hC _ _ _ _ _ _ _ (hI.rdup _ _) rfl (by simp) (by simp only; omega) (.inr rfl)
      | exact hC _ _ _ _ _ _ _ (hI.qnew (by omega) (j := jq) (by simp only; omega) (by assumption) (some (_, _)) _ _) (w1 jq (by omega)).symm (by simp) (by simp) (.inl rfl)
      | exact hC _ _ _ _ _ _ _ (hI.ask _) (by simp) rfl (by simp only; omega) (by first | exact .inl rfl | exact .inr rfl)
  · have hnx := hI.next
    have hdn := hI.dnext
    simp only at hnx hdn
    have e0 := numAt_zero hI.n0in
    have e1 : subK .u32 next n0 = IntKind.wrap .u32 ((asked.length : Nat) : Int) := by
      rw [hnx, ← e0, e0]
      have := numAt_diff (n0 := n0) (i := asked.length) (by omega)
      rw [e0] at this
      rw [this, IntKind.wrap_u32]; omega
    have e2 : subK .u32 dnext n0 = IntKind.wrap .u32 ((did.length : Nat) : Int) := by
      rw [hdn]
      have := numAt_diff (n0 := n0) (i := did.length) (by omega)
      rw [e0] at this
      rw [this, IntKind.wrap_u32]; omega
    exact brE (fun _ => brE (fun _ => hK) (fun h => absurd e2 h)) (fun h => absurd e1 h)
theorem in_D00 {n0 : Int} {c M n i : Nat} {bad : Bool} {ks ns qs : List Int} {next dnext got : Int} {did asked qn qq rn ra : List Int} {k : SV → St → Prop} (hI : InvD n0 c ⟨next, dnext, none, none, did, asked, got, qn, qq, rn, ra⟩) (hc : c ≤ 301) (hi : i ≤ 300) {N : Nat} (hH : HeadP N M n n0 ((i + 1 : Nat) : Int) (argT n ks ns qs) bad ⟨next, dnext, none, none, did, asked, got, qn, qq, rn, ra⟩ qn.length rn.length k) :
    ∀ (r L j : Nat), j + r = did.length → InP (L + r + 1) (N + 1) M n n0 (i : Int) (j : Int) (argT n ks ns qs) bad ⟨next, dnext, none, none, did, asked, got, qn, qq, rn, ra⟩ qn.length rn.length k
  | 0, L, j, e => by
    refine Eq.mpr (t_pC00 n0 next dnext got (i : Int) 0 0 0 0 bad n qn.length rn.length ks ns qs did asked qn qq rn ra (j : Int) (L + 1) (N + 1) M k) ⟨?_⟩
    refine brD (fun h => by omega) (fun _ => ?_)
    have e2 : addK .i64 (i : Int) 1 = ((i + 1 : Nat) : Int) := by rw [addK_eq, i64_small (by omega)]; omega
    rw [e2]
    exact hH
  | r + 1, L, j, e => by
    have hle : did.length ≤ asked.length := hI.le
    have ham : asked.length ≤ c := hI.am
    have hdid : did = asked.take did.length := hI.did
    refine Eq.mpr (t_pC00 n0 next dnext got (i : Int) 0 0 0 0 bad n qn.length rn.length ks ns qs did asked qn qq rn ra (j : Int) (L + (r + 1) + 1) (N + 1) M k) ⟨?_⟩
    have e1 : did.getD j 0 = asked.getD j 0 := by
      rw [hdid, List.getD_eq_getElem?_getD, List.getElem?_take, if_pos (by omega), List.getD_eq_getElem?_getD]
    have e2 : addK .i64 (j : Int) 1 = ((j + 1 : Nat) : Int) := by rw [addK_eq, i64_small (by omega)]; omega
    have e3 : Int.toNat (j : Int) = j := Int.toNat_natCast _
    refine brD (fun _ => ?_) (fun h => by omega)
    simp only [e3, Nat.zero_add]
    refine ndD (by omega) (ndD (by omega) (ndD (by omega) (ndD (by omega) (ndD (by omega) (ndD (by omega) ?_)))))
    refine brN (fun h => absurd e1 h) (fun _ => ?_)
    rw [e2]
    have e4 : L + (r + 1) + 1 + 41 = L + r + 1 + 42 := by omega
    rw [e4]
    exact in_D00 hI hc hi hH r L (j + 1) (by omega)
theorem chk_D00 {n0 : Int} {c M n i : Nat} {bad : Bool} {ks ns qs : List Int} {next dnext got : Int} {did asked qn qq rn ra : List Int} {k : SV → St → Prop} (hI : InvD n0 c ⟨next, dnext, none, none, did, asked, got, qn, qq, rn, ra⟩) (hc : c ≤ 301) (hi : i ≤ 300) {N w : Nat} {xk xn xq : Int} (hN : 310 ≤ N) (hw2 : w ≤ 1000) (hw : did.length ≤ w + 1) (hx : xk = 2 ∨ did.length = w) (hH : HeadP N M n n0 ((i + 1 : Nat) : Int) (argT n ks ns qs) bad ⟨next, dnext, none, none, did, asked, got, qn, qq, rn, ra⟩ qn.length rn.length k) :
    CutP (N + 1) M n n0 (i : Int) (w : Int) (argT n ks ns qs) bad xk xn xq ⟨next, dnext, none, none, did, asked, got, qn, qq, rn, ra⟩ qn.length rn.length k := by
  have hle : did.length ≤ asked.length := hI.le
  have ham : asked.length ≤ c := hI.am
  have hIn : InP (N + 1) (N + 1) M n n0 (i : Int) 0 (argT n ks ns qs) bad ⟨next, dnext, none, none, did, asked, got, qn, qq, rn, ra⟩ qn.length rn.length k := by
    have h := in_D00 hI hc hi hH did.length (N - did.length) 0 (by omega)
    have e3 : N - did.length + did.length + 1 = N + 1 := by omega
    rw [e3] at h
    exact h
  refine Eq.mpr (t_pB00 xk xn xq (w : Int) n0 next dnext got (i : Int) 0 0 0 0 bad n qn.length rn.length ks ns qs did asked qn qq rn ra (N + 1) M k) ⟨?_⟩
  have e2 : addK .i64 (w : Int) 1 = ((w + 1 : Nat) : Int) := by rw [addK_eq, i64_small (by omega)]; omega
  rw [e2]
  repeat' first
    | exact hIn
    | (exfalso; omega)
    | refine brE (fun _ => ?_) (fun _ => ?_)
    | refine brN (fun _ => ?_) (fun _ => ?_)
    | refine brD (fun _ => ?_) (fun _ => ?_)

theorem step_D10 {n0 : Int} {c M n i : Nat} {bad : Bool} {ks ns qs : List Int} {next dnext on oq got : Int} {did asked qn qq rn ra : List Int} {k : SV → St → Prop} (hI : InvD n0 c ⟨next, dnext, (some (on, oq)), none, did, asked, got, qn, qq, rn, ra⟩) {N : Nat} (hc : c ≤ 300) (hin : i ≤ n) (hn : n ≤ 300) (hks : ∀ j, 0 ≤ ks.getD j 0) (hns : ∀ j, 0 ≤ ns.getD j 0 ∧ ns.getD j 0 ≤ 65535)
    (hC : i < n → ∀ (s' : Tw) (m p : Nat) (bad' : Bool) (xk xn xq : Int), InvD n0 (c + 1) s' → m = s'.qn.length → p = s'.rn.length → s'.did.length ≤ did.length + 1 → (xk = 2 ∨ s'.did.length = did.length) → CutP (N + 1) M n n0 i (did.length : Int) (argT n ks ns qs) bad' xk xn xq s' m p k)
    (hH : i < n → ∀ s' : Tw, InvD n0 (c + 1) s' → HeadP N M n n0 ((i + 1 : Nat) : Int) (argT n ks ns qs) bad s' s'.qn.length s'.rn.length k)
    (hK : k (.sa (.one (bv true))) [argT n ks ns qs]) : HeadP (N + 1) M n n0 i (argT n ks ns qs) bad ⟨next, dnext, (some (on, oq)), none, did, asked, got, qn, qq, rn, ra⟩ qn.length rn.length k := by
  have hq := hI.q.1
  have hr := hI.r
  have ham := hI.am
  have hqm := hI.qm
  have hrm := hI.rm
  have hle := hI.le
  simp only at hq hr ham hqm hrm hle
  have hjq := mod_or (ns.getD i 0).toNat qn.length
  have hjr := mod_or (ns.getD i 0).toNat rn.length
  have f1 : fitL 0 qn.length qn = qn := fitL_id _ _ _ rfl
  have f2 : fitL 0 qn.length qq = qq := fitL_id _ _ _ hq
  have f3 : fitL 0 rn.length rn = rn := fitL_id _ _ _ rfl
  have f4 : fitL 0 rn.length ra = ra := fitL_id _ _ _ hr
  have r1 := remK_nat (hns i) qn.length
  have r2 := remK_nat (hns i) rn.length
  have w1 : ∀ j, j < qn.length → (woL j qn).length = qn.length - 1 := fun j h => woL_len h
  have w2 : ∀ j, j < rn.length → (woL j rn).length = rn.length - 1 := fun j h => woL_len h
  have hpos : 0 < asked.length := hI.out.1
  have hsub : subK .i64 ((asked.length : Nat) : Int) 1 = ((asked.length - 1 : Nat) : Int) := by rw [subK_eq, i64_small (by omega)]; omega
  refine Eq.mpr (t_pA10 n0 next dnext got (i : Int) on oq 0 0 bad n qn.length rn.length ks ns qs did asked qn qq rn ra (N + 1) M k) ⟨?_⟩
  refine brD (fun hlt => ?_) (fun hge => ?_)
  · have hC := hC (by omega)
    have hH := hH (by omega)
    refine ndD (by omega) (ndD (by omega) (ndD (by omega) ?_))
    refine brE (fun _ => ?_) (fun h8 => ?_)
    · have e2 : addK .i64 (i : Int) 1 = ((i + 1 : Nat) : Int) := by rw [addK_eq, i64_small (by omega)]; omega
      rw [e2]
      exact hH _ hI.drop
    have hk := kinds9 (x := List.getD ks (0 + (Int.toNat (i : Int))) 0) (hks _) h8
    rcases hk with e | e | e | e | e | e | e | e | ⟨k8, e⟩ <;> rw [e]
    · refine Eq.mpr (t_pP10_0 (List.getD ns (0 + (Int.toNat (i : Int))) (0)) (List.getD qs (0 + (Int.toNat (i : Int))) (0)) n0 next dnext got (i : Int) on oq 0 0 bad n qn.length rn.length ks ns qs did asked qn qq rn ra (N + 1) M k) ⟨?_⟩
      try simp only [Nat.zero_add, Int.toNat_natCast, f1, f2, f3, f4, r1, r2, hsub, List.length_append, List.length_cons, List.length_nil]
      generalize (ns.getD i 0).toNat % qn.length = jq at *
      generalize (ns.getD i 0).toNat % rn.length = jr at *
      repeat' first
        | refine brE (fun _ => ?_) (fun _ => ?_)
        | refine brN (fun _ => ?_) (fun _ => ?_)
        | refine brD (fun _ => ?_) (fun _ => ?_)
        | refine br (fun _ => ?_) (fun _ => ?_)
        | refine ndN ?_ ?_
        | refine ndD ?_ ?_
      all_goals first
      | omega
      | exact ⟨trivial, by omega⟩
      | (simp only [true_and]; omega)
      | exact hC _ _ _ _ _ _ _ hI.later rfl rfl (by simp only; omega) (.inr rfl)
      | (exfalso; omega)
      | exact hC _ _ _ _ _ _ _ (hI.qwo (j := jq) (by simp only; omega)) (w1 jq (by omega)).symm rfl (by simp only; omega) (.inr rfl)
      | exact hC _ _ _ _ _ _ _ (hI.qdup (j := jq) (by simp only; omega)) (by simp) rfl (by simp only; omega) (.inr rfl)
      | exact hC _ _ _ _ _ _ _ (hI.rwo (j := jr) (by simp only; omega)) rfl (w2 jr (by omega)).symm (by simp only; omega) (.inr rfl)
      | exact hC _ _ _ _ _ _ _ (hI.rdup _ _) rfl (by simp) (by simp only; omega) (.inr rfl)
      | exact hC _ _ _ _ _ _ _ (hI.qnew (by omega) (j := jq) (by simp only; omega) (by assumption) (some (_, _)) _ _) (w1 jq (by omega)).symm (by simp) (by simp) (.inl rfl)
      | exact hC _ _ _ _ _ _ _ (hI.again rfl) (by simp) rfl (by simp only; omega) (.inr rfl)
      | exact hC _ _ _ _ _ _ _ (hI.rok (j := jr) (by simp only; omega) _) rfl (w2 jr (by omega)).symm (by simp only; omega) (.inr rfl)
    · refine Eq.mpr (t_pP10_1 (List.getD ns (0 + (Int.toNat (i : Int))) (0)) (List.getD qs (0 + (Int.toNat (i : Int))) (0)) n0 next dnext got (i : Int) on oq 0 0 bad n qn.length rn.length ks ns qs did asked qn qq rn ra (N + 1) M k) ⟨?_⟩
      try simp only [Nat.zero_add, Int.toNat_natCast, f1, f2, f3, f4, r1, r2, hsub, List.length_append, List.length_cons, List.length_nil]
      generalize (ns.getD i 0).toNat % qn.length = jq at *
      generalize (ns.getD i 0).toNat % rn.length = jr at *
      repeat' first
        | refine brE (fun _ => ?_) (fun _ => ?_)
        | refine brN (fun _ => ?_) (fun _ => ?_)
        | refine brD (fun _ => ?_) (fun _ => ?_)
        | refine br (fun _ => ?_) (fun _ => ?_)
        | refine ndN ?_ ?_
        | refine ndD ?_ ?_
      all_goals first
      | omega
      | exact ⟨trivial, by omega⟩
      | (simp only [true_and]; omega)
      | exact hC _ _ _ _ _ _ _ hI.later rfl rfl (by simp only; omega) (.inr rfl)
      | (exfalso; omega)
      | exact hC _ _ _ _ _ _ _ (hI.qwo (j := jq) (by simp only; omega)) (w1 jq (by omega)).symm rfl (by simp only; omega) (.inr rfl)
      | exact hC _ _ _ _ _ _ _ (hI.qdup (j := jq) (by simp only; omega)) (by simp) rfl (by simp only; omega) (.inr rfl)
      | exact hC _ _ _ _ _ _ _ (hI.rwo (j := jr) (by simp only; omega)) rfl (w2 jr (by omega)).symm (by simp only; omega) (.inr rfl)
      | exact hC _ _ _ _ _ _ _ (hI.rdup _ _) rfl (by simp) (by simp only; omega) (.inr rfl)
      | exact hC _ _ _ _ _ _ _ (hI.qnew (by omega) (j := jq) (by simp only; omega) (by assumption) (some (_, _)) _ _) (w1 jq (by omega)).symm (by simp) (by simp) (.inl rfl)
      | exact hC _ _ _ _ _ _ _ (hI.again rfl) (by simp) rfl (by simp only; omega) (.inr rfl)
      | exact hC _ _ _ _ _ _ _ (hI.rok (j := jr) (by simp only; omega) _) rfl (w2 jr (by omega)).symm (by simp only; omega) (.inr rfl)
    · refine Eq.mpr (t_pP10_2 (List.getD ns (0 + (Int.toNat (i : Int))) (0)) (List.getD qs (0 + (Int.toNat (i : Int))) (0)) n0 next dnext got (i : Int) on oq 0 0 bad n qn.length rn.length ks ns qs did asked qn qq rn ra (N + 1) M k) ⟨?_⟩
      try simp only [Nat.zero_add, Int.toNat_natCast, f1, f2, f3, f4, r1, r2, hsub, List.length_append, List.length_cons, List.length_nil]
      generalize (ns.getD i 0).toNat % qn.length = jq at *
      generalize (ns.getD i 0).toNat % rn.length = jr at *
      repeat' first
        | refine brE (fun _ => ?_) (fun _ => ?_)
        | refine brN (fun _ => ?_) (fun _ => ?_)
        | refine brD (fun _ => ?_) (fun _ => ?_)
        | refine br (fun _ => ?_) (fun _ => ?_)
        | refine ndN ?_ ?_
        | refine ndD ?_ ?_
      all_goals first
      | omega
      | exact ⟨trivial, by omega⟩
      | (simp only [true_and]; omega)
      | exact hC _ _ _ _ _ _ _ hI.later rfl rfl (by simp only; omega) (.inr rfl)
      | (exfalso; omega)
      | exact hC _ _ _ _ _ _ _ (hI.qwo (j := jq) (by simp only; omega)) (w1 jq (by omega)).symm rfl (by simp only; omega) (.inr rfl)
      | exact hC _ _ _ _ _ _ _ (hI.qdup (j := jq) (by simp only; omega)) (by simp) rfl (by simp only; omega) (.inr rfl)
      | exact hC _ _ _ _ _ _ _ (hI.rwo (j := jr) (by simp only; omega)) rfl (w2 jr (by omega)).symm (by simp only; omega) (.inr rfl)
      | exact hC _ _ _ _ _ _ _ (hI.rdup _ _) rfl (by simp) (by simp only; omega) (.inr rfl)
      | exact hC _ _ _ _ _ _ _ (hI.qnew (by omega) (j := jq) (by simp only; omega) (by assumption) (some (_, _)) _ _) (w1 jq (by omega)).symm (by simp) (by simp) (.inl rfl)
      | exact hC _ _ _ _ _ _ _ (hI.again rfl) (by simp) rfl (by simp only; omega) (.inr rfl)
      | exact hC _ _ _ _ _ _ _ (hI.rok (j := jr) (by simp only; omega) _) rfl (w2 jr (by omega)).symm (by simp only; omega) (.inr rfl)
    · refine Eq.mpr (t_pP10_3 (List.getD ns (0 + (Int.toNat (i : Int))) (0)) (List.getD qs (0 + (Int.toNat (i : Int))) (0)) n0 next dnext got (i : Int) on oq 0 0 bad n qn.length rn.length ks ns qs did asked qn qq rn ra (N + 1) M k) ⟨?_⟩
      try simp only [Nat.zero_add, Int.toNat_natCast, f1, f2, f3, f4, r1, r2, hsub, List.length_append, List.length_cons, List.length_nil]
      generalize (ns.getD i 0).toNat % qn.length = jq at *
      generalize (ns.getD i 0).toNat % rn.length = jr at *
      repeat' first
        | refine brE (fun _ => ?_) (fun _ => ?_)
        | refine brN (fun _ => ?_) (fun _ => ?_)
        | refine brD (fun _ => ?_) (fun _ => ?_)
        | refine br (fun _ => ?_) (fun _ => ?_)
        | refine ndN ?_ ?_
        | refine ndD ?_ ?_
      all_goals first
      | omega
      | exact ⟨trivial, by omega⟩
      | (simp only [true_and]; omega)
      | exact hC _ _ _ _ _ _ _ hI.later rfl rfl (by simp only; omega) (.inr rfl)
      | (exfalso; omega)
      | exact hC _ _ _ _ _ _ _ (hI.qwo (j := jq) (by simp only; omega)) (w1 jq (by omega)).symm rfl (by simp only; omega) (.inr rfl)
      | exact hC _ _ _ _ _ _ _ (hI.qdup (j := jq) (by simp only; omega)) (by simp) rfl (by simp only; omega) (.inr rfl)
      | exact hC _ _ _ _ _ _ _ (hI.rwo (j := jr) (by simp only; omega)) rfl (w2 jr (by omega)).symm (by simp only; omega) (.inr rfl)
      | exact hC _ _ _ _ _ _ _ (hI.rdup _ _) rfl (by simp) (by simp only; omega) (.inr rfl)
      | exact hC _ _ _ _ _ _ _ (hI.qnew (by omega) (j := jq) (by simp only; omega) (by assumption) (some (_, _)) _ _) (w1 jq (by omega)).symm (by simp) (by simp) (.inl rfl)
      | exact hC _ _ _ _ _ _ _ (hI.again rfl) (by simp) rfl (by simp only; omega) (.inr rfl)
      | exact hC _ _ _ _ _ _ _ (hI.rok (j := jr) (by simp only; omega) _) rfl (w2 jr (by omega)).symm (by simp only; omega) (.inr rfl)
    · refine Eq.mpr (t_pP10_4 (List.getD ns (0 + (Int.toNat (i : Int))) (0)) (List.getD qs (0 + (Int.toNat (i : Int))) (0)) n0 next dnext got (i : Int) on oq 0 0 bad n qn.length rn.length ks ns qs did asked qn qq rn ra (N + 1) M k) ⟨?_⟩
      try simp only [Nat.zero_add, Int.toNat_natCast, f1, f2, f3, f4, r1, r2, hsub, List.length_append, List.length_cons, List.length_nil]
      generalize (ns.getD i 0).toNat % qn.length = jq at *
      generalize (ns.getD i 0).toNat % rn.length = jr at *
      repeat' first
        | refine brE (fun _ => ?_) (fun _ => ?_)
        | refine brN (fun _ => ?_) (fun _ => ?_)
        | refine brD (fun _ => ?_) (fun _ => ?_)
        | refine br (fun _ => ?_) (fun _ => ?_)
        | refine ndN ?_ ?_
        | refine ndD ?_ ?_
      all_goals first
      | omega
      | exact ⟨trivial, by omega⟩
      | (simp only [true_and]; omega)
      | exact hC _ _ _ _ _ _ _ hI.later rfl rfl (by simp only; omega) (.inr rfl)
      | (exfalso; omega)
      | exact hC _ _ _ _ _ _ _ (hI.qwo (j := jq) (by simp only; omega)) (w1 jq (by omega)).symm rfl (by simp only; omega) (.inr rfl)
      | exact hC _ _ _ _ _ _ _ (hI.qdup (j := jq) (by simp only; omega)) (by simp) rfl (by simp only; omega) (.inr rfl)
      | exact hC _ _ _ _ _ _ _ (hI.rwo (j := jr) (by simp only; omega)) rfl (w2 jr (by omega)).symm (by simp only; omega) (.inr rfl)
      | exact hC _ _ _ _ _ _ _ (hI.rdup _ _) rfl (by simp) (by simp only; omega) (.inr rfl)
      | exact hC _ _ _ _ _ _ _ (hI.qnew (by omega) (j := jq) (by simp only; omega) (by assumption) (some (_, _)) _ _) (w1 jq (by omega)).symm (by simp) (by simp) (.inl rfl)
      | exact hC _ _ _ _ _ _ _ (hI.again rfl) (by simp) rfl (by simp only; omega) (.inr rfl)
      | exact hC _ _ _ _ _ _ _ (hI.rok (j := jr) (by simp only; omega) _) rfl (w2 jr (by omega)).symm (by simp only; omega) (.inr rfl)
    · refine Eq.mpr (t_pP10_5 (List.getD ns (0 + (Int.toNat (i : Int))) (0)) (List.getD qs (0 + (Int.toNat (i : Int))) (0)) n0 next dnext got (i : Int) on oq 0 0 bad n qn.length rn.length ks ns qs did asked qn qq rn ra (N + 1) M k) ⟨?_⟩
      try simp only [Nat.zero_add, Int.toNat_natCast, f1, f2, f3, f4, r1, r2, hsub, List.length_append, List.length_cons, List.length_nil]
      generalize (ns.getD i 0).toNat % qn.length = jq at *
      generalize (ns.getD i 0).toNat % rn.length = jr at *
      repeat' first
        | refine brE (fun _ => ?_) (fun _ => ?_)
        | refine brN (fun _ => ?_) (fun _ => ?_)
        | refine brD (fun _ => ?_) (fun _ => ?_)
        | refine br (fun _ => ?_) (fun _ => ?_)
        | refine ndN ?_ ?_
        | refine ndD ?_ ?_
      all_goals first
      | omega
      | exact ⟨trivial, by omega⟩
      | (simp only [true_and]; omega)
      | exact hC _ _ _ _ _ _ _ hI.later rfl rfl (by simp only; omega) (.inr rfl)
      | (exfalso; omega)
      | exact hC _ _ _ _ _ _ _ (hI.qwo (j := jq) (by simp only; omega)) (w1 jq (by omega)).symm rfl (by simp only; omega) (.inr rfl)
      | exact hC _ _ _ _ _ _ _ (hI.qdup (j := jq) (by simp only; omega)) (by simp) rfl (by simp only; omega) (.inr rfl)
      | exact hC _ _ _ _ _ _ _ (hI.rwo (j := jr) (by simp only; omega)) rfl (w2 jr (by omega)).symm (by simp only; omega) (.inr rfl)
      | exact hC _ _ _ _ _ _ _ (hI.rdup _ _) rfl (by simp) (by simp only; omega) (.inr rfl)
      | exact hC _ _ _ _ _ _ _ (hI.qnew (by omega) (j := jq) (by simp only; omega) (by assumption) (some (_, _)) _ _) (w1 jq (by omega)).symm (by simp) (by simp) (.inl rfl)
      | exact hC _ _ _ _ _ _ _ (hI.again rfl) (by simp) rfl (by simp only; omega) (.inr rfl)
      | exact hC _ _ _ _ _ _ _ (hI.rok (j := jr) (by simp only; omega) _) rfl (w2 jr (by omega)).symm (by simp only; omega) (.inr rfl)
    · refine Eq.mpr (t_pP10_6 (List.getD ns (0 + (Int.toNat (i : Int))) (0)) (List.getD qs (0 + (Int.toNat (i : Int))) (0)) n0 next dnext got (i : Int) on oq 0 0 bad n qn.length rn.length ks ns qs did asked qn qq rn ra (N + 1) M k) ⟨?_⟩
      try simp only [Nat.zero_add, Int.toNat_natCast, f1, f2, f3, f4, r1, r2, hsub, List.length_append, List.length_cons, List.length_nil]
      generalize (ns.getD i 0).toNat % qn.length = jq at *
      generalize (ns.getD i 0).toNat % rn.length = jr at *
      repeat' first
        | refine brE (fun _ => ?_) (fun _ => ?_)
        | refine brN (fun _ => ?_) (fun _ => ?_)
        | refine brD (fun _ => ?_) (fun _ => ?_)
        | refine br (fun _ => ?_) (fun _ => ?_)
        | refine ndN ?_ ?_
        | refine ndD ?_ ?_
      all_goals first
      | omega
      | exact ⟨trivial, by omega⟩
      | (simp only [true_and]; omega)
      | exact hC _ _ _ _ _ _ _ hI.later rfl rfl (by simp only; omega) (.inr rfl)
      | (exfalso; omega)
      | exact hC _ _ _ _ _ _ _ (hI.qwo (j := jq) (by simp only; omega)) (w1 jq (by omega)).symm rfl (by simp only; omega) (.inr rfl)
      | exact hC _ _ _ _ _ _ _ (hI.qdup (j := jq) (by simp only; omega)) (by simp) rfl (by simp only; omega) (.inr rfl)
      | exact hC _ _ _ _ _ _ _ (hI.rwo (j := jr) (by simp only; omega)) rfl (w2 jr (by omega)).symm (by simp only; omega) (.inr rfl)
      | exact hC _ _ _ _ _ _ _ (hI.rdup _ _) rfl (by simp) (by simp only; omega) (.inr rfl)
      | exact hC _ _ _ _ _ _ _ (hI.qnew (by omega) (j := jq) (by simp only; omega) (by assumption) (some (_, _)) _ _) (w1 jq (by omega)).symm (by simp) (by simp) (.inl rfl)
      | exact hC _ _ _ _ _ _ _ (hI.again rfl) (by simp) rfl (by simp only; omega) (.inr rfl)
      | exact hC _ _ _ _ _ _ _ (hI.rok (j := jr) (by simp only; omega) _) rfl (w2 jr (by omega)).symm (by simp only; omega) (.inr rfl)
    · refine Eq.mpr (t_pP10_7 (List.getD ns (0 + (Int.toNat (i : Int))) (0)) (List.getD qs (0 + (Int.toNat (i : Int))) (0)) n0 next dnext got (i : Int) on oq 0 0 bad n qn.length rn.length ks ns qs did asked qn qq rn ra (N + 1) M k) ⟨?_⟩
      try simp only [Nat.zero_add, Int.toNat_natCast, f1, f2, f3, f4, r1, r2, hsub, List.length_append, List.length_cons, List.length_nil]
      generalize (ns.getD i 0).toNat % qn.length = jq at *
      generalize (ns.getD i 0).toNat % rn.length = jr at *
      repeat' first
        | refine brE (fun _ => ?_) (fun _ => ?_)
        | refine brN (fun _ => ?_) (fun _ => ?_)
        | refine brD (fun _ => ?_) (fun _ => ?_)
        | refine br (fun _ => ?_) (fun _ => ?_)
        | refine ndN ?_ ?_
        | refine ndD ?_ ?_
      all_goals first
      | omega
      | exact ⟨trivial, by omega⟩
      | (simp only [true_and]; omega)
      | exact hC _ _ _ _ _ _ _ hI.later rfl rfl (by simp only; omega) (.inr rfl)
      | (exfalso; omega)
      | exact hC _ _ _ _ _ _ _ (hI.qwo (j := jq) (by simp only; omega)) (w1 jq (by omega)).symm rfl (by simp only; omega) (.inr rfl)
      | exact hC _ _ _ _ _ _ _ (hI.qdup (j := jq) (by simp only; omega)) (by simp) rfl (by simp only; omega) (.inr rfl)
      | exact hC _ _ _ _ _ _ _ (hI.rwo (j := jr) (by simp only; omega)) rfl (w2 jr (by omega)).symm (by simp only; omega) (.inr rfl)
      | exact hC _ _ _ _ _ _ _ (hI.rdup _ _) rfl (by simp) (by simp only; omega) (.inr rfl)
      | exact hC _ _ _ _ _ _ _ (hI.qnew (by omega) (j := jq) (by simp only; omega) (by assumption) (some (_, _)) _ _) (w1 jq (by omega)).symm (by simp) (by simp) (.inl rfl)
      | exact hC _ _ _ _ _ _ _ (hI.again rfl) (by simp) rfl (by simp only; omega) (.inr rfl)
      | exact hC _ _ _ _ _ _ _ (hI.rok (j := jr) (by simp only; omega) _) rfl (w2 jr (by omega)).symm (by simp only; omega) (.inr rfl)
    · refine Eq.mpr (t_pP10_8 (List.getD ns (0 + (Int.toNat (i : Int))) (0)) (List.getD qs (0 + (Int.toNat (i : Int))) (0)) n0 next dnext got (i : Int) on oq 0 0 bad n qn.length rn.length ks ns qs did asked qn qq rn ra k8 (N + 1) M k) ⟨?_⟩
      try simp only [Nat.zero_add, Int.toNat_natCast, f1, f2, f3, f4, r1, r2, hsub, List.length_append, List.length_cons, List.length_nil]
      generalize (ns.getD i 0).toNat % qn.length = jq at *
      generalize (ns.getD i 0).toNat % rn.length = jr at *
      repeat' first
        | refine brE (fun _ => ?_) (fun _ => ?_)
        | refine brN (fun _ => ?_) (fun _ => ?_)
        | refine brD (fun _ => ?_) (fun _ => ?_)
        | refine br (fun _ => ?_) (fun _ => ?_)
        | refine ndN ?_ ?_
        | refine ndD ?_ ?_
      all_goals first
      | omega
      | exact ⟨trivial, by omega⟩
      | (simp only [true_and]; omega)
      | exact hC _ _ _ _ _ _ _ hI.later rfl rfl (by simp only; omega) (.inr rfl)
      | (exfalso; omega)
      | exact hC _ _ _ _ _ _ _ (hI.qwo (j := jq) (by simp only; omega)) (w1 jq (by omega)).symm rfl (by simp only; omega) (.inr rfl)
      | exact hC _ _ _ _ _ _ _ (hI.qdup (j := jq) (by simp only; omega)) (by simp) rfl (by simp only; omega) (.inr rfl)
      | exact hC _ _ _ _ _ _ _ (hI.rwo (j := jr) (by simp only; omega)) rfl (w2 jr (by omega)).symm (by simp only; omega) (.inr rfl)
      | exact hC _ _ _ _ _ _ _ (hI.rdup _ _) rfl (by simp) (by simp only; omega) (.inr rfl)
      | exact hC _ _ _ _ _ _ _ (hI.qnew (by omega) (j := jq) (by simp only; omega) (by assumption) (some (_, _)) _ _) (w1 jq (by omega)).symm (by simp) (by simp) (.inl rfl)
      | exact hC _ _ _ _ _ _ _ (hI.again rfl) (by simp) rfl (by simp only; omega) (.inr rfl)
      | exact hC _ _ _ _ _ _ _ (hI.rok (j := jr) (by simp only; omega) _) rfl (w2 jr (by omega)).symm (by simp only; omega) (.inr rfl)
  · have hnx := hI.next
    have hdn := hI.dnext
    simp only at hnx hdn
    have e0 := numAt_zero hI.n0in
    have e1 : subK .u32 next n0 = IntKind.wrap .u32 ((asked.length : Nat) : Int) := by
      rw [hnx, ← e0, e0]
      have := numAt_diff (n0 := n0) (i := asked.length) (by omega)
      rw [e0] at this
      rw [this, IntKind.wrap_u32]; omega
    have e2 : subK .u32 dnext n0 = IntKind.wrap .u32 ((did.length : Nat) : Int) := by
      rw [hdn]
      have := numAt_diff (n0 := n0) (i := did.length) (by omega)
      rw [e0] at this
      rw [this, IntKind.wrap_u32]; omega
    exact brE (fun _ => brE (fun _ => hK) (fun h => absurd e2 h)) (fun h => absurd e1 h)
theorem in_D10 {n0 : Int} {c M n i : Nat} {bad : Bool} {ks ns qs : List Int} {next dnext on oq got : Int} {did asked qn qq rn ra : List Int} {k : SV → St → Prop} (hI : InvD n0 c ⟨next, dnext, (some (on, oq)), none, did, asked, got, qn, qq, rn, ra⟩) (hc : c ≤ 301) (hi : i ≤ 300) {N : Nat} (hH : HeadP N M n n0 ((i + 1 : Nat) : Int) (argT n ks ns qs) bad ⟨next, dnext, (some (on, oq)), none, did, asked, got, qn, qq, rn, ra⟩ qn.length rn.length k) :
    ∀ (r L j : Nat), j + r = did.length → InP (L + r + 1) (N + 1) M n n0 (i : Int) (j : Int) (argT n ks ns qs) bad ⟨next, dnext, (some (on, oq)), none, did, asked, got, qn, qq, rn, ra⟩ qn.length rn.length k
  | 0, L, j, e => by
    refine Eq.mpr (t_pC10 n0 next dnext got (i : Int) on oq 0 0 bad n qn.length rn.length ks ns qs did asked qn qq rn ra (j : Int) (L + 1) (N + 1) M k) ⟨?_⟩
    refine brD (fun h => by omega) (fun _ => ?_)
    have e2 : addK .i64 (i : Int) 1 = ((i + 1 : Nat) : Int) := by rw [addK_eq, i64_small (by omega)]; omega
    rw [e2]
    exact hH
  | r + 1, L, j, e => by
    have hle : did.length ≤ asked.length := hI.le
    have ham : asked.length ≤ c := hI.am
    have hdid : did = asked.take did.length := hI.did
    refine Eq.mpr (t_pC10 n0 next dnext got (i : Int) on oq 0 0 bad n qn.length rn.length ks ns qs did asked qn qq rn ra (j : Int) (L + (r + 1) + 1) (N + 1) M k) ⟨?_⟩
    have e1 : did.getD j 0 = asked.getD j 0 := by
      rw [hdid, List.getD_eq_getElem?_getD, List.getElem?_take, if_pos (by omega), List.getD_eq_getElem?_getD]
    have e2 : addK .i64 (j : Int) 1 = ((j + 1 : Nat) : Int) := by rw [addK_eq, i64_small (by omega)]; omega
    have e3 : Int.toNat (j : Int) = j := Int.toNat_natCast _
    refine brD (fun _ => ?_) (fun h => by omega)
    simp only [e3, Nat.zero_add]
    refine ndD (by omega) (ndD (by omega) (ndD (by omega) (ndD (by omega) (ndD (by omega) (ndD (by omega) ?_)))))
    refine brN (fun h => absurd e1 h) (fun _ => ?_)
    rw [e2]
    have e4 : L + (r + 1) + 1 + 41 = L + r + 1 + 42 := by omega
    rw [e4]
    exact in_D10 hI hc hi hH r L (j + 1) (by omega)
theorem chk_D10 {n0 : Int} {c M n i : Nat} {bad : Bool} {ks ns qs : List Int} {next dnext on oq got : Int} {did asked qn qq rn ra : List Int} {k : SV → St → Prop} (hI : InvD n0 c ⟨next, dnext, (some (on, oq)), none, did, asked, got, qn, qq, rn, ra⟩) (hc : c ≤ 301) (hi : i ≤ 300) {N w : Nat} {xk xn xq : Int} (hN : 310 ≤ N) (hw2 : w ≤ 1000) (hw : did.length ≤ w + 1) (hx : xk = 2 ∨ did.length = w) (hH : HeadP N M n n0 ((i + 1 : Nat) : Int) (argT n ks ns qs) bad ⟨next, dnext, (some (on, oq)), none, did, asked, got, qn, qq, rn, ra⟩ qn.length rn.length k) :
    CutP (N + 1) M n n0 (i : Int) (w : Int) (argT n ks ns qs) bad xk xn xq ⟨next, dnext, (some (on, oq)), none, did, asked, got, qn, qq, rn, ra⟩ qn.length rn.length k := by
  have hle : did.length ≤ asked.length := hI.le
  have ham : asked.length ≤ c := hI.am
  have hIn : InP (N + 1) (N + 1) M n n0 (i : Int) 0 (argT n ks ns qs) bad ⟨next, dnext, (some (on, oq)), none, did, asked, got, qn, qq, rn, ra⟩ qn.length rn.length k := by
    have h := in_D10 hI hc hi hH did.length (N - did.length) 0 (by omega)
    have e3 : N - did.length + did.length + 1 = N + 1 := by omega
    rw [e3] at h
    exact h
  refine Eq.mpr (t_pB10 xk xn xq (w : Int) n0 next dnext got (i : Int) on oq 0 0 bad n qn.length rn.length ks ns qs did asked qn qq rn ra (N + 1) M k) ⟨?_⟩
  have e2 : addK .i64 (w : Int) 1 = ((w + 1 : Nat) : Int) := by rw [addK_eq, i64_small (by omega)]; omega
  rw [e2]
  repeat' first
    | exact hIn
    | (exfalso; omega)
    | refine brE (fun _ => ?_) (fun _ => ?_)
    | refine brN (fun _ => ?_) (fun _ => ?_)
    | refine brD (fun _ => ?_) (fun _ => ?_)

theorem step_D01 {n0 : Int} {c M n i : Nat} {bad : Bool} {ks ns qs : List Int} {next dnext kn ka got : Int} {did asked qn qq rn ra : List Int} {k : SV → St → Prop} (hI : InvD n0 c ⟨next, dnext, none, (some (kn, ka)), did, asked, got, qn, qq, rn, ra⟩) {N : Nat} (hc : c ≤ 300) (hin : i ≤ n) (hn : n ≤ 300) (hks : ∀ j, 0 ≤ ks.getD j 0) (hns : ∀ j, 0 ≤ ns.getD j 0 ∧ ns.getD j 0 ≤ 65535)
    (hC : i < n → ∀ (s' : Tw) (m p : Nat) (bad' : Bool) (xk xn xq : Int), InvD n0 (c + 1) s' → m = s'.qn.length → p = s'.rn.length → s'.did.length ≤ did.length + 1 → (xk = 2 ∨ s'.did.length = did.length) → CutP (N + 1) M n n0 i (did.length : Int) (argT n ks ns qs) bad' xk xn xq s' m p k)
    (hH : i < n → ∀ s' : Tw, InvD n0 (c + 1) s' → HeadP N M n n0 ((i + 1 : Nat) : Int) (argT n ks ns qs) bad s' s'.qn.length s'.rn.length k)
    (hK : k (.sa (.one (bv true))) [argT n ks ns qs]) : HeadP (N + 1) M n n0 i (argT n ks ns qs) bad ⟨next, dnext, none, (some (kn, ka)), did, asked, got, qn, qq, rn, ra⟩ qn.length rn.length k := by
  have hq := hI.q.1
  have hr := hI.r
  have ham := hI.am
  have hqm := hI.qm
  have hrm := hI.rm
  have hle := hI.le
  simp only at hq hr ham hqm hrm hle
  have hjq := mod_or (ns.getD i 0).toNat qn.length
  have hjr := mod_or (ns.getD i 0).toNat rn.length
  have f1 : fitL 0 qn.length qn = qn := fitL_id _ _ _ rfl
  have f2 : fitL 0 qn.length qq = qq := fitL_id _ _ _ hq
  have f3 : fitL 0 rn.length rn = rn := fitL_id _ _ _ rfl
  have f4 : fitL 0 rn.length ra = ra := fitL_id _ _ _ hr
  have r1 := remK_nat (hns i) qn.length
  have r2 := remK_nat (hns i) rn.length
  have w1 : ∀ j, j < qn.length → (woL j qn).length = qn.length - 1 := fun j h => woL_len h
  have w2 : ∀ j, j < rn.length → (woL j rn).length = rn.length - 1 := fun j h => woL_len h
  refine Eq.mpr (t_pA01 n0 next dnext got (i : Int) 0 0 kn ka bad n qn.length rn.length ks ns qs did asked qn qq rn ra (N + 1) M k) ⟨?_⟩
  refine brD (fun hlt => ?_) (fun hge => ?_)
  · have hC := hC (by omega)
    have hH := hH (by omega)
    refine ndD (by omega) (ndD (by omega) (ndD (by omega) ?_))
    refine brE (fun _ => ?_) (fun h8 => ?_)
    · have e2 : addK .i64 (i : Int) 1 = ((i + 1 : Nat) : Int) := by rw [addK_eq, i64_small (by omega)]; omega
      rw [e2]
      exact hH _ hI.drop
    have hk := kinds9 (x := List.getD ks (0 + (Int.toNat (i : Int))) 0) (hks _) h8
    rcases hk with e | e | e | e | e | e | e | e | ⟨k8, e⟩ <;> rw [e]
    · refine Eq.mpr (t_pP01_0 (List.getD ns (0 + (Int.toNat (i : Int))) (0)) (List.getD qs (0 + (Int.toNat (i : Int))) (0)) n0 next dnext got (i : Int) 0 0 kn ka bad n qn.length rn.length ks ns qs did asked qn qq rn ra (N + 1) M k) ⟨?_⟩
      try simp only [Nat.zero_add, Int.toNat_natCast, f1, f2, f3, f4, r1, r2, List.length_append, List.length_cons, List.length_nil]
      generalize (ns.getD i 0).toNat % qn.length = jq at *
      generalize (ns.getD i 0).toNat % rn.length = jr at *
      repeat' first
        | refine brE (fun _ => ?_) (fun _ => ?_)
        | refine brN (fun _ => ?_) (fun _ => ?_)
        | refine brD (fun _ => ?_) (fun _ => ?_)
        | refine br (fun _ => ?_) (fun _ => ?_)
        | refine ndN ?_ ?_
        | refine ndD ?_ ?_
      all_goals first
      | omega
      | exact ⟨trivial, by omega⟩
      | (simp only [true_and]; omega)
      | exact hC _ _ _ _ _ _ _ hI.later rfl rfl (by simp only; omega) (.inr rfl)
      | (exfalso; omega)
      | exact hC _ _ _ _ _ _ _ (hI.qwo (j := jq) (by simp only; omega)) (w1 jq (by omega)).symm rfl (by simp only; omega) (.inr rfl)
      | exact hC _ _ _ _ _ _ _ (hI.qdup (j := jq) (by simp only; omega)) (by simp) rfl (by simp only; omega) (.inr rfl)
      | exact hC _ _ _ _ _ _ _ (hI.rwo (j := jr) (by simp only; omega)) rfl (w2 jr (by omega)).symm (by simp only; omega) (.inr rfl)
      | exact hC _ _ _ _ _ _ _ (hI.rdup _ _) rfl (by simp) (by simp only; omega) (.inr rfl)
      | exact hC _ _ _ _ _ _ _ (hI.qnew (by omega) (j := jq) (by simp only; omega) (by assumption) (some (_, _)) _ _) (w1 jq (by omega)).symm (by simp) (by simp) (.inl rfl)
      | exact hC _ _ _ _ _ _ _ (hI.ask _) (by simp) rfl (by simp only; omega) (by first | exact .inl rfl | exact .inr rfl)
      | exact hC _ _ _ _ _ _ _ (hI.qold (j := jq) (by simp only; omega) _ _) (w1 jq (by omega)).symm (by simp) (by simp only; omega) (.inr rfl)
    · refine Eq.mpr (t_pP01_1 (List.getD ns (0 + (Int.toNat (i : Int))) (0)) (List.getD qs (0 + (Int.toNat (i : Int))) (0)) n0 next dnext got (i : Int) 0 0 kn ka bad n qn.length rn.length ks ns qs did asked qn qq rn ra (N + 1) M k) ⟨?_⟩
      try simp only [Nat.zero_add, Int.toNat_natCast, f1, f2, f3, f4, r1, r2, List.length_append, List.length_cons, List.length_nil]
      generalize (ns.getD i 0).toNat % qn.length = jq at *
      generalize (ns.getD i 0).toNat % rn.length = jr at *
      repeat' first
        | refine brE (fun _ => ?_) (fun _ => ?_)
        | refine brN (fun _ => ?_) (fun _ => ?_)
        | refine brD (fun _ => ?_) (fun _ => ?_)
        | refine br (fun _ => ?_) (fun _ => ?_)
        | refine ndN ?_ ?_
        | refine ndD ?_ ?_
      all_goals first
      | omega
      | exact ⟨trivial, by omega⟩
      | (simp only [true_and]; omega)
      | exact hC _ _ _ _ _ _ _ hI.later rfl rfl (by simp only; omega) (.inr rfl)
      | (exfalso; omega)
      | exact hC _ _ _ _ _ _ _ (hI.qwo (j := jq) (by simp only; omega)) (w1 jq (by omega)).symm rfl (by simp only; omega) (.inr rfl)
      | exact hC _ _ _ _ _ _ _ (hI.qdup (j := jq) (by simp only; omega)) (by simp) rfl (by simp only; omega) (.inr rfl)
      | exact hC _ _ _ _ _ _ _ (hI.rwo (j := jr) (by simp only; omega)) rfl (w2 jr (by omega)).symm (by simp only; omega) (.inr rfl)
      | exact hC _ _ _ _ _ _ _ (hI.rdup _ _) rfl (by simp) (by simp only; omega) (.inr rfl)
      | exact hC _ _ _ _ _ _ _ (hI.qnew (by omega) (j := jq) (by simp only; omega) (by assumption) (some (_, _)) _ _) (w1 jq (by omega)).symm (by simp) (by simp) (.inl rfl)
      | exact hC _ _ _ _ _ _ _ (hI.ask _) (by simp) rfl (by simp only; omega) (by first | exact .inl rfl | exact .inr rfl)
      | exact hC _ _ _ _ _ _ _ (hI.qold (j := jq) (by simp only; omega) _ _) (w1 jq (by omega)).symm (by simp) (by simp only; omega) (.inr rfl)
    · refine Eq.mpr (t_pP01_2 (List.getD ns (0 + (Int.toNat (i : Int))) (0)) (List.getD qs (0 + (Int.toNat (i : Int))) (0)) n0 next dnext got (i : Int) 0 0 kn ka bad n qn.length rn.length ks ns qs did asked qn qq rn ra (N + 1) M k) ⟨?_⟩
      try simp only [Nat.zero_add, Int.toNat_natCast, f1, f2, f3, f4, r1, r2, List.length_append, List.length_cons, List.length_nil]
      generalize (ns.getD i 0).toNat % qn.length = jq at *
      generalize (ns.getD i 0).toNat % rn.length = jr at *
      repeat' first
        | refine brE (fun _ => ?_) (fun _ => ?_)
        | refine brN (fun _ => ?_) (fun _ => ?_)
        | refine brD (fun _ => ?_) (fun _ => ?_)
        | refine br (fun _ => ?_) (fun _ => ?_)
        | refine ndN ?_ ?_
        | refine ndD ?_ ?_
      all_goals first
      | omega
      | exact ⟨trivial, by omega⟩
      | (simp only [true_and]; omega)
      | exact hC _ _ _ _ _ _ _ hI.later rfl rfl (by simp only; omega) (.inr rfl)
      | (exfalso; omega)
      | exact hC _ _ _ _ _ _ _ (hI.qwo (j := jq) (by simp only; omega)) (w1 jq (by omega)).symm rfl (by simp only; omega) (.inr rfl)
      | exact hC _ _ _ _ _ _ _ (hI.qdup (j := jq) (by simp only; omega)) (by simp) rfl (by simp only; omega) (.inr rfl)
      | exact hC _ _ _ _ _ _ _ (hI.rwo (j := jr) (by simp only; omega)) rfl (w2 jr (by omega)).symm (by simp only; omega) (.inr rfl)
      | exact hC _ _ _ _ _ _ _ (hI.rdup _ _) rfl (by simp) (by simp only; omega) (.inr rfl)
      | exact hC _ _ _ _ _ _ _ (hI.qnew (by omega) (j := jq) (by simp only; omega) (by assumption) (some (_, _)) _ _) (w1 jq (by omega)).symm (by simp) (by simp) (.inl rfl)
      | exact hC _ _ _ _ _ _ _ (hI.ask _) (by simp) rfl (by simp only; omega) (by first | exact .inl rfl | exact .inr rfl)
      | exact hC _ _ _ _ _ _ _ (hI.qold (j := jq) (by simp only; omega) _ _) (w1 jq (by omega)).symm (by simp) (by simp only; omega) (.inr rfl)
    · refine Eq.mpr (t_pP01_3 (List.getD ns (0 + (Int.toNat (i : Int))) (0)) (List.getD qs (0 + (Int.toNat (i : Int))) (0)) n0 next dnext got (i : Int) 0 0 kn ka bad n qn.length rn.length ks ns qs did asked qn qq rn ra (N + 1) M k) ⟨?_⟩
      try simp only [Nat.zero_add, Int.toNat_natCast, f1, f2, f3, f4, r1, r2, List.length_append, List.length_cons, List.length_nil]
      generalize (ns.getD i 0).toNat % qn.length = jq at *
      generalize (ns.getD i 0).toNat % rn.length = jr at *
      repeat' first
        | refine brE (fun _ => ?_) (fun _ => ?_)
        | refine brN (fun _ => ?_) (fun _ => ?_)
        | refine brD (fun _ => ?_) (fun _ => ?_)
        | refine br (fun _ => ?_) (fun _ => ?_)
        | refine ndN ?_ ?_
        | refine ndD ?_ ?_
      all_goals first
      | omega
      | exact ⟨trivial, by omega⟩
      | (simp only [true_and]; omega)
      | exact hC _ _ _ _ _ _ _ hI.later rfl rfl (by simp only; omega) (.inr rfl)
      | (exfalso; omega)
      | exact hC _ _ _ _ _ _ _ (hI.qwo (j := jq) (by simp only; omega)) (w1 jq (by omega)).symm rfl (by simp only; omega) (.inr rfl)
      | exact hC _ _ _ _ _ _ _ (hI.qdup (j := jq) (by simp only; omega)) (by simp) rfl (by simp only; omega) (.inr rfl)
      | exact hC _ _ _ _ _ _ _ (hI.rwo (j := jr) (by simp only; omega)) rfl (w2 jr (by omega)).symm (by simp only; omega) (.inr rfl)
      | exact hC _ _ _ _ _ _ _ (hI.rdup _ _) rfl (by simp) (by simp only; omega) (.inr rfl)
      | exact hC _ _ _ _ _ _ _ (hI.qnew (by omega) (j := jq) (by simp only; omega) (by assumption) (some (_, _)) _ _) (w1 jq (by omega)).symm (by simp) (by simp) (.inl rfl)
      | exact hC _ _ _ _ _ _ _ (hI.ask _) (by simp) rfl (by simp only; omega) (by first | exact .inl rfl | exact .inr rfl)
      | exact hC _ _ _ _ _ _ _ (hI.qold (j := jq) (by simp only; omega) _ _) (w1 jq (by omega)).symm (by simp) (by simp only; omega) (.inr rfl)
    · refine Eq.mpr (t_pP01_4 (List.getD ns (0 + (Int.toNat (i : Int))) (0)) (List.getD qs (0 + (Int.toNat (i : Int))) (0)) n0 next dnext got (i : Int) 0 0 kn ka bad n qn.length rn.length ks ns qs did asked qn qq rn ra (N + 1) M k) ⟨?_⟩
      try simp only [Nat.zero_add, Int.toNat_natCast, f1, f2, f3, f4, r1, r2, List.length_append, List.length_cons, List.length_nil]
      generalize (ns.getD i 0).toNat % qn.length = jq at *
      generalize (ns.getD i 0).toNat % rn.length = jr at *
      repeat' first
        | refine brE (fun _ => ?_) (fun _ => ?_)
        | refine brN (fun _ => ?_) (fun _ => ?_)
        | refine brD (fun _ => ?_) (fun _ => ?_)
        | refine br (fun _ => ?_) (fun _ => ?_)
        | refine ndN ?_ ?_
        | refine ndD ?_ ?_
      all_goals first
      | omega
      | exact ⟨trivial, by omega⟩
      | (simp only [true_and]; omega)
      | exact hC _ _ _ _ _ _ _ hI.later rfl rfl (by simp only; omega) (.inr rfl)
      | (exfalso; omega)
      | exact hC _ _ _ _ _ _ _ (hI.qwo (j := jq) (by simp only; omega)) (w1 jq (by omega)).symm rfl (by simp only; omega) (.inr rfl)
      | exact hC _ _ _ _ _ _ _ (hI.qdup (j := jq) (by simp only; omega)) (by simp) rfl (by simp only; omega) (.inr rfl)
      | exact hC _ _ _ _ _ _ _ (hI.rwo (j := jr) (by simp only; omega)) rfl (w2 jr (by omega)).symm (by simp only; omega) (.inr rfl)
      | exact hC _ _ _ _ _ _ _ (hI.rdup _ _) rfl (by simp) (by simp only; omega) (.inr rfl)
      | exact hC _ _ _ _ _ _ _ (hI.qnew (by omega) (j := jq) (by simp only; omega) (by assumption) (some (_, _)) _ _) (w1 jq (by omega)).symm (by simp) (by simp) (.inl rfl)
      | exact hC _ _ _ _ _ _ _ (hI.ask _) (by simp) rfl (by simp only; omega) (by first | exact .inl rfl | exact .inr rfl)
      | exact hC _ _ _ _ _ _ _ (hI.qold (j := jq) (by simp only; omega) _ _) (w1 jq (by omega)).symm (by simp) (by simp only; omega) (.inr rfl)
    · refine Eq.mpr (t_pP01_5 (List.getD ns (0 + (Int.toNat (i : Int))) (0)) (List.getD qs (0 + (Int.toNat (i : Int))) (0)) n0 next dnext got (i : Int) 0 0 kn ka bad n qn.length rn.length ks ns qs did asked qn qq rn ra (N + 1) M k) ⟨?_⟩
      try simp only [Nat.zero_add, Int.toNat_natCast, f1, f2, f3, f4, r1, r2, List.length_append, List.length_cons, List.length_nil]
      generalize (ns.getD i 0).toNat % qn.length = jq at *
      generalize (ns.getD i 0).toNat % rn.length = jr at *
      repeat' first
        | refine brE (fun _ => ?_) (fun _ => ?_)
        | refine brN (fun _ => ?_) (fun _ => ?_)
        | refine brD (fun _ => ?_) (fun _ => ?_)
        | refine br (fun _ => ?_) (fun _ => ?_)
        | refine ndN ?_ ?_
        | refine ndD ?_ ?_
      all_goals first
      | omega
      | exact ⟨trivial, by omega⟩
      | (simp only [true_and]; omega)
      | exact hC _ _ _ _ _ _ _ hI.later rfl rfl (by simp only; omega) (.inr rfl)
      | (exfalso; omega)
      | exact hC _ _ _ _ _ _ _ (hI.qwo (j := jq) (by simp only; omega)) (w1 jq (by omega)).symm rfl (by simp only; omega) (.inr rfl)
      | exact hC _ _ _ _ _ _ _ (hI.qdup (j := jq) (by simp only; omega)) (by simp) rfl (by simp only; omega) (.inr rfl)
      | exact hC _ _ _ _ _ _ _ (hI.rwo (j := jr) (by simp only; omega)) rfl (w2 jr (by omega)).symm (by simp only; omega) (.inr rfl)
      | exact hC _ _ _ _ _ _ _ (hI.rdup _ _) rfl (by simp) (by simp only; omega) (.inr rfl)
      | exact hC _ _ _ _ _ _ _ (hI.qnew (by omega) (j := jq) (by simp only; omega) (by assumption) (some (_, _)) _ _) (w1 jq (by omega)).symm (by simp) (by simp) (.inl rfl)
      | exact hC _ _ _ _ _ _ _ (hI.ask _) (by simp) rfl (by simp only; omega) (by first | exact .inl rfl | exact .inr rfl)
      | exact hC _ _ _ _ _ _ _ (hI.qold (j := jq) (by simp only; omega) _ _) (w1 jq (by omega)).symm (by simp) (by simp only; omega) (.inr rfl)
    · refine Eq.mpr (t_pP01_6 (List.getD ns (0 + (Int.toNat (i : Int))) (0)) (List.getD qs (0 + (Int.toNat (i : Int))) (0)) n0 next dnext got (i : Int) 0 0 kn ka bad n qn.length rn.length ks ns qs did asked qn qq rn ra (N + 1) M k) ⟨?_⟩
      try simp only [Nat.zero_add, Int.toNat_natCast, f1, f2, f3, f4, r1, r2, List.length_append, List.length_cons, List.length_nil]
      generalize (ns.getD i 0).toNat % qn.length = jq at *
      generalize (ns.getD i 0).toNat % rn.length = jr at *
      repeat' first
        | refine brE (fun _ => ?_) (fun _ => ?_)
        | refine brN (fun _ => ?_) (fun _ => ?_)
        | refine brD (fun _ => ?_) (fun _ => ?_)
        | refine br (fun _ => ?_) (fun _ => ?_)
        | refine ndN ?_ ?_
        | refine ndD ?_ ?_
      all_goals first
      | omega
      | exact ⟨trivial, by omega⟩
      | (simp only [true_and]; omega)
      | exact hC _ _ _ _ _ _ _ hI.later rfl rfl (by simp only; omega) (.inr rfl)
      | (exfalso; omega)
      | exact hC _ _ _ _ _ _ _ (hI.qwo (j := jq) (by simp only; omega)) (w1 jq (by omega)).symm rfl (by simp only; omega) (.inr rfl)
      | exact hC _ _ _ _ _ _ _ (hI.qdup (j := jq) (by simp only; omega)) (by simp) rfl (by simp only; omega) (.inr rfl)
      | exact hC _ _ _ _ _ _ _ (hI.rwo (j := jr) (by simp only; omega)) rfl (w2 jr (by omega)).symm (by simp only; omega) (.inr rfl)
      | exact hC _ _ _ _ _ _ _ (hI.rdup _ _) rfl (by simp) (by simp only; omega) (.inr rfl)
      | exact hC _ _ _ _ _ _ _ (hI.qnew (by omega) (j := jq) (by simp only; omega) (by assumption) (some (_, _)) _ _) (w1 jq (by omega)).symm (by simp) (by simp) (.inl rfl)
      | exact hC _ _ _ _ _ _ _ (hI.ask _) (by simp) rfl (by simp only; omega) (by first | exact .inl rfl | exact .inr rfl)
      | exact hC _ _ _ _ _ _ _ (hI.qold (j := jq) (by simp only; omega) _ _) (w1 jq (by omega)).symm (by simp) (by simp only; omega) (.inr rfl)
    · refine Eq.mpr (t_pP01_7 (List.getD ns (0 + (Int.toNat (i : Int))) (0)) (List.getD qs (0 + (Int.toNat (i : Int))) (0)) n0 next dnext got (i : Int) 0 0 kn ka bad n qn.length rn.length ks ns qs did asked qn qq rn ra (N + 1) M k) ⟨?_⟩
      try simp only [Nat.zero_add, Int.toNat_natCast, f1, f2, f3, f4, r1, r2, List.length_append, List.length_cons, List.length_nil]
      generalize (ns.getD i 0).toNat % qn.length = jq at *
      generalize (ns.getD i 0).toNat % rn.length = jr at *
      repeat' first
        | refine brE (fun _ => ?_) (fun _ => ?_)
        | refine brN (fun _ => ?_) (fun _ => ?_)
        | refine brD (fun _ => ?_) (fun _ => ?_)
        | refine br (fun _ => ?_) (fun _ => ?_)
        | refine ndN ?_ ?_
        | refine ndD ?_ ?_
      all_goals first
      | omega
      | exact ⟨trivial, by omega⟩
      | (simp only [true_and]; omega)
      | exact hC _ _ _ _ _ _ _ hI.later rfl rfl (by simp only; omega) (.inr rfl)
      | (exfalso; omega)
      | exact hC _ _ _ _ _ _ _ (hI.qwo (j := jq) (by simp only; omega)) (w1 jq (by omega)).symm rfl (by simp only; omega) (.inr rfl)
      | exact hC _ _ _ _ _ _ _ (hI.qdup (j := jq) (by simp only; omega)) (by simp) rfl (by simp only; omega) (.inr rfl)
      | exact hC _ _ _ _ _ _ _ (hI.rwo (j := jr) (by simp only; omega)) rfl (w2 jr (by omega)).symm (by simp only; omega) (.inr rfl)
      | exact hC _ _ _ _ _ _ _ (hI.rdup _ _) rfl (by simp) (by simp only; omega) (.inr rfl)
      | exact hC _ _ _ _ _ _ _ (hI.qnew (by omega) (j := jq) (by simp only; omega) (by assumption) (some (_, _)) _ _) (w1 jq (by omega)).symm (by simp) (by simp) (.inl rfl)
      | exact hC _ _ _ _ _ _ _ (hI.ask _) (by simp) rfl (by simp only; omega) (by first | exact .inl rfl | exact .inr rfl)
      | exact hC _ _ _ _ _ _ _ (hI.qold (j := jq) (by simp only; omega) _ _) (w1 jq (by omega)).symm (by simp) (by simp only; omega) (.inr rfl)
    · refine Eq.mpr (t_pP01_8 (List.getD ns (0 + (Int.toNat (i : Int))) (0)) (List.getD qs (0 + (Int.toNat (i : Int))) (0)) n0 next dnext got (i : Int) 0 0 kn ka bad n qn.length rn.length ks ns qs did asked qn qq rn ra k8 (N + 1) M k) ⟨?_⟩
      try simp only [Nat.zero_add, Int.toNat_natCast, f1, f2, f3, f4, r1, r2, List.length_append, List.length_cons, List.length_nil]
      generalize (ns.getD i 0).toNat % qn.length = jq at *
      generalize (ns.getD i 0).toNat % rn.length = jr at *
      repeat' first
        | refine brE (fun _ => ?_) (fun _ => ?_)
        | refine brN (fun _ => ?_) (fun _ => ?_)
        | refine brD (fun _ => ?_) (fun _ => ?_)
        | refine br (fun _ => ?_) (fun _ => ?_)
        | refine ndN ?_ ?_
        | refine ndD ?_ ?_
      all_goals first
      | omega
      | exact ⟨trivial, by omega⟩
      | (simp only [true_and]; omega)
      | exact hC _ _ _ _ _ _ _ hI.later rfl rfl (by simp only; omega) (.inr rfl)
      | (exfalso; omega)
      | exact hC _ _ _ _ _ _ _ (hI.qwo (j := jq) (by simp only; omega)) (w1 jq (by omega)).symm rfl (by simp only; omega) (.inr rfl)
      | exact hC _ _ _ _ _ _ _ (hI.qdup (j := jq) (by simp only; omega)) (by simp) rfl (by simp only; omega) (.inr rfl)
      | exact hC _ _ _ _ _ _ _ (hI.rwo (j := jr) (by simp only; omega)) rfl (w2 jr (by omega)).symm (by simp only; omega) (.inr rfl)
      | exact hC _ _ _ _ _ _ _ (hI.rdup _ _) rfl (by simp) (by simp only; omega) (.inr rfl)
      | exact hC _ _ _ _ _ _ _ (hI.qnew (by omega) (j := jq) (by simp only; omega) (by assumption) (some (_, _)) _ _) (w1 jq (by omega)).symm (by simp) (by simp) (.inl rfl)
      | exact hC _ _ _ _ _ _ _ (hI.ask _) (by simp) rfl (by simp only; omega) (by first | exact .inl rfl | exact .inr rfl)
      | exact hC _ _ _ _ _ _ _ (hI.qold (j := jq) (by simp only; omega) _ _) (w1 jq (by omega)).symm (by simp) (by simp only; omega) (.inr rfl)
  · have hnx := hI.next
    have hdn := hI.dnext
    simp only at hnx hdn
    have e0 := numAt_zero hI.n0in
    have e1 : subK .u32 next n0 = IntKind.wrap .u32 ((asked.length : Nat) : Int) := by
      rw [hnx, ← e0, e0]
      have := numAt_diff (n0 := n0) (i := asked.length) (by omega)
      rw [e0] at this
      rw [this, IntKind.wrap_u32]; omega
    have e2 : subK .u32 dnext n0 = IntKind.wrap .u32 ((did.length : Nat) : Int) := by
      rw [hdn]
      have := numAt_diff (n0 := n0) (i := did.length) (by omega)
      rw [e0] at this
      rw [this, IntKind.wrap_u32]; omega
    exact brE (fun _ => brE (fun _ => hK) (fun h => absurd e2 h)) (fun h => absurd e1 h)
theorem in_D01 {n0 : Int} {c M n i : Nat} {bad : Bool} {ks ns qs : List Int} {next dnext kn ka got : Int} {did asked qn qq rn ra : List Int} {k : SV → St → Prop} (hI : InvD n0 c ⟨next, dnext, none, (some (kn, ka)), did, asked, got, qn, qq, rn, ra⟩) (hc : c ≤ 301) (hi : i ≤ 300) {N : Nat} (hH : HeadP N M n n0 ((i + 1 : Nat) : Int) (argT n ks ns qs) bad ⟨next, dnext, none, (some (kn, ka)), did, asked, got, qn, qq, rn, ra⟩ qn.length rn.length k) :
    ∀ (r L j : Nat), j + r = did.length → InP (L + r + 1) (N + 1) M n n0 (i : Int) (j : Int) (argT n ks ns qs) bad ⟨next, dnext, none, (some (kn, ka)), did, asked, got, qn, qq, rn, ra⟩ qn.length rn.length k
  | 0, L, j, e => by
    refine Eq.mpr (t_pC01 n0 next dnext got (i : Int) 0 0 kn ka bad n qn.length rn.length ks ns qs did asked qn qq rn ra (j : Int) (L + 1) (N + 1) M k) ⟨?_⟩
    refine brD (fun h => by omega) (fun _ => ?_)
    have e2 : addK .i64 (i : Int) 1 = ((i + 1 : Nat) : Int) := by rw [addK_eq, i64_small (by omega)]; omega
    rw [e2]
    exact hH
  | r + 1, L, j, e => by
    have hle : did.length ≤ asked.length := hI.le
    have ham : asked.length ≤ c := hI.am
    have hdid : did = asked.take did.length := hI.did
    refine Eq.mpr (t_pC01 n0 next dnext got (i : Int) 0 0 kn ka bad n qn.length rn.length ks ns qs did asked qn qq rn ra (j : Int) (L + (r + 1) + 1) (N + 1) M k) ⟨?_⟩
    have e1 : did.getD j 0 = asked.getD j 0 := by
      rw [hdid, List.getD_eq_getElem?_getD, List.getElem?_take, if_pos (by omega), List.getD_eq_getElem?_getD]
    have e2 : addK .i64 (j : Int) 1 = ((j + 1 : Nat) : Int) := by rw [addK_eq, i64_small (by omega)]; omega
    have e3 : Int.toNat (j : Int) = j := Int.toNat_natCast _
    refine brD (fun _ => ?_) (fun h => by omega)
    simp only [e3, Nat.zero_add]
    refine ndD (by omega) (ndD (by omega) (ndD (by omega) (ndD (by omega) (ndD (by omega) (ndD (by omega) ?_)))))
    refine brN (fun h => absurd e1 h) (fun _ => ?_)
    rw [e2]
    have e4 : L + (r + 1) + 1 + 41 = L + r + 1 + 42 := by omega
    rw [e4]
    exact in_D01 hI hc hi hH r L (j + 1) (by omega)
theorem chk_D01 {n0 : Int} {c M n i : Nat} {bad : Bool} {ks ns qs : List Int} {next dnext kn ka got : Int} {did asked qn qq rn ra : List Int} {k : SV → St → Prop} (hI : InvD n0 c ⟨next, dnext, none, (some (kn, ka)), did, asked, got, qn, qq, rn, ra⟩) (hc : c ≤ 301) (hi : i ≤ 300) {N w : Nat} {xk xn xq : Int} (hN : 310 ≤ N) (hw2 : w ≤ 1000) (hw : did.length ≤ w + 1) (hx : xk = 2 ∨ did.length = w) (hH : HeadP N M n n0 ((i + 1 : Nat) : Int) (argT n ks ns qs) bad ⟨next, dnext, none, (some (kn, ka)), did, asked, got, qn, qq, rn, ra⟩ qn.length rn.length k) :
    CutP (N + 1) M n n0 (i : Int) (w : Int) (argT n ks ns qs) bad xk xn xq ⟨next, dnext, none, (some (kn, ka)), did, asked, got, qn, qq, rn, ra⟩ qn.length rn.length k := by
  have hle : did.length ≤ asked.length := hI.le
  have ham : asked.length ≤ c := hI.am
  have hIn : InP (N + 1) (N + 1) M n n0 (i : Int) 0 (argT n ks ns qs) bad ⟨next, dnext, none, (some (kn, ka)), did, asked, got, qn, qq, rn, ra⟩ qn.length rn.length k := by
    have h := in_D01 hI hc hi hH did.length (N - did.length) 0 (by omega)
    have e3 : N - did.length + did.length + 1 = N + 1 := by omega
    rw [e3] at h
    exact h
  refine Eq.mpr (t_pB01 xk xn xq (w : Int) n0 next dnext got (i : Int) 0 0 kn ka bad n qn.length rn.length ks ns qs did asked qn qq rn ra (N + 1) M k) ⟨?_⟩
  have e2 : addK .i64 (w : Int) 1 = ((w + 1 : Nat) : Int) := by rw [addK_eq, i64_small (by omega)]; omega
  rw [e2]
  repeat' first
    | exact hIn
    | (exfalso; omega)
    | refine brE (fun _ => ?_) (fun _ => ?_)
    | refine brN (fun _ => ?_) (fun _ => ?_)
    | refine brD (fun _ => ?_) (fun _ => ?_)

theorem step_D11 {n0 : Int} {c M n i : Nat} {bad : Bool} {ks ns qs : List Int} {next dnext on oq kn ka got : Int} {did asked qn qq rn ra : List Int} {k : SV → St → Prop} (hI : InvD n0 c ⟨next, dnext, (some (on, oq)), (some (kn, ka)), did, asked, got, qn, qq, rn, ra⟩) {N : Nat} (hc : c ≤ 300) (hin : i ≤ n) (hn : n ≤ 300) (hks : ∀ j, 0 ≤ ks.getD j 0) (hns : ∀ j, 0 ≤ ns.getD j 0 ∧ ns.getD j 0 ≤ 65535)
    (hC : i < n → ∀ (s' : Tw) (m p : Nat) (bad' : Bool) (xk xn xq : Int), InvD n0 (c + 1) s' → m = s'.qn.length → p = s'.rn.length → s'.did.length ≤ did.length + 1 → (xk = 2 ∨ s'.did.length = did.length) → CutP (N + 1) M n n0 i (did.length : Int) (argT n ks ns qs) bad' xk xn xq s' m p k)
    (hH : i < n → ∀ s' : Tw, InvD n0 (c + 1) s' → HeadP N M n n0 ((i + 1 : Nat) : Int) (argT n ks ns qs) bad s' s'.qn.length s'.rn.length k)
    (hK : k (.sa (.one (bv true))) [argT n ks ns qs]) : HeadP (N + 1) M n n0 i (argT n ks ns qs) bad ⟨next, dnext, (some (on, oq)), (some (kn, ka)), did, asked, got, qn, qq, rn, ra⟩ qn.length rn.length k := by
  have hq := hI.q.1
  have hr := hI.r
  have ham := hI.am
  have hqm := hI.qm
  have hrm := hI.rm
  have hle := hI.le
  simp only at hq hr ham hqm hrm hle
  have hjq := mod_or (ns.getD i 0).toNat qn.length
  have hjr := mod_or (ns.getD i 0).toNat rn.length
  have f1 : fitL 0 qn.length qn = qn := fitL_id _ _ _ rfl
  have f2 : fitL 0 qn.length qq = qq := fitL_id _ _ _ hq
  have f3 : fitL 0 rn.length rn = rn := fitL_id _ _ _ rfl
  have f4 : fitL 0 rn.length ra = ra := fitL_id _ _ _ hr
  have r1 := remK_nat (hns i) qn.length
  have r2 := remK_nat (hns i) rn.length
  have w1 : ∀ j, j < qn.length → (woL j qn).length = qn.length - 1 := fun j h => woL_len h
  have w2 : ∀ j, j < rn.length → (woL j rn).length = rn.length - 1 := fun j h => woL_len h
  have hpos : 0 < asked.length := hI.out.1
  have hsub : subK .i64 ((asked.length : Nat) : Int) 1 = ((asked.length - 1 : Nat) : Int) := by rw [subK_eq, i64_small (by omega)]; omega
  refine Eq.mpr (t_pA11 n0 next dnext got (i : Int) on oq kn ka bad n qn.length rn.length ks ns qs did asked qn qq rn ra (N + 1) M k) ⟨?_⟩
  refine brD (fun hlt => ?_) (fun hge => ?_)
  · have hC := hC (by omega)
    have hH := hH (by omega)
    refine ndD (by omega) (ndD (by omega) (ndD (by omega) ?_))
    refine brE (fun _ => ?_) (fun h8 => ?_)
    · have e2 : addK .i64 (i : Int) 1 = ((i + 1 : Nat) : Int) := by rw [addK_eq, i64_small (by omega)]; omega
      rw [e2]
      exact hH _ hI.drop
    have hk := kinds9 (x := List.getD ks (0 + (Int.toNat (i : Int))) 0) (hks _) h8
    rcases hk with e | e | e | e | e | e | e | e | ⟨k8, e⟩ <;> rw [e]
    · refine Eq.mpr (t_pP11_0 (List.getD ns (0 + (Int.toNat (i : Int))) (0)) (List.getD qs (0 + (Int.toNat (i : Int))) (0)) n0 next dnext got (i : Int) on oq kn ka bad n qn.length rn.length ks ns qs did asked qn qq rn ra (N + 1) M k) ⟨?_⟩
      try simp only [Nat.zero_add, Int.toNat_natCast, f1, f2, f3, f4, r1, r2, hsub, List.length_append, List.length_cons, List.length_nil]
      generalize (ns.getD i 0).toNat % qn.length = jq at *
      generalize (ns.getD i 0).toNat % rn.length = jr at *
      repeat' first
        | refine brE (fun _ => ?_) (fun _ => ?_)
        | refine brN (fun _ => ?_) (fun _ => ?_)
        | refine brD (fun _ => ?_) (fun _ => ?_)
        | refine br (fun _ => ?_) (fun _ => ?_)
        | refine ndN ?_ ?_
        | refine ndD ?_ ?_
      all_goals first
      | omega
      | exact ⟨trivial, by omega⟩
      | (simp only [true_and]; omega)
      | exact hC _ _ _ _ _ _ _ hI.later rfl rfl (by simp only; omega) (.inr rfl)
      | (exfalso; omega)
      | exact hC _ _ _ _ _ _ _ (hI.qwo (j := jq) (by simp only; omega)) (w1 jq (by omega)).symm rfl (by simp only; omega) (.inr rfl)
      | exact hC _ _ _ _ _ _ _ (hI.qdup (j := jq) (by simp only; omega)) (by simp) rfl (by simp only; omega) (.inr rfl)
      | exact hC _ _ _ _ _ _ _ (hI.rwo (j := jr) (by simp only; omega)) rfl (w2 jr (by omega)).symm (by simp only; omega) (.inr rfl)
      | exact hC _ _ _ _ _ _ _ (hI.rdup _ _) rfl (by simp) (by simp only; omega) (.inr rfl)
      | exact hC _ _ _ _ _ _ _ (hI.qnew (by omega) (j := jq) (by simp only; omega) (by assumption) (some (_, _)) _ _) (w1 jq (by omega)).symm (by simp) (by simp) (.inl rfl)
      | exact hC _ _ _ _ _ _ _ (hI.again rfl) (by simp) rfl (by simp only; omega) (.inr rfl)
      | exact hC _ _ _ _ _ _ _ (hI.rok (j := jr) (by simp only; omega) _) rfl (w2 jr (by omega)).symm (by simp only; omega) (.inr rfl)
      | exact hC _ _ _ _ _ _ _ (hI.qold (j := jq) (by simp only; omega) _ _) (w1 jq (by omega)).symm (by simp) (by simp only; omega) (.inr rfl)
    · refine Eq.mpr (t_pP11_1 (List.getD ns (0 + (Int.toNat (i : Int))) (0)) (List.getD qs (0 + (Int.toNat (i : Int))) (0)) n0 next dnext got (i : Int) on oq kn ka bad n qn.length rn.length ks ns qs did asked qn qq rn ra (N + 1) M k) ⟨?_⟩
      try simp only [Nat.zero_add, Int.toNat_natCast, f1, f2, f3, f4, r1, r2, hsub, List.length_append, List.length_cons, List.length_nil]
      generalize (ns.getD i 0).toNat % qn.length = jq at *
      generalize (ns.getD i 0).toNat % rn.length = jr at *
      repeat' first
        | refine brE (fun _ => ?_) (fun _ => ?_)
        | refine brN (fun _ => ?_) (fun _ => ?_)
        | refine brD (fun _ => ?_) (fun _ => ?_)
        | refine br (fun _ => ?_) (fun _ => ?_)
        | refine ndN ?_ ?_
        | refine ndD ?_ ?_
      all_goals first
      | omega
      | exact ⟨trivial, by omega⟩
      | (simp only [true_and]; omega)
      | exact hC _ _ _ _ _ _ _ hI.later rfl rfl (by simp only; omega) (.inr rfl)
      | (exfalso; omega)
      | exact hC _ _ _ _ _ _ _ (hI.qwo (j := jq) (by simp only; omega)) (w1 jq (by omega)).symm rfl (by simp only; omega) (.inr rfl)
      | exact hC _ _ _ _ _ _ _ (hI.qdup (j := jq) (by simp only; omega)) (by simp) rfl (by simp only; omega) (.inr rfl)
      | exact hC _ _ _ _ _ _ _ (hI.rwo (j := jr) (by simp only; omega)) rfl (w2 jr (by omega)).symm (by simp only; omega) (.inr rfl)
      | exact hC _ _ _ _ _ _ _ (hI.rdup _ _) rfl (by simp) (by simp only; omega) (.inr rfl)
      | exact hC _ _ _ _ _ _ _ (hI.qnew (by omega) (j := jq) (by simp only; omega) (by assumption) (some (_, _)) _ _) (w1 jq (by omega)).symm (by simp) (by simp) (.inl rfl)
      | exact hC _ _ _ _ _ _ _ (hI.again rfl) (by simp) rfl (by simp only; omega) (.inr rfl)
      | exact hC _ _ _ _ _ _ _ (hI.rok (j := jr) (by simp only; omega) _) rfl (w2 jr (by omega)).symm (by simp only; omega) (.inr rfl)
      | exact hC _ _ _ _ _ _ _ (hI.qold (j := jq) (by simp only; omega) _ _) (w1 jq (by omega)).symm (by simp) (by simp only; omega) (.inr rfl)
    · refine Eq.mpr (t_pP11_2 (List.getD ns (0 + (Int.toNat (i : Int))) (0)) (List.getD qs (0 + (Int.toNat (i : Int))) (0)) n0 next dnext got (i : Int) on oq kn ka bad n qn.length rn.length ks ns qs did asked qn qq rn ra (N + 1) M k) ⟨?_⟩
      try simp only [Nat.zero_add, Int.toNat_natCast, f1, f2, f3, f4, r1, r2, hsub, List.length_append, List.length_cons, List.length_nil]
      generalize (ns.getD i 0).toNat % qn.length = jq at *
      generalize (ns.getD i 0).toNat % rn.length = jr at *
      repeat' first
        | refine brE (fun _ => ?_) (fun _ => ?_)
        | refine brN (fun _ => ?_) (fun _ => ?_)
        | refine brD (fun _ => ?_) (fun _ => ?_)
        | refine br (fun _ => ?_) (fun _ => ?_)
        | refine ndN ?_ ?_
        | refine ndD ?_ ?_
      all_goals first
      | omega
      | exact ⟨trivial, by omega⟩
      | (simp only [true_and]; omega)
      | exact hC _ _ _ _ _ _ _ hI.later rfl rfl (by simp only; omega) (.inr rfl)
      | (exfalso; omega)
      | exact hC _ _ _ _ _ _ _ (hI.qwo (j := jq) (by simp only; omega)) (w1 jq (by omega)).symm rfl (by simp only; omega) (.inr rfl)
      | exact hC _ _ _ _ _ _ _ (hI.qdup (j := jq) (by simp only; omega)) (by simp) rfl (by simp only; omega) (.inr rfl)
      | exact hC _ _ _ _ _ _ _ (hI.rwo (j := jr) (by simp only; omega)) rfl (w2 jr (by omega)).symm (by simp only; omega) (.inr rfl)
      | exact hC _ _ _ _ _ _ _ (hI.rdup _ _) rfl (by simp) (by simp only; omega) (.inr rfl)
      | exact hC _ _ _ _ _ _ _ (hI.qnew (by omega) (j := jq) (by simp only; omega) (by assumption) (some (_, _)) _ _) (w1 jq (by omega)).symm (by simp) (by simp) (.inl rfl)
      | exact hC _ _ _ _ _ _ _ (hI.again rfl) (by simp) rfl (by simp only; omega) (.inr rfl)
      | exact hC _ _ _ _ _ _ _ (hI.rok (j := jr) (by simp only; omega) _) rfl (w2 jr (by omega)).symm (by simp only; omega) (.inr rfl)
      | exact hC _ _ _ _ _ _ _ (hI.qold (j := jq) (by simp only; omega) _ _) (w1 jq (by omega)).symm (by simp) (by simp only; omega) (.inr rfl)
    · refine Eq.mpr (t_pP11_3 (List.getD ns (0 + (Int.toNat (i : Int))) (0)) (List.getD qs (0 + (Int.toNat (i : Int))) (0)) n0 next dnext got (i : Int) on oq kn ka bad n qn.length rn.length ks ns qs did asked qn qq rn ra (N + 1) M k) ⟨?_⟩
      try simp only [Nat.zero_add, Int.toNat_natCast, f1, f2, f3, f4, r1, r2, hsub, List.length_append, List.length_cons, List.length_nil]
      generalize (ns.getD i 0).toNat % qn.length = jq at *
      generalize (ns.getD i 0).toNat % rn.length = jr at *
      repeat' first
        | refine brE (fun _ => ?_) (fun _ => ?_)
        | refine brN (fun _ => ?_) (fun _ => ?_)
        | refine brD (fun _ => ?_) (fun _ => ?_)
        | refine br (fun _ => ?_) (fun _ => ?_)
        | refine ndN ?_ ?_
        | refine ndD ?_ ?_
      all_goals first
      | omega
      | exact ⟨trivial, by omega⟩
      | (simp only [true_and]; omega)
      | exact hC _ _ _ _ _ _ _ hI.later rfl rfl (by simp only; omega) (.inr rfl)
      | (exfalso; omega)
      | exact hC _ _ _ _ _ _ _ (hI.qwo (j := jq) (by simp only; omega)) (w1 jq (by omega)).symm rfl (by simp only; omega) (.inr rfl)
      | exact hC _ _ _ _ _ _ _ (hI.qdup (j := jq) (by simp only; omega)) (by simp) rfl (by simp only; omega) (.inr rfl)
      | exact hC _ _ _ _ _ _ _ (hI.rwo (j := jr) (by simp only; omega)) rfl (w2 jr (by omega)).symm (by simp only; omega) (.inr rfl)
      | exact hC _ _ _ _ _ _ _ (hI.rdup _ _) rfl (by simp) (by simp only; omega) (.inr rfl)
      | exact hC _ _ _ _ _ _ _ (hI.qnew (by omega) (j := jq) (by simp only; omega) (by assumption) (some (_, _)) _ _) (w1 jq (by omega)).symm (by simp) (by simp) (.inl rfl)
      | exact hC _ _ _ _ _ _ _ (hI.again rfl) (by simp) rfl (by simp only; omega) (.inr rfl)
      | exact hC _ _ _ _ _ _ _ (hI.rok (j := jr) (by simp only; omega) _) rfl (w2 jr (by omega)).symm (by simp only; omega) (.inr rfl)
      | exact hC _ _ _ _ _ _ _ (hI.qold (j := jq) (by simp only; omega) _ _) (w1 jq (by omega)).symm (by simp) (by simp only; omega) (.inr rfl)
    · refine Eq.mpr (t_pP11_4 (List.getD ns (0 + (Int.toNat (i : Int))) (0)) (List.getD qs (0 + (Int.toNat (i : Int))) (0)) n0 next dnext got (i : Int) on oq kn ka bad n qn.length rn.length ks ns qs did asked qn qq rn ra (N + 1) M k) ⟨?_⟩
      try simp only [Nat.zero_add, Int.toNat_natCast, f1, f2, f3, f4, r1, r2, hsub, List.length_append, List.length_cons, List.length_nil]
      generalize (ns.getD i 0).toNat % qn.length = jq at *
      generalize (ns.getD i 0).toNat % rn.length = jr at *
      repeat' first
        | refine brE (fun _ => ?_) (fun _ => ?_)
        | refine brN (fun _ => ?_) (fun _ => ?_)
        | refine brD (fun _ => ?_) (fun _ => ?_)
        | refine br (fun _ => ?_) (fun _ => ?_)
        | refine ndN ?_ ?_
        | refine ndD ?_ ?_
      all_goals first
      | omega
      | exact ⟨trivial, by omega⟩
      | (simp only [true_and]; omega)
      | exact hC _ _ _ _ _ _ _ hI.later rfl rfl (by simp only; omega) (.inr rfl)
      | (exfalso; omega)
      | exact hC _ _ _ _ _ _ _ (hI.qwo (j := jq) (by simp only; omega)) (w1 jq (by omega)).symm rfl (by simp only; omega) (.inr rfl)
      | exact hC _ _ _ _ _ _ _ (hI.qdup (j := jq) (by simp only; omega)) (by simp) rfl (by simp only; omega) (.inr rfl)
      | exact hC _ _ _ _ _ _ _ (hI.rwo (j := jr) (by simp only; omega)) rfl (w2 jr (by omega)).symm (by simp only; omega) (.inr rfl)
      | exact hC _ _ _ _ _ _ _ (hI.rdup _ _) rfl (by simp) (by simp only; omega) (.inr rfl)
      | exact hC _ _ _ _ _ _ _ (hI.qnew (by omega) (j := jq) (by simp only; omega) (by assumption) (some (_, _)) _ _) (w1 jq (by omega)).symm (by simp) (by simp) (.inl rfl)
      | exact hC _ _ _ _ _ _ _ (hI.again rfl) (by simp) rfl (by simp only; omega) (.inr rfl)
      | exact hC _ _ _ _ _ _ _ (hI.rok (j := jr) (by simp only; omega) _) rfl (w2 jr (by omega)).symm (by simp only; omega) (.inr rfl)
      | exact hC _ _ _ _ _ _ _ (hI.qold (j := jq) (by simp only; omega) _ _) (w1 jq (by omega)).symm (by simp) (by simp only; omega) (.inr rfl)
    · refine Eq.mpr (t_pP11_5 (List.getD ns (0 + (Int.toNat (i : Int))) (0)) (List.getD qs (0 + (Int.toNat (i : Int))) (0)) n0 next dnext got (i : Int) on oq kn ka bad n qn.length rn.length ks ns qs did asked qn qq rn ra (N + 1) M k) ⟨?_⟩
      try simp only [Nat.zero_add, Int.toNat_natCast, f1, f2, f3, f4, r1, r2, hsub, List.length_append, List.length_cons, List.length_nil]
      generalize (ns.getD i 0).toNat % qn.length = jq at *
      generalize (ns.getD i 0).toNat % rn.length = jr at *
      repeat' first
        | refine brE (fun _ => ?_) (fun _ => ?_)
        | refine brN (fun _ => ?_) (fun _ => ?_)
        | refine brD (fun _ => ?_) (fun _ => ?_)
        | refine br (fun _ => ?_) (fun _ => ?_)
        | refine ndN ?_ ?_
        | refine ndD ?_ ?_
      all_goals first
      | omega
      | exact ⟨trivial, by omega⟩
      | (simp only [true_and]; omega)
      | exact hC _ _ _ _ _ _ _ hI.later rfl rfl (by simp only; omega) (.inr rfl)
      | (exfalso; omega)
      | exact hC _ _ _ _ _ _ _ (hI.qwo (j := jq) (by simp only; omega)) (w1 jq (by omega)).symm rfl (by simp only; omega) (.inr rfl)
      | exact hC _ _ _ _ _ _ _ (hI.qdup (j := jq) (by simp only; omega)) (by simp) rfl (by simp only; omega) (.inr rfl)
      | exact hC _ _ _ _ _ _ _ (hI.rwo (j := jr) (by simp only; omega)) rfl (w2 jr (by omega)).symm (by simp only; omega) (.inr rfl)
      | exact hC _ _ _ _ _ _ _ (hI.rdup _ _) rfl (by simp) (by simp only; omega) (.inr rfl)
      | exact hC _ _ _ _ _ _ _ (hI.qnew (by omega) (j := jq) (by simp only; omega) (by assumption) (some (_, _)) _ _) (w1 jq (by omega)).symm (by simp) (by simp) (.inl rfl)
      | exact hC _ _ _ _ _ _ _ (hI.again rfl) (by simp) rfl (by simp only; omega) (.inr rfl)
      | exact hC _ _ _ _ _ _ _ (hI.rok (j := jr) (by simp only; omega) _) rfl (w2 jr (by omega)).symm (by simp only; omega) (.inr rfl)
      | exact hC _ _ _ _ _ _ _ (hI.qold (j := jq) (by simp only; omega) _ _) (w1 jq (by omega)).symm (by simp) (by simp only; omega) (.inr rfl)
    · refine Eq.mpr (t_pP11_6 (List.getD ns (0 + (Int.toNat (i : Int))) (0)) (List.getD qs (0 + (Int.toNat (i : Int))) (0)) n0 next dnext got (i : Int) on oq kn ka bad n qn.length rn.length ks ns qs did asked qn qq rn ra (N + 1) M k) ⟨?_⟩
      try simp only [Nat.zero_add, Int.toNat_natCast, f1, f2, f3, f4, r1, r2, hsub, List.length_append, List.length_cons, List.length_nil]
      generalize (ns.getD i 0).toNat % qn.length = jq at *
      generalize (ns.getD i 0).toNat % rn.length = jr at *
      repeat' first
        | refine brE (fun _ => ?_) (fun _ => ?_)
        | refine brN (fun _ => ?_) (fun _ => ?_)
        | refine brD (fun _ => ?_) (fun _ => ?_)
        | refine br (fun _ => ?_) (fun _ => ?_)
        | refine ndN ?_ ?_
        | refine ndD ?_ ?_
      all_goals first
      | omega
      | exact ⟨trivial, by omega⟩
      | (simp only [true_and]; omega)
      | exact hC _ _ _ _ _ _ _ hI.later rfl rfl (by simp only; omega) (.inr rfl)
      | (exfalso; omega)
      | exact hC _ _ _ _ _ _ _ (hI.qwo (j := jq) (by simp only; omega)) (w1 jq (by omega)).symm rfl (by simp only; omega) (.inr rfl)
      | exact hC _ _ _ _ _ _ _ (hI.qdup (j := jq) (by simp only; omega)) (by simp) rfl (by simp only; omega) (.inr rfl)
      | exact hC _ _ _ _ _ _ _ (hI.rwo (j := jr) (by simp only; omega)) rfl (w2 jr (by omega)).symm (by simp only; omega) (.inr rfl)
      | exact hC _ _ _ _ _ _ _ (hI.rdup _ _) rfl (by simp) (by simp only; omega) (.inr rfl)
      | exact hC _ _ _ _ _ _ _ (hI.qnew (by omega) (j := jq) (by simp only; omega) (by assumption) (some (_, _)) _ _) (w1 jq (by omega)).symm (by simp) (by simp) (.inl rfl)
      | exact hC _ _ _ _ _ _ _ (hI.again rfl) (by simp) rfl (by simp only; omega) (.inr rfl)
      | exact hC _ _ _ _ _ _ _ (hI.rok (j := jr) (by simp only; omega) _) rfl (w2 jr (by omega)).symm (by simp only; omega) (.inr rfl)
      | exact hC _ _ _ _ _ _ _ (hI.qold (j := jq) (by simp only; omega) _ _) (w1 jq (by omega)).symm (by simp) (by simp only; omega) (.inr rfl)
    · refine Eq.mpr (t_pP11_7 (List.getD ns (0 + (Int.toNat (i : Int))) (0)) (List.getD qs (0 + (Int.toNat (i : Int))) (0)) n0 next dnext got (i : Int) on oq kn ka bad n qn.length rn.length ks ns qs did asked qn qq rn ra (N + 1) M k) ⟨?_⟩
      try simp only [Nat.zero_add, Int.toNat_natCast, f1, f2, f3, f4, r1, r2, hsub, List.length_append, List.length_cons, List.length_nil]
      generalize (ns.getD i 0).toNat % qn.length = jq at *
      generalize (ns.getD i 0).toNat % rn.length = jr at *
      repeat' first
        | refine brE (fun _ => ?_) (fun _ => ?_)
        | refine brN (fun _ => ?_) (fun _ => ?_)
        | refine brD (fun _ => ?_) (fun _ => ?_)
        | refine br (fun _ => ?_) (fun _ => ?_)
        | refine ndN ?_ ?_
        | refine ndD ?_ ?_
      all_goals first
      | omega
      | exact ⟨trivial, by omega⟩
      | (simp only [true_and]; omega)
      | exact hC _ _ _ _ _ _ _ hI.later rfl rfl (by simp only; omega) (.inr rfl)
      | (exfalso; omega)
      | exact hC _ _ _ _ _ _ _ (hI.qwo (j := jq) (by simp only; omega)) (w1 jq (by omega)).symm rfl (by simp only; omega) (.inr rfl)
      | exact hC _ _ _ _ _ _ _ (hI.qdup (j := jq) (by simp only; omega)) (by simp) rfl (by simp only; omega) (.inr rfl)
      | exact hC _ _ _ _ _ _ _ (hI.rwo (j := jr) (by simp only; omega)) rfl (w2 jr (by omega)).symm (by simp only; omega) (.inr rfl)
      | exact hC _ _ _ _ _ _ _ (hI.rdup _ _) rfl (by simp) (by simp only; omega) (.inr rfl)
      | exact hC _ _ _ _ _ _ _ (hI.qnew (by omega) (j := jq) (by simp only; omega) (by assumption) (some (_, _)) _ _) (w1 jq (by omega)).symm (by simp) (by simp) (.inl rfl)
      | exact hC _ _ _ _ _ _ _ (hI.again rfl) (by simp) rfl (by simp only; omega) (.inr rfl)
      | exact hC _ _ _ _ _ _ _ (hI.rok (j := jr) (by simp only; omega) _) rfl (w2 jr (by omega)).symm (by simp only; omega) (.inr rfl)
      | exact hC _ _ _ _ _ _ _ (hI.qold (j := jq) (by simp only; omega) _ _) (w1 jq (by omega)).symm (by simp) (by simp only; omega) (.inr rfl)
    · refine Eq.mpr (t_pP11_8 (List.getD ns (0 + (Int.toNat (i : Int))) (0)) (List.getD qs (0 + (Int.toNat (i : Int))) (0)) n0 next dnext got (i : Int) on oq kn ka bad n qn.length rn.length ks ns qs did asked qn qq rn ra k8 (N + 1) M k) ⟨?_⟩
      try simp only [Nat.zero_add, Int.toNat_natCast, f1, f2, f3, f4, r1, r2, hsub, List.length_append, List.length_cons, List.length_nil]
      generalize (ns.getD i 0).toNat % qn.length = jq at *
      generalize (ns.getD i 0).toNat % rn.length = jr at *
      repeat' first
        | refine brE (fun _ => ?_) (fun _ => ?_)
        | refine brN (fun _ => ?_) (fun _ => ?_)
        | refine brD (fun _ => ?_) (fun _ => ?_)
        | refine br (fun _ => ?_) (fun _ => ?_)
        | refine ndN ?_ ?_
        | refine ndD ?_ ?_
      all_goals first
      | omega
      | exact ⟨trivial, by omega⟩
      | (simp only [true_and]; omega)
      | exact hC _ _ _ _ _ _ _ hI.later rfl rfl (by simp only; omega) (.inr rfl)
      | (exfalso; omega)
      | exact hC _ _ _ _ _ _ _ (hI.qwo (j := jq) (by simp only; omega)) (w1 jq (by omega)).symm rfl (by simp only; omega) (.inr rfl)
      | exact hC _ _ _ _ _ _ _ (hI.qdup (j := jq) (by simp only; omega)) (by simp) rfl (by simp only; omega) (.inr rfl)
      | exact hC _ _ _ _ _ _ _ (hI.rwo (j := jr) (by simp only; omega)) rfl (w2 jr (by omega)).symm (by simp only; omega) (.inr rfl)
      | exact hC _ _ _ _ _ _ _ (hI.rdup _ _) rfl (by simp) (by simp only; omega) (.inr rfl)
      | exact hC _ _ _ _ _ _ _ (hI.qnew (by omega) (j := jq) (by simp only; omega) (by assumption) (some (_, _)) _ _) (w1 jq (by omega)).symm (by simp) (by simp) (.inl rfl)
      | exact hC _ _ _ _ _ _ _ (hI.again rfl) (by simp) rfl (by simp only; omega) (.inr rfl)
      | exact hC _ _ _ _ _ _ _ (hI.rok (j := jr) (by simp only; omega) _) rfl (w2 jr (by omega)).symm (by simp only; omega) (.inr rfl)
      | exact hC _ _ _ _ _ _ _ (hI.qold (j := jq) (by simp only; omega) _ _) (w1 jq (by omega)).symm (by simp) (by simp only; omega) (.inr rfl)
  · have hnx := hI.next
    have hdn := hI.dnext
    simp only at hnx hdn
    have e0 := numAt_zero hI.n0in
    have e1 : subK .u32 next n0 = IntKind.wrap .u32 ((asked.length : Nat) : Int) := by
      rw [hnx, ← e0, e0]
      have := numAt_diff (n0 := n0) (i := asked.length) (by omega)
      rw [e0] at this
      rw [this, IntKind.wrap_u32]; omega
    have e2 : subK .u32 dnext n0 = IntKind.wrap .u32 ((did.length : Nat) : Int) := by
      rw [hdn]
      have := numAt_diff (n0 := n0) (i := did.length) (by omega)
      rw [e0] at this
      rw [this, IntKind.wrap_u32]; omega
    exact brE (fun _ => brE (fun _ => hK) (fun h => absurd e2 h)) (fun h => absurd e1 h)
theorem in_D11 {n0 : Int} {c M n i : Nat} {bad : Bool} {ks ns qs : List Int} {next dnext on oq kn ka got : Int} {did asked qn qq rn ra : List Int} {k : SV → St → Prop} (hI : InvD n0 c ⟨next, dnext, (some (on, oq)), (some (kn, ka)), did, asked, got, qn, qq, rn, ra⟩) (hc : c ≤ 301) (hi : i ≤ 300) {N : Nat} (hH : HeadP N M n n0 ((i + 1 : Nat) : Int) (argT n ks ns qs) bad ⟨next, dnext, (some (on, oq)), (some (kn, ka)), did, asked, got, qn, qq, rn, ra⟩ qn.length rn.length k) :
    ∀ (r L j : Nat), j + r = did.length → InP (L + r + 1) (N + 1) M n n0 (i : Int) (j : Int) (argT n ks ns qs) bad ⟨next, dnext, (some (on, oq)), (some (kn, ka)), did, asked, got, qn, qq, rn, ra⟩ qn.length rn.length k
  | 0, L, j, e => by
    refine Eq.mpr (t_pC11 n0 next dnext got (i : Int) on oq kn ka bad n qn.length rn.length ks ns qs did asked qn qq rn ra (j : Int) (L + 1) (N + 1) M k) ⟨?_⟩
    refine brD (fun h => by omega) (fun _ => ?_)
    have e2 : addK .i64 (i : Int) 1 = ((i + 1 : Nat) : Int) := by rw [addK_eq, i64_small (by omega)]; omega
    rw [e2]
    exact hH
  | r + 1, L, j, e => by
    have hle : did.length ≤ asked.length := hI.le
    have ham : asked.length ≤ c := hI.am
    have hdid : did = asked.take did.length := hI.did
    refine Eq.mpr (t_pC11 n0 next dnext got (i : Int) on oq kn ka bad n qn.length rn.length ks ns qs did asked qn qq rn ra (j : Int) (L + (r + 1) + 1) (N + 1) M k) ⟨?_⟩
    have e1 : did.getD j 0 = asked.getD j 0 := by
      rw [hdid, List.getD_eq_getElem?_getD, List.getElem?_take, if_pos (by omega), List.getD_eq_getElem?_getD]
    have e2 : addK .i64 (j : Int) 1 = ((j + 1 : Nat) : Int) := by rw [addK_eq, i64_small (by omega)]; omega
    have e3 : Int.toNat (j : Int) = j := Int.toNat_natCast _
    refine brD (fun _ => ?_) (fun h => by omega)
    simp only [e3, Nat.zero_add]
    refine ndD (by omega) (ndD (by omega) (ndD (by omega) (ndD (by omega) (ndD (by omega) (ndD (by omega) ?_)))))
    refine brN (fun h => absurd e1 h) (fun _ => ?_)
    rw [e2]
    have e4 : L + (r + 1) + 1 + 41 = L + r + 1 + 42 := by omega
    rw [e4]
    exact in_D11 hI hc hi hH r L (j + 1) (by omega)
theorem chk_D11 {n0 : Int} {c M n i : Nat} {bad : Bool} {ks ns qs : List Int} {next dnext on oq kn ka got : Int} {did asked qn qq rn ra : List Int} {k : SV → St → Prop} (hI : InvD n0 c ⟨next, dnext, (some (on, oq)), (some (kn, ka)), did, asked, got, qn, qq, rn, ra⟩) (hc : c ≤ 301) (hi : i ≤ 300) {N w : Nat} {xk xn xq : Int} (hN : 310 ≤ N) (hw2 : w ≤ 1000) (hw : did.length ≤ w + 1) (hx : xk = 2 ∨ did.length = w) (hH : HeadP N M n n0 ((i + 1 : Nat) : Int) (argT n ks ns qs) bad ⟨next, dnext, (some (on, oq)), (some (kn, ka)), did, asked, got, qn, qq, rn, ra⟩ qn.length rn.length k) :
    CutP (N + 1) M n n0 (i : Int) (w : Int) (argT n ks ns qs) bad xk xn xq ⟨next, dnext, (some (on, oq)), (some (kn, ka)), did, asked, got, qn, qq, rn, ra⟩ qn.length rn.length k := by
  have hle : did.length ≤ asked.length := hI.le
  have ham : asked.length ≤ c := hI.am
  have hIn : InP (N + 1) (N + 1) M n n0 (i : Int) 0 (argT n ks ns qs) bad ⟨next, dnext, (some (on, oq)), (some (kn, ka)), did, asked, got, qn, qq, rn, ra⟩ qn.length rn.length k := by
    have h := in_D11 hI hc hi hH did.length (N - did.length) 0 (by omega)
    have e3 : N - did.length + did.length + 1 = N + 1 := by omega
    rw [e3] at h
    exact h
  refine Eq.mpr (t_pB11 xk xn xq (w : Int) n0 next dnext got (i : Int) on oq kn ka bad n qn.length rn.length ks ns qs did asked qn qq rn ra (N + 1) M k) ⟨?_⟩
  have e2 : addK .i64 (w : Int) 1 = ((w + 1 : Nat) : Int) := by rw [addK_eq, i64_small (by omega)]; omega
  rw [e2]
  repeat' first
    | exact hIn
    | (exfalso; omega)
    | refine brE (fun _ => ?_) (fun _ => ?_)
    | refine brN (fun _ => ?_) (fun _ => ?_)
    | refine brD (fun _ => ?_) (fun _ => ?_)

theorem movesD {n0 : Int} {M n : Nat} {ks ns qs : List Int} {k : SV → St → Prop} (hn : n ≤ 300)
    (hks : ∀ j, 0 ≤ ks.getD j 0) (hns : ∀ j, 0 ≤ ns.getD j 0 ∧ ns.getD j 0 ≤ 65535)
    (hK : k (.sa (.one (bv true))) [argT n ks ns qs]) (X : Nat) :
    ∀ (r i : Nat) (bad : Bool) (s : Tw), i + r = n → InvD n0 i s → HeadP (X + 310 + r + 1) M n n0 (i : Int) (argT n ks ns qs) bad s s.qn.length s.rn.length k

  | 0, i, bad, ⟨next, dnext, none, none, did, asked, got, qn, qq, rn, ra⟩, e, hI => step_D00 hI (by omega) (by omega) hn hks hns (fun hlt => absurd hlt (by omega)) (fun hlt => absurd hlt (by omega)) hK
  | 0, i, bad, ⟨next, dnext, (some (on, oq)), none, did, asked, got, qn, qq, rn, ra⟩, e, hI => step_D10 hI (by omega) (by omega) hn hks hns (fun hlt => absurd hlt (by omega)) (fun hlt => absurd hlt (by omega)) hK
  | 0, i, bad, ⟨next, dnext, none, (some (kn, ka)), did, asked, got, qn, qq, rn, ra⟩, e, hI => step_D01 hI (by omega) (by omega) hn hks hns (fun hlt => absurd hlt (by omega)) (fun hlt => absurd hlt (by omega)) hK
  | 0, i, bad, ⟨next, dnext, (some (on, oq)), (some (kn, ka)), did, asked, got, qn, qq, rn, ra⟩, e, hI => step_D11 hI (by omega) (by omega) hn hks hns (fun hlt => absurd hlt (by omega)) (fun hlt => absurd hlt (by omega)) hK
  | r + 1, i, bad, ⟨next, dnext, none, none, did, asked, got, qn, qq, rn, ra⟩, e, hI => by
    refine step_D00 (N := X + 310 + r + 1) hI (by omega) (by omega) hn hks hns (fun hlt s' m p bad' xk xn xq hI' em ep hw hx => ?_) (fun hlt s' hI' => movesD hn hks hns hK X r (i + 1) bad s' (by omega) hI') hK
    subst em; subst ep
    have hle := hI.le
    have ham := hI.am
    simp only at hle ham
    have hH := movesD (M := M) hn hks hns hK X r (i + 1) bad' s' (by omega) hI'
    match s', hI', hH, hw, hx with
    | ⟨next, dnext, none, none, did, asked, got, qn, qq, rn, ra⟩, hI', hH, hw, hx => exact chk_D00 (N := X + 310 + r + 1) hI' (by omega) (by omega) (by omega) (by omega) hw hx hH
    | ⟨next, dnext, (some (on, oq)), none, did, asked, got, qn, qq, rn, ra⟩, hI', hH, hw, hx => exact chk_D10 (N := X + 310 + r + 1) hI' (by omega) (by omega) (by omega) (by omega) hw hx hH
    | ⟨next, dnext, none, (some (kn, ka)), did, asked, got, qn, qq, rn, ra⟩, hI', hH, hw, hx => exact chk_D01 (N := X + 310 + r + 1) hI' (by omega) (by omega) (by omega) (by omega) hw hx hH
    | ⟨next, dnext, (some (on, oq)), (some (kn, ka)), did, asked, got, qn, qq, rn, ra⟩, hI', hH, hw, hx => exact chk_D11 (N := X + 310 + r + 1) hI' (by omega) (by omega) (by omega) (by omega) hw hx hH
  | r + 1, i, bad, ⟨next, dnext, (some (on, oq)), none, did, asked, got, qn, qq, rn, ra⟩, e, hI => by
    refine step_D10 (N := X + 310 + r + 1) hI (by omega) (by omega) hn hks hns (fun hlt s' m p bad' xk xn xq hI' em ep hw hx => ?_) (fun hlt s' hI' => movesD hn hks hns hK X r (i + 1) bad s' (by omega) hI') hK
    subst em; subst ep
    have hle := hI.le
    have ham := hI.am
    simp only at hle ham
    have hH := movesD (M := M) hn hks hns hK X r (i + 1) bad' s' (by omega) hI'
    match s', hI', hH, hw, hx with
    | ⟨next, dnext, none, none, did, asked, got, qn, qq, rn, ra⟩, hI', hH, hw, hx => exact chk_D00 (N := X + 310 + r + 1) hI' (by omega) (by omega) (by omega) (by omega) hw hx hH
    | ⟨next, dnext, (some (on, oq)), none, did, asked, got, qn, qq, rn, ra⟩, hI', hH, hw, hx => exact chk_D10 (N := X + 310 + r + 1) hI' (by omega) (by omega) (by omega) (by omega) hw hx hH
    | ⟨next, dnext, none, (some (kn, ka)), did, asked, got, qn, qq, rn, ra⟩, hI', hH, hw, hx => exact chk_D01 (N := X + 310 + r + 1) hI' (by omega) (by omega) (by omega) (by omega) hw hx hH
    | ⟨next, dnext, (some (on, oq)), (some (kn, ka)), did, asked, got, qn, qq, rn, ra⟩, hI', hH, hw, hx => exact chk_D11 (N := X + 310 + r + 1) hI' (by omega) (by omega) (by omega) (by omega) hw hx hH
  | r + 1, i, bad, ⟨next, dnext, none, (some (kn, ka)), did, asked, got, qn, qq, rn, ra⟩, e, hI => by
    refine step_D01 (N := X + 310 + r + 1) hI (by omega) (by omega) hn hks hns (fun hlt s' m p bad' xk xn xq hI' em ep hw hx => ?_) (fun hlt s' hI' => movesD hn hks hns hK X r (i + 1) bad s' (by omega) hI') hK
    subst em; subst ep
    have hle := hI.le
    have ham := hI.am
    simp only at hle ham
    have hH := movesD (M := M) hn hks hns hK X r (i + 1) bad' s' (by omega) hI'
    match s', hI', hH, hw, hx with
    | ⟨next, dnext, none, none, did, asked, got, qn, qq, rn, ra⟩, hI', hH, hw, hx => exact chk_D00 (N := X + 310 + r + 1) hI' (by omega) (by omega) (by omega) (by omega) hw hx hH
    | ⟨next, dnext, (some (on, oq)), none, did, asked, got, qn, qq, rn, ra⟩, hI', hH, hw, hx => exact chk_D10 (N := X + 310 + r + 1) hI' (by omega) (by omega) (by omega) (by omega) hw hx hH
    | ⟨next, dnext, none, (some (kn, ka)), did, asked, got, qn, qq, rn, ra⟩, hI', hH, hw, hx => exact chk_D01 (N := X + 310 + r + 1) hI' (by omega) (by omega) (by omega) (by omega) hw hx hH
    | ⟨next, dnext, (some (on, oq)), (some (kn, ka)), did, asked, got, qn, qq, rn, ra⟩, hI', hH, hw, hx => exact chk_D11 (N := X + 310 + r + 1) hI' (by omega) (by omega) (by omega) (by omega) hw hx hH
  | r + 1, i, bad, ⟨next, dnext, (some (on, oq)), (some (kn, ka)), did, asked, got, qn, qq, rn, ra⟩, e, hI => by
    refine step_D11 (N := X + 310 + r + 1) hI (by omega) (by omega) hn hks hns (fun hlt s' m p bad' xk xn xq hI' em ep hw hx => ?_) (fun hlt s' hI' => movesD hn hks hns hK X r (i + 1) bad s' (by omega) hI') hK
    subst em; subst ep
    have hle := hI.le
    have ham := hI.am
    simp only at hle ham
    have hH := movesD (M := M) hn hks hns hK X r (i + 1) bad' s' (by omega) hI'
    match s', hI', hH, hw, hx with
    | ⟨next, dnext, none, none, did, asked, got, qn, qq, rn, ra⟩, hI', hH, hw, hx => exact chk_D00 (N := X + 310 + r + 1) hI' (by omega) (by omega) (by omega) (by omega) hw hx hH
    | ⟨next, dnext, (some (on, oq)), none, did, asked, got, qn, qq, rn, ra⟩, hI', hH, hw, hx => exact chk_D10 (N := X + 310 + r + 1) hI' (by omega) (by omega) (by omega) (by omega) hw hx hH
    | ⟨next, dnext, none, (some (kn, ka)), did, asked, got, qn, qq, rn, ra⟩, hI', hH, hw, hx => exact chk_D01 (N := X + 310 + r + 1) hI' (by omega) (by omega) (by omega) (by omega) hw hx hH
    | ⟨next, dnext, (some (on, oq)), (some (kn, ka)), did, asked, got, qn, qq, rn, ra⟩, hI', hH, hw, hx => exact chk_D11 (N := X + 310 + r + 1) hI' (by omega) (by omega) (by omega) (by omega) hw hx hH
theorem drop_run {n0 : Int} {n : Nat} {ks ns qs : List Int} {k : SV → St → Prop} (hn0 : 0 ≤ n0 ∧ n0 ≤ 4294967295)
    (hks : ∀ j, 0 ≤ ks.getD j 0) (hns : ∀ j, 0 ≤ ns.getD j 0 ∧ ns.getD j 0 ≤ 65535)
    (hK : k (.sa (.one (bv true))) [argT n ks ns qs]) (N : Nat) :
    evCall cxP (ev cxP (N + 700 + 60)) 5 [.one (iv .u32 n0), .one (.ref 0)] [argT n ks ns qs] k := by
  refine Eq.mpr (t_dropTop n0 n ks ns qs (N + 700) k) ?_
  refine brD (fun _ => hK) (fun h => ?_)
  have hI : InvD n0 0 ⟨n0, n0, none, none, [], [], 0, [], [], [], []⟩ :=
    ⟨hn0, (numAt_zero hn0).symm, (numAt_zero hn0).symm, rfl, Nat.le_refl _, trivial, ⟨rfl, fun j hj => absurd hj (by simp)⟩, rfl, Nat.le_refl _, Nat.le_refl _, Nat.le_refl _⟩
  have hH := movesD (M := N + 700) (n := n) (by omega) hks hns hK (N + 389 - n) n 0 false _ (by omega) hI
  have e : N + 389 - n + 310 + n + 1 = N + 700 := by omega
  rw [e] at hH
  exact hH
end Go.Ev
