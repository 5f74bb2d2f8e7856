/- The law OnceDone: the check behind a move, the end, all moves. No conditions. -/
import Derived.Test.YtannijnkeaggfaaOnC
import Derived.Test.YtannijnkeaggfaaOnT
import Derived.Test.YtannijnkeaggfaaOnTD00
import Derived.Test.YtannijnkeaggfaaOnTD10
import Derived.Test.YtannijnkeaggfaaOnTD01
import Derived.Test.YtannijnkeaggfaaOnTD11
set_option linter.unusedSimpArgs false
set_option linter.unusedVariables false
namespace Go.Ev
open Go Go.Proofs Go.Spec
attribute [local irreducible] ev evCall branch need again codeAt

theorem ans_hi {x : Int} (hx : 0 ≤ x ∧ x ≤ 4294967295) {n : Nat} (hn : n ≤ 1000) : IntKind.wrap .u32 (shrK .u64 (x * 4294967296 + (n : Int)) 32) = x := by
  rw [shrK_eq]
  have e2 : min (Int.toNat 32) (IntKind.bits .u64) = 32 := rfl
  rw [e2, Int.fdiv_eq_ediv_of_nonneg _ (by decide)]
  have e3 : (2 : Int) ^ 32 = 4294967296 := rfl
  rw [e3, IntKind.wrap_u32]; omega
theorem ans_lo {x : Int} {n : Nat} : IntKind.wrap .u32 (x * 4294967296 + (n : Int)) = IntKind.wrap .u32 (n : Int) := by
  rw [IntKind.wrap_u32, IntKind.wrap_u32]; omega
theorem last_sub {n : Nat} (h : 0 < n) (h2 : n ≤ 1000) : subK .i64 (n : Int) 1 = ((n - 1 : Nat) : Int) := by rw [subK_eq, i64_small (by omega)]; omega
theorem nnE {x y : Int} {a b : Prop} (h1 : x = y → a) (h2 : x ≠ y → b) : branch (Bool.not (Bool.not (eqK x y))) a b := by rw [Bool.not_not]; exact brE h1 h2
theorem ndT {p q : Prop} [Decidable p] (h1 : p) (h2 : q) : need (decide p) q := nd (decide_eq_true h1) h2

theorem end_A00 {n0 : Int} {c M n : Nat} {ks ns qs : List Int} {next dnext got : Int} {did asked qn qq rn ra : List Int} {k : SV → St → Prop} (hI : Spec.Inv n0 c ⟨next, dnext, none, none, did, asked, got, qn, qq, rn, ra⟩) (hc : c ≤ 301) (hK : k (.sa (.one (bv true))) [argT n ks ns qs]) : EndP M (argT n ks ns qs) ⟨next, dnext, none, none, did, asked, got, qn, qq, rn, ra⟩ qn.length rn.length k := by
  obtain ⟨o1, o2⟩ : did.length = asked.length ∧ got = ((asked.length : Nat) : Int) := hI.out
  refine Eq.mpr (t_dD00 next dnext got 0 0 0 0 0 false n qn.length rn.length ks ns qs did asked qn qq rn ra M k) ⟨?_⟩
  refine brE (fun _ => ?_) (fun h => absurd o2 h)
  exact brE (fun _ => hK) (fun h => absurd (by rw [o1]) h)
theorem in_A00 {n0 : Int} {c M n i : Nat} {ks ns qs : List Int} {next dnext got : Int} {did asked qn qq rn ra : List Int} {k : SV → St → Prop} (hI : Spec.Inv n0 c ⟨next, dnext, none, none, did, asked, got, qn, qq, rn, ra⟩) (hc : c ≤ 301) (hi : i ≤ 300) {N : Nat} (hH : HeadP N M n ((i + 1 : Nat) : Int) (argT n ks ns qs) ⟨next, dnext, none, none, did, asked, got, qn, qq, rn, ra⟩ qn.length rn.length k) :
    ∀ (r L j : Nat), j + r = did.length → InP (L + r + 1) (N + 1) M n (i : Int) (j : Int) (argT n ks ns qs) ⟨next, dnext, none, none, did, asked, got, qn, qq, rn, ra⟩ qn.length rn.length k
  | 0, L, j, e => by
    refine Eq.mpr (t_dC00 next dnext got (i : Int) 0 0 0 0 false n qn.length rn.length ks ns qs did asked qn qq rn ra (j : Int) (L + 1) (N + 1) M k) ⟨?_⟩
    refine brD (fun h => by omega) (fun _ => ?_)
    have e2 : addK .i64 (i : Int) 1 = ((i + 1 : Nat) : Int) := by rw [addK_eq, i64_small (by omega)]; omega
    rw [e2]
    exact hH
  | r + 1, L, j, e => by
    have hle : did.length ≤ asked.length := hI.le
    have ham : asked.length ≤ c := hI.am
    have hdid : did = asked.take did.length := hI.did
    refine Eq.mpr (t_dC00 next dnext got (i : Int) 0 0 0 0 false n qn.length rn.length ks ns qs did asked qn qq rn ra (j : Int) (L + (r + 1) + 1) (N + 1) M k) ⟨?_⟩
    have e1 : did.getD j 0 = asked.getD j 0 := by
      rw [hdid, List.getD_eq_getElem?_getD, List.getElem?_take, if_pos (by omega), List.getD_eq_getElem?_getD]
    have e2 : addK .i64 (j : Int) 1 = ((j + 1 : Nat) : Int) := by rw [addK_eq, i64_small (by omega)]; omega
    have e3 : Int.toNat (j : Int) = j := Int.toNat_natCast _
    refine brD (fun _ => ?_) (fun h => by omega)
    simp only [e3, Nat.zero_add]
    refine ndT (by omega) (ndT (by omega) (ndT (by omega) (ndT (by omega) (ndT (by omega) (ndT (by omega) ?_)))))
    refine brN (fun h => absurd e1 h) (fun _ => ?_)
    rw [e2]
    have e4 : L + (r + 1) + 1 + 43 = L + r + 1 + 44 := by omega
    rw [e4]
    exact in_A00 hI hc hi hH r L (j + 1) (by omega)
theorem chk_A00 {n0 : Int} {c M n i : Nat} {ks ns qs : List Int} {next dnext got : Int} {did asked qn qq rn ra : List Int} {k : SV → St → Prop} (hI : Spec.Inv n0 c ⟨next, dnext, none, none, did, asked, got, qn, qq, rn, ra⟩) (hc : c ≤ 301) (hi : i ≤ 300) {N : Nat} (hN : 310 ≤ N) (hH : HeadP N M n ((i + 1 : Nat) : Int) (argT n ks ns qs) ⟨next, dnext, none, none, did, asked, got, qn, qq, rn, ra⟩ qn.length rn.length k) :
    CutP (N + 1) M n (i : Int) (argT n ks ns qs) ⟨next, dnext, none, none, did, asked, got, qn, qq, rn, ra⟩ qn.length rn.length k := by
  have hle : did.length ≤ asked.length := hI.le
  have ham : asked.length ≤ c := hI.am
  refine Eq.mpr (t_dB00 next dnext got (i : Int) 0 0 0 0 false n qn.length rn.length ks ns qs did asked qn qq rn ra (N + 1) M k) ⟨?_⟩
  obtain ⟨o1, o2⟩ : did.length = asked.length ∧ got = ((asked.length : Nat) : Int) := hI.out
  have e2 : addK .i64 ((did.length : Nat) : Int) 1 = ((did.length + 1 : Nat) : Int) := by rw [addK_eq, i64_small (by omega)]; omega
  rw [e2]
  refine brD (fun h => by omega) (fun _ => brD (fun h => by omega) (fun _ => brD (fun h => by omega) (fun _ => ?_)))
  have h := in_A00 hI hc hi hH did.length (N - did.length) 0 (by omega)
  have e3 : N - did.length + did.length + 1 = N + 1 := by omega
  rw [e3] at h
  exact h

theorem end_A10 {n0 : Int} {c M n : Nat} {ks ns qs : List Int} {next dnext on oq got : Int} {did asked qn qq rn ra : List Int} {k : SV → St → Prop} (hI : Spec.Inv n0 c ⟨next, dnext, (some (on, oq)), none, did, asked, got, qn, qq, rn, ra⟩) (hc : c ≤ 301) (hK : k (.sa (.one (bv true))) [argT n ks ns qs]) : EndP M (argT n ks ns qs) ⟨next, dnext, (some (on, oq)), none, did, asked, got, qn, qq, rn, ra⟩ qn.length rn.length k := by
  obtain ⟨o1, o2, o3, o4, o5⟩ : 0 < asked.length ∧ on = numAt n0 (asked.length - 1) ∧ oq = asked.getD (asked.length - 1) 0 ∧ got = ((asked.length : Nat) : Int) - 1 ∧ (did.length = asked.length - 1 ∨ did.length = asked.length) := hI.out
  have ham : asked.length ≤ c := hI.am
  have hdn : dnext = numAt n0 did.length := hI.dnext
  have hx : 0 ≤ oq ∧ oq ≤ 4294967295 := by rw [o3]; exact getD_rng hI.rng _
  have hs := last_sub o1 (by omega)
  have ht : Int.toNat ((asked.length - 1 : Nat) : Int) = asked.length - 1 := Int.toNat_natCast _
  have hg : addK .i64 got 1 = ((asked.length : Nat) : Int) := by rw [addK_eq, i64_small (by omega)]; omega
  have hl : (did ++ [oq]).length = did.length + 1 := by simp
  have ha : addK .u64 (shlK .u64 (IntKind.wrap .u64 oq) 32) (IntKind.wrap .u64 (((did.length + 1 : Nat)) : Int)) = oq * 4294967296 + ((did.length + 1 : Nat) : Int) := ansOf_eq hx (by have := hI.le; simp only at this; omega)
  have a1 := ans_hi hx (n := did.length + 1) (by have := hI.le; simp only at this; omega)
  have a2 := ans_lo (x := oq) (n := did.length + 1)
  have b0 : befB on on = false := befB_self _
  have k1 : did.length = 0 := hI.kept
  refine Eq.mpr (t_dD10 next dnext got 0 on oq 0 0 false n qn.length rn.length ks ns qs did asked qn qq rn ra M k) ⟨?_⟩
  refine ndT (by simp) ?_
  refine brE (fun e1 => ?_) (fun e1 => ?_)
  · have hd : did.length + 1 = asked.length := by
      rcases o5 with h | h
      · omega
      · exfalso
        have := numAt_inj (n0 := n0) (i := asked.length - 1) (j := did.length) (by omega) (by omega) (by rw [← o2, e1, hdn])
        omega
    simp only [hl, ha, a1, a2, hs, ht, hg, b0, Nat.zero_add]
    refine ndT (by omega) (ndT (by simp) (br (fun h => absurd h (by simp)) (fun _ => ?_)))
    refine brN (fun h => absurd rfl h) (fun _ => ndT (by omega) (ndT (by omega) (ndT (by omega) ?_)))
    refine brN (fun h => absurd o3 h) (fun _ => ?_)
    refine nnE (fun _ => ?_) (fun h => absurd (by rw [hd]) h)
    exact brE (fun _ => brE (fun _ => hK) (fun h => absurd (by rw [hd]) h)) (fun h => absurd rfl h)
  · exfalso
    apply e1
    rw [o2, hdn]
    congr 1
    omega
theorem in_A10 {n0 : Int} {c M n i : Nat} {ks ns qs : List Int} {next dnext on oq got : Int} {did asked qn qq rn ra : List Int} {k : SV → St → Prop} (hI : Spec.Inv n0 c ⟨next, dnext, (some (on, oq)), none, did, asked, got, qn, qq, rn, ra⟩) (hc : c ≤ 301) (hi : i ≤ 300) {N : Nat} (hH : HeadP N M n ((i + 1 : Nat) : Int) (argT n ks ns qs) ⟨next, dnext, (some (on, oq)), none, did, asked, got, qn, qq, rn, ra⟩ qn.length rn.length k) :
    ∀ (r L j : Nat), j + r = did.length → InP (L + r + 1) (N + 1) M n (i : Int) (j : Int) (argT n ks ns qs) ⟨next, dnext, (some (on, oq)), none, did, asked, got, qn, qq, rn, ra⟩ qn.length rn.length k
  | 0, L, j, e => by
    refine Eq.mpr (t_dC10 next dnext got (i : Int) on oq 0 0 false n qn.length rn.length ks ns qs did asked qn qq rn ra (j : Int) (L + 1) (N + 1) M k) ⟨?_⟩
    refine brD (fun h => by omega) (fun _ => ?_)
    have e2 : addK .i64 (i : Int) 1 = ((i + 1 : Nat) : Int) := by rw [addK_eq, i64_small (by omega)]; omega
    rw [e2]
    exact hH
  | r + 1, L, j, e => by
    have hle : did.length ≤ asked.length := hI.le
    have ham : asked.length ≤ c := hI.am
    have hdid : did = asked.take did.length := hI.did
    refine Eq.mpr (t_dC10 next dnext got (i : Int) on oq 0 0 false n qn.length rn.length ks ns qs did asked qn qq rn ra (j : Int) (L + (r + 1) + 1) (N + 1) M k) ⟨?_⟩
    have e1 : did.getD j 0 = asked.getD j 0 := by
      rw [hdid, List.getD_eq_getElem?_getD, List.getElem?_take, if_pos (by omega), List.getD_eq_getElem?_getD]
    have e2 : addK .i64 (j : Int) 1 = ((j + 1 : Nat) : Int) := by rw [addK_eq, i64_small (by omega)]; omega
    have e3 : Int.toNat (j : Int) = j := Int.toNat_natCast _
    refine brD (fun _ => ?_) (fun h => by omega)
    simp only [e3, Nat.zero_add]
    refine ndT (by omega) (ndT (by omega) (ndT (by omega) (ndT (by omega) (ndT (by omega) (ndT (by omega) ?_)))))
    refine brN (fun h => absurd e1 h) (fun _ => ?_)
    rw [e2]
    have e4 : L + (r + 1) + 1 + 43 = L + r + 1 + 44 := by omega
    rw [e4]
    exact in_A10 hI hc hi hH r L (j + 1) (by omega)
theorem chk_A10 {n0 : Int} {c M n i : Nat} {ks ns qs : List Int} {next dnext on oq got : Int} {did asked qn qq rn ra : List Int} {k : SV → St → Prop} (hI : Spec.Inv n0 c ⟨next, dnext, (some (on, oq)), none, did, asked, got, qn, qq, rn, ra⟩) (hc : c ≤ 301) (hi : i ≤ 300) {N : Nat} (hN : 310 ≤ N) (hH : HeadP N M n ((i + 1 : Nat) : Int) (argT n ks ns qs) ⟨next, dnext, (some (on, oq)), none, did, asked, got, qn, qq, rn, ra⟩ qn.length rn.length k) :
    CutP (N + 1) M n (i : Int) (argT n ks ns qs) ⟨next, dnext, (some (on, oq)), none, did, asked, got, qn, qq, rn, ra⟩ qn.length rn.length k := by
  have hle : did.length ≤ asked.length := hI.le
  have ham : asked.length ≤ c := hI.am
  refine Eq.mpr (t_dB10 next dnext got (i : Int) on oq 0 0 false n qn.length rn.length ks ns qs did asked qn qq rn ra (N + 1) M k) ⟨?_⟩
  obtain ⟨o1, o2, o3, o4, o5⟩ : 0 < asked.length ∧ on = numAt n0 (asked.length - 1) ∧ oq = asked.getD (asked.length - 1) 0 ∧ got = ((asked.length : Nat) : Int) - 1 ∧ (did.length = asked.length - 1 ∨ did.length = asked.length) := hI.out
  have e2 : addK .i64 ((did.length : Nat) : Int) 1 = ((did.length + 1 : Nat) : Int) := by rw [addK_eq, i64_small (by omega)]; omega
  rw [e2]
  refine brD (fun h => by omega) (fun _ => brD (fun h => by omega) (fun _ => brD (fun h => by omega) (fun _ => ?_)))
  have h := in_A10 hI hc hi hH did.length (N - did.length) 0 (by omega)
  have e3 : N - did.length + did.length + 1 = N + 1 := by omega
  rw [e3] at h
  exact h

theorem end_A01 {n0 : Int} {c M n : Nat} {ks ns qs : List Int} {next dnext kn ka got : Int} {did asked qn qq rn ra : List Int} {k : SV → St → Prop} (hI : Spec.Inv n0 c ⟨next, dnext, none, (some (kn, ka)), did, asked, got, qn, qq, rn, ra⟩) (hc : c ≤ 301) (hK : k (.sa (.one (bv true))) [argT n ks ns qs]) : EndP M (argT n ks ns qs) ⟨next, dnext, none, (some (kn, ka)), did, asked, got, qn, qq, rn, ra⟩ qn.length rn.length k := by
  obtain ⟨o1, o2⟩ : did.length = asked.length ∧ got = ((asked.length : Nat) : Int) := hI.out
  refine Eq.mpr (t_dD01 next dnext got 0 0 0 kn ka false n qn.length rn.length ks ns qs did asked qn qq rn ra M k) ⟨?_⟩
  refine brE (fun _ => ?_) (fun h => absurd o2 h)
  exact brE (fun _ => hK) (fun h => absurd (by rw [o1]) h)
theorem in_A01 {n0 : Int} {c M n i : Nat} {ks ns qs : List Int} {next dnext kn ka got : Int} {did asked qn qq rn ra : List Int} {k : SV → St → Prop} (hI : Spec.Inv n0 c ⟨next, dnext, none, (some (kn, ka)), did, asked, got, qn, qq, rn, ra⟩) (hc : c ≤ 301) (hi : i ≤ 300) {N : Nat} (hH : HeadP N M n ((i + 1 : Nat) : Int) (argT n ks ns qs) ⟨next, dnext, none, (some (kn, ka)), did, asked, got, qn, qq, rn, ra⟩ qn.length rn.length k) :
    ∀ (r L j : Nat), j + r = did.length → InP (L + r + 1) (N + 1) M n (i : Int) (j : Int) (argT n ks ns qs) ⟨next, dnext, none, (some (kn, ka)), did, asked, got, qn, qq, rn, ra⟩ qn.length rn.length k
  | 0, L, j, e => by
    refine Eq.mpr (t_dC01 next dnext got (i : Int) 0 0 kn ka false n qn.length rn.length ks ns qs did asked qn qq rn ra (j : Int) (L + 1) (N + 1) M k) ⟨?_⟩
    refine brD (fun h => by omega) (fun _ => ?_)
    have e2 : addK .i64 (i : Int) 1 = ((i + 1 : Nat) : Int) := by rw [addK_eq, i64_small (by omega)]; omega
    rw [e2]
    exact hH
  | r + 1, L, j, e => by
    have hle : did.length ≤ asked.length := hI.le
    have ham : asked.length ≤ c := hI.am
    have hdid : did = asked.take did.length := hI.did
    refine Eq.mpr (t_dC01 next dnext got (i : Int) 0 0 kn ka false n qn.length rn.length ks ns qs did asked qn qq rn ra (j : Int) (L + (r + 1) + 1) (N + 1) M k) ⟨?_⟩
    have e1 : did.getD j 0 = asked.getD j 0 := by
      rw [hdid, List.getD_eq_getElem?_getD, List.getElem?_take, if_pos (by omega), List.getD_eq_getElem?_getD]
    have e2 : addK .i64 (j : Int) 1 = ((j + 1 : Nat) : Int) := by rw [addK_eq, i64_small (by omega)]; omega
    have e3 : Int.toNat (j : Int) = j := Int.toNat_natCast _
    refine brD (fun _ => ?_) (fun h => by omega)
    simp only [e3, Nat.zero_add]
    refine ndT (by omega) (ndT (by omega) (ndT (by omega) (ndT (by omega) (ndT (by omega) (ndT (by omega) ?_)))))
    refine brN (fun h => absurd e1 h) (fun _ => ?_)
    rw [e2]
    have e4 : L + (r + 1) + 1 + 43 = L + r + 1 + 44 := by omega
    rw [e4]
    exact in_A01 hI hc hi hH r L (j + 1) (by omega)
theorem chk_A01 {n0 : Int} {c M n i : Nat} {ks ns qs : List Int} {next dnext kn ka got : Int} {did asked qn qq rn ra : List Int} {k : SV → St → Prop} (hI : Spec.Inv n0 c ⟨next, dnext, none, (some (kn, ka)), did, asked, got, qn, qq, rn, ra⟩) (hc : c ≤ 301) (hi : i ≤ 300) {N : Nat} (hN : 310 ≤ N) (hH : HeadP N M n ((i + 1 : Nat) : Int) (argT n ks ns qs) ⟨next, dnext, none, (some (kn, ka)), did, asked, got, qn, qq, rn, ra⟩ qn.length rn.length k) :
    CutP (N + 1) M n (i : Int) (argT n ks ns qs) ⟨next, dnext, none, (some (kn, ka)), did, asked, got, qn, qq, rn, ra⟩ qn.length rn.length k := by
  have hle : did.length ≤ asked.length := hI.le
  have ham : asked.length ≤ c := hI.am
  refine Eq.mpr (t_dB01 next dnext got (i : Int) 0 0 kn ka false n qn.length rn.length ks ns qs did asked qn qq rn ra (N + 1) M k) ⟨?_⟩
  obtain ⟨o1, o2⟩ : did.length = asked.length ∧ got = ((asked.length : Nat) : Int) := hI.out
  have e2 : addK .i64 ((did.length : Nat) : Int) 1 = ((did.length + 1 : Nat) : Int) := by rw [addK_eq, i64_small (by omega)]; omega
  rw [e2]
  refine brD (fun h => by omega) (fun _ => brD (fun h => by omega) (fun _ => brD (fun h => by omega) (fun _ => ?_)))
  have h := in_A01 hI hc hi hH did.length (N - did.length) 0 (by omega)
  have e3 : N - did.length + did.length + 1 = N + 1 := by omega
  rw [e3] at h
  exact h

theorem end_A11 {n0 : Int} {c M n : Nat} {ks ns qs : List Int} {next dnext on oq kn ka got : Int} {did asked qn qq rn ra : List Int} {k : SV → St → Prop} (hI : Spec.Inv n0 c ⟨next, dnext, (some (on, oq)), (some (kn, ka)), did, asked, got, qn, qq, rn, ra⟩) (hc : c ≤ 301) (hK : k (.sa (.one (bv true))) [argT n ks ns qs]) : EndP M (argT n ks ns qs) ⟨next, dnext, (some (on, oq)), (some (kn, ka)), did, asked, got, qn, qq, rn, ra⟩ qn.length rn.length k := by
  obtain ⟨o1, o2, o3, o4, o5⟩ : 0 < asked.length ∧ on = numAt n0 (asked.length - 1) ∧ oq = asked.getD (asked.length - 1) 0 ∧ got = ((asked.length : Nat) : Int) - 1 ∧ (did.length = asked.length - 1 ∨ did.length = asked.length) := hI.out
  have ham : asked.length ≤ c := hI.am
  have hdn : dnext = numAt n0 did.length := hI.dnext
  have hx : 0 ≤ oq ∧ oq ≤ 4294967295 := by rw [o3]; exact getD_rng hI.rng _
  have hs := last_sub o1 (by omega)
  have ht : Int.toNat ((asked.length - 1 : Nat) : Int) = asked.length - 1 := Int.toNat_natCast _
  have hg : addK .i64 got 1 = ((asked.length : Nat) : Int) := by rw [addK_eq, i64_small (by omega)]; omega
  have hl : (did ++ [oq]).length = did.length + 1 := by simp
  have ha : addK .u64 (shlK .u64 (IntKind.wrap .u64 oq) 32) (IntKind.wrap .u64 (((did.length + 1 : Nat)) : Int)) = oq * 4294967296 + ((did.length + 1 : Nat) : Int) := ansOf_eq hx (by have := hI.le; simp only at this; omega)
  have a1 := ans_hi hx (n := did.length + 1) (by have := hI.le; simp only at this; omega)
  have a2 := ans_lo (x := oq) (n := did.length + 1)
  have b0 : befB on on = false := befB_self _
  obtain ⟨k1, k2, k3⟩ : 0 < did.length ∧ kn = numAt n0 (did.length - 1) ∧ ka = asked.getD (did.length - 1) 0 * 4294967296 + ((did.length : Nat) : Int) := hI.kept
  refine Eq.mpr (t_dD11 next dnext got 0 on oq kn ka false n qn.length rn.length ks ns qs did asked qn qq rn ra M k) ⟨?_⟩
  refine ndT (by simp) ?_
  refine brE (fun e1 => ?_) (fun e1 => ?_)
  · have hd : did.length + 1 = asked.length := by
      rcases o5 with h | h
      · omega
      · exfalso
        have := numAt_inj (n0 := n0) (i := asked.length - 1) (j := did.length) (by omega) (by omega) (by rw [← o2, e1, hdn])
        omega
    simp only [hl, ha, a1, a2, hs, ht, hg, b0, Nat.zero_add]
    refine ndT (by omega) (ndT (by simp) (br (fun h => absurd h (by simp)) (fun _ => ?_)))
    refine brN (fun h => absurd rfl h) (fun _ => ndT (by omega) (ndT (by omega) (ndT (by omega) ?_)))
    refine brN (fun h => absurd o3 h) (fun _ => ?_)
    refine nnE (fun _ => ?_) (fun h => absurd (by rw [hd]) h)
    exact brE (fun _ => brE (fun _ => hK) (fun h => absurd (by rw [hd]) h)) (fun h => absurd rfl h)
  · have hd : did.length = asked.length := by
      rcases o5 with h | h
      · exfalso; apply e1; rw [o2, hdn, h]
      · exact h
    have hkn : kn = on := by rw [k2, o2, hd]
    have hdn2 : on = subK .u32 dnext 1 := by
      rw [hdn, o2, hd, show numAt n0 asked.length = numAt n0 (asked.length - 1 + 1) by rw [Nat.sub_add_cancel o1], numAt_pred]
    have hka : ka = oq * 4294967296 + ((did.length : Nat) : Int) := by rw [k3, o3, hd]
    have a3 := ans_hi hx (n := did.length) (by omega)
    have a4 := ans_lo (x := oq) (n := did.length)
    refine brE (fun _ => ?_) (fun h => absurd hdn2 h)
    rw [hkn, hka]
    simp only [a3, a4, hs, ht, hg, b0, Nat.zero_add]
    refine ndT (by simp) (br (fun h => absurd h (by simp)) (fun _ => ?_))
    refine brN (fun h => absurd rfl h) (fun _ => ndT (by omega) (ndT (by omega) (ndT (by omega) ?_)))
    refine brN (fun h => absurd o3 h) (fun _ => ?_)
    refine nnE (fun _ => ?_) (fun h => absurd (by rw [hd]) h)
    exact brE (fun _ => brE (fun _ => hK) (fun h => absurd (by rw [hd]) h)) (fun h => absurd rfl h)
theorem in_A11 {n0 : Int} {c M n i : Nat} {ks ns qs : List Int} {next dnext on oq kn ka got : Int} {did asked qn qq rn ra : List Int} {k : SV → St → Prop} (hI : Spec.Inv n0 c ⟨next, dnext, (some (on, oq)), (some (kn, ka)), did, asked, got, qn, qq, rn, ra⟩) (hc : c ≤ 301) (hi : i ≤ 300) {N : Nat} (hH : HeadP N M n ((i + 1 : Nat) : Int) (argT n ks ns qs) ⟨next, dnext, (some (on, oq)), (some (kn, ka)), did, asked, got, qn, qq, rn, ra⟩ qn.length rn.length k) :
    ∀ (r L j : Nat), j + r = did.length → InP (L + r + 1) (N + 1) M n (i : Int) (j : Int) (argT n ks ns qs) ⟨next, dnext, (some (on, oq)), (some (kn, ka)), did, asked, got, qn, qq, rn, ra⟩ qn.length rn.length k
  | 0, L, j, e => by
    refine Eq.mpr (t_dC11 next dnext got (i : Int) on oq kn ka false n qn.length rn.length ks ns qs did asked qn qq rn ra (j : Int) (L + 1) (N + 1) M k) ⟨?_⟩
    refine brD (fun h => by omega) (fun _ => ?_)
    have e2 : addK .i64 (i : Int) 1 = ((i + 1 : Nat) : Int) := by rw [addK_eq, i64_small (by omega)]; omega
    rw [e2]
    exact hH
  | r + 1, L, j, e => by
    have hle : did.length ≤ asked.length := hI.le
    have ham : asked.length ≤ c := hI.am
    have hdid : did = asked.take did.length := hI.did
    refine Eq.mpr (t_dC11 next dnext got (i : Int) on oq kn ka false n qn.length rn.length ks ns qs did asked qn qq rn ra (j : Int) (L + (r + 1) + 1) (N + 1) M k) ⟨?_⟩
    have e1 : did.getD j 0 = asked.getD j 0 := by
      rw [hdid, List.getD_eq_getElem?_getD, List.getElem?_take, if_pos (by omega), List.getD_eq_getElem?_getD]
    have e2 : addK .i64 (j : Int) 1 = ((j + 1 : Nat) : Int) := by rw [addK_eq, i64_small (by omega)]; omega
    have e3 : Int.toNat (j : Int) = j := Int.toNat_natCast _
    refine brD (fun _ => ?_) (fun h => by omega)
    simp only [e3, Nat.zero_add]
    refine ndT (by omega) (ndT (by omega) (ndT (by omega) (ndT (by omega) (ndT (by omega) (ndT (by omega) ?_)))))
    refine brN (fun h => absurd e1 h) (fun _ => ?_)
    rw [e2]
    have e4 : L + (r + 1) + 1 + 43 = L + r + 1 + 44 := by omega
    rw [e4]
    exact in_A11 hI hc hi hH r L (j + 1) (by omega)
theorem chk_A11 {n0 : Int} {c M n i : Nat} {ks ns qs : List Int} {next dnext on oq kn ka got : Int} {did asked qn qq rn ra : List Int} {k : SV → St → Prop} (hI : Spec.Inv n0 c ⟨next, dnext, (some (on, oq)), (some (kn, ka)), did, asked, got, qn, qq, rn, ra⟩) (hc : c ≤ 301) (hi : i ≤ 300) {N : Nat} (hN : 310 ≤ N) (hH : HeadP N M n ((i + 1 : Nat) : Int) (argT n ks ns qs) ⟨next, dnext, (some (on, oq)), (some (kn, ka)), did, asked, got, qn, qq, rn, ra⟩ qn.length rn.length k) :
    CutP (N + 1) M n (i : Int) (argT n ks ns qs) ⟨next, dnext, (some (on, oq)), (some (kn, ka)), did, asked, got, qn, qq, rn, ra⟩ qn.length rn.length k := by
  have hle : did.length ≤ asked.length := hI.le
  have ham : asked.length ≤ c := hI.am
  refine Eq.mpr (t_dB11 next dnext got (i : Int) on oq kn ka false n qn.length rn.length ks ns qs did asked qn qq rn ra (N + 1) M k) ⟨?_⟩
  obtain ⟨o1, o2, o3, o4, o5⟩ : 0 < asked.length ∧ on = numAt n0 (asked.length - 1) ∧ oq = asked.getD (asked.length - 1) 0 ∧ got = ((asked.length : Nat) : Int) - 1 ∧ (did.length = asked.length - 1 ∨ did.length = asked.length) := hI.out
  have e2 : addK .i64 ((did.length : Nat) : Int) 1 = ((did.length + 1 : Nat) : Int) := by rw [addK_eq, i64_small (by omega)]; omega
  rw [e2]
  refine brD (fun h => by omega) (fun _ => brD (fun h => by omega) (fun _ => brD (fun h => by omega) (fun _ => ?_)))
  have h := in_A11 hI hc hi hH did.length (N - did.length) 0 (by omega)
  have e3 : N - did.length + did.length + 1 = N + 1 := by omega
  rw [e3] at h
  exact h

theorem moves {n0 : Int} {M n : Nat} {ks ns qs : List Int} {k : SV → St → Prop} (hn : n ≤ 300)
    (hks : ∀ j, 0 ≤ ks.getD j 0) (hns : ∀ j, 0 ≤ ns.getD j 0 ∧ ns.getD j 0 ≤ 65535) (hqs : ∀ j, 0 ≤ qs.getD j 0 ∧ qs.getD j 0 ≤ 4294967295)
    (hK : k (.sa (.one (bv true))) [argT n ks ns qs]) (X : Nat) :
    ∀ (r i : Nat) (s : Tw), i + r = n → Spec.Inv n0 i s → HeadP (X + 310 + r) M n (i : Int) (argT n ks ns qs) s s.qn.length s.rn.length k

  | 0, i, ⟨next, dnext, none, none, did, asked, got, qn, qq, rn, ra⟩, e, hI => by
    refine step_A00 hI (by omega) (by omega) hn hks hns hqs (fun hlt s' m p hI' em ep => ?_) (fun _ => end_A00 hI (by omega) hK)
    omega
  | 0, i, ⟨next, dnext, (some (on, oq)), none, did, asked, got, qn, qq, rn, ra⟩, e, hI => by
    refine step_A10 hI (by omega) (by omega) hn hks hns hqs (fun hlt s' m p hI' em ep => ?_) (fun _ => end_A10 hI (by omega) hK)
    omega
  | 0, i, ⟨next, dnext, none, (some (kn, ka)), did, asked, got, qn, qq, rn, ra⟩, e, hI => by
    refine step_A01 hI (by omega) (by omega) hn hks hns hqs (fun hlt s' m p hI' em ep => ?_) (fun _ => end_A01 hI (by omega) hK)
    omega
  | 0, i, ⟨next, dnext, (some (on, oq)), (some (kn, ka)), did, asked, got, qn, qq, rn, ra⟩, e, hI => by
    refine step_A11 hI (by omega) (by omega) hn hks hns hqs (fun hlt s' m p hI' em ep => ?_) (fun _ => end_A11 hI (by omega) hK)
    omega
  | r + 1, i, ⟨next, dnext, none, none, did, asked, got, qn, qq, rn, ra⟩, e, hI => by
    refine step_A00 hI (by omega) (by omega) hn hks hns hqs (fun hlt s' m p hI' em ep => ?_) (fun _ => end_A00 hI (by omega) hK)
    subst em; subst ep
    have hH := moves (M := M) hn hks hns hqs hK X r (i + 1) s' (by omega) hI'
    match s', hI', hH with
    | ⟨next, dnext, none, none, did, asked, got, qn, qq, rn, ra⟩, hI', hH => exact chk_A00 (N := X + 310 + r) hI' (by omega) (by omega) (by omega) hH
    | ⟨next, dnext, (some (on, oq)), none, did, asked, got, qn, qq, rn, ra⟩, hI', hH => exact chk_A10 (N := X + 310 + r) hI' (by omega) (by omega) (by omega) hH
    | ⟨next, dnext, none, (some (kn, ka)), did, asked, got, qn, qq, rn, ra⟩, hI', hH => exact chk_A01 (N := X + 310 + r) hI' (by omega) (by omega) (by omega) hH
    | ⟨next, dnext, (some (on, oq)), (some (kn, ka)), did, asked, got, qn, qq, rn, ra⟩, hI', hH => exact chk_A11 (N := X + 310 + r) hI' (by omega) (by omega) (by omega) hH
  | r + 1, i, ⟨next, dnext, (some (on, oq)), none, did, asked, got, qn, qq, rn, ra⟩, e, hI => by
    refine step_A10 hI (by omega) (by omega) hn hks hns hqs (fun hlt s' m p hI' em ep => ?_) (fun _ => end_A10 hI (by omega) hK)
    subst em; subst ep
    have hH := moves (M := M) hn hks hns hqs hK X r (i + 1) s' (by omega) hI'
    match s', hI', hH with
    | ⟨next, dnext, none, none, did, asked, got, qn, qq, rn, ra⟩, hI', hH => exact chk_A00 (N := X + 310 + r) hI' (by omega) (by omega) (by omega) hH
    | ⟨next, dnext, (some (on, oq)), none, did, asked, got, qn, qq, rn, ra⟩, hI', hH => exact chk_A10 (N := X + 310 + r) hI' (by omega) (by omega) (by omega) hH
    | ⟨next, dnext, none, (some (kn, ka)), did, asked, got, qn, qq, rn, ra⟩, hI', hH => exact chk_A01 (N := X + 310 + r) hI' (by omega) (by omega) (by omega) hH
    | ⟨next, dnext, (some (on, oq)), (some (kn, ka)), did, asked, got, qn, qq, rn, ra⟩, hI', hH => exact chk_A11 (N := X + 310 + r) hI' (by omega) (by omega) (by omega) hH
  | r + 1, i, ⟨next, dnext, none, (some (kn, ka)), did, asked, got, qn, qq, rn, ra⟩, e, hI => by
    refine step_A01 hI (by omega) (by omega) hn hks hns hqs (fun hlt s' m p hI' em ep => ?_) (fun _ => end_A01 hI (by omega) hK)
    subst em; subst ep
    have hH := moves (M := M) hn hks hns hqs hK X r (i + 1) s' (by omega) hI'
    match s', hI', hH with
    | ⟨next, dnext, none, none, did, asked, got, qn, qq, rn, ra⟩, hI', hH => exact chk_A00 (N := X + 310 + r) hI' (by omega) (by omega) (by omega) hH
    | ⟨next, dnext, (some (on, oq)), none, did, asked, got, qn, qq, rn, ra⟩, hI', hH => exact chk_A10 (N := X + 310 + r) hI' (by omega) (by omega) (by omega) hH
    | ⟨next, dnext, none, (some (kn, ka)), did, asked, got, qn, qq, rn, ra⟩, hI', hH => exact chk_A01 (N := X + 310 + r) hI' (by omega) (by omega) (by omega) hH
    | ⟨next, dnext, (some (on, oq)), (some (kn, ka)), did, asked, got, qn, qq, rn, ra⟩, hI', hH => exact chk_A11 (N := X + 310 + r) hI' (by omega) (by omega) (by omega) hH
  | r + 1, i, ⟨next, dnext, (some (on, oq)), (some (kn, ka)), did, asked, got, qn, qq, rn, ra⟩, e, hI => by
    refine step_A11 hI (by omega) (by omega) hn hks hns hqs (fun hlt s' m p hI' em ep => ?_) (fun _ => end_A11 hI (by omega) hK)
    subst em; subst ep
    have hH := moves (M := M) hn hks hns hqs hK X r (i + 1) s' (by omega) hI'
    match s', hI', hH with
    | ⟨next, dnext, none, none, did, asked, got, qn, qq, rn, ra⟩, hI', hH => exact chk_A00 (N := X + 310 + r) hI' (by omega) (by omega) (by omega) hH
    | ⟨next, dnext, (some (on, oq)), none, did, asked, got, qn, qq, rn, ra⟩, hI', hH => exact chk_A10 (N := X + 310 + r) hI' (by omega) (by omega) (by omega) hH
    | ⟨next, dnext, none, (some (kn, ka)), did, asked, got, qn, qq, rn, ra⟩, hI', hH => exact chk_A01 (N := X + 310 + r) hI' (by omega) (by omega) (by omega) hH
    | ⟨next, dnext, (some (on, oq)), (some (kn, ka)), did, asked, got, qn, qq, rn, ra⟩, hI', hH => exact chk_A11 (N := X + 310 + r) hI' (by omega) (by omega) (by omega) hH
theorem done_run {n0 : Int} {n : Nat} {ks ns qs : List Int} {k : SV → St → Prop} (hn0 : 0 ≤ n0 ∧ n0 ≤ 4294967295)
    (hks : ∀ j, 0 ≤ ks.getD j 0) (hns : ∀ j, 0 ≤ ns.getD j 0 ∧ ns.getD j 0 ≤ 65535) (hqs : ∀ j, 0 ≤ qs.getD j 0 ∧ qs.getD j 0 ≤ 4294967295)
    (hK : k (.sa (.one (bv true))) [argT n ks ns qs]) (N : Nat) :
    evCall cxO (ev cxO (N + 700 + 60)) 3 [.one (iv .u32 n0), .one (.ref 0)] [argT n ks ns qs] k := by
  refine Eq.mpr (t_doneTop n0 n ks ns qs (N + 700) k) ?_
  refine brD (fun _ => hK) (fun h => ?_)
  have hI : Spec.Inv n0 0 ⟨n0, n0, none, none, [], [], 0, [], [], [], []⟩ :=
    ⟨hn0, (numAt_zero hn0).symm, (numAt_zero hn0).symm, rfl, Nat.le_refl _, fun x hx => absurd hx (by simp), ⟨rfl, rfl⟩, rfl, ⟨rfl, fun j hj => absurd hj (by simp)⟩, ⟨rfl, fun j hj => absurd hj (by simp)⟩, Nat.le_refl _, Nat.le_refl _, Nat.le_refl _⟩
  have hH := moves (M := N + 700) (n := n) (by omega) hks hns hqs hK (N + 390 - n) n 0 _ (by omega) hI
  have e : N + 390 - n + 310 + n = N + 700 := by omega
  rw [e] at hH
  exact hH
end Go.Ev
