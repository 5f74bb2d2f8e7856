/- The sum of chapter 2, the reference: what its Go functions do. No conditions. -/
import Derived.Test.YtaabhhffnlmkeaaSiT4
import Derived.Test.YtaabhhffnlmkeaaSiT5
import Derived.Test.YtaabhhffnlmkeaaSiS
namespace Go.Ev
open Go Go.Proofs Go.Spec
attribute [local irreducible] ev evCall branch need again
attribute [local simp] eqK_eq

theorem i64_sub {n : Int} (h : -9223372036854775808 ≤ n - 1 ∧ n - 1 < 9223372036854775808) : subK .i64 n 1 = n - 1 := by rw [subK_eq]; exact Go.IntWalk.i64_in _ (by omega)
theorem vLeaf {v v' : SV} {st : St} {k : SV → St → Prop} (h : k v st) (e : v = v') : k v' st := e ▸ h
theorem tur_sum : SumOk Try.prog 59 sRot := by
  refine sumOk_of cx0_ok ?_ ?_
  · intro args st k h
    unfold sRot at h ⊢
    split at h
    · exact (Lin.need (Lin.ret _ _)) k h
    · exact h.elim
  · intro args st k h
    unfold sRot at h
    split at h
    · rename_i x n
      obtain ⟨hn, h⟩ := need_iff.1 h
      have hn : n = 13 ∨ n = 16 ∨ n = 32 ∨ n = 17 ∨ n = 21 := by simpa using hn
      refine ⟨30, ?_⟩
      rcases hn with rfl | rfl | rfl | rfl | rfl
      · rw [t_tur13]; exact nLeaf h rfl
      · rw [t_tur16]; exact nLeaf h rfl
      · rw [t_tur32]; exact nLeaf h rfl
      · rw [t_tur17]; exact nLeaf h rfl
      · rw [t_tur21]; exact nLeaf h rfl
    · exact h.elim
theorem cxQ_ok : CxOk Try.prog cxQ := mkCx_ok namesS mixedS (by
  intro x h
  simp only [List.mem_cons, List.not_mem_nil, or_false] at h
  subst h
  exact tur_sum)
theorem round4_sum : SumOk Try.prog 56 sRound := by
  refine sumOk_of cxQ_ok ?_ ?_
  · intro args st k h
    unfold sRound at h ⊢
    split at h
    · exact Lin.ret _ _ k h
    · exact h.elim
  · intro args st k h
    unfold sRound at h
    split at h
    · rename_i a b c d
      refine ⟨60, ?_⟩
      show evCall cxQ (ev cxQ 60) _ [.agg [iv .u64 a, iv .u64 b, iv .u64 c, iv .u64 d]] [] k
      rw [t_round4]
      exact h
    · exact h.elim
theorem rword_loop (xs : List Int) (k : Exit → Fr → St → Prop) (x' : Int)
    (hk : k (Exit.exit 0) (frm 23 [(0, (.sa (.one (SC.ref 0)))), (3, (.sa (.one (iv .u64 x')))), (4, (.sa (.one (iv .i64 (-1))))), (5, (.sa (.one (iv .i64 (-1))))), (6, (.sa (.one (bv false))))]) [rd xs]) :
    ∀ (j : Nat) (x : Int), j ≤ 8 → rwGo xs j x = x' → ev cxQ (j + 40) 1 55 (codeAt Try.prog 55 [1, 1, 0, 1, 0]) (frm 23 [(0, (.sa (.one (SC.ref 0)))), (3, (.sa (.one (iv .u64 x)))), (4, (.sa (.one (iv .i64 ((j : Int) - 1)))))]) [rd xs] k
  | 0, x, hj, h => by
    simp only [rwGo] at h
    subst h
    rw [t_rwordStep xs x _ 0 k]
    exact br (fun h => absurd h (by simp)) (fun _ => hk)
  | j + 1, x, hj, h => by
    rw [t_rwordStep xs x _ (j + 1) k]
    have e1 : (((j + 1 : Nat) : Int) - 1) = (j : Int) := by omega
    have hN : j + 1 + 39 = j + 40 := by omega
    rw [e1, i64_sub (by omega), hN]
    have e2 : 0 + Int.toNat (j : Int) = j := by simp
    have e3 : Int.toNat (j : Int) = j := by simp
    simp only [rwGo] at h
    unfold rwStep at h
    rw [e3] at h
    rw [e2]
    refine br (fun _ => ?_) (fun h => absurd h (by simp))
    refine br (fun hlt => ?_) (fun hlt => ?_)
    · have hlt : (j : Int) < ((xs.length : Nat) : Int) := of_decide_eq_true hlt
      rw [if_pos hlt] at h
      refine nd (by simp) (nd (by simp <;> omega) (nd (by simp <;> omega) ?_))
      exact rword_loop xs k x' hk j _ (by omega) h
    · have hlt : ¬ (j : Int) < ((xs.length : Nat) : Int) := of_decide_eq_false hlt
      rw [if_neg hlt] at h
      exact rword_loop xs k x' hk j _ (by omega) h
theorem lin_fRWord (vas : List VA) : Lin (fRWord vas) := by
  intro k h
  unfold fRWord at h ⊢
  split at h
  · exact Lin.ret _ _ k h
  · exact h.elim
theorem rword_sum : SumOk Try.prog 55 sRWord := by
  refine pureSum_ok cxQ_ok lin_fRWord ?_
  intro vas K h
  unfold fRWord at h
  split at h
  · rename_i xs
    refine ⟨13 + 40, ?_⟩
    show evCall cxQ (ev cxQ (13 + 40)) _ [.one (.ref 0)] [rd xs] _
    rw [t_rword]
    refine rword_loop xs _ (refWord xs) ?_ 8 0 (by omega) rfl
    rw [t_rwordEnd]
    exact h
  · exact h.elim
theorem cxP_ok : CxOk Try.prog cxP := mkCx_ok namesS mixedS (by
  intro x h
  simp only [List.mem_cons, List.not_mem_nil, or_false] at h
  rcases h with rfl | rfl
  · exact round4_sum
  · exact rword_sum)
def cells4 (v : S4) : Ct := .lst [[iv .u64 v.a], [iv .u64 v.b], [iv .u64 v.c], [iv .u64 v.d]]
theorem rLeaf {c : Cx} {N m f : Nat} {co : Code} {fr : Fr} {T : TypeId} {w w' : Ct} {x : Option SO} {k : Exit → Fr → St → Prop} (h : ev c N m f co fr [x, some (.mem true .whole T 1 w)] k) (e : w = w') : ev c N m f co fr [x, some (.mem true .whole T 1 w')] k := e ▸ h
theorem take2 (v : S4) (w : Int) : takeS v w = ⟨xorK .u64 (rnd (rnd ⟨v.a, v.b, v.c, xorK .u64 v.d w⟩)).a w, (rnd (rnd ⟨v.a, v.b, v.c, xorK .u64 v.d w⟩)).b, (rnd (rnd ⟨v.a, v.b, v.c, xorK .u64 v.d w⟩)).c, (rnd (rnd ⟨v.a, v.b, v.c, xorK .u64 v.d w⟩)).d⟩ := rfl
theorem rof_loop (T : TypeId) (xs : List Int) (hx : xs.length ≤ 4611686018427387904) (k : Exit → Fr → St → Prop) (v' : S4)
    (hk : ∀ i, k (Exit.exit 0) (frm 83 [(1, (.sa (.one (SC.ref 0)))), (7, (.sa (.one (SC.ptr 1 0 0)))), (8, (.sa (.one (iv .i64 i)))), (23, (.sa (.one (iv .i64 i)))), (24, (.sa (.one (SC.ref 0)))), (25, (.sa (.one (iv .i64 (((List.length xs) : Nat) : Int))))), (26, (.sa (.one (bv false))))]) [rd xs, some (.mem true .whole T 1 (cells4 v'))]) :
    ∀ (rem i : Nat) (v : S4), xs.length < i + 8 * rem → i ≤ xs.length + 8 → refGo xs rem i v = v' →
      ev cxP (rem + 40) 1 44 (codeAt Try.prog 44 [1, 1, 1, 0, 1, 0]) (frm 83 [(1, (.sa (.one (SC.ref 0)))), (7, (.sa (.one (SC.ptr 1 0 0)))), (8, (.sa (.one (iv .i64 (i : Int)))))]) [rd xs, some (.mem true .whole T 1 (cells4 v))] k
  | 0, i, v, h0, h1, h2 => by
    show ev cxP (0 + 40) 1 _ _ _ [rd xs, some (.mem true .whole T 1 (.lst [[iv .u64 v.a], [iv .u64 v.b], [iv .u64 v.c], [iv .u64 v.d]]))] k
    rw [t_rofStep T v.a v.b v.c v.d i xs 0 k]
    simp only [refGo] at h2
    subst h2
    exact br (fun h => absurd (of_decide_eq_true h) (by omega)) (fun _ => hk i)
  | rem + 1, i, v, h0, h1, h2 => by
    show ev cxP (rem + 1 + 40) 1 _ _ _ [rd xs, some (.mem true .whole T 1 (.lst [[iv .u64 v.a], [iv .u64 v.b], [iv .u64 v.c], [iv .u64 v.d]]))] k
    rw [t_rofStep T v.a v.b v.c v.d i xs (rem + 1) k]
    have hN : rem + 1 + 39 = rem + 40 := by omega
    have e8 : addK .i64 (i : Int) 8 = ((i + 8 : Nat) : Int) := by rw [i64_add8 (by omega)]; omega
    have e0 : Int.toNat (i : Int) = i := by simp
    have e9 : Int.toNat ((i + 8 : Nat) : Int) = i + 8 := Int.toNat_natCast _
    rw [e8, e0, e9, hN, Nat.zero_add i, show i + 8 - i = 8 by omega]
    simp only [refGo] at h2
    refine br (fun hle => ?_) (fun hle => ?_)
    · have hle : (i : Int) ≤ ((xs.length : Nat) : Int) := of_decide_eq_true hle
      have hle : i ≤ xs.length := by omega
      rw [if_pos hle] at h2
      have es : subK .i64 (((List.length xs) : Nat) : Int) (i : Int) = ((xs.length : Nat) : Int) - i := by rw [subK_eq]; exact Go.IntWalk.i64_in _ (by omega)
      rw [es]
      refine br (fun h8 => ?_) (fun h8 => ?_)
      · have h8 := of_decide_eq_true h8
        have h8 : i + 8 ≤ xs.length := by omega
        refine nd (by simp) (nd (decide_eq_true (by omega)) (nd (decide_eq_true (by omega)) (nd (decide_eq_true (by omega)) (nd (decide_eq_true (by omega)) (nd (decide_eq_true (by omega)) (nd (decide_eq_true (by omega)) ?_))))))
        unfold wordAt at h2
        rw [if_pos h8] at h2
        refine rLeaf (rof_loop T xs hx k v' hk rem (i + 8) _ (by omega) (by omega) h2) ?_
        rw [take2]
        rfl
      · have h8 := of_decide_eq_false h8
        have h8 : ¬ i + 8 ≤ xs.length := by omega
        refine nd (by simp) (nd (decide_eq_true (by omega)) (nd (decide_eq_true (by omega)) (nd (decide_eq_true (by omega)) (nd (decide_eq_true (by omega)) ?_))))
        unfold wordAt lastWord at h2
        rw [if_neg h8] at h2
        refine rLeaf (rof_loop T xs hx k v' hk rem (i + 8) _ (by omega) (by omega) h2) ?_
        rw [take2, take_rest]
        rfl
    · have hle : ¬ (i : Int) ≤ ((xs.length : Nat) : Int) := of_decide_eq_false hle
      rw [if_neg (by omega)] at h2
      subst h2
      exact hk i
theorem lin_fROf (vas : List VA) : Lin (fROf vas) := by
  intro k h
  unfold fROf at h ⊢
  split at h
  · exact (Lin.need (Lin.ret _ _)) k h
  · exact h.elim
theorem rof_sum : SumOk Try.prog 44 sROf := by
  refine pureSum_ok cxP_ok lin_fROf ?_
  intro vas K h
  unfold fROf at h
  split at h
  · rename_i k0 k1 k2 k3 k4 k5 k6 k7 k8 k9 ka kb kc kd ke kf xs
    obtain ⟨hn, h⟩ := need_iff.1 h
    have hn : xs.length ≤ 4611686018427387904 := by simpa using hn
    refine ⟨xs.length / 8 + 1 + 6 + 40, ?_⟩
    show evCall cxP (ev cxP (xs.length / 8 + 1 + 6 + 40)) _ [.agg [iv .u8 k0, iv .u8 k1, iv .u8 k2, iv .u8 k3, iv .u8 k4, iv .u8 k5, iv .u8 k6, iv .u8 k7, iv .u8 k8, iv .u8 k9, iv .u8 ka, iv .u8 kb, iv .u8 kc, iv .u8 kd, iv .u8 ke, iv .u8 kf], .one (.ref 0)] [rd xs] _
    rw [t_rof, show xs.length / 8 + 1 + 6 + 34 = xs.length / 8 + 1 + 40 by omega]
    refine rof_loop _ xs hn _ (refGo xs (xs.length / 8 + 1) 0 (ref0 [k0, k1, k2, k3, k4, k5, k6, k7, k8, k9, ka, kb, kc, kd, ke, kf])) ?_ (xs.length / 8 + 1) 0 (ref0 [k0, k1, k2, k3, k4, k5, k6, k7, k8, k9, ka, kb, kc, kd, ke, kf]) (by omega) (by omega) rfl
    intro i
    unfold refOf at h
    generalize refGo xs (xs.length / 8 + 1) 0 (ref0 [k0, k1, k2, k3, k4, k5, k6, k7, k8, k9, ka, kb, kc, kd, ke, kf]) = v at h ⊢
    show (kBlock 0 (kSeq (ev cxP (xs.length / 8 + 1 + 6 + 36) 1 _ _) _)) (Exit.exit 0) _ [rd xs, some (.mem true .whole _ 1 (.lst [[iv .u64 v.a], [iv .u64 v.b], [iv .u64 v.c], [iv .u64 v.d]]))]
    rw [t_rofEnd]
    exact h
  · exact h.elim
end Go.Ev
