/- The sum of chapter 2, whole: what the Go function does. No conditions. -/
import Derived.Test.YtaabhhffnlmkeaaSiS
namespace Go.Ev
open Go Go.Proofs Go.Spec
attribute [local irreducible] ev evCall branch need again
attribute [local simp] eqK_eq

theorem feed_n : ∀ (F : Nat) (ys : List Int) (t : SB), ys.length ≤ F → 0 ≤ t.n → t.n + ys.length ≤ 4611686018427387904 → (feed F ys t).n = t.n + ys.length
  | 0, ys, t, hF, h0, h1 => by
    have : ys = [] := List.eq_nil_of_length_eq_zero (by omega)
    subst this
    simp [feed]
  | F + 1, [], t, hF, h0, h1 => by simp [feed]
  | F + 1, y :: r, t, hF, h0, h1 => by
    simp only [List.length_cons] at hF h1
    have hn1 : (fill t y).n = t.n + 1 := by
      unfold fill
      rw [i64_add (by omega)]
      split <;> rfl
    simp only [feed]
    split
    · rename_i hc
      have h9 := hc.2
      simp only [List.length_cons] at h9
      rw [i64_add8 (by omega)]
      rw [feed_n F _ _ (by simp <;> omega) (by show 0 ≤ t.n + 8; omega) (by show t.n + 8 + _ ≤ _; simp <;> omega)]
      show t.n + 8 + _ = _
      simp <;> omega
    · rw [feed_n F r _ (by omega) (by omega) (by omega), hn1]
      simp <;> omega
theorem total_mono (xss : List (List Int)) {i n : Nat} (h : i ≤ n) : total xss i ≤ total xss n := by
  induction n with
  | zero => have : i = 0 := by omega
            subst this; exact Nat.le_refl _
  | succ n ih =>
    by_cases e : i = n + 1
    · subst e; exact Nat.le_refl _
    · have := ih (by omega)
      simp only [total]; omega
theorem cxO_ok : CxOk Try.prog cxO := mkCx_ok namesS mixedS (by
  intro x h
  simp only [List.mem_cons, List.not_mem_nil, or_false] at h
  rcases h with rfl | rfl | rfl | rfl
  · exact take_sum
  · exact word_sum
  · exact bytes_sum
  · exact rounds_sum)
theorem pLeaf {c : Cx} {N m f : Nat} {co : Code} {fr : Fr} {T : TypeId} {w w' : List SC} {x : Option SO} {k : Exit → Fr → St → Prop} (h : ev c N m f co fr [x, obj T 6 w] k) (e : w = w') : ev c N m f co fr [x, obj T 6 w'] k := e ▸ h
theorem of_loop (T : TypeId) (n : Nat) (xss : List (List Int)) (hn : total xss n ≤ 4611686018427387904) (hn2 : n ≤ 4611686018427387904) (k : Exit → Fr → St → Prop) (t' : SB)
    (hk : k (Exit.exit 0) (frm 76 [(7, (.sa (.one (SC.ptr 1 0 0)))), (24, (.sa (.one (SC.ref 0)))), (25, (.sa (.one (iv .i64 ((n : Nat) : Int))))), (26, (.sa (.one (iv .i64 ((n : Nat) : Int))))), (27, (.sa (.one (bv false))))]) [(some (SO.own false MK.ext 0 1 (Ct.tab n [(Col.data .u8 xss)]))), obj T 6 (cellsB t')]) :
    ∀ (rem i : Nat) (t : SB), i + rem = n → t.n = (total xss i : Int) → feedAll xss rem i t = t' →
      ev cxO (rem + 40) 1 42 (codeAt Try.prog 42 [1, 1, 1, 0, 1, 0]) (frm 76 [(7, (.sa (.one (SC.ptr 1 0 0)))), (24, (.sa (.one (SC.ref 0)))), (25, (.sa (.one (iv .i64 ((n : Nat) : Int))))), (26, (.sa (.one (iv .i64 (i : Int)))))]) [(some (SO.own false MK.ext 0 1 (Ct.tab n [(Col.data .u8 xss)]))), obj T 6 (cellsB t)] k
  | 0, i, t, h1, h2, h3 => by
    show ev cxO (0 + 40) 1 42 (codeAt Try.prog 42 [1, 1, 1, 0, 1, 0]) _ [_, obj T 6 [iv .u64 t.s.a, iv .u64 t.s.b, iv .u64 t.s.c, iv .u64 t.s.d, iv .u64 t.r, iv .i64 t.n]] k
    rw [t_part T t.s.a t.s.b t.s.c t.s.d t.r t.n i n xss 0 k]
    refine br (fun h => absurd h (by simp <;> omega)) (fun _ => ?_)
    have : i = n := by omega
    subst this
    simp only [feedAll] at h3
    subst h3
    exact hk
  | rem + 1, i, t, h1, h2, h3 => by
    show ev cxO (rem + 1 + 40) 1 42 (codeAt Try.prog 42 [1, 1, 1, 0, 1, 0]) _ [_, obj T 6 [iv .u64 t.s.a, iv .u64 t.s.b, iv .u64 t.s.c, iv .u64 t.s.d, iv .u64 t.r, iv .i64 t.n]] k
    rw [t_part T t.s.a t.s.b t.s.c t.s.d t.r t.n i n xss (rem + 1) k]
    have hN : rem + 1 + 39 = rem + 40 := by omega
    have hto : 0 + Int.toNat (i : Int) = i := by simp
    rw [i64_add (by omega), hN, hto]
    have hm := total_mono xss (show i + 1 ≤ n by omega)
    have hlen : total xss (i + 1) = total xss i + (xss.getD i []).length := rfl
    refine br (fun _ => ?_) (fun h => absurd h (by simp <;> omega))
    refine nd (by simp) (nd (by simp <;> omega) (nd (by simp <;> omega) (nd (decide_eq_true ⟨by omega, by omega⟩) ?_)))
    have ih := of_loop T n xss hn hn2 k t' hk rem (i + 1) (feed (xss.getD i []).length (xss.getD i []) t) (by omega) (by rw [feed_n _ _ _ (Nat.le_refl _) (by omega) (by omega), h2, hlen]; omega) h3
    exact pLeaf ih rfl
theorem lin_fOf (vas : List VA) : Lin (fOf vas) := by
  intro k h
  unfold fOf at h ⊢
  split at h
  · exact (Lin.need (Lin.ret _ _)) k h
  · exact h.elim
theorem of_sum : SumOk Try.prog 42 sOf := by
  refine pureSum_ok cxO_ok lin_fOf ?_
  intro vas K h
  unfold fOf at h
  split at h
  · rename_i k0 k1 k2 k3 k4 k5 k6 k7 k8 k9 ka kb kc kd ke kf n xss
    obtain ⟨hn, h⟩ := need_iff.1 h
    have hn : total xss n ≤ 4611686018427387904 ∧ n ≤ 4611686018427387904 := by simpa using hn
    refine ⟨n + 6 + 40, ?_⟩
    show evCall cxO (ev cxO (n + 6 + 40)) 42 [.agg [iv .u8 k0, iv .u8 k1, iv .u8 k2, iv .u8 k3, iv .u8 k4, iv .u8 k5, iv .u8 k6, iv .u8 k7, iv .u8 k8, iv .u8 k9, iv .u8 ka, iv .u8 kb, iv .u8 kc, iv .u8 kd, iv .u8 ke, iv .u8 kf], .one (.ref 0)] [some (.own false .ext 0 1 (.tab n [.data .u8 xss]))] _
    rw [t_of, show n + 6 + 34 = n + 40 by omega]
    refine of_loop _ n xss hn.1 hn.2 _ (feedAll xss n 0 ⟨sip0 [k0, k1, k2, k3, k4, k5, k6, k7, k8, k9, ka, kb, kc, kd, ke, kf], 0, 0⟩) ?_ n 0 ⟨sip0 [k0, k1, k2, k3, k4, k5, k6, k7, k8, k9, ka, kb, kc, kd, ke, kf], 0, 0⟩ (by omega) rfl rfl
    unfold sipOf at h
    generalize feedAll xss n 0 ⟨sip0 [k0, k1, k2, k3, k4, k5, k6, k7, k8, k9, ka, kb, kc, kd, ke, kf], 0, 0⟩ = t at h ⊢
    show (kBlock 0 (kSeq (ev cxO (n + 6 + 36) 1 42 (codeAt Try.prog 42 [1, 1, 1, 1])) (kRet (Cx.P cxO) [(ResultVar.tmp 4)] 1 _))) (Exit.exit 0) (frm 76 [(7, (.sa (.one (SC.ptr 1 0 0)))), (24, (.sa (.one (SC.ref 0)))), (25, (.sa (.one (iv .i64 ((n : Nat) : Int))))), (26, (.sa (.one (iv .i64 ((n : Nat) : Int))))), (27, (.sa (.one (bv false))))]) [(some (SO.own false MK.ext 0 1 (Ct.tab n [(Col.data .u8 xss)]))), (obj _ 6 [(iv .u64 t.s.a), (iv .u64 t.s.b), (iv .u64 t.s.c), (iv .u64 t.s.d), (iv .u64 t.r), (iv .i64 t.n)])]
    rw [t_ofEnd]
    exact h
  · exact h.elim
end Go.Ev
