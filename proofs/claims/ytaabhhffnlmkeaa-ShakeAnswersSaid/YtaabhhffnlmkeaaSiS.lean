/- The sum of chapter 2: what the Go functions do. No conditions. -/
import Derived.Test.YtaabhhffnlmkeaaSiT
import Derived.Test.YtaabhhffnlmkeaaSiT2
import Derived.Test.YtaabhhffnlmkeaaSiT3
namespace Go.Ev
open Go Go.Proofs Go.Spec
attribute [local irreducible] ev evCall branch need again
attribute [local simp] eqK_eq

theorem uLeaf {T : TypeId} {w w' : List SC} {m : Nat} {k : SV → St → Prop} (h : k (.tup []) [obj T m w]) (e : w = w') : k (.tup []) [obj T m w'] := e ▸ h
theorem nLeaf {x y : Int} {st : St} {k : SV → St → Prop} (h : k (.sa (.one (iv .u64 x))) st) (e : x = y) : k (.sa (.one (iv .u64 y))) st := e ▸ h
theorem takeS_eq (a b c d w : Int) : takeS ⟨a, b, c, d⟩ w = addA (rnds 2 ⟨a, b, c, xorK .u64 d w⟩) w := by unfold takeS; simp only
theorem i64_add {n : Int} (h : -9223372036854775808 ≤ n + 1 ∧ n + 1 < 9223372036854775808) : addK .i64 n 1 = n + 1 := by rw [addK_eq]; exact Go.IntWalk.i64_in _ (by omega)
theorem i64_add8 {n : Int} (h : -9223372036854775808 ≤ n + 8 ∧ n + 8 < 9223372036854775808) : addK .i64 n 8 = n + 8 := by rw [addK_eq]; exact Go.IntWalk.i64_in _ (by omega)
theorem namesS : namesB Try.prog = true := by kernel_rfl
theorem mixedS : Try.prog.follows .mixedOrders = true := by kernel_rfl
theorem cx0_ok : CxOk Try.prog cx0 := mkCx_ok namesS mixedS (by intro x h; cases h)
theorem rot_sum : SumOk Try.prog 58 sRot := by
  refine sumOk_of cx0_ok ?_ ?_
  · intro args st k h
    unfold sRot at h ⊢
    split at h
    · exact (Lin.need (Lin.ret _ _)) k h
    · exact h.elim
  · intro args st k h
    unfold sRot at h
    split at h
    · rename_i x n
      obtain ⟨hn, h⟩ := need_iff.1 h
      have hn : n = 13 ∨ n = 16 ∨ n = 32 ∨ n = 17 ∨ n = 21 := by simpa using hn
      refine ⟨30, ?_⟩
      rcases hn with rfl | rfl | rfl | rfl | rfl
      · rw [t_rot13]; exact nLeaf h rfl
      · rw [t_rot16]; exact nLeaf h rfl
      · rw [t_rot32]; exact nLeaf h rfl
      · rw [t_rot17]; exact nLeaf h rfl
      · rw [t_rot21]; exact nLeaf h rfl
    · exact h.elim
theorem cxR_ok : CxOk Try.prog cxR := mkCx_ok namesS mixedS (by
  intro x h
  simp only [List.mem_cons, List.not_mem_nil, or_false] at h
  subst h
  exact rot_sum)
theorem rounds_loop (T : TypeId) (r n m : Int) (hm : m ≤ 1000) (k : Exit → Fr → St → Prop) (s' : S4)
    (hk : k (Exit.exit 0) (frm 120 [(0, .sa (.one (.ptr 0 0 0))), (4, .sa (.one (iv .i64 m))), (5, .sa (.one (iv .i64 m))), (6, .sa (.one (bv false)))]) [obj T 6 (cellsS s' r n)]) :
    ∀ (rem : Nat) (i : Int) (s : S4), 0 ≤ i → i + rem = m → rnds rem s = s' →
      ev cxR (rem + 30) 1 54 (codeAt Try.prog 54 [1, 0]) (frm 120 [(0, .sa (.one (.ptr 0 0 0))), (4, .sa (.one (iv .i64 m))), (5, .sa (.one (iv .i64 i)))]) [obj T 6 [iv .u64 s.a, iv .u64 s.b, iv .u64 s.c, iv .u64 s.d, iv .u64 r, iv .i64 n]] k
  | 0, i, s, h0, h1, h2 => by
    rw [t_round T s.a s.b s.c s.d r n m i 0 k]
    refine br (fun h => absurd h (by simp <;> omega)) (fun _ => ?_)
    have : i = m := by omega
    subst this
    simp only [rnds] at h2
    subst h2
    exact hk
  | rem + 1, i, s, h0, h1, h2 => by
    rw [t_round T s.a s.b s.c s.d r n m i (rem + 1) k]
    have hN : rem + 1 + 29 = rem + 30 := by omega
    rw [i64_add (by omega), hN]
    refine br (fun _ => ?_) (fun h => absurd h (by simp <;> omega))
    exact rounds_loop T r n m hm k s' hk rem (i + 1) (rnd s) (by omega) (by omega) h2
theorem rounds_sum : SumOk Try.prog 54 sRounds := by
  refine sumOk_of cxR_ok ?_ ?_
  · intro args st k h
    unfold sRounds at h ⊢
    split at h
    · exact (Lin.need (Lin.ret _ _)) k h
    · exact h.elim
  · intro args st k h
    unfold sRounds at h
    split at h
    · rename_i m T a b c d r n
      obtain ⟨hn, h⟩ := need_iff.1 h
      have hn : 0 ≤ m ∧ m ≤ 1000 := by simpa using hn
      refine ⟨m.toNat + 32, ?_⟩
      rw [show m.toNat + 32 = (m.toNat + 2) + 30 by omega, t_rounds]
      rw [show m.toNat + 2 + 28 = m.toNat + 30 by omega]
      refine rounds_loop T r n m hn.2 _ (rnds m.toNat ⟨a, b, c, d⟩) ?_ m.toNat 0 ⟨a, b, c, d⟩ (by omega) (by omega) rfl
      exact h
    · exact h.elim
theorem cxT_ok : CxOk Try.prog cxT := mkCx_ok namesS mixedS (by
  intro x h
  simp only [List.mem_cons, List.not_mem_nil, or_false] at h
  rcases h with rfl | rfl
  · exact rot_sum
  · exact rounds_sum)
theorem take_sum : SumOk Try.prog 53 sTake := by
  refine sumOk_of cxT_ok ?_ ?_
  · intro args st k h
    unfold sTake at h ⊢
    split at h
    · exact Lin.ret _ _ k h
    · exact h.elim
  · intro args st k h
    unfold sTake at h
    split at h
    · rename_i w T a b c d r n
      refine ⟨30, ?_⟩
      rw [t_take]
      refine uLeaf h ?_
      rw [takeS_eq]
      generalize rnds 2 ⟨a, b, c, xorK .u64 d w⟩ = t
      rfl
    · exact h.elim
theorem lin_fWord (vas : List VA) : Lin (fWord vas) := by
  intro k h
  unfold fWord at h ⊢
  split at h
  · exact (Lin.need (Lin.ret _ _)) k h
  · exact h.elim
theorem word_sum : SumOk Try.prog 51 sWord := by
  refine pureSum_ok cx0_ok lin_fWord ?_
  intro vas K h
  unfold fWord at h
  split at h
  · rename_i xs
    obtain ⟨hn, h⟩ := need_iff.1 h
    have hn : 8 ≤ xs.length := by have : (8 : Int) ≤ xs.length := by simpa using hn
                                  omega
    refine ⟨60, ?_⟩
    show evCall cx0 (ev cx0 60) 51 [.one (.ref 0)] [rd xs] _
    rw [t_word]
    refine nd (by simp) (nd (by simp <;> omega) (nd (by simp <;> omega) (nd (by simp <;> omega) (nd (by simp <;> omega) (nd (by simp <;> omega) (nd (by simp <;> omega) (nd (by simp <;> omega) (nd (by simp <;> omega) (nd (by simp <;> omega) ?_)))))))))
    exact h
  · exact h.elim
theorem cxB_ok : CxOk Try.prog cxB := mkCx_ok namesS mixedS (by
  intro x h
  simp only [List.mem_cons, List.not_mem_nil, or_false] at h
  rcases h with rfl | rfl
  · exact take_sum
  · exact word_sum)
theorem take_all (xs : List Int) : List.take xs.length xs = xs := by simp
theorem take_rest (xs : List Int) (j : Nat) : List.take (xs.length - j) (List.drop j xs) = List.drop j xs := List.take_of_length_le (by simp)
theorem mul8 {n : Int} (h : 0 ≤ n) : 0 ≤ mulK .i64 8 (remK n 8) := by
  have h1 := Int.tmod_nonneg 8 h
  have h2 := Int.tmod_lt_of_pos n (show (0 : Int) < 8 by decide)
  rw [mulK_eq, remK_eq, Go.IntWalk.i64_in _ (by omega)]
  omega
theorem bLeaf {c : Cx} {N m f : Nat} {co : Code} {fr : Fr} {T : TypeId} {w w' : List SC} {xs ys ys' : List Int} {k : Exit → Fr → St → Prop} (h : ev c N m f co fr [obj T 6 w, rd xs, rd ys] k) (e : w = w') (e2 : ys = ys') : ev c N m f co fr [obj T 6 w', rd xs, rd ys'] k := e ▸ e2 ▸ h
theorem bytes_loop (T : TypeId) (xs : List Int) (k : Exit → Fr → St → Prop) (t' : SB)
    (hk : k (Exit.exit 0) (frm 75 [(0, .sa (.one (.ptr 0 0 0))), (1, .sa (.one (.ref 2))), (4, .sa (.one (.ref 2))), (5, .sa (.one (iv .i64 (((([] : List Int).length : Nat) : Int))))), (6, .sa (.one (bv false)))]) [obj T 6 (cellsB t'), rd xs, rd []]) :
    ∀ (F : Nat) (ys : List Int) (t : SB), ys.length ≤ F → 0 ≤ t.n → t.n + ys.length ≤ 4611686018427387904 → feed F ys t = t' →
      ev cxB (F + 40) 2 52 (codeAt Try.prog 52 [0]) (frm 75 [(0, .sa (.one (.ptr 0 0 0))), (1, .sa (.one (.ref 2)))]) [obj T 6 (cellsB t), rd xs, rd ys] k
  | 0, ys, t, hF, h0, h1, h2 => by
    have : ys = [] := List.eq_nil_of_length_eq_zero (by omega)
    subst this
    simp only [feed] at h2
    subst h2
    show ev cxB (0 + 40) 2 52 (codeAt Try.prog 52 [0]) _ [some (.mem true .whole T 6 (.lst [[.raw (.int .u64 t.s.a), .raw (.int .u64 t.s.b), .raw (.int .u64 t.s.c), .raw (.int .u64 t.s.d), .raw (.int .u64 t.r), .raw (.int .i64 t.n)]])), rd xs, rd []] k
    rw [t_byte T t.s.a t.s.b t.s.c t.s.d t.r t.n xs [] 0 k]
    refine br (fun h => absurd h (by simp)) (fun _ => ?_)
    exact hk
  | F + 1, ys, t, hF, h0, h1, h2 => by
    show ev cxB (F + 1 + 40) 2 52 (codeAt Try.prog 52 [0]) _ [some (.mem true .whole T 6 (.lst [[.raw (.int .u64 t.s.a), .raw (.int .u64 t.s.b), .raw (.int .u64 t.s.c), .raw (.int .u64 t.s.d), .raw (.int .u64 t.r), .raw (.int .i64 t.n)]])), rd xs, rd ys] k
    rw [t_byte T t.s.a t.s.b t.s.c t.s.d t.r t.n xs ys (F + 1) k]
    have hN : F + 1 + 39 = F + 40 := by omega
    rw [hN, take_all, take_rest, take_rest]
    have hm := mul8 h0
    cases ys with
    | nil =>
      refine br (fun h => absurd h (by simp)) (fun _ => ?_)
      simp only [feed] at h2
      subst h2
      exact hk
    | cons y r =>
      simp only [List.length_cons] at hF h1
      have hs1 : ((r.length + 1 : Nat) : Int) = (r.length : Int) + 1 := by omega
      rw [i64_add (by omega)]
      have hn1 : (fill t y).n = t.n + 1 := by
        unfold fill
        rw [i64_add (by omega)]
        split <;> rfl
      refine br (fun _ => ?_) (fun h => absurd h (by simp <;> omega))
      refine br (fun hz => ?_) (fun hz => ?_)
      · have hz : remK t.n 8 = 0 := by simpa using hz
        refine br (fun h8 => ?_) (fun h8 => ?_)
        · have h8 : 8 ≤ r.length + 1 := by
            have : (8 : Int) ≤ ((r.length + 1 : Nat) : Int) := by simpa using h8
            omega
          refine nd (by simp) (nd (by simp <;> omega) (nd (by simp) (nd (by simp <;> omega) (nd (by simp <;> omega) (nd (by simp <;> omega) ?_)))))
          rw [i64_add8 (by omega)]
          have hfeed : feed F ((y :: r).drop 8) ⟨takeS t.s (word8 (y :: r)), t.r, addK .i64 t.n 8⟩ = t' := by
            rw [← h2]
            simp only [feed]
            rw [if_pos ⟨hz, by simpa using h8⟩]
          rw [i64_add8 (by omega)] at hfeed
          have ih := bytes_loop T xs k t' hk F ((y :: r).drop 8) ⟨takeS t.s (word8 (y :: r)), t.r, t.n + 8⟩ (by simp <;> omega) (by show 0 ≤ t.n + 8; omega) (by show t.n + 8 + _ ≤ _; simp; omega) hfeed
          exact bLeaf ih rfl rfl
        have hno : ¬ (remK t.n 8 = 0 ∧ 8 ≤ (y :: r).length) := fun hc => by
          have h9 := hc.2
          simp only [List.length_cons] at h9
          have : ¬ (8 : Int) ≤ ((r.length + 1 : Nat) : Int) := by simpa using h8
          omega
        have hfeed : feed F r (fill t y) = t' := by
          rw [← h2]
          simp only [feed]
          rw [if_neg hno]
        have ih := bytes_loop T xs k t' hk F r (fill t y) (by omega) (by omega) (by omega) hfeed
        refine nd (by simp <;> omega) (nd (by simp) (nd (by simpa using hm) (nd (by simp) (nd (by simp <;> omega) (nd (by simp) ?_)))))
        refine br (fun hz => nd (by simp <;> omega) ?_) (fun hz => nd (by simp <;> omega) ?_)
        · refine bLeaf ih ?_ rfl
          have hz : remK (t.n + 1) 8 = 0 := by simpa using hz
          unfold fill
          rw [i64_add (by omega), if_pos hz]
          rfl
        · refine bLeaf ih ?_ rfl
          have hz : ¬ remK (t.n + 1) 8 = 0 := by simpa using hz
          unfold fill
          rw [i64_add (by omega), if_neg hz]
          rfl
      · have hno : ¬ (remK t.n 8 = 0 ∧ 8 ≤ (y :: r).length) := fun hc => by have := hc.1; simp [this] at hz
        have hfeed : feed F r (fill t y) = t' := by
          rw [← h2]
          simp only [feed]
          rw [if_neg hno]
        have ih := bytes_loop T xs k t' hk F r (fill t y) (by omega) (by omega) (by omega) hfeed
        refine nd (by simp <;> omega) (nd (by simp) (nd (by simpa using hm) (nd (by simp) (nd (by simp <;> omega) (nd (by simp) ?_)))))
        refine br (fun hz => nd (by simp <;> omega) ?_) (fun hz => nd (by simp <;> omega) ?_)
        · refine bLeaf ih ?_ rfl
          have hz : remK (t.n + 1) 8 = 0 := by simpa using hz
          unfold fill
          rw [i64_add (by omega), if_pos hz]
          rfl
        · refine bLeaf ih ?_ rfl
          have hz : ¬ remK (t.n + 1) 8 = 0 := by simpa using hz
          unfold fill
          rw [i64_add (by omega), if_neg hz]
          rfl
theorem bytes_sum : SumOk Try.prog 52 sBytes := by
  refine sumOk_of cxB_ok ?_ ?_
  · intro args st k h
    unfold sBytes at h ⊢
    split at h
    · exact (Lin.need (Lin.ret _ _)) k h
    · exact h.elim
  · intro args st k h
    unfold sBytes at h
    split at h
    · rename_i T a b c d r n xs
      obtain ⟨hn, h⟩ := need_iff.1 h
      have hn : 0 ≤ n ∧ n + xs.length ≤ 4611686018427387904 := by simpa using hn
      refine ⟨xs.length + 1 + 40, ?_⟩
      show evCall cxB (ev cxB (xs.length + 1 + 40)) 52 [.one (.ptr 0 0 0), .one (.ref 1)] [some (.mem true .whole _ 6 (.lst [[.raw (.int .u64 a), .raw (.int .u64 b), .raw (.int .u64 c), .raw (.int .u64 d), .raw (.int .u64 r), .raw (.int .i64 n)]])), rd xs] k
      rw [t_bytes, show xs.length + 1 + 39 = xs.length + 40 by omega]
      exact bytes_loop _ xs _ (feed xs.length xs ⟨⟨a, b, c, d⟩, r, n⟩) h xs.length xs ⟨⟨a, b, c, d⟩, r, n⟩ (Nat.le_refl _) hn.1 hn.2 rfl
    · exact h.elim
end Go.Ev
