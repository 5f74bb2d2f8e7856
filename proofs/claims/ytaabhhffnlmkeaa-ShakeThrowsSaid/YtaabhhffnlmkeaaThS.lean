/- The dice: the law's run. No conditions. -/
import Derived.Test.YtaabhhffnlmkeaaThT
import Derived.Test.YtaabhhffnlmkeaaThT2
import Derived.Test.YtaabhhffnlmkeaaThT3
import Derived.Test.YtaabhhffnlmkeaaWkS
namespace Go.Ev
open Go Go.Proofs Go.Spec
attribute [local irreducible] ev evCall branch need again

theorem u64_range (x : Int) : 0 ≤ IntKind.wrap .u64 x ∧ IntKind.wrap .u64 x ≤ 18446744073709551615 := by rw [IntKind.wrap_u64]; omega
theorem quo_shr {x : Int} (h : 0 ≤ x ∧ x ≤ 18446744073709551615) {j : Nat} (hj : j ≤ 64) : quoK .u64 x (2 ^ j) = shrK .u64 x j := by
  have hp : (1 : Int) ≤ 2 ^ j := Int.add_one_le_of_lt (Int.pow_pos (by decide))
  rw [quoK_eq, shrK_eq, Go.IntWalk.u64_quo x _ ⟨h.1, h.2, hp⟩]
  have e : min (Int.toNat (j : Int)) (IntKind.bits .u64) = j := by
    show min (Int.toNat (j : Int)) 64 = j
    rw [Int.toNat_natCast]; omega
  rw [e, Int.fdiv_eq_ediv_of_nonneg _ (by omega)]
theorem works_sum0 : SumOk Try.prog 7 sWorks0 := works_sum
theorem cxN_ok : CxOk Try.prog cxN := mkCx_ok namesS mixedS (by intro x h; cases h)
theorem kLeaf {v v' : SV} {st : St} {k : SV → St → Prop} (h : k v st) (e : v = v') : k v' st := e ▸ h
theorem wf64 {n : Int} (h : decide ((Lit.int .u64 n).wf = true) = true) : 0 ≤ n ∧ n ≤ 18446744073709551615 := by
  simpa [Lit.wf, IntKind.min, IntKind.max, IntKind.signed, IntKind.bits] using h
theorem mixP_range (n : Int) : 0 ≤ mixP n ∧ mixP n ≤ 18446744073709551615 := by unfold mixP; rw [xorK_eq]; exact u64_range _
theorem q30 (x : Int) (h : 0 ≤ x ∧ x ≤ 18446744073709551615) : quoK .u64 x 1073741824 = shrK .u64 x 30 := quo_shr (j := 30) h (by decide)
theorem q27 (x : Int) (h : 0 ≤ x ∧ x ≤ 18446744073709551615) : quoK .u64 x 134217728 = shrK .u64 x 27 := quo_shr (j := 27) h (by decide)
theorem q31 (x : Int) (h : 0 ≤ x ∧ x ≤ 18446744073709551615) : quoK .u64 x 2147483648 = shrK .u64 x 31 := quo_shr (j := 31) h (by decide)
theorem mod32 {x : Int} (h : 0 ≤ x) : IntKind.wrap .u32 (remK x 4294967296) = IntKind.wrap .u32 x := by
  rw [remK_eq, Go.IntWalk.rem_in _ _ h, IntKind.wrap_u32, IntKind.wrap_u32]; omega
theorem throwRef_sum : SumOk Try.prog 18 sThrowRef := by
  refine sumOk_of cxN_ok ?_ ?_
  · intro args st k h
    unfold sThrowRef at h ⊢
    split at h
    · exact (Lin.need (Lin.ret _ _)) k h
    · exact h.elim
  · intro args st k h
    unfold sThrowRef at h
    split at h
    · rename_i n
      obtain ⟨hn, h⟩ := need_iff.1 h
      refine ⟨40, ?_⟩
      show evCall cxN (ev cxN 40) _ [.one (iv .u64 n)] [] k
      rw [t_throwRef]
      have r1 : 0 ≤ addK .u64 n 11400714819323198485 ∧ addK .u64 n 11400714819323198485 ≤ 18446744073709551615 := by rw [addK_eq]; exact u64_range _
      have r2 := fun x y => show 0 ≤ mulK .u64 x y ∧ mulK .u64 x y ≤ 18446744073709551615 from by rw [mulK_eq]; exact u64_range _
      have r3 := fun x y => show 0 ≤ xorK .u64 x y ∧ xorK .u64 x y ≤ 18446744073709551615 from by rw [xorK_eq]; exact u64_range _
      rw [q30 _ r1, q27 _ (r2 _ _), q31 _ (r2 _ _), mod32 (r3 _ _).1]
      show branch (IntKind.wrap .u32 (mixP n) == 0) (k (.tup [.one (iv .u32 1), .one (iv .u64 (nextN n))]) []) (k (.tup [.one (iv .u32 (IntKind.wrap .u32 (mixP n))), .one (iv .u64 (nextN n))]) [])
      refine br (fun e => ?_) (fun e => ?_)
      · have e : IntKind.wrap .u32 (mixP n) = 0 := by simpa using e
        refine kLeaf h ?_
        unfold wantOf
        rw [if_pos e]
      · have e : ¬ IntKind.wrap .u32 (mixP n) = 0 := by simpa using e
        refine kLeaf h ?_
        unfold wantOf
        rw [if_neg e]
    · exact h.elim
theorem throw_sum : SumOk Try.prog 19 sThrow := by
  refine sumOk_of cxN_ok ?_ ?_
  · intro args st k h
    unfold sThrow at h ⊢
    split at h
    · exact (Lin.need (Lin.ret _ _)) k h
    · exact h.elim
  · intro args st k h
    unfold sThrow at h
    split at h
    · rename_i T n
      obtain ⟨hn, h⟩ := need_iff.1 h
      refine ⟨40, ?_⟩
      rw [t_throw]
      show k (.sa (.one (iv .u32 (if 1 > IntKind.wrap .u32 (mixP n) then 1 else IntKind.wrap .u32 (mixP n))))) [obj T 1 [iv .u64 (nextN n)]]
      refine kLeaf h ?_
      unfold wantOf
      have : 0 ≤ IntKind.wrap .u32 (mixP n) := by rw [IntKind.wrap_u32]; omega
      by_cases e : IntKind.wrap .u32 (mixP n) = 0
      · rw [if_pos e, if_pos (by omega)]
      · rw [if_neg e, if_neg (by omega)]
    · exact h.elim
theorem cxL_ok : CxOk Try.prog cxL := mkCx_ok namesS mixedS (by
  intro x h
  simp only [List.mem_cons, List.not_mem_nil, or_false] at h
  rcases h with rfl | rfl | rfl
  · exact throwRef_sum
  · exact throw_sum
  · exact works_sum0)
theorem want_nz (s : Int) : wantOf s ≠ 0 := by
  unfold wantOf
  split
  · decide
  · assumption
theorem nextN_range (s : Int) : 0 ≤ nextN s ∧ nextN s ≤ 18446744073709551615 := by unfold nextN; rw [addK_eq]; exact u64_range _
theorem throws_loop (k : Exit → Fr → St → Prop) (m : Int) (hm : m ≤ 1000)
    (hk : ∀ T s i, k (Exit.exit 0) (frm 39 [(0, (.sa (.one (iv .u64 s)))), (5, (.sa (.one (SC.ptr 0 0 0)))), (12, (.sa (.one (iv .i64 m)))), (13, (.sa (.one (iv .i64 i)))), (14, (.sa (.one (bv false))))]) [(obj T 1 [(iv .u64 s)])]) :
    ∀ (rem : Nat) (T : TypeId) (s i : Int), 0 ≤ i → m - i ≤ rem → 0 ≤ s ∧ s ≤ 18446744073709551615 →
      ev cxL (rem + 50) 0 5 (codeAt Try.prog 5 [1, 1, 0, 1, 0]) (frm 39 [(0, (.sa (.one (iv .u64 s)))), (5, (.sa (.one (SC.ptr 0 0 0)))), (12, (.sa (.one (iv .i64 m)))), (13, (.sa (.one (iv .i64 i))))]) [(obj T 1 [(iv .u64 s)])] k
  | 0, T, s, i, h0, h1, h2 => by
    rw [t_throws T s m i 0 k]
    refine br (fun h => absurd h (by simp <;> omega)) (fun _ => hk T s i)
  | rem + 1, T, s, i, h0, h1, h2 => by
    rw [t_throws T s m i (rem + 1) k]
    have hN : rem + 1 + 49 = rem + 50 := by omega
    have hr := nextN_range s
    refine br (fun h => ?_) (fun _ => hk T s i)
    have h : i < m := by simpa using h
    rw [i64_add (by omega), hN]
    refine nd (by simp [h2]) (nd (by simp [h2]) (br (fun e => absurd e (by simp)) (fun _ => br (fun e => absurd e (by simpa using want_nz s)) (fun _ => br (fun _ => nd (by simp [hr]) ?_) (fun _ => ?_)))))
    · exact throws_loop k m hm hk rem _ (nextN s) (i + 1) (by omega) (by omega) hr
    · exact throws_loop k m hm hk rem T (nextN s) (i + 1) (by omega) (by omega) hr
theorem throws_run (s n : Int) (hs : 0 ≤ s ∧ s ≤ 18446744073709551615) (k : SV → St → Prop) (hk : k (.sa (.one (bv true))) []) : ∃ N, evCall cxL (ev cxL N) 5 [.one (iv .u64 s), .one (iv .i64 n)] [] k := by
  refine ⟨1005 + 50, ?_⟩
  rw [t_law]
  refine throws_loop _ _ (by split <;> omega) (fun T s i => ?_) 1000 79 s 0 (by omega) (by split <;> omega) hs
  rw [t_lawEnd]
  exact hk
end Go.Ev
