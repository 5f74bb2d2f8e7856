/- The small functions of chapter 34. No conditions. -/
import Derived.Test.YtannijnkeaggfaaOnT0
import Derived.Test.YtannijnkeaggfaaWkO
namespace Go.Ev
open Go Go.Proofs Go.Spec
theorem br_t {p q : Prop} : branch true p q = p := propext ⟨fun h => h, fun h => h⟩
theorem br_f {p q : Prop} : branch false p q = q := propext ⟨fun h => h, fun h => h⟩
theorem nd_t {p : Prop} : need true p = p := propext ⟨fun h => h, fun h => h⟩
attribute [local irreducible] ev evCall branch need again
theorem sLeaf {v : SV} {st st' : St} {k : SV → St → Prop} (h : k v st) (e : st = st') : k v st' := e ▸ h
theorem fitL_id {α : Type} (d : α) : ∀ (n : Nat) (l : List α), l.length = n → fitL d n l = l
  | 0, [], _ => rfl
  | n + 1, x :: r, h => by rw [fitL, fitL_id d n r (by simpa using h)]
  | 0, _ :: _, h => by simp at h
  | _ + 1, [], h => by simp at h
theorem fitL_take {α : Type} (d : α) : ∀ (n : Nat) (l : List α), n ≤ l.length → fitL d n l = l.take n
  | 0, l, _ => by simp [fitL]
  | n + 1, x :: r, h => by rw [fitL, fitL_take d n r (by simpa using h)]; rfl
  | _ + 1, [], h => by simp at h
theorem cxN_ok : CxOk Try.prog cxN := mkCx_ok namesS mixedS (by intro x h; cases h)
theorem i64_small {x : Int} (h : -9223372036854775808 ≤ x ∧ x ≤ 9223372036854775807) : IntKind.wrap .i64 x = x := by rw [IntKind.wrap_i64]; omega
theorem woL_eq {a : List Int} {n : Nat} (ha : a.length = n) {j : Nat} (hj : j < n) : fitL 0 j a ++ fitL 0 (n - (j + 1)) (a.drop (j + 1)) = woL j a := by
  rw [fitL_take 0 j a (by omega), fitL_id 0 _ _ (by rw [List.length_drop]; omega)]
  rfl
theorem woQ_sum : SumOk Try.prog 28 sWoQ := by
  refine pureSum_okT cxN_ok 34 ?_ ?_
  · intro vas k h
    unfold fWoQ at h ⊢
    split at h
    · exact (Lin.need (Lin.ret _ _)) k h
    · exact h.elim
  · intro vas K h
    unfold fWoQ at h
    split at h
    · rename_i n a b j
      obtain ⟨hn, h⟩ := need_iff.1 h
      obtain ⟨ha, hb, h0, h1, h2⟩ := of_decide_eq_true hn
      refine ⟨40, ?_⟩
      show evCall cxN (ev cxN 40) 28 [.one (.ref 0), .one (iv .i64 j)] [some (.own false .ext 0 2 (.tab n [.ints .u32 a, .ints .u32 b]))] (tidyK Try.prog 34 1 _)
      rw [t_woQ]
      obtain ⟨i, rfl⟩ := Int.eq_ofNat_of_zero_le h0
      have e1 : addK .i64 (i : Int) 1 = ((i + 1 : Nat) : Int) := by rw [addK_eq, i64_small (by omega)]; rfl
      rw [e1]
      simp only [Int.toNat_natCast, Nat.sub_zero, Nat.zero_add] at h ⊢
      repeat' refine nd (decide_eq_true (by omega)) ?_
      refine br (fun e => ?_) (fun e => ?_)
      · have e := of_decide_eq_true e
        have ei : i = 0 := by omega
        subst ei
        refine br (fun _ => ?_) (fun e2 => absurd (of_decide_eq_false e2) (by omega))
        repeat' refine nd (decide_eq_true (by omega)) ?_
        refine br (fun e3 => ?_) (fun e3 => ?_)
        · have e3 := of_decide_eq_true e3
          refine br (fun _ => ?_) (fun e4 => absurd (of_decide_eq_false e4) (by omega))
          refine sLeaf (k := K) (v := .sa (.one (.ref 0))) h ?_
          rw [← woL_eq ha (show 0 < n by omega), ← woL_eq hb (show 0 < n by omega)]
          have en : n = 1 := by omega
          subst en
          rfl
        · have e3 := of_decide_eq_false e3
          repeat' refine nd (decide_eq_true (by omega)) ?_
          refine sLeaf (k := K) (v := .sa (.one (.ref 0))) h ?_
          simp only [woL, List.take_zero, List.nil_append]
      · have e := of_decide_eq_false e
        repeat' refine nd (decide_eq_true (by omega)) ?_
        refine sLeaf (k := K) (v := .sa (.one (.ref 0))) h ?_
        rw [woL_eq ha (by omega), woL_eq hb (by omega), show i + (n - (i + 1)) = n - 1 by omega]
    · exact h.elim
theorem woR_sum : SumOk Try.prog 29 sWoR := by
  refine pureSum_okT cxN_ok 35 ?_ ?_
  · intro vas k h
    unfold fWoR at h ⊢
    split at h
    · exact (Lin.need (Lin.ret _ _)) k h
    · exact h.elim
  · intro vas K h
    unfold fWoR at h
    split at h
    · rename_i n a b j
      obtain ⟨hn, h⟩ := need_iff.1 h
      obtain ⟨ha, hb, h0, h1, h2⟩ := of_decide_eq_true hn
      refine ⟨40, ?_⟩
      show evCall cxN (ev cxN 40) 29 [.one (.ref 0), .one (iv .i64 j)] [some (.own false .ext 0 2 (.tab n [.ints .u32 a, .ints .u64 b]))] (tidyK Try.prog 35 1 _)
      rw [t_woR]
      obtain ⟨i, rfl⟩ := Int.eq_ofNat_of_zero_le h0
      have e1 : addK .i64 (i : Int) 1 = ((i + 1 : Nat) : Int) := by rw [addK_eq, i64_small (by omega)]; rfl
      rw [e1]
      simp only [Int.toNat_natCast, Nat.sub_zero, Nat.zero_add] at h ⊢
      repeat' refine nd (decide_eq_true (by omega)) ?_
      refine br (fun e => ?_) (fun e => ?_)
      · have e := of_decide_eq_true e
        have ei : i = 0 := by omega
        subst ei
        refine br (fun _ => ?_) (fun e2 => absurd (of_decide_eq_false e2) (by omega))
        repeat' refine nd (decide_eq_true (by omega)) ?_
        refine br (fun e3 => ?_) (fun e3 => ?_)
        · have e3 := of_decide_eq_true e3
          refine br (fun _ => ?_) (fun e4 => absurd (of_decide_eq_false e4) (by omega))
          refine sLeaf (k := K) (v := .sa (.one (.ref 0))) h ?_
          rw [← woL_eq ha (show 0 < n by omega), ← woL_eq hb (show 0 < n by omega)]
          have en : n = 1 := by omega
          subst en
          rfl
        · have e3 := of_decide_eq_false e3
          repeat' refine nd (decide_eq_true (by omega)) ?_
          refine sLeaf (k := K) (v := .sa (.one (.ref 0))) h ?_
          simp only [woL, List.take_zero, List.nil_append]
      · have e := of_decide_eq_false e
        repeat' refine nd (decide_eq_true (by omega)) ?_
        refine sLeaf (k := K) (v := .sa (.one (.ref 0))) h ?_
        rw [woL_eq ha (by omega), woL_eq hb (by omega), show i + (n - (i + 1)) = n - 1 by omega]
    · exact h.elim
theorem bef_sum : SumOk Try.prog 30 sBef := by
  refine sumOk_of cxN_ok ?_ ?_
  · intro args st k h
    unfold sBef at h ⊢
    split at h
    · exact Lin.ret _ _ k h
    · exact h.elim
  · intro args st k h
    unfold sBef at h
    split at h
    · rename_i a b
      refine ⟨40, ?_⟩
      show evCall cxN (ev cxN 40) 30 [.one (iv .u32 a), .one (iv .u32 b)] [] k
      rw [t_bef]
      unfold befB at h
      refine br (fun e => ?_) (fun e => ?_)
      · rw [e, Bool.true_and] at h; exact h
      · rw [e, Bool.false_and] at h; exact h
    · exact h.elim
end Go.Ev
