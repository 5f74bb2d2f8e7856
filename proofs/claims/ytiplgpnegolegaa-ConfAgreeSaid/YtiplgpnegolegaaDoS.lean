/- What a change makes of addresses: conf.Do, and the document's. No conditions. -/
import Derived.Test.YtiplgpnegolegaaDoT
import Derived.Test.YtiplgpnegolegaaInS
import Derived.Test.YtiplgpnegolegaaCfS
import Derived.Test.YtiplgpnegolegaaCl32S
set_option linter.unusedVariables false
set_option linter.unusedSimpArgs false
set_option maxHeartbeats 4000000
namespace Go.Spec
open Go Go.Ev
theorem riseF_t {b : Bool} {p x : Int} {r : List Int} (h : riseF b p (x :: r) = true) : x ≠ 0 ∧ (b = false → p < x) ∧ riseF false x r = true := by
  rw [riseF_cons] at h
  split at h
  · cases h
  · rename_i e
    rw [eqK_f] at e
    refine ⟨e, ?_⟩
    split at h
    · exact ⟨fun e => by (cases e), h⟩
    · split at h
      · cases h
      · rename_i e2
        exact ⟨fun _ => by have := of_decide_eq_false e2; omega, h⟩
theorem mayB_len {f : Int} {xs : List Int} (h : mayB f xs = true) : (∃ a, xs = [a] ∧ a ≠ 0 ∧ f = a) ∨ (∃ a b, xs = [a, b] ∧ a ≠ 0 ∧ b ≠ 0 ∧ a < b ∧ (f = a ∨ f = b)) ∨ ∃ a b c, xs = [a, b, c] ∧ a ≠ 0 ∧ b ≠ 0 ∧ c ≠ 0 ∧ a < b ∧ b < c ∧ (f = a ∨ f = b ∨ f = c) := by
  unfold mayB at h
  simp only [Bool.and_eq_true_iff, decide_eq_true_iff] at h
  obtain ⟨h1, h2, h3⟩ := h
  have h3 : f ∈ xs := by unfold hasL at h3; rwa [List.contains_iff_mem] at h3
  match xs, h1, h2, h3 with
  | [], _, _, h3 => simp at h3
  | [a], h1, _, h3 => exact .inl ⟨a, rfl, (riseF_t h1).1, by simpa using h3⟩
  | [a, b], h1, _, h3 =>
    obtain ⟨g1, _, g2⟩ := riseF_t h1
    obtain ⟨g3, g4, _⟩ := riseF_t g2
    exact .inr (.inl ⟨a, b, rfl, g1, g3, g4 rfl, by simpa using h3⟩)
  | [a, b, c], h1, _, h3 =>
    obtain ⟨g1, _, g2⟩ := riseF_t h1
    obtain ⟨g3, g4, g5⟩ := riseF_t g2
    obtain ⟨g6, g7, _⟩ := riseF_t g5
    exact .inr (.inr ⟨a, b, c, rfl, g1, g3, g6, g4 rfl, g7 rfl, by simpa using h3⟩)
  | _ :: _ :: _ :: _ :: _, _, h2, _ => simp at h2
theorem riseR_eq : ∀ (xs : List Int) (p : Int), 0 ≤ p → (∀ x ∈ xs, 0 ≤ x) → riseF false p xs = riseR p xs
  | [], _, _, _ => rfl
  | x :: r, p, hp, h => by
    have hx := h x (by simp)
    have ih := riseR_eq r x hx (fun y hy => h y (by simp [hy]))
    rw [riseF_cons, riseR]
    by_cases h1 : x ≤ p
    · rw [decide_eq_true h1]
      split <;> rfl
    · rw [decide_eq_false h1, eqK_f.2 (by omega)]
      exact ih
theorem mayR_eq {f : Int} {xs : List Int} (h : okUs xs = true) : mayR f xs = mayB f xs := by
  have h : ∀ x ∈ xs, 0 ≤ x := fun x hx => of_decide_eq_true (List.all_eq_true.1 h x hx)
  unfold mayR mayB
  cases xs with
  | nil => simp [riseR, riseF, hasL]
  | cons x r =>
    have hx := h x (by simp)
    have e := riseR_eq r x hx (fun y hy => h y (by simp [hy]))
    have e2 : riseF true 0 (x :: r) = riseR 0 (x :: r) := by
      rw [riseF_cons, riseR]
      by_cases h1 : x = 0
      · subst h1; rfl
      · rw [eqK_f.2 h1, decide_eq_false (by omega)]
        exact e
    rw [e2]
    simp only [List.length_cons, Nat.zero_lt_succ, decide_true, Bool.true_and]
    congr 2
    rw [decide_eq_decide]; omega
theorem doF1 {f : Int} {xs : List Int} {ad : Int} (h : mayB f xs = true) : doF f xs 1 ad = if ad = 0 then (0, [], 2) else if ad ∈ xs then (0, [], 6) else if 3 ≤ xs.length then (0, [], 7) else (f, insL xs (posL ad xs) ad, 0) := by
  unfold doF; rw [if_pos ⟨h, by omega, by omega⟩, if_pos rfl]
theorem doF2 {f : Int} {xs : List Int} {ad : Int} (h : mayB f xs = true) : doF f xs 2 ad = if ad ∈ xs then if ad = f then (0, [], 6) else (f, delL xs (posL ad xs), 0) else (0, [], 4) := by
  unfold doF; rw [if_pos ⟨h, by omega, by omega⟩, if_neg (by omega)]; rfl
theorem doF3 {f : Int} {xs : List Int} {ad : Int} (h : mayB f xs = true) : doF f xs 3 ad = if ad ∈ xs then (ad, xs, 0) else (0, [], 4) := by
  unfold doF; rw [if_pos ⟨h, by omega, by omega⟩, if_neg (by omega), if_pos rfl]
theorem doFe {f : Int} {xs : List Int} {kd ad : Int} (h : ¬ (mayB f xs = true ∧ 1 ≤ kd ∧ kd ≤ 3)) : doF f xs kd ad = (0, [], 2) := by
  unfold doF; rw [if_neg h]
end Go.Spec
namespace Go.Ev
open Go Go.Proofs Go.Spec
theorem bren {x y : Int} {a b : Prop} (h1 : x ≠ y → a) (h2 : x = y → b) : branch (Bool.not (eqK x y)) a b := br (fun e => h1 (by rw [Bool.not_eq_true', eqK_f] at e; exact e)) (fun e => h2 (by rw [Bool.not_eq_false', eqK_t] at e; exact e))
theorem brh {xs : List Int} {x : Int} {a b : Prop} (h1 : x ∈ xs → a) (h2 : x ∉ xs → b) : branch (hasL xs x) a b :=
  br (fun e => h1 (by unfold hasL at e; rwa [List.contains_iff_mem] at e)) (fun e => h2 (by unfold hasL at e; intro h; rw [← List.contains_iff_mem, e] at h; cases h))
theorem brnh {xs : List Int} {x : Int} {a b : Prop} (h1 : x ∉ xs → a) (h2 : x ∈ xs → b) : branch (Bool.not (hasL xs x)) a b :=
  br (fun e => h1 (by rw [Bool.not_eq_true'] at e; unfold hasL at e; intro h; rw [← List.contains_iff_mem, e] at h; cases h)) (fun e => h2 (by rw [Bool.not_eq_false'] at e; unfold hasL at e; rwa [List.contains_iff_mem] at e))
attribute [local irreducible] ev evCall branch need again
theorem cx0_ok : CxOk Try.prog cx0 := mkCx_ok (by kernel_rfl) (by kernel_rfl) (by simp)
theorem fNaN_lin (vas : List VA) : Lin (fNaN vas) := by
  intro k h
  unfold fNaN at h ⊢
  split at h
  · exact (Lin.ret _ _) k h
  · exact h.elim
theorem nanc_sum : SumOk Try.prog 49 sNaN := by
  refine pureSum_ok cx0_ok fNaN_lin fun vas K h => ?_
  unfold fNaN at h
  split at h
  · rename_i x
    refine ⟨20, ?_⟩
    show evCall cx0 (ev cx0 20) 49 [.one (iv .u32 x)] [] (pureK 0 K)
    rw [t_nanc, eqK_t.2 rfl]
    exact h
  · exact h.elim
theorem nans_sum : SumOk Try.prog 44 sNaN := by
  refine pureSum_ok cx0_ok fNaN_lin fun vas K h => ?_
  unfold fNaN at h
  split at h
  · rename_i x
    refine ⟨20, ?_⟩
    show evCall cx0 (ev cx0 20) 44 [.one (iv .u32 x)] [] (pureK 0 K)
    rw [t_nans, eqK_t.2 rfl]
    exact h
  · exact h.elim
theorem fMayT_lin (vas : List VA) : Lin (fMayT vas) := by
  intro k h
  unfold fMayT at h ⊢
  split at h
  · exact (Lin.need (Lin.ret _ _)) k h
  · exact h.elim
theorem MayT_sum : SumOk Try.prog 12 sMayT := by
  refine pureSum_weaken may_sum fMayT_lin fun vas K h => ?_
  unfold fMayT at h
  unfold fMay
  split at h
  · obtain ⟨h1, h⟩ := need_iff.1 h
    rw [Bool.and_eq_true_iff] at h1
    refine need_iff.2 ⟨h1.1, ?_⟩
    rw [show ∀ a : Bool, (a = true) = (a = true) from fun _ => rfl] at h1
    rw [h1.2]
    exact h
  · exact h.elim
theorem fMayF_lin (vas : List VA) : Lin (fMayF vas) := by
  intro k h
  unfold fMayF at h ⊢
  split at h
  · exact (Lin.need (Lin.ret _ _)) k h
  · exact h.elim
theorem MayF_sum : SumOk Try.prog 12 sMayF := by
  refine pureSum_weaken may_sum fMayF_lin fun vas K h => ?_
  unfold fMayF at h
  unfold fMay
  split at h
  · obtain ⟨h1, h⟩ := need_iff.1 h
    rw [Bool.and_eq_true_iff] at h1
    refine need_iff.2 ⟨h1.1, ?_⟩
    rw [Bool.not_eq_true'] at h1
    rw [h1.2]
    exact h
  · exact h.elim
theorem fMayRT_lin (vas : List VA) : Lin (fMayRT vas) := by
  intro k h
  unfold fMayRT at h ⊢
  split at h
  · exact (Lin.need (Lin.ret _ _)) k h
  · exact h.elim
theorem MayRT_sum : SumOk Try.prog 13 sMayRT := by
  refine pureSum_weaken mayR_sum fMayRT_lin fun vas K h => ?_
  unfold fMayRT at h
  unfold fMayR
  split at h
  · obtain ⟨h1, h⟩ := need_iff.1 h
    rw [Bool.and_eq_true_iff] at h1
    refine need_iff.2 ⟨h1.1, ?_⟩
    rw [show ∀ a : Bool, (a = true) = (a = true) from fun _ => rfl] at h1
    rw [h1.2]
    exact h
  · exact h.elim
theorem fMayRF_lin (vas : List VA) : Lin (fMayRF vas) := by
  intro k h
  unfold fMayRF at h ⊢
  split at h
  · exact (Lin.need (Lin.ret _ _)) k h
  · exact h.elim
theorem MayRF_sum : SumOk Try.prog 13 sMayRF := by
  refine pureSum_weaken mayR_sum fMayRF_lin fun vas K h => ?_
  unfold fMayRF at h
  unfold fMayR
  split at h
  · obtain ⟨h1, h⟩ := need_iff.1 h
    rw [Bool.and_eq_true_iff] at h1
    refine need_iff.2 ⟨h1.1, ?_⟩
    rw [Bool.not_eq_true'] at h1
    rw [h1.2]
    exact h
  · exact h.elim
theorem bot_sum (g : FuncId) : SumOk Try.prog g sBot := fun args st => ⟨fun k h => h.elim, fun k h => h.elim⟩
theorem cxDo_ok : CxOk Try.prog cxDo := mkCx_ok (by kernel_rfl) (by kernel_rfl) (by
  intro y h
  simp only [List.mem_cons, List.not_mem_nil, or_false] at h
  rcases h with rfl | rfl | rfl | rfl | rfl
  · exact MayT_sum
  · exact nanc_sum
  · exact nans_sum
  · exact clone32_sum
  · exact ins_sum)
theorem cxDoP_ok : CxOk Try.prog cxDoP := mkCx_ok (by kernel_rfl) (by kernel_rfl) (by
  intro y h
  simp only [List.mem_cons, List.not_mem_nil, or_false] at h
  rcases h with rfl | rfl
  · exact MayT_sum
  · exact bot_sum _)
theorem cxDrP_ok : CxOk Try.prog cxDrP := mkCx_ok (by kernel_rfl) (by kernel_rfl) (by
  intro y h
  simp only [List.mem_cons, List.not_mem_nil, or_false] at h
  rcases h with rfl | rfl
  · exact MayRT_sum
  · exact bot_sum _)
theorem cxDoE_ok : CxOk Try.prog cxDoE := mkCx_ok (by kernel_rfl) (by kernel_rfl) (by
  intro y h
  simp only [List.mem_cons, List.not_mem_nil, or_false] at h
  subst h
  exact MayF_sum)
theorem cxDr_ok : CxOk Try.prog cxDr := mkCx_ok (by kernel_rfl) (by kernel_rfl) (by
  intro y h
  simp only [List.mem_cons, List.not_mem_nil, or_false] at h
  rcases h with rfl | rfl
  · exact MayRT_sum
  · exact hs_sum)
theorem cxDrE_ok : CxOk Try.prog cxDrE := mkCx_ok (by kernel_rfl) (by kernel_rfl) (by
  intro y h
  simp only [List.mem_cons, List.not_mem_nil, or_false] at h
  subst h
  exact MayRF_sum)
theorem do11 (f ad a : Int) (h1 : a ≠ 0) (hf : f = a) (hm : mayB f [a] = true) (K : SV → St → Prop) (hk : K (.tup [.agg [iv .u32 (doF f [a] 1 ad).1, .ref 1], .one (iv .i64 (doF f [a] 1 ad).2.2)]) [rd32 [a], own32 (doF f [a] 1 ad).2.1]) :
    evCall cxDo (ev cxDo 80) 9 [.agg [iv .u32 f, .ref 0], .agg [iv .u8 1, iv .u32 ad]] [rd32 [a]] (tidyC Try.prog 23 1 1 K) := by
  have out : ∀ (p : Int) (l : List Int) (e : Int), (p, l, e) = doF f [a] 1 ad → K (.tup [.agg [iv .u32 p, .ref 1], .one (iv .i64 e)]) [rd32 [a], own32 l] := fun p l e h => by rw [← h] at hk; exact hk
  clear hk
  rw [t_do11]
  refine nd (by rw [hm]; rfl) ?_
  · repeat' first
      | refine brd (fun _ => ?_) (fun _ => ?_)
      | refine bre (fun _ => ?_) (fun _ => ?_)
      | refine bren (fun _ => ?_) (fun _ => ?_)
      | refine brh (fun _ => ?_) (fun _ => ?_)
      | refine brnh (fun _ => ?_) (fun _ => ?_)
      | refine ndd (by omega) ?_
    all_goals try simp only [List.mem_cons, List.not_mem_nil, or_false, not_or] at *
    all_goals refine out _ _ _ ?_
    all_goals rw [doF1 hm]
    all_goals simp only [List.mem_cons, List.not_mem_nil, or_false, List.length_cons, List.length_nil, posL]
    all_goals repeat' split
    all_goals first | rfl | omega
theorem do21 (f ad a b : Int) (h1 : a ≠ 0) (h2 : b ≠ 0) (h3 : a < b) (hf : f = a ∨ f = b) (hm : mayB f [a, b] = true) (K : SV → St → Prop) (hk : K (.tup [.agg [iv .u32 (doF f [a, b] 1 ad).1, .ref 1], .one (iv .i64 (doF f [a, b] 1 ad).2.2)]) [rd32 [a, b], own32 (doF f [a, b] 1 ad).2.1]) :
    evCall cxDo (ev cxDo 80) 9 [.agg [iv .u32 f, .ref 0], .agg [iv .u8 1, iv .u32 ad]] [rd32 [a, b]] (tidyC Try.prog 23 1 1 K) := by
  have out : ∀ (p : Int) (l : List Int) (e : Int), (p, l, e) = doF f [a, b] 1 ad → K (.tup [.agg [iv .u32 p, .ref 1], .one (iv .i64 e)]) [rd32 [a, b], own32 l] := fun p l e h => by rw [← h] at hk; exact hk
  clear hk
  rw [t_do21]
  refine nd (by rw [hm]; rfl) ?_
  · repeat' first
      | refine brd (fun _ => ?_) (fun _ => ?_)
      | refine bre (fun _ => ?_) (fun _ => ?_)
      | refine bren (fun _ => ?_) (fun _ => ?_)
      | refine brh (fun _ => ?_) (fun _ => ?_)
      | refine brnh (fun _ => ?_) (fun _ => ?_)
      | refine ndd (by omega) ?_
    all_goals try simp only [List.mem_cons, List.not_mem_nil, or_false, not_or] at *
    all_goals refine out _ _ _ ?_
    all_goals rw [doF1 hm]
    all_goals simp only [List.mem_cons, List.not_mem_nil, or_false, List.length_cons, List.length_nil, posL]
    all_goals repeat' split
    all_goals first | rfl | omega
theorem do31 (f ad a b c : Int) (h1 : a ≠ 0) (h2 : b ≠ 0) (h3 : c ≠ 0) (h4 : a < b) (h5 : b < c) (hf : f = a ∨ f = b ∨ f = c) (hm : mayB f [a, b, c] = true) (K : SV → St → Prop) (hk : K (.tup [.agg [iv .u32 (doF f [a, b, c] 1 ad).1, .ref 1], .one (iv .i64 (doF f [a, b, c] 1 ad).2.2)]) [rd32 [a, b, c], own32 (doF f [a, b, c] 1 ad).2.1]) :
    evCall cxDo (ev cxDo 80) 9 [.agg [iv .u32 f, .ref 0], .agg [iv .u8 1, iv .u32 ad]] [rd32 [a, b, c]] (tidyC Try.prog 23 1 1 K) := by
  have out : ∀ (p : Int) (l : List Int) (e : Int), (p, l, e) = doF f [a, b, c] 1 ad → K (.tup [.agg [iv .u32 p, .ref 1], .one (iv .i64 e)]) [rd32 [a, b, c], own32 l] := fun p l e h => by rw [← h] at hk; exact hk
  clear hk
  rw [t_do31]
  refine nd (by rw [hm]; rfl) ?_
  · repeat' first
      | refine brd (fun _ => ?_) (fun _ => ?_)
      | refine bre (fun _ => ?_) (fun _ => ?_)
      | refine bren (fun _ => ?_) (fun _ => ?_)
      | refine brh (fun _ => ?_) (fun _ => ?_)
      | refine brnh (fun _ => ?_) (fun _ => ?_)
      | refine ndd (by omega) ?_
    all_goals try simp only [List.mem_cons, List.not_mem_nil, or_false, not_or] at *
    all_goals refine out _ _ _ ?_
    all_goals rw [doF1 hm]
    all_goals simp only [List.mem_cons, List.not_mem_nil, or_false, List.length_cons, List.length_nil, posL]
    all_goals repeat' split
    all_goals first | rfl | omega
theorem do12 (f ad a : Int) (h1 : a ≠ 0) (hf : f = a) (hm : mayB f [a] = true) (K : SV → St → Prop) (hk : K (.tup [.agg [iv .u32 (doF f [a] 2 ad).1, .ref 1], .one (iv .i64 (doF f [a] 2 ad).2.2)]) [rd32 [a], own32 (doF f [a] 2 ad).2.1]) :
    evCall cxDo (ev cxDo 80) 9 [.agg [iv .u32 f, .ref 0], .agg [iv .u8 2, iv .u32 ad]] [rd32 [a]] (tidyC Try.prog 23 1 1 K) := by
  have out : ∀ (p : Int) (l : List Int) (e : Int), (p, l, e) = doF f [a] 2 ad → K (.tup [.agg [iv .u32 p, .ref 1], .one (iv .i64 e)]) [rd32 [a], own32 l] := fun p l e h => by rw [← h] at hk; exact hk
  clear hk
  rw [t_do12]
  refine nd (by rw [hm]; rfl) ?_
  · repeat' first
      | refine brd (fun _ => ?_) (fun _ => ?_)
      | refine bre (fun _ => ?_) (fun _ => ?_)
      | refine bren (fun _ => ?_) (fun _ => ?_)
      | refine brh (fun _ => ?_) (fun _ => ?_)
      | refine brnh (fun _ => ?_) (fun _ => ?_)
      | refine ndd (by omega) ?_
    all_goals try simp only [List.mem_cons, List.not_mem_nil, or_false, not_or] at *
    all_goals refine out _ _ _ ?_
    all_goals rw [doF2 hm]
    all_goals simp only [List.mem_cons, List.not_mem_nil, or_false, List.length_cons, List.length_nil, posL]
    all_goals repeat' split
    all_goals first | rfl | omega
theorem do22 (f ad a b : Int) (h1 : a ≠ 0) (h2 : b ≠ 0) (h3 : a < b) (hf : f = a ∨ f = b) (hm : mayB f [a, b] = true) (K : SV → St → Prop) (hk : K (.tup [.agg [iv .u32 (doF f [a, b] 2 ad).1, .ref 1], .one (iv .i64 (doF f [a, b] 2 ad).2.2)]) [rd32 [a, b], own32 (doF f [a, b] 2 ad).2.1]) :
    evCall cxDo (ev cxDo 80) 9 [.agg [iv .u32 f, .ref 0], .agg [iv .u8 2, iv .u32 ad]] [rd32 [a, b]] (tidyC Try.prog 23 1 1 K) := by
  have out : ∀ (p : Int) (l : List Int) (e : Int), (p, l, e) = doF f [a, b] 2 ad → K (.tup [.agg [iv .u32 p, .ref 1], .one (iv .i64 e)]) [rd32 [a, b], own32 l] := fun p l e h => by rw [← h] at hk; exact hk
  clear hk
  rw [t_do22]
  refine nd (by rw [hm]; rfl) ?_
  · repeat' first
      | refine brd (fun _ => ?_) (fun _ => ?_)
      | refine bre (fun _ => ?_) (fun _ => ?_)
      | refine bren (fun _ => ?_) (fun _ => ?_)
      | refine brh (fun _ => ?_) (fun _ => ?_)
      | refine brnh (fun _ => ?_) (fun _ => ?_)
      | refine ndd (by omega) ?_
    all_goals try simp only [List.mem_cons, List.not_mem_nil, or_false, not_or] at *
    all_goals refine out _ _ _ ?_
    all_goals rw [doF2 hm]
    all_goals simp only [List.mem_cons, List.not_mem_nil, or_false, List.length_cons, List.length_nil, posL]
    all_goals repeat' split
    all_goals first | rfl | omega
theorem do32 (f ad a b c : Int) (h1 : a ≠ 0) (h2 : b ≠ 0) (h3 : c ≠ 0) (h4 : a < b) (h5 : b < c) (hf : f = a ∨ f = b ∨ f = c) (hm : mayB f [a, b, c] = true) (K : SV → St → Prop) (hk : K (.tup [.agg [iv .u32 (doF f [a, b, c] 2 ad).1, .ref 1], .one (iv .i64 (doF f [a, b, c] 2 ad).2.2)]) [rd32 [a, b, c], own32 (doF f [a, b, c] 2 ad).2.1]) :
    evCall cxDo (ev cxDo 80) 9 [.agg [iv .u32 f, .ref 0], .agg [iv .u8 2, iv .u32 ad]] [rd32 [a, b, c]] (tidyC Try.prog 23 1 1 K) := by
  have out : ∀ (p : Int) (l : List Int) (e : Int), (p, l, e) = doF f [a, b, c] 2 ad → K (.tup [.agg [iv .u32 p, .ref 1], .one (iv .i64 e)]) [rd32 [a, b, c], own32 l] := fun p l e h => by rw [← h] at hk; exact hk
  clear hk
  rw [t_do32]
  refine nd (by rw [hm]; rfl) ?_
  · repeat' first
      | refine brd (fun _ => ?_) (fun _ => ?_)
      | refine bre (fun _ => ?_) (fun _ => ?_)
      | refine bren (fun _ => ?_) (fun _ => ?_)
      | refine brh (fun _ => ?_) (fun _ => ?_)
      | refine brnh (fun _ => ?_) (fun _ => ?_)
      | refine ndd (by omega) ?_
    all_goals try simp only [List.mem_cons, List.not_mem_nil, or_false, not_or] at *
    all_goals refine out _ _ _ ?_
    all_goals rw [doF2 hm]
    all_goals simp only [List.mem_cons, List.not_mem_nil, or_false, List.length_cons, List.length_nil, posL]
    all_goals repeat' split
    all_goals first | rfl | omega
theorem do13 (f ad a : Int) (h1 : a ≠ 0) (hf : f = a) (hm : mayB f [a] = true) (K : SV → St → Prop) (hk : K (.tup [.agg [iv .u32 (doF f [a] 3 ad).1, .ref 1], .one (iv .i64 (doF f [a] 3 ad).2.2)]) [rd32 [a], own32 (doF f [a] 3 ad).2.1]) :
    evCall cxDo (ev cxDo 80) 9 [.agg [iv .u32 f, .ref 0], .agg [iv .u8 3, iv .u32 ad]] [rd32 [a]] (tidyC Try.prog 23 1 1 K) := by
  have out : ∀ (p : Int) (l : List Int) (e : Int), (p, l, e) = doF f [a] 3 ad → K (.tup [.agg [iv .u32 p, .ref 1], .one (iv .i64 e)]) [rd32 [a], own32 l] := fun p l e h => by rw [← h] at hk; exact hk
  clear hk
  rw [t_do13]
  refine nd (by rw [hm]; rfl) ?_
  · repeat' first
      | refine brd (fun _ => ?_) (fun _ => ?_)
      | refine bre (fun _ => ?_) (fun _ => ?_)
      | refine bren (fun _ => ?_) (fun _ => ?_)
      | refine brh (fun _ => ?_) (fun _ => ?_)
      | refine brnh (fun _ => ?_) (fun _ => ?_)
      | refine ndd (by omega) ?_
    all_goals try simp only [List.mem_cons, List.not_mem_nil, or_false, not_or] at *
    all_goals refine out _ _ _ ?_
    all_goals rw [doF3 hm]
    all_goals simp only [List.mem_cons, List.not_mem_nil, or_false, List.length_cons, List.length_nil, posL]
    all_goals repeat' split
    all_goals first | rfl | omega
theorem do23 (f ad a b : Int) (h1 : a ≠ 0) (h2 : b ≠ 0) (h3 : a < b) (hf : f = a ∨ f = b) (hm : mayB f [a, b] = true) (K : SV → St → Prop) (hk : K (.tup [.agg [iv .u32 (doF f [a, b] 3 ad).1, .ref 1], .one (iv .i64 (doF f [a, b] 3 ad).2.2)]) [rd32 [a, b], own32 (doF f [a, b] 3 ad).2.1]) :
    evCall cxDo (ev cxDo 80) 9 [.agg [iv .u32 f, .ref 0], .agg [iv .u8 3, iv .u32 ad]] [rd32 [a, b]] (tidyC Try.prog 23 1 1 K) := by
  have out : ∀ (p : Int) (l : List Int) (e : Int), (p, l, e) = doF f [a, b] 3 ad → K (.tup [.agg [iv .u32 p, .ref 1], .one (iv .i64 e)]) [rd32 [a, b], own32 l] := fun p l e h => by rw [← h] at hk; exact hk
  clear hk
  rw [t_do23]
  refine nd (by rw [hm]; rfl) ?_
  · repeat' first
      | refine brd (fun _ => ?_) (fun _ => ?_)
      | refine bre (fun _ => ?_) (fun _ => ?_)
      | refine bren (fun _ => ?_) (fun _ => ?_)
      | refine brh (fun _ => ?_) (fun _ => ?_)
      | refine brnh (fun _ => ?_) (fun _ => ?_)
      | refine ndd (by omega) ?_
    all_goals try simp only [List.mem_cons, List.not_mem_nil, or_false, not_or] at *
    all_goals refine out _ _ _ ?_
    all_goals rw [doF3 hm]
    all_goals simp only [List.mem_cons, List.not_mem_nil, or_false, List.length_cons, List.length_nil, posL]
    all_goals repeat' split
    all_goals first | rfl | omega
theorem do33 (f ad a b c : Int) (h1 : a ≠ 0) (h2 : b ≠ 0) (h3 : c ≠ 0) (h4 : a < b) (h5 : b < c) (hf : f = a ∨ f = b ∨ f = c) (hm : mayB f [a, b, c] = true) (K : SV → St → Prop) (hk : K (.tup [.agg [iv .u32 (doF f [a, b, c] 3 ad).1, .ref 1], .one (iv .i64 (doF f [a, b, c] 3 ad).2.2)]) [rd32 [a, b, c], own32 (doF f [a, b, c] 3 ad).2.1]) :
    evCall cxDo (ev cxDo 80) 9 [.agg [iv .u32 f, .ref 0], .agg [iv .u8 3, iv .u32 ad]] [rd32 [a, b, c]] (tidyC Try.prog 23 1 1 K) := by
  have out : ∀ (p : Int) (l : List Int) (e : Int), (p, l, e) = doF f [a, b, c] 3 ad → K (.tup [.agg [iv .u32 p, .ref 1], .one (iv .i64 e)]) [rd32 [a, b, c], own32 l] := fun p l e h => by rw [← h] at hk; exact hk
  clear hk
  rw [t_do33]
  refine nd (by rw [hm]; rfl) ?_
  · repeat' first
      | refine brd (fun _ => ?_) (fun _ => ?_)
      | refine bre (fun _ => ?_) (fun _ => ?_)
      | refine bren (fun _ => ?_) (fun _ => ?_)
      | refine brh (fun _ => ?_) (fun _ => ?_)
      | refine brnh (fun _ => ?_) (fun _ => ?_)
      | refine ndd (by omega) ?_
    all_goals try simp only [List.mem_cons, List.not_mem_nil, or_false, not_or] at *
    all_goals refine out _ _ _ ?_
    all_goals rw [doF3 hm]
    all_goals simp only [List.mem_cons, List.not_mem_nil, or_false, List.length_cons, List.length_nil, posL]
    all_goals repeat' split
    all_goals first | rfl | omega
theorem fDo_lin (vas : List VA) : Lin (fDo vas) := by
  intro k h
  unfold fDo at h ⊢
  split at h
  · exact (Lin.need (Lin.ret _ _)) k h
  · exact h.elim
theorem do_sum : SumOk Try.prog 9 sDo := by
  refine pureSum_okC 23 1 fDo_lin fun vas K h => ?_
  unfold fDo at h
  split at h
  · rename_i f xs kd ad
    obtain ⟨h1, hK⟩ := need_iff.1 h
    have h1 := of_decide_eq_true h1
    show ∃ cx, CxOk Try.prog cx ∧ ∃ n, evCall cx (ev cx n) 9 [.agg [iv .u32 f, .ref 0], .agg [iv .u8 kd, iv .u32 ad]] [rd32 xs] (tidyC Try.prog 23 1 1 (pureK 1 K))
    have hK : pureK 1 K (.tup [.agg [iv .u32 (doF f xs kd ad).1, .ref 1], .one (iv .i64 (doF f xs kd ad).2.2)]) [rd32 xs, own32 (doF f xs kd ad).2.1] := hK
    have hl : xs.length ≤ 1000000 := h1.1
    have h0 := h1.2
    cases hm : mayB f xs with
    | false =>
      refine ⟨cxDoE, cxDoE_ok, 60, ?_⟩
      rw [t_doE, List.take_length, hm, decide_eq_true hl]
      rw [doFe (fun e => by rw [hm] at e; cases e.1)] at hK
      exact ndd (by omega) (nd rfl hK)
    | true =>
      by_cases hk0 : kd = 0
      · subst hk0
        refine ⟨cxDoP, cxDoP_ok, 80, ?_⟩
        rw [t_doK0, List.take_length, hm, decide_eq_true hl]
        rw [doFe (fun e => by omega)] at hK
        exact ndd (by omega) (nd rfl hK)
      by_cases hk4 : 4 ≤ kd
      · obtain ⟨m, rfl⟩ : ∃ m : Nat, kd = ((m + 4 : Nat) : Int) := ⟨(kd - 4).toNat, by omega⟩
        refine ⟨cxDoP, cxDoP_ok, 80, ?_⟩
        rw [t_doKp, List.take_length, hm, decide_eq_true hl]
        rw [doFe (fun e => by omega)] at hK
        exact ndd (by omega) (nd rfl (brt (by omega) hK))
      refine ⟨cxDo, cxDo_ok, 80, ?_⟩
      have hk : kd = 1 ∨ kd = 2 ∨ kd = 3 := by omega
      rcases mayB_len hm with ⟨a, rfl, g1, g2⟩ | ⟨a, b, rfl, g1, g2, g3, g4⟩ | ⟨a, b, c, rfl, g1, g2, g3, g4, g5, g6⟩
      · rcases hk with rfl | rfl | rfl
        · exact do11 f ad a g1 g2 hm _ hK
        · exact do12 f ad a g1 g2 hm _ hK
        · exact do13 f ad a g1 g2 hm _ hK
      · rcases hk with rfl | rfl | rfl
        · exact do21 f ad a b g1 g2 g3 g4 hm _ hK
        · exact do22 f ad a b g1 g2 g3 g4 hm _ hK
        · exact do23 f ad a b g1 g2 g3 g4 hm _ hK
      · rcases hk with rfl | rfl | rfl
        · exact do31 f ad a b c g1 g2 g3 g4 g5 g6 hm _ hK
        · exact do32 f ad a b c g1 g2 g3 g4 g5 g6 hm _ hK
        · exact do33 f ad a b c g1 g2 g3 g4 g5 g6 hm _ hK
  · exact h.elim
theorem dr11 (f ad a : Int) (h1 : a ≠ 0) (hf : f = a) (hm : mayB f [a] = true) (hr : mayR f [a] = true) (K : SV → St → Prop) (hk : K (.tup [.agg [iv .u32 (doF f [a] 1 ad).1, .ref 1], .one (iv .i64 (doF f [a] 1 ad).2.2)]) [rd32 [a], own32 (doF f [a] 1 ad).2.1]) :
    evCall cxDr (ev cxDr 80) 10 [.agg [iv .u32 f, .ref 0], .one (iv .u8 1), .one (iv .u32 ad)] [rd32 [a]] (tidyC Try.prog 23 1 1 K) := by
  have out : ∀ (p : Int) (l : List Int) (e : Int), (p, l, e) = doF f [a] 1 ad → K (.tup [.agg [iv .u32 p, .ref 1], .one (iv .i64 e)]) [rd32 [a], own32 l] := fun p l e h => by rw [← h] at hk; exact hk
  clear hk
  rw [t_dr11]
  refine nd (by rw [hr]; rfl) ?_
  · repeat' first
      | refine brd (fun _ => ?_) (fun _ => ?_)
      | refine bre (fun _ => ?_) (fun _ => ?_)
      | refine bren (fun _ => ?_) (fun _ => ?_)
      | refine brh (fun _ => ?_) (fun _ => ?_)
      | refine brnh (fun _ => ?_) (fun _ => ?_)
      | refine ndd (by omega) ?_
    all_goals try simp only [List.mem_cons, List.not_mem_nil, or_false, not_or] at *
    all_goals refine out _ _ _ ?_
    all_goals rw [doF1 hm]
    all_goals simp only [List.mem_cons, List.not_mem_nil, or_false, List.length_cons, List.length_nil, posL]
    all_goals repeat' split
    all_goals first | rfl | omega
theorem dr21 (f ad a b : Int) (h1 : a ≠ 0) (h2 : b ≠ 0) (h3 : a < b) (hf : f = a ∨ f = b) (hm : mayB f [a, b] = true) (hr : mayR f [a, b] = true) (K : SV → St → Prop) (hk : K (.tup [.agg [iv .u32 (doF f [a, b] 1 ad).1, .ref 1], .one (iv .i64 (doF f [a, b] 1 ad).2.2)]) [rd32 [a, b], own32 (doF f [a, b] 1 ad).2.1]) :
    evCall cxDr (ev cxDr 80) 10 [.agg [iv .u32 f, .ref 0], .one (iv .u8 1), .one (iv .u32 ad)] [rd32 [a, b]] (tidyC Try.prog 23 1 1 K) := by
  have out : ∀ (p : Int) (l : List Int) (e : Int), (p, l, e) = doF f [a, b] 1 ad → K (.tup [.agg [iv .u32 p, .ref 1], .one (iv .i64 e)]) [rd32 [a, b], own32 l] := fun p l e h => by rw [← h] at hk; exact hk
  clear hk
  rw [t_dr21]
  refine nd (by rw [hr]; rfl) ?_
  · repeat' first
      | refine brd (fun _ => ?_) (fun _ => ?_)
      | refine bre (fun _ => ?_) (fun _ => ?_)
      | refine bren (fun _ => ?_) (fun _ => ?_)
      | refine brh (fun _ => ?_) (fun _ => ?_)
      | refine brnh (fun _ => ?_) (fun _ => ?_)
      | refine ndd (by omega) ?_
    all_goals try simp only [List.mem_cons, List.not_mem_nil, or_false, not_or] at *
    all_goals refine out _ _ _ ?_
    all_goals rw [doF1 hm]
    all_goals simp only [List.mem_cons, List.not_mem_nil, or_false, List.length_cons, List.length_nil, posL]
    all_goals repeat' split
    all_goals first | rfl | omega
theorem dr31 (f ad a b c : Int) (h1 : a ≠ 0) (h2 : b ≠ 0) (h3 : c ≠ 0) (h4 : a < b) (h5 : b < c) (hf : f = a ∨ f = b ∨ f = c) (hm : mayB f [a, b, c] = true) (hr : mayR f [a, b, c] = true) (K : SV → St → Prop) (hk : K (.tup [.agg [iv .u32 (doF f [a, b, c] 1 ad).1, .ref 1], .one (iv .i64 (doF f [a, b, c] 1 ad).2.2)]) [rd32 [a, b, c], own32 (doF f [a, b, c] 1 ad).2.1]) :
    evCall cxDr (ev cxDr 80) 10 [.agg [iv .u32 f, .ref 0], .one (iv .u8 1), .one (iv .u32 ad)] [rd32 [a, b, c]] (tidyC Try.prog 23 1 1 K) := by
  have out : ∀ (p : Int) (l : List Int) (e : Int), (p, l, e) = doF f [a, b, c] 1 ad → K (.tup [.agg [iv .u32 p, .ref 1], .one (iv .i64 e)]) [rd32 [a, b, c], own32 l] := fun p l e h => by rw [← h] at hk; exact hk
  clear hk
  rw [t_dr31]
  refine nd (by rw [hr]; rfl) ?_
  · repeat' first
      | refine brd (fun _ => ?_) (fun _ => ?_)
      | refine bre (fun _ => ?_) (fun _ => ?_)
      | refine bren (fun _ => ?_) (fun _ => ?_)
      | refine brh (fun _ => ?_) (fun _ => ?_)
      | refine brnh (fun _ => ?_) (fun _ => ?_)
      | refine ndd (by omega) ?_
    all_goals try simp only [List.mem_cons, List.not_mem_nil, or_false, not_or] at *
    all_goals refine out _ _ _ ?_
    all_goals rw [doF1 hm]
    all_goals simp only [List.mem_cons, List.not_mem_nil, or_false, List.length_cons, List.length_nil, posL]
    all_goals repeat' split
    all_goals first | rfl | omega
theorem dr12 (f ad a : Int) (h1 : a ≠ 0) (hf : f = a) (hm : mayB f [a] = true) (hr : mayR f [a] = true) (K : SV → St → Prop) (hk : K (.tup [.agg [iv .u32 (doF f [a] 2 ad).1, .ref 1], .one (iv .i64 (doF f [a] 2 ad).2.2)]) [rd32 [a], own32 (doF f [a] 2 ad).2.1]) :
    evCall cxDr (ev cxDr 80) 10 [.agg [iv .u32 f, .ref 0], .one (iv .u8 2), .one (iv .u32 ad)] [rd32 [a]] (tidyC Try.prog 23 1 1 K) := by
  have out : ∀ (p : Int) (l : List Int) (e : Int), (p, l, e) = doF f [a] 2 ad → K (.tup [.agg [iv .u32 p, .ref 1], .one (iv .i64 e)]) [rd32 [a], own32 l] := fun p l e h => by rw [← h] at hk; exact hk
  clear hk
  rw [t_dr12]
  refine nd (by rw [hr]; rfl) ?_
  · repeat' first
      | refine brd (fun _ => ?_) (fun _ => ?_)
      | refine bre (fun _ => ?_) (fun _ => ?_)
      | refine bren (fun _ => ?_) (fun _ => ?_)
      | refine brh (fun _ => ?_) (fun _ => ?_)
      | refine brnh (fun _ => ?_) (fun _ => ?_)
      | refine ndd (by omega) ?_
    all_goals try simp only [List.mem_cons, List.not_mem_nil, or_false, not_or] at *
    all_goals refine out _ _ _ ?_
    all_goals rw [doF2 hm]
    all_goals simp only [List.mem_cons, List.not_mem_nil, or_false, List.length_cons, List.length_nil, posL]
    all_goals repeat' split
    all_goals first | rfl | omega
theorem dr22 (f ad a b : Int) (h1 : a ≠ 0) (h2 : b ≠ 0) (h3 : a < b) (hf : f = a ∨ f = b) (hm : mayB f [a, b] = true) (hr : mayR f [a, b] = true) (K : SV → St → Prop) (hk : K (.tup [.agg [iv .u32 (doF f [a, b] 2 ad).1, .ref 1], .one (iv .i64 (doF f [a, b] 2 ad).2.2)]) [rd32 [a, b], own32 (doF f [a, b] 2 ad).2.1]) :
    evCall cxDr (ev cxDr 80) 10 [.agg [iv .u32 f, .ref 0], .one (iv .u8 2), .one (iv .u32 ad)] [rd32 [a, b]] (tidyC Try.prog 23 1 1 K) := by
  have out : ∀ (p : Int) (l : List Int) (e : Int), (p, l, e) = doF f [a, b] 2 ad → K (.tup [.agg [iv .u32 p, .ref 1], .one (iv .i64 e)]) [rd32 [a, b], own32 l] := fun p l e h => by rw [← h] at hk; exact hk
  clear hk
  rw [t_dr22]
  refine nd (by rw [hr]; rfl) ?_
  · repeat' first
      | refine brd (fun _ => ?_) (fun _ => ?_)
      | refine bre (fun _ => ?_) (fun _ => ?_)
      | refine bren (fun _ => ?_) (fun _ => ?_)
      | refine brh (fun _ => ?_) (fun _ => ?_)
      | refine brnh (fun _ => ?_) (fun _ => ?_)
      | refine ndd (by omega) ?_
    all_goals try simp only [List.mem_cons, List.not_mem_nil, or_false, not_or] at *
    all_goals refine out _ _ _ ?_
    all_goals rw [doF2 hm]
    all_goals simp only [List.mem_cons, List.not_mem_nil, or_false, List.length_cons, List.length_nil, posL]
    all_goals repeat' split
    all_goals first | rfl | omega
theorem dr32 (f ad a b c : Int) (h1 : a ≠ 0) (h2 : b ≠ 0) (h3 : c ≠ 0) (h4 : a < b) (h5 : b < c) (hf : f = a ∨ f = b ∨ f = c) (hm : mayB f [a, b, c] = true) (hr : mayR f [a, b, c] = true) (K : SV → St → Prop) (hk : K (.tup [.agg [iv .u32 (doF f [a, b, c] 2 ad).1, .ref 1], .one (iv .i64 (doF f [a, b, c] 2 ad).2.2)]) [rd32 [a, b, c], own32 (doF f [a, b, c] 2 ad).2.1]) :
    evCall cxDr (ev cxDr 80) 10 [.agg [iv .u32 f, .ref 0], .one (iv .u8 2), .one (iv .u32 ad)] [rd32 [a, b, c]] (tidyC Try.prog 23 1 1 K) := by
  have out : ∀ (p : Int) (l : List Int) (e : Int), (p, l, e) = doF f [a, b, c] 2 ad → K (.tup [.agg [iv .u32 p, .ref 1], .one (iv .i64 e)]) [rd32 [a, b, c], own32 l] := fun p l e h => by rw [← h] at hk; exact hk
  clear hk
  rw [t_dr32]
  refine nd (by rw [hr]; rfl) ?_
  · repeat' first
      | refine brd (fun _ => ?_) (fun _ => ?_)
      | refine bre (fun _ => ?_) (fun _ => ?_)
      | refine bren (fun _ => ?_) (fun _ => ?_)
      | refine brh (fun _ => ?_) (fun _ => ?_)
      | refine brnh (fun _ => ?_) (fun _ => ?_)
      | refine ndd (by omega) ?_
    all_goals try simp only [List.mem_cons, List.not_mem_nil, or_false, not_or] at *
    all_goals refine out _ _ _ ?_
    all_goals rw [doF2 hm]
    all_goals simp only [List.mem_cons, List.not_mem_nil, or_false, List.length_cons, List.length_nil, posL]
    all_goals repeat' split
    all_goals first | rfl | omega
theorem dr13 (f ad a : Int) (h1 : a ≠ 0) (hf : f = a) (hm : mayB f [a] = true) (hr : mayR f [a] = true) (K : SV → St → Prop) (hk : K (.tup [.agg [iv .u32 (doF f [a] 3 ad).1, .ref 1], .one (iv .i64 (doF f [a] 3 ad).2.2)]) [rd32 [a], own32 (doF f [a] 3 ad).2.1]) :
    evCall cxDr (ev cxDr 80) 10 [.agg [iv .u32 f, .ref 0], .one (iv .u8 3), .one (iv .u32 ad)] [rd32 [a]] (tidyC Try.prog 23 1 1 K) := by
  have out : ∀ (p : Int) (l : List Int) (e : Int), (p, l, e) = doF f [a] 3 ad → K (.tup [.agg [iv .u32 p, .ref 1], .one (iv .i64 e)]) [rd32 [a], own32 l] := fun p l e h => by rw [← h] at hk; exact hk
  clear hk
  rw [t_dr13]
  refine nd (by rw [hr]; rfl) ?_
  · repeat' first
      | refine brd (fun _ => ?_) (fun _ => ?_)
      | refine bre (fun _ => ?_) (fun _ => ?_)
      | refine bren (fun _ => ?_) (fun _ => ?_)
      | refine brh (fun _ => ?_) (fun _ => ?_)
      | refine brnh (fun _ => ?_) (fun _ => ?_)
      | refine ndd (by omega) ?_
    all_goals try simp only [List.mem_cons, List.not_mem_nil, or_false, not_or] at *
    all_goals refine out _ _ _ ?_
    all_goals rw [doF3 hm]
    all_goals simp only [List.mem_cons, List.not_mem_nil, or_false, List.length_cons, List.length_nil, posL]
    all_goals repeat' split
    all_goals first | rfl | omega
theorem dr23 (f ad a b : Int) (h1 : a ≠ 0) (h2 : b ≠ 0) (h3 : a < b) (hf : f = a ∨ f = b) (hm : mayB f [a, b] = true) (hr : mayR f [a, b] = true) (K : SV → St → Prop) (hk : K (.tup [.agg [iv .u32 (doF f [a, b] 3 ad).1, .ref 1], .one (iv .i64 (doF f [a, b] 3 ad).2.2)]) [rd32 [a, b], own32 (doF f [a, b] 3 ad).2.1]) :
    evCall cxDr (ev cxDr 80) 10 [.agg [iv .u32 f, .ref 0], .one (iv .u8 3), .one (iv .u32 ad)] [rd32 [a, b]] (tidyC Try.prog 23 1 1 K) := by
  have out : ∀ (p : Int) (l : List Int) (e : Int), (p, l, e) = doF f [a, b] 3 ad → K (.tup [.agg [iv .u32 p, .ref 1], .one (iv .i64 e)]) [rd32 [a, b], own32 l] := fun p l e h => by rw [← h] at hk; exact hk
  clear hk
  rw [t_dr23]
  refine nd (by rw [hr]; rfl) ?_
  · repeat' first
      | refine brd (fun _ => ?_) (fun _ => ?_)
      | refine bre (fun _ => ?_) (fun _ => ?_)
      | refine bren (fun _ => ?_) (fun _ => ?_)
      | refine brh (fun _ => ?_) (fun _ => ?_)
      | refine brnh (fun _ => ?_) (fun _ => ?_)
      | refine ndd (by omega) ?_
    all_goals try simp only [List.mem_cons, List.not_mem_nil, or_false, not_or] at *
    all_goals refine out _ _ _ ?_
    all_goals rw [doF3 hm]
    all_goals simp only [List.mem_cons, List.not_mem_nil, or_false, List.length_cons, List.length_nil, posL]
    all_goals repeat' split
    all_goals first | rfl | omega
theorem dr33 (f ad a b c : Int) (h1 : a ≠ 0) (h2 : b ≠ 0) (h3 : c ≠ 0) (h4 : a < b) (h5 : b < c) (hf : f = a ∨ f = b ∨ f = c) (hm : mayB f [a, b, c] = true) (hr : mayR f [a, b, c] = true) (K : SV → St → Prop) (hk : K (.tup [.agg [iv .u32 (doF f [a, b, c] 3 ad).1, .ref 1], .one (iv .i64 (doF f [a, b, c] 3 ad).2.2)]) [rd32 [a, b, c], own32 (doF f [a, b, c] 3 ad).2.1]) :
    evCall cxDr (ev cxDr 80) 10 [.agg [iv .u32 f, .ref 0], .one (iv .u8 3), .one (iv .u32 ad)] [rd32 [a, b, c]] (tidyC Try.prog 23 1 1 K) := by
  have out : ∀ (p : Int) (l : List Int) (e : Int), (p, l, e) = doF f [a, b, c] 3 ad → K (.tup [.agg [iv .u32 p, .ref 1], .one (iv .i64 e)]) [rd32 [a, b, c], own32 l] := fun p l e h => by rw [← h] at hk; exact hk
  clear hk
  rw [t_dr33]
  refine nd (by rw [hr]; rfl) ?_
  · repeat' first
      | refine brd (fun _ => ?_) (fun _ => ?_)
      | refine bre (fun _ => ?_) (fun _ => ?_)
      | refine bren (fun _ => ?_) (fun _ => ?_)
      | refine brh (fun _ => ?_) (fun _ => ?_)
      | refine brnh (fun _ => ?_) (fun _ => ?_)
      | refine ndd (by omega) ?_
    all_goals try simp only [List.mem_cons, List.not_mem_nil, or_false, not_or] at *
    all_goals refine out _ _ _ ?_
    all_goals rw [doF3 hm]
    all_goals simp only [List.mem_cons, List.not_mem_nil, or_false, List.length_cons, List.length_nil, posL]
    all_goals repeat' split
    all_goals first | rfl | omega
theorem fDoR_lin (vas : List VA) : Lin (fDoR vas) := by
  intro k h
  unfold fDoR at h ⊢
  split at h
  · exact (Lin.need (Lin.ret _ _)) k h
  · exact h.elim
theorem dr_sum : SumOk Try.prog 10 sDoR := by
  refine pureSum_okC 23 1 fDoR_lin fun vas K h => ?_
  unfold fDoR at h
  split at h
  · rename_i f xs kd ad
    obtain ⟨h1, hK⟩ := need_iff.1 h
    rw [Bool.and_eq_true_iff] at h1
    obtain ⟨h1, hu⟩ := h1
    have h1 := of_decide_eq_true h1
    have hre := mayR_eq (f := f) hu
    show ∃ cx, CxOk Try.prog cx ∧ ∃ n, evCall cx (ev cx n) 10 [.agg [iv .u32 f, .ref 0], .one (iv .u8 kd), .one (iv .u32 ad)] [rd32 xs] (tidyC Try.prog 23 1 1 (pureK 1 K))
    have hK : pureK 1 K (.tup [.agg [iv .u32 (doF f xs kd ad).1, .ref 1], .one (iv .i64 (doF f xs kd ad).2.2)]) [rd32 xs, own32 (doF f xs kd ad).2.1] := hK
    have hl : xs.length ≤ 1000000 := h1.1
    have h0 := h1.2
    cases hm : mayB f xs with
    | false =>
      refine ⟨cxDrE, cxDrE_ok, 60, ?_⟩
      rw [t_drE, List.take_length, hre, hm, decide_eq_true hl]
      rw [doFe (fun e => by rw [hm] at e; cases e.1)] at hK
      exact ndd (by omega) (nd rfl hK)
    | true =>
      by_cases hk0 : kd = 0
      · subst hk0
        refine ⟨cxDrP, cxDrP_ok, 80, ?_⟩
        rw [t_drK0, List.take_length, hre, hm, decide_eq_true hl]
        rw [doFe (fun e => by omega)] at hK
        exact ndd (by omega) (nd rfl hK)
      by_cases hk4 : 4 ≤ kd
      · obtain ⟨m, rfl⟩ : ∃ m : Nat, kd = ((m + 4 : Nat) : Int) := ⟨(kd - 4).toNat, by omega⟩
        refine ⟨cxDrP, cxDrP_ok, 80, ?_⟩
        rw [t_drKp, List.take_length, hre, hm, decide_eq_true hl]
        rw [doFe (fun e => by omega)] at hK
        exact ndd (by omega) (nd rfl (brt (by omega) hK))
      refine ⟨cxDr, cxDr_ok, 80, ?_⟩
      have hk : kd = 1 ∨ kd = 2 ∨ kd = 3 := by omega
      rcases mayB_len hm with ⟨a, rfl, g1, g2⟩ | ⟨a, b, rfl, g1, g2, g3, g4⟩ | ⟨a, b, c, rfl, g1, g2, g3, g4, g5, g6⟩
      · rcases hk with rfl | rfl | rfl
        · exact dr11 f ad a g1 g2 hm (hre.trans hm) _ hK
        · exact dr12 f ad a g1 g2 hm (hre.trans hm) _ hK
        · exact dr13 f ad a g1 g2 hm (hre.trans hm) _ hK
      · rcases hk with rfl | rfl | rfl
        · exact dr21 f ad a b g1 g2 g3 g4 hm (hre.trans hm) _ hK
        · exact dr22 f ad a b g1 g2 g3 g4 hm (hre.trans hm) _ hK
        · exact dr23 f ad a b g1 g2 g3 g4 hm (hre.trans hm) _ hK
      · rcases hk with rfl | rfl | rfl
        · exact dr31 f ad a b c g1 g2 g3 g4 g5 g6 hm (hre.trans hm) _ hK
        · exact dr32 f ad a b c g1 g2 g3 g4 g5 g6 hm (hre.trans hm) _ hK
        · exact dr33 f ad a b c g1 g2 g3 g4 g5 g6 hm (hre.trans hm) _ hK
  · exact h.elim
end Go.Ev
