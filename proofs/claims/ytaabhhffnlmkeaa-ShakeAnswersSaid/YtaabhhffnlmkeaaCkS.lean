/- The cookie of chapter 16: what the Go functions do. No conditions. -/
import Derived.Test.YtaabhhffnlmkeaaCkT
import Derived.Test.YtaabhhffnlmkeaaCkT2
import Derived.Test.YtaabhhffnlmkeaaSiR
import Derived.Test.YtaabhhffnlmkeaaSiO
namespace Go.Ev
open Go Go.Proofs Go.Spec
attribute [local irreducible] ev evCall branch need again
attribute [local simp] eqK_eq

theorem sLeaf {v : SV} {st st' : St} {k : SV → St → Prop} (h : k v st) (e : st = st') : k v st' := e ▸ h
theorem neK_t {x y : Int} : (!eqK x y) = true ↔ x ≠ y := by rw [eqK_eq]; simp
theorem neK_f {x y : Int} : (!eqK x y) = false ↔ x = y := by rw [eqK_eq]; simp
theorem eqL_cons (x y : Int) (a b : List Int) : eqL (x :: a) (y :: b) = (x == y && eqL a b) := by simp [eqL]
theorem addrsB_drop (xs : List Int) (i : Nat) (h : i < xs.length) : addrsB (xs.drop i) = be4 (w64 (xs.getD i 0)) ++ addrsB (xs.drop (i + 1)) := by
  rw [List.drop_eq_getElem_cons h, addrsB, List.getD_eq_getElem?_getD, List.getElem?_eq_getElem h]; rfl
theorem addrsB_len : ∀ xs : List Int, (addrsB xs).length = 4 * xs.length
  | [] => rfl
  | x :: r => by simp only [addrsB, List.length_append, addrsB_len r, be4, List.length_cons, List.length_nil]; omega
theorem headOf_len (t : Tc) (c : Int) : (headOf t c).length = 44 := rfl
theorem plainOf_len (t : Tc) : (plainOf t).length = 44 + 4 * t.xs.length := by unfold plainOf; rw [List.length_append, headOf_len, addrsB_len]
theorem total_one (b : List Int) : total [b] 1 = b.length := by simp [total]

/-! ### slices.Equal -/
theorem cxEq_ok : CxOk Try.prog cxEq := mkCx_ok namesS mixedS (by intro x h; cases h)
theorem eq_loop (xs ys : List Int) (hl : xs.length = ys.length) (hn : xs.length ≤ 4611686018427387904) (M : Nat) (k : SV → St → Prop) (r : Bool) (hk : k (.sa (.one (bv r))) [(some (SO.own false MK.ext 0 1 (Ct.ints .u32 xs))), (some (SO.own false MK.ext 0 1 (Ct.ints .u32 ys)))]) :
    ∀ (rem i : Nat), i + rem = xs.length → eqL (xs.drop i) (ys.drop i) = r →
      ev cxEq (rem + 55) 2 25 (codeAt Try.prog 25 [1, 1, 0, 1, 0]) (frm 26 [(0, (.sa (.one (SC.ref 0)))), (1, (.sa (.one (SC.ref 1)))), (12, (.sa (.one (iv .i64 (((List.length xs) : Nat) : Int))))), (13, (.sa (.one (iv .i64 (i : Int)))))]) [(some (SO.own false MK.ext 0 1 (Ct.ints .u32 xs))), (some (SO.own false MK.ext 0 1 (Ct.ints .u32 ys)))] (kBlock 0 (kSeq (ev cxEq (M + 57) 2 25 (codeAt Try.prog 25 [1, 1, 1])) (kRet (Cx.P cxEq) [(ResultVar.tmp 4)] 2 k)))
  | 0, i, h1, h2 => by
    rw [t_eqStep]
    refine br (fun h => absurd (of_decide_eq_true h) (by omega)) (fun _ => ?_)
    rw [List.drop_of_length_le (by omega), List.drop_of_length_le (by omega)] at h2
    have : r = true := by rw [← h2]; rfl
    subst this
    rw [t_eqExit]
    exact hk
  | rem + 1, i, h1, h2 => by
    rw [t_eqStep]
    have hN : rem + 1 + 54 = rem + 55 := by omega
    have ei : 0 + Int.toNat (i : Int) = i := by simp
    have e1 : (i : Int) + 1 = ((i + 1 : Nat) : Int) := by omega
    rw [hN, ei, i64_add (by omega), e1]
    refine br (fun _ => ?_) (fun h => absurd (of_decide_eq_false h) (by omega))
    repeat' refine nd (decide_eq_true (by omega)) ?_
    rw [List.drop_eq_getElem_cons (show i < xs.length by omega), List.drop_eq_getElem_cons (show i < ys.length by omega), eqL_cons] at h2
    have hx : xs.getD i 0 = xs[i]'(by omega) := by rw [List.getD_eq_getElem?_getD, List.getElem?_eq_getElem (by omega)]; rfl
    have hy : ys.getD i 0 = ys[i]'(by omega) := by rw [List.getD_eq_getElem?_getD, List.getElem?_eq_getElem (by omega)]; rfl
    rw [hx, hy]
    refine br (fun h => ?_) (fun h => ?_)
    · have : r = false := by
        rw [← h2]
        have : xs[i]'(by omega) ≠ ys[i]'(by omega) := by simpa using h
        rw [beq_eq_false_iff_ne.2 this]; rfl
      subst this
      rw [t_eqRet]
      exact hk
    · refine eq_loop xs ys hl hn M k r hk rem (i + 1) (by omega) ?_
      rw [← h2]
      have : xs[i]'(by omega) = ys[i]'(by omega) := by simpa using h
      rw [this, beq_self_eq_true]; rfl
theorem eq_sum : SumOk Try.prog 25 sEq32 := by
  refine pureSum_ok cxEq_ok ?_ ?_
  · intro vas k h
    unfold fEq32 at h ⊢
    split at h
    · exact (Lin.need (Lin.ret _ _)) k h
    · exact h.elim
  · intro vas K h
    unfold fEq32 at h
    split at h
    · rename_i xs ys
      obtain ⟨hn, h⟩ := need_iff.1 h
      have hn := of_decide_eq_true hn
      refine ⟨xs.length + 60, ?_⟩
      show evCall cxEq (ev cxEq (xs.length + 60)) _ [.one (.ref 0), .one (.ref 1)] [(some (SO.own false MK.ext 0 1 (Ct.ints .u32 xs))), (some (SO.own false MK.ext 0 1 (Ct.ints .u32 ys)))] _
      rw [t_eq]
      refine br (fun hne => ?_) (fun hne => ?_)
      · have : eqL xs ys = false := by
          have : xs.length ≠ ys.length := by have := neK_t.1 hne; omega
          have : xs ≠ ys := fun e => this (by rw [e])
          simp [eqL, this]
        rw [this] at h
        exact h
      · have hl : xs.length = ys.length := by have := neK_f.1 hne; omega
        exact eq_loop xs ys hl hn xs.length _ _ h xs.length 0 (by omega) (by simp)
    · exact h.elim

/-! ### the bytes, as the document has them -/
theorem cxPl_ok : CxOk Try.prog cxPl := mkCx_ok namesS mixedS (by intro x h; cases h)
theorem plain_loop (a0 a1 a2 a3 a4 a5 a6 a8 a9 a10 : Int) (xs : List Int) (hn : xs.length ≤ 1000000) (M : Nat) (k : SV → St → Prop) (b : List Int) (hb : b.length = 44 + 4 * xs.length) (hk : k (.sa (.one (SC.ref 1))) [(some (SO.own false MK.ext 0 1 (Ct.ints .u32 xs))), (some (SO.own true MK.row 5 1 (Ct.ints .u8 b)))]) :
    ∀ (rem i : Nat) (bs : List Int), i + rem = xs.length → bs ++ addrsB (xs.drop i) = b →
      ev cxPl (rem + 45) 1 33 (codeAt Try.prog 33 [1, 1, 1, 1, 1, 1, 1, 1, 1, 1, 1, 1, 0, 1, 0]) (frm 86 [(1, (.sa (.one (SC.ptr 1 0 0)))), (3, (.sa (.one (SC.ref 2)))), (4, (.sa (.one (iv .i64 (i : Int)))))]) [(some (SO.own false MK.ext 0 1 (Ct.ints .u32 xs))), (obj 46 11 [(iv .u32 a0), (iv .u32 a1), (iv .u32 a2), (iv .u32 a3), (iv .u32 a4), (iv .u16 a5), (iv .u16 a6), (SC.ref 0), (iv .u32 a8), (iv .u32 a9), (iv .u64 a10)]), (some (SO.own true MK.row 5 1 (Ct.ints .u8 bs)))] (kBlock 0 (kSeq (ev cxPl (M + 47) 1 33 (codeAt Try.prog 33 [1, 1, 1, 1, 1, 1, 1, 1, 1, 1, 1, 1, 1])) (kRet (Cx.P cxPl) [(ResultVar.tmp 2)] 1 k)))
  | 0, i, bs, h1, h2 => by
    rw [t_plainStep]
    refine br (fun h => absurd (of_decide_eq_true h) (by omega)) (fun _ => ?_)
    rw [List.drop_of_length_le (by omega), addrsB, List.append_nil] at h2
    subst h2
    exact hk
  | rem + 1, i, bs, h1, h2 => by
    rw [t_plainStep]
    have hN : rem + 1 + 44 = rem + 45 := by omega
    have ei : 0 + Int.toNat (i : Int) = i := by simp
    have e1 : (i : Int) + 1 = ((i + 1 : Nat) : Int) := by omega
    rw [hN, ei, i64_add (by omega), e1]
    have hbl : bs.length ≤ b.length := by rw [← h2, List.length_append]; omega
    refine br (fun _ => ?_) (fun h => absurd (of_decide_eq_false h) (by omega))
    repeat' refine nd (decide_eq_true (by omega)) ?_
    rw [addrsB_drop xs i (by omega)] at h2
    exact plain_loop a0 a1 a2 a3 a4 a5 a6 a8 a9 a10 xs hn M k b hb hk rem (i + 1) _ (by omega) (by rw [← h2, ← List.append_assoc]; rfl)
theorem plain_sum : SumOk Try.prog 33 sPlain := by
  refine pureSum_ok cxPl_ok ?_ ?_
  · intro vas k h
    unfold fPlain at h ⊢
    split at h
    · exact (Lin.need (Lin.ret _ _)) k h
    · exact h.elim
  · intro vas K h
    unfold fPlain at h
    split at h
    · rename_i a0 a1 a2 a3 a4 a5 a6 xs a8 a9 a10
      obtain ⟨hn, h⟩ := need_iff.1 h
      have hn := of_decide_eq_true hn
      refine ⟨xs.length + 60, ?_⟩
      show evCall cxPl (ev cxPl (xs.length + 60)) _ [.agg [.raw (.int .u32 a0), .raw (.int .u32 a1), .raw (.int .u32 a2), .raw (.int .u32 a3), .raw (.int .u32 a4), .raw (.int .u16 a5), .raw (.int .u16 a6), .ref 0, .raw (.int .u32 a8), .raw (.int .u32 a9), .raw (.int .u64 a10)]] [(some (SO.own false MK.ext 0 1 (Ct.ints .u32 xs)))] _
      rw [t_plain]
      exact plain_loop a0 a1 a2 a3 a4 a5 a6 a8 a9 a10 xs hn xs.length _ (plainOf ⟨a0, a1, a2, a3, a4, a5, a6, xs, a8, a9, a10⟩) (plainOf_len _) h xs.length 0 _ (by omega) rfl
    · exact h.elim

/-! ### Make -/
theorem cxM_ok : CxOk Try.prog cxM := mkCx_ok namesS mixedS (by
  intro x h
  simp only [List.mem_cons, List.not_mem_nil, or_false] at h
  subst h
  exact of_sum)
theorem make_loop (k0 k1 k2 k3 k4 k5 k6 k7 k8 k9 ka kb kc kd ke kf a0 a1 a2 a3 a4 a5 a6 a8 a9 a10 : Int) (xs : List Int) (hn : xs.length ≤ 1000) (M : Nat) (k : SV → St → Prop) (b : List Int) (hb : b.length = 44 + 4 * xs.length) (hk : k (.tup [.one (SC.ref 1), .one (iv .i64 0)]) [(some (SO.own false MK.ext 0 1 (Ct.ints .u32 xs))), (some (SO.own true MK.row 5 1 (Ct.ints .u8 (b ++ be8 (sipOf [k0, k1, k2, k3, k4, k5, k6, k7, k8, k9, ka, kb, kc, kd, ke, kf] [b] 1)))))]) :
    ∀ (rem i : Nat) (bs : List Int), i + rem = xs.length → bs ++ addrsB (xs.drop i) = b →
      ev cxM (rem + 49) 1 26 (codeAt Try.prog 26 [1, 1, 1, 1, 1, 1, 1, 1, 0, 1, 0]) (frm 74 [(2, (.sa (.one (SC.ptr 1 0 0)))), (3, (.sa (.one (SC.ptr 2 0 0)))), (6, (.sa (.one (SC.ref 3)))), (58, (.sa (.one (SC.ref 0)))), (59, (.sa (.one (iv .i64 (((List.length xs) : Nat) : Int))))), (60, (.sa (.one (iv .i64 (i : Int)))))]) [(some (SO.own false MK.ext 0 1 (Ct.ints .u32 xs))), (some (SO.mem true MK.whole 29 1 (Ct.lst [[(iv .u8 k0)], [(iv .u8 k1)], [(iv .u8 k2)], [(iv .u8 k3)], [(iv .u8 k4)], [(iv .u8 k5)], [(iv .u8 k6)], [(iv .u8 k7)], [(iv .u8 k8)], [(iv .u8 k9)], [(iv .u8 ka)], [(iv .u8 kb)], [(iv .u8 kc)], [(iv .u8 kd)], [(iv .u8 ke)], [(iv .u8 kf)]]))), (obj 46 11 [(iv .u32 a0), (iv .u32 a1), (iv .u32 a2), (iv .u32 a3), (iv .u32 a4), (iv .u16 a5), (iv .u16 a6), (SC.ref 0), (iv .u32 a8), (iv .u32 a9), (iv .u64 a10)]), (some (SO.own true MK.row 5 1 (Ct.ints .u8 bs)))] (kBlock 2 (kSeq (ev cxM (M + 51) 1 26 (codeAt Try.prog 26 [1, 1, 1, 1, 1, 1, 1, 1, 1])) (kRet (Cx.P cxM) [(ResultVar.tmp 4), (ResultVar.tmp 5)] 1 k)))
  | 0, i, bs, h1, h2 => by
    rw [t_makeStep]
    refine br (fun h => absurd (of_decide_eq_true h) (by omega)) (fun _ => ?_)
    rw [List.drop_of_length_le (by omega), addrsB, List.append_nil] at h2
    subst h2
    rw [List.take_of_length_le (Nat.le_refl bs.length), total_one]
    repeat' refine nd (decide_eq_true (by first | omega | (simp only [List.length_append, List.length_cons, List.length_nil]; omega))) ?_
    refine sLeaf hk ?_
    simp only [be8, beB, List.append_assoc, List.cons_append, List.nil_append]
  | rem + 1, i, bs, h1, h2 => by
    rw [t_makeStep]
    have hN : rem + 1 + 48 = rem + 49 := by omega
    have ei : 0 + Int.toNat (i : Int) = i := by simp
    have e1 : (i : Int) + 1 = ((i + 1 : Nat) : Int) := by omega
    rw [hN, ei, i64_add (by omega), e1]
    have hbl : bs.length ≤ b.length := by rw [← h2, List.length_append]; omega
    refine br (fun _ => ?_) (fun h => absurd (of_decide_eq_false h) (by omega))
    repeat' refine nd (decide_eq_true (by first | omega | (simp only [List.length_append, List.length_cons, List.length_nil]; omega))) ?_
    rw [addrsB_drop xs i (by omega)] at h2
    refine make_loop k0 k1 k2 k3 k4 k5 k6 k7 k8 k9 ka kb kc kd ke kf a0 a1 a2 a3 a4 a5 a6 a8 a9 a10 xs hn M k b hb hk rem (i + 1) _ (by omega) ?_
    rw [← h2]
    simp only [be4, beB, w64, List.append_assoc, List.cons_append, List.nil_append]
theorem lin_fMk (mk : List Int → Tc → List Int) (vas : List VA) : Lin (fMk mk vas) := by
  intro k h
  unfold fMk at h ⊢
  split at h
  · exact (Lin.need (Lin.branch (Lin.ret _ _) (Lin.ret _ _))) k h
  · exact h.elim
theorem make_sum : SumOk Try.prog 26 (sMk makeOf) := by
  refine pureSum_ok cxM_ok (lin_fMk _) ?_
  intro vas K h
  unfold fMk at h
  split at h
  · rename_i k0 k1 k2 k3 k4 k5 k6 k7 k8 k9 ka kb kc kd ke kf a0 a1 a2 a3 a4 a5 a6 xs a8 a9 a10
    obtain ⟨hn, h⟩ := need_iff.1 h
    refine ⟨xs.length + 60, ?_⟩
    show evCall cxM (ev cxM (xs.length + 60)) _ [.agg [iv .u8 k0, iv .u8 k1, iv .u8 k2, iv .u8 k3, iv .u8 k4, iv .u8 k5, iv .u8 k6, iv .u8 k7, iv .u8 k8, iv .u8 k9, iv .u8 ka, iv .u8 kb, iv .u8 kc, iv .u8 kd, iv .u8 ke, iv .u8 kf], .agg [.raw (.int .u32 a0), .raw (.int .u32 a1), .raw (.int .u32 a2), .raw (.int .u32 a3), .raw (.int .u32 a4), .raw (.int .u16 a5), .raw (.int .u16 a6), .ref 0, .raw (.int .u32 a8), .raw (.int .u32 a9), .raw (.int .u64 a10)]] [(some (SO.own false MK.ext 0 1 (Ct.ints .u32 xs)))] _
    rw [t_make]
    rcases branch_iff.1 h with ⟨e, h⟩ | ⟨e, h⟩
    · exact br (fun _ => h) (fun e2 => absurd (e.symm.trans e2) (by simp))
    · refine br (fun e2 => absurd (e.symm.trans e2) (by simp)) (fun _ => ?_)
      have e := of_decide_eq_false e
      have ew : IntKind.wrap .u32 ((xs.length : Nat) : Int) = ((xs.length : Nat) : Int) := by rw [IntKind.wrap_u32]; omega
      rw [ew]
      exact make_loop k0 k1 k2 k3 k4 k5 k6 k7 k8 k9 ka kb kc kd ke kf a0 a1 a2 a3 a4 a5 a6 a8 a9 a10 xs (by omega) xs.length _ (plainOf ⟨a0, a1, a2, a3, a4, a5, a6, xs, a8, a9, a10⟩) (plainOf_len _) h xs.length 0 _ (by omega) rfl
  · exact h.elim
theorem cxRM_ok : CxOk Try.prog cxRM := mkCx_ok namesS mixedS (by
  intro x h
  simp only [List.mem_cons, List.not_mem_nil, or_false] at h
  rcases h with rfl | rfl
  · exact rof_sum
  · exact plain_sum)
theorem rmake_sum : SumOk Try.prog 27 (sMk makeRf) := by
  refine pureSum_ok cxRM_ok (lin_fMk _) ?_
  intro vas K h
  unfold fMk at h
  split at h
  · rename_i k0 k1 k2 k3 k4 k5 k6 k7 k8 k9 ka kb kc kd ke kf a0 a1 a2 a3 a4 a5 a6 xs a8 a9 a10
    obtain ⟨hn, h⟩ := need_iff.1 h
    refine ⟨60, ?_⟩
    show evCall cxRM (ev cxRM 60) _ [.agg [iv .u8 k0, iv .u8 k1, iv .u8 k2, iv .u8 k3, iv .u8 k4, iv .u8 k5, iv .u8 k6, iv .u8 k7, iv .u8 k8, iv .u8 k9, iv .u8 ka, iv .u8 kb, iv .u8 kc, iv .u8 kd, iv .u8 ke, iv .u8 kf], .agg [.raw (.int .u32 a0), .raw (.int .u32 a1), .raw (.int .u32 a2), .raw (.int .u32 a3), .raw (.int .u32 a4), .raw (.int .u16 a5), .raw (.int .u16 a6), .ref 0, .raw (.int .u32 a8), .raw (.int .u32 a9), .raw (.int .u64 a10)]] [(some (SO.own false MK.ext 0 1 (Ct.ints .u32 xs)))] _
    rw [t_rmake, List.take_of_length_le (Nat.le_refl xs.length), List.take_of_length_le (Nat.le_refl _)]
    rcases branch_iff.1 h with ⟨e, h⟩ | ⟨e, h⟩
    · exact br (fun _ => h) (fun e2 => absurd (e.symm.trans e2) (by simp))
    · refine br (fun e2 => absurd (e.symm.trans e2) (by simp)) (fun _ => ?_)
      have e := of_decide_eq_false e
      have hl := plainOf_len ⟨a0, a1, a2, a3, a4, a5, a6, xs, a8, a9, a10⟩
      simp only at hl
      repeat' refine nd (decide_eq_true (by omega)) ?_
      exact h
  · exact h.elim

/-! ### Same -/
theorem cxRS_ok : CxOk Try.prog cxRS := mkCx_ok namesS mixedS (by
  intro x h
  simp only [List.mem_cons, List.not_mem_nil, or_false] at h
  subst h
  exact plain_sum)
theorem rsame_sum : SumOk Try.prog 13 sRSame := by
  refine pureSum_ok cxRS_ok ?_ ?_
  · intro vas k h
    unfold fRSame at h ⊢
    split at h
    · exact (Lin.need (Lin.ret _ _)) k h
    · exact h.elim
  · intro vas K h
    unfold fRSame at h
    split at h
    · rename_i a0 a1 a2 a3 a4 a5 a6 xs a8 a9 a10 b0 b1 b2 b3 b4 b5 b6 ys b8 b9 b10
      obtain ⟨hn, h⟩ := need_iff.1 h
      have hn := of_decide_eq_true hn
      refine ⟨60, ?_⟩
      show evCall cxRS (ev cxRS 60) _ [.agg [.raw (.int .u32 a0), .raw (.int .u32 a1), .raw (.int .u32 a2), .raw (.int .u32 a3), .raw (.int .u32 a4), .raw (.int .u16 a5), .raw (.int .u16 a6), .ref 0, .raw (.int .u32 a8), .raw (.int .u32 a9), .raw (.int .u64 a10)], .agg [.raw (.int .u32 b0), .raw (.int .u32 b1), .raw (.int .u32 b2), .raw (.int .u32 b3), .raw (.int .u32 b4), .raw (.int .u16 b5), .raw (.int .u16 b6), .ref 1, .raw (.int .u32 b8), .raw (.int .u32 b9), .raw (.int .u64 b10)]] [(some (SO.own false MK.ext 0 1 (Ct.ints .u32 xs))), (some (SO.own false MK.ext 0 1 (Ct.ints .u32 ys)))] _
      rw [t_rsame, List.take_of_length_le (Nat.le_refl xs.length), List.take_of_length_le (Nat.le_refl ys.length), List.take_of_length_le (Nat.le_refl _), List.take_of_length_le (Nat.le_refl _)]
      repeat' refine nd (decide_eq_true (by omega)) ?_
      exact h
    · exact h.elim
end Go.Ev
