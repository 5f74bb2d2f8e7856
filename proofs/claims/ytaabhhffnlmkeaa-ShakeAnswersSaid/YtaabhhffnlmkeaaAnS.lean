/- The document's opening of cookies, and lists that are alike: what they do. No conditions. -/
import Derived.Test.YtaabhhffnlmkeaaAnT0
import Derived.Test.YtaabhhffnlmkeaaAnT1
import Derived.Test.YtaabhhffnlmkeaaAnT2
import Derived.Test.YtaabhhffnlmkeaaKyP
import Derived.Test.YtaabhhffnlmkeaaCkS
import Derived.Test.YtaabhhffnlmkeaaEvD
set_option linter.unusedVariables false
set_option linter.unusedSimpArgs false
namespace Go.Ev
open Go Go.Proofs Go.Spec
attribute [local irreducible] ev evCall branch need again
theorem evFuelA {c : Cx} {N N' m f : Nat} {co : Code} {fr : Fr} {st : St} {k : Exit → Fr → St → Prop} (h : ev c N m f co fr st k) (e : N = N') : ev c N' m f co fr st k := e ▸ h
theorem kStA {k : SV → St → Prop} {v v' : SV} {s s' : St} (h : k v s) (e1 : v = v') (e2 : s = s') : k v' s' := e1 ▸ e2 ▸ h
theorem bytesB_iff {l : List Int} : bytesB l = true ↔ Bytes l := by simp [bytesB, Bytes]
theorem cxNu_ok : CxOk Try.prog cxNu := mkCx_ok namesS mixedS (by simp)

/-! a number of bytes -/
theorem numK_snoc (c : Int) : ∀ (l : List Int) (x : Int), numK (l ++ [c]) x = orK .u64 (shlK .u64 (numK l x) 8) (IntKind.wrap .u64 c)
  | [], x => rfl
  | d :: r, x => by rw [List.cons_append, numK, numK, numK_snoc c r]
theorem num_succ {b : List Int} {i j : Nat} (h : i + j < b.length) : num b i (j + 1) = orK .u64 (shlK .u64 (num b i j) 8) (IntKind.wrap .u64 (b.getD (i + j) 0)) := by
  unfold num
  rw [List.take_add_one, List.getElem?_drop, List.getElem?_eq_getElem h, List.getD_eq_getElem?_getD, List.getElem?_eq_getElem h]
  exact numK_snoc _ _ _
theorem getD_byte {b : List Int} (hb : Bytes b) {i : Nat} (h : i < b.length) : 0 ≤ b.getD i 0 ∧ b.getD i 0 ≤ 255 := by
  rw [List.getD_eq_getElem?_getD, List.getElem?_eq_getElem h]
  exact hb _ (List.getElem_mem h)
theorem num_bound {b : List Int} (hb : Bytes b) {i : Nat} : ∀ j, j ≤ 8 → i + j ≤ b.length → 0 ≤ num b i j ∧ num b i j + 1 ≤ 256 ^ j
  | 0, _, _ => by simp [num, numK]
  | j + 1, h1, h2 => by
    obtain ⟨g1, g2⟩ := num_bound hb (i := i) j (by omega) (by omega)
    have hc := getD_byte hb (i := i + j) (by omega)
    have hp : (256 : Int) ^ (j + 1) = 256 ^ j * 256 := Int.pow_succ _ _
    have hp8 : (256 : Int) ^ (j + 1) ≤ 18446744073709551616 := by
      have : j = 0 ∨ j = 1 ∨ j = 2 ∨ j = 3 ∨ j = 4 ∨ j = 5 ∨ j = 6 ∨ j = 7 := by omega
      rcases this with e | e | e | e | e | e | e | e <;> subst e <;> decide
    rw [num_succ (by omega), numK_step g1 (by omega) hc]
    omega
theorem num_step {b : List Int} (hb : Bytes b) {i j : Nat} (h1 : j + 1 ≤ 8) (h2 : i + (j + 1) ≤ b.length) : addK .u64 (mulK .u64 (num b i j) 256) (IntKind.wrap .u64 (b.getD (i + j) 0)) = num b i (j + 1) := by
  obtain ⟨g1, g2⟩ := num_bound hb (i := i) j (by omega) (by omega)
  have hc := getD_byte hb (i := i + j) (by omega)
  have hp : (256 : Int) ^ (j + 1) = 256 ^ j * 256 := Int.pow_succ _ _
  have hp8 : (256 : Int) ^ (j + 1) ≤ 18446744073709551616 := by
    have : j = 0 ∨ j = 1 ∨ j = 2 ∨ j = 3 ∨ j = 4 ∨ j = 5 ∨ j = 6 ∨ j = 7 := by omega
    rcases this with e | e | e | e | e | e | e | e <;> subst e <;> decide
  rw [num_succ (by omega), numK_step g1 (by omega) hc, addK_eq, mulK_eq, Go.IntWalk.u64_in (num b i j * 256) (by omega), Go.IntWalk.u64_in (b.getD (i + j) 0) (by omega), Go.IntWalk.u64_in _ (by omega)]
theorem num_loop {b : List Int} (hb : Bytes b) (i n c M : Nat) (hn : n ≤ 8) (hin : i + n ≤ b.length) (hl : b.length ≤ 1000000) (k : SV → St → Prop) (hk : k (.sa (.one (iv .u64 (num b i n)))) [rd b]) :
    ∀ (rem j : Nat), j + rem = n → ev cxNu (rem + c + 35) 1 48 (codeAt Try.prog 48 [1, 1, 0, 1, 0]) (frm 25 [(0, (.sa (.one (SC.ref 0)))), (1, (.sa (.one (iv .i64 (i : Int))))), (2, (.sa (.one (iv .i64 (n : Int))))), (7, (.sa (.one (iv .u64 (num b i j))))), (8, (.sa (.one (iv .i64 (j : Int)))))]) [rd b] (kBlock 0 (kSeq (ev cxNu (M + 37) 1 48 (codeAt Try.prog 48 [1, 1, 1])) (kRet (Cx.P cxNu) [(ResultVar.tmp 6)] 1 k))) := by
  intro rem
  induction rem with
  | zero =>
    intro j h
    have e : j = n := by omega
    subst e
    rw [t_numS]
    exact Again.mk (brf (by omega) hk)
  | succ rem ih =>
    intro j h
    rw [show rem + 1 + c + 35 = (rem + 1 + c) + 35 from rfl, t_numS]
    have e1 : addK .i64 (i : Int) (j : Int) = ((i + j : Nat) : Int) := by rw [add64 (by omega)]; omega
    have e2 : addK .i64 (j : Int) 1 = ((j + 1 : Nat) : Int) := by rw [add64 (by omega)]; omega
    have e3 : 0 + ((i + j : Nat) : Int).toNat = i + j := by omega
    rw [e1, e2, e3, num_step hb (by omega) (by omega)]
    exact Again.mk (brt (by omega) (ndd (by omega) (ndd (by omega) (ndd (by omega) (evFuelA (ih (j + 1) (by omega)) (by omega))))))
theorem fNum_lin (vas : List VA) : Lin (fNum vas) := by
  intro k h
  unfold fNum at h ⊢
  split at h
  · exact (Lin.need (Lin.ret _ _)) k h
  · exact h.elim
theorem num_sum : SumOk Try.prog 48 sNum := by
  refine pureSum_ok cxNu_ok fNum_lin fun vas K h => ?_
  unfold fNum at h
  split at h
  · rename_i b i n
    obtain ⟨h1, hK⟩ := need_iff.1 h
    clear h
    obtain ⟨h1, h2⟩ := Bool.and_eq_true_iff.1 h1
    have hb := bytesB_iff.1 h1
    obtain ⟨c1, c2, c3, c4, c5⟩ := of_decide_eq_true h2
    obtain ⟨i, rfl⟩ : ∃ q : Nat, i = (q : Int) := ⟨i.toNat, by omega⟩
    obtain ⟨n, rfl⟩ : ∃ q : Nat, n = (q : Int) := ⟨n.toNat, by omega⟩
    refine ⟨n + 40, ?_⟩
    show evCall cxNu (ev cxNu (n + 40)) 48 [.one (.ref 0), .one (iv .i64 (i : Int)), .one (iv .i64 (n : Int))] [rd b] (pureK 1 K)
    rw [t_num]
    exact num_loop hb i n 0 n (by omega) (by omega) c5 (pureK 1 K) hK n 0 (by omega)
  · exact h.elim

/-! lists that are alike -/
theorem fEq_lin (vas : List VA) : Lin (fEq32 vas) := by
  intro k h
  unfold fEq32 at h ⊢
  split at h
  · exact (Lin.need (Lin.ret _ _)) k h
  · exact h.elim
theorem sam_loop (xs ys : List Int) (c M : Nat) (hl : xs.length ≤ 4611686018427387904) (k : SV → St → Prop) (hk : k (.sa (.one (bv (eqL xs ys)))) [some (.own false .ext 0 1 (.ints .u32 xs)), some (.own false .ext 0 1 (.ints .u32 ys))]) :
    ∀ (rem i : Nat) (ok : Bool), i + rem = xs.length → (ok = true → xs.length = ys.length ∧ xs.take i = ys.take i) → (ok = false → xs ≠ ys) → ev cxNu (rem + c + 35) 2 30 (codeAt Try.prog 30 [1, 1, 0, 1, 0]) (frm 31 [(0, (.sa (.one (SC.ref 0)))), (1, (.sa (.one (SC.ref 1)))), (5, (.sa (.one (bv ok)))), (6, (.sa (.one (iv .i64 (i : Int)))))]) [some (.own false .ext 0 1 (.ints .u32 xs)), some (.own false .ext 0 1 (.ints .u32 ys))] (kBlock 0 (kSeq (ev cxNu (M + 37) 2 30 (codeAt Try.prog 30 [1, 1, 1])) (kRet (Cx.P cxNu) [(ResultVar.tmp 4)] 2 k))) := by
  have out : ∀ ok : Bool, ok = eqL xs ys → k (.sa (.one (bv ok))) [some (.own false .ext 0 1 (.ints .u32 xs)), some (.own false .ext 0 1 (.ints .u32 ys))] := fun ok e => e ▸ hk
  have ne : xs ≠ ys → false = eqL xs ys := fun h => by unfold eqL; rw [eq_comm, beq_eq_false_iff_ne]; exact h
  intro rem
  induction rem with
  | zero =>
    intro i ok h1 h2 h3
    rw [t_samS]
    refine Again.mk (brf (by omega) ?_)
    cases ok with
    | true =>
      obtain ⟨g1, g2⟩ := h2 rfl
      refine out true ?_
      rw [List.take_of_length_le (by omega), List.take_of_length_le (by omega)] at g2
      rw [g2]; simp [eqL]
    | false => exact out false (ne (h3 rfl))
  | succ rem ih =>
    intro i ok h1 h2 h3
    rw [show rem + 1 + c + 35 = (rem + 1 + c) + 35 from rfl, t_samS]
    have e1 : 0 + ((i : Nat) : Int).toNat = i := by omega
    have e2 : addK .i64 (i : Int) 1 = ((i + 1 : Nat) : Int) := by rw [add64 (by omega)]; omega
    rw [e1, e2]
    refine Again.mk (brt (by omega) ?_)
    cases ok with
    | true =>
      obtain ⟨g1, g2⟩ := h2 rfl
      refine br (fun _ => ?_) (fun h => by cases h)
      repeat' refine ndd (by omega) ?_
      refine evFuelA (ih (i + 1) _ (by omega) (fun h => ⟨g1, ?_⟩) (fun h e => ?_)) (by omega)
      · rw [eqK_t] at h
        rw [List.take_add_one, List.take_add_one, g2]
        rw [List.getD_eq_getElem?_getD, List.getD_eq_getElem?_getD, List.getElem?_eq_getElem (by omega), List.getElem?_eq_getElem (by omega)] at h
        rw [List.getElem?_eq_getElem (by omega), List.getElem?_eq_getElem (by omega)]
        simp only [Option.getD_some] at h
        rw [h]
      · rw [eqK_f] at h
        exact h (by rw [e])
    | false => exact br (fun h => by cases h) (fun _ => out false (ne (h3 rfl)))
theorem sam_sum : SumOk Try.prog 30 sSam := by
  refine pureSum_ok cxNu_ok fEq_lin fun vas K h => ?_
  unfold fEq32 at h
  split at h
  · rename_i xs ys
    obtain ⟨h1, hK⟩ := need_iff.1 h
    have h1 := of_decide_eq_true h1
    refine ⟨xs.length + 40, ?_⟩
    show evCall cxNu (ev cxNu (xs.length + 40)) 30 [.one (.ref 0), .one (.ref 1)] [some (.own false .ext 0 1 (.ints .u32 xs)), some (.own false .ext 0 1 (.ints .u32 ys))] (pureK 2 K)
    rw [t_sam]
    refine sam_loop xs ys 0 xs.length h1 (pureK 2 K) hK xs.length 0 _ (by omega) (fun h => ?_) (fun h e => ?_)
    · rw [eqK_t] at h
      exact ⟨by omega, by simp⟩
    · rw [eqK_f] at h
      exact h (by rw [e])
  · exact h.elim
end Go.Ev
