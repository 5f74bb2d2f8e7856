/- The sum of chapter 2: both ways of saying it come to the same. Plain arithmetic. No conditions. -/
import Derived.Test.YtaabhhffnlmkeaaSiR
import Derived.Test.YtaabhhffnlmkeaaSiO
namespace Go.Spec
open Go Go.Ev

/-- Bytes as a number, the lowest first. -/
def val : List Int → Nat
  | [] => 0
  | y :: r => y.toNat + 256 * val r
def Bytes (l : List Int) : Prop := ∀ y ∈ l, 0 ≤ y ∧ y ≤ 255
theorem Bytes.tail {y : Int} {l : List Int} (h : Bytes (y :: l)) : Bytes l := fun x hx => h x (List.mem_cons_of_mem _ hx)
theorem val_lt : ∀ {l : List Int}, Bytes l → val l < 256 ^ l.length
  | [], _ => by simp [val]
  | y :: r, h => by
    have h1 := val_lt h.tail
    have h2 := h y (by simp)
    simp only [val, List.length_cons, Nat.pow_succ]
    omega
theorem val_snoc : ∀ {l : List Int} {y : Int}, val (l ++ [y]) = val l + y.toNat * 256 ^ l.length
  | [], y => by simp [val]
  | x :: r, y => by
    simp only [List.cons_append, val, val_snoc, List.length_cons, Nat.pow_succ]
    rw [Nat.mul_add, ← Nat.mul_assoc, Nat.mul_comm 256 y.toNat, Nat.mul_assoc, Nat.mul_comm 256 (256 ^ r.length)]
    omega
theorem or_add {a b m : Nat} (ha : a < 2 ^ m) : a ||| (b * 2 ^ m) = a + b * 2 ^ m := by
  have := Nat.shiftLeft_add_eq_or_of_lt ha b
  rw [Nat.shiftLeft_eq] at this
  rw [Nat.or_comm, ← this, Nat.add_comm]
theorem or_nat {a b : Nat} (ha : a < 2 ^ 64) (hb : b < 2 ^ 64) : orK .u64 (a : Int) (b : Int) = ((a ||| b : Nat) : Int) := by
  rw [orK_eq]
  have e : (BitVec.ofInt (IntKind.bits .u64) (a : Int) ||| BitVec.ofInt (IntKind.bits .u64) (b : Int)).toNat = a ||| b := by
    show (BitVec.ofInt 64 (a : Int) ||| BitVec.ofInt 64 (b : Int)).toNat = a ||| b
    rw [BitVec.ofInt_natCast, BitVec.ofInt_natCast, BitVec.toNat_or, BitVec.toNat_ofNat, BitVec.toNat_ofNat, Nat.mod_eq_of_lt ha, Nat.mod_eq_of_lt hb]
  rw [e]
  have := Nat.or_lt_two_pow ha hb
  exact Go.IntWalk.u64_in _ (by omega)
theorem shl_nat {b m : Nat} (hm : m ≤ 64) (hb : b * 2 ^ m < 2 ^ 64) : shlK .u64 (b : Int) (m : Int) = ((b * 2 ^ m : Nat) : Int) := by
  rw [shlK_eq]
  have e : min (Int.toNat (m : Int)) (IntKind.bits .u64) = m := by
    show min (Int.toNat (m : Int)) 64 = m
    rw [Int.toNat_natCast]; omega
  rw [e]
  have : ((b : Int) * 2 ^ m) = ((b * 2 ^ m : Nat) : Int) := by simp
  rw [this]
  exact Go.IntWalk.u64_in _ (by omega)
theorem pow256 (m : Nat) : 256 ^ m = 2 ^ (8 * m) := by rw [Nat.pow_mul]
/-- One byte more on top. -/
theorem or_byte {p : List Int} {y : Int} (hp : Bytes p) (hl : p.length ≤ 7) (hy : 0 ≤ y ∧ y ≤ 255) (k : Int) (hk : k = ((8 * p.length : Nat) : Int)) :
    orK .u64 ((val p : Nat) : Int) (shlK .u64 (IntKind.wrap .u64 y) k) = ((val (p ++ [y]) : Nat) : Int) := by
  subst hk
  obtain ⟨b, rfl⟩ : ∃ b : Nat, y = (b : Int) := ⟨y.toNat, by omega⟩
  have hb : b ≤ 255 := by omega
  have h1 := val_lt hp
  rw [pow256] at h1
  have h2 : (2 : Nat) ^ (8 * p.length) ≤ 2 ^ 56 := Nat.pow_le_pow_right (by decide) (by omega)
  have h3 : b * 2 ^ (8 * p.length) ≤ 255 * 2 ^ 56 := Nat.mul_le_mul hb h2
  rw [Go.IntWalk.u64_in (b : Int) (by omega), shl_nat (by omega) (by omega), or_nat (by omega) (by omega), or_add h1, val_snoc, pow256, Int.toNat_natCast]
theorem word8_val {ys : List Int} (h : Bytes ys) (h8 : 8 ≤ ys.length) : word8 ys = ((val (ys.take 8) : Nat) : Int) := by
  match ys, h, h8 with
  | y0 :: y1 :: y2 :: y3 :: y4 :: y5 :: y6 :: y7 :: r, h, _ =>
    have hy : ∀ y ∈ [y0, y1, y2, y3, y4, y5, y6, y7], 0 ≤ y ∧ y ≤ 255 := fun y hm => h y (by simp only [List.mem_cons, List.not_mem_nil, or_false] at hm ⊢; rcases hm with h | h | h | h | h | h | h | h <;> simp [h])
    have hB : ∀ l : List Int, (∀ y ∈ l, y ∈ [y0, y1, y2, y3, y4, y5, y6, y7]) → Bytes l := fun l hl y hm => hy y (hl y hm)
    have s0 := or_byte (p := []) (y := y0) (hB _ (by simp)) (by simp) (hy _ (by simp)) 0 rfl
    have s1 := or_byte (p := [y0]) (y := y1) (hB _ (by simp)) (by simp) (hy _ (by simp)) 8 rfl
    have s2 := or_byte (p := [y0, y1]) (y := y2) (hB _ (by simp)) (by simp) (hy _ (by simp)) 16 rfl
    have s3 := or_byte (p := [y0, y1, y2]) (y := y3) (hB _ (by simp)) (by simp) (hy _ (by simp)) 24 rfl
    have s4 := or_byte (p := [y0, y1, y2, y3]) (y := y4) (hB _ (by simp)) (by simp) (hy _ (by simp)) 32 rfl
    have s5 := or_byte (p := [y0, y1, y2, y3, y4]) (y := y5) (hB _ (by simp)) (by simp) (hy _ (by simp)) 40 rfl
    have s6 := or_byte (p := [y0, y1, y2, y3, y4, y5]) (y := y6) (hB _ (by simp)) (by simp) (hy _ (by simp)) 48 rfl
    have s7 := or_byte (p := [y0, y1, y2, y3, y4, y5, y6]) (y := y7) (hB _ (by simp)) (by simp) (hy _ (by simp)) 56 rfl
    have e : word8 (y0 :: y1 :: y2 :: y3 :: y4 :: y5 :: y6 :: y7 :: r) = orK .u64 (orK .u64 (orK .u64 (orK .u64 (orK .u64 (orK .u64 (orK .u64 (orK .u64 0 (shlK .u64 (IntKind.wrap .u64 y0) 0)) (shlK .u64 (IntKind.wrap .u64 y1) 8)) (shlK .u64 (IntKind.wrap .u64 y2) 16)) (shlK .u64 (IntKind.wrap .u64 y3) 24)) (shlK .u64 (IntKind.wrap .u64 y4) 32)) (shlK .u64 (IntKind.wrap .u64 y5) 40)) (shlK .u64 (IntKind.wrap .u64 y6) 48)) (shlK .u64 (IntKind.wrap .u64 y7) 56) := rfl
    rw [e]
    have z : (0 : Int) = ((val [] : Nat) : Int) := rfl
    rw [show orK .u64 0 (shlK .u64 (IntKind.wrap .u64 y0) 0) = ((val ([] ++ [y0]) : Nat) : Int) from s0]
    simp only [List.nil_append, List.cons_append] at s1 s2 s3 s4 s5 s6 s7 ⊢
    rw [s1, s2, s3, s4, s5, s6, s7]
    rfl
theorem take_snoc (xs : List Int) (j : Nat) : val (xs.take (j + 1)) = val (xs.take j) + (xs.getD j 0).toNat * 256 ^ j := by
  by_cases h : j < xs.length
  · rw [List.take_succ_eq_append_getElem h, val_snoc, List.length_take, Nat.min_eq_left (by omega)]
    simp [List.getElem?_eq_getElem h]
  · rw [List.take_of_length_le (by omega), List.take_of_length_le (by omega)]
    simp [List.getElem?_eq_none (show xs.length ≤ j by omega)]
theorem getD_byte {xs : List Int} (h : Bytes xs) (j : Nat) : 0 ≤ xs.getD j 0 ∧ xs.getD j 0 ≤ 255 := by
  by_cases hj : j < xs.length
  · have : xs.getD j 0 = xs[j] := by simp [List.getElem?_eq_getElem hj]
    rw [this]
    exact h _ (List.getElem_mem hj)
  · have : xs.getD j 0 = 0 := by simp [List.getElem?_eq_none (show xs.length ≤ j by omega)]
    rw [this]; omega
theorem rwGo_val {xs : List Int} (h : Bytes xs) : ∀ (j x : Nat), (x + 1) * 256 ^ j ≤ 18446744073709551616 → rwGo xs j (x : Int) = ((x * 256 ^ j + val (xs.take j) : Nat) : Int)
  | 0, x, _ => by simp [rwGo, val]
  | j + 1, x, hx => by
    have hb := getD_byte h j
    have hp : 0 < 256 ^ j := Nat.pow_pos (by decide)
    have h1 : (x + 1) * 256 * 256 ^ j ≤ 18446744073709551616 := by rw [Nat.mul_assoc, Nat.mul_comm 256, ← Nat.pow_succ]; exact hx
    have h2 : (x + 1) * 256 ≤ 18446744073709551616 := Nat.le_trans (Nat.le_mul_of_pos_right _ hp) h1
    have step : rwStep xs (j : Int) (x : Int) = ((256 * x + (xs.getD j 0).toNat : Nat) : Int) := by
      unfold rwStep
      have em : mulK .u64 256 (x : Int) = ((256 * x : Nat) : Int) := by
        rw [mulK_eq, Go.IntWalk.u64_in _ (by omega)]; omega
      rw [em, Int.toNat_natCast]
      split
      · rw [addK_eq, Go.IntWalk.u64_in (xs.getD j 0) (by omega), Go.IntWalk.u64_in _ (by omega)]
        omega
      · rename_i hn
        have : xs.getD j 0 = 0 := by simp [List.getElem?_eq_none (show xs.length ≤ j by omega)]
        rw [this]; simp
    simp only [rwGo]
    rw [step, rwGo_val h j (256 * x + (xs.getD j 0).toNat) (Nat.le_trans (Nat.mul_le_mul_right _ (by omega)) h1), take_snoc]
    congr 1
    rw [Nat.add_mul, Nat.pow_succ, Nat.mul_comm 256 x, Nat.mul_assoc, Nat.mul_comm 256 (256 ^ j)]
    omega
theorem refWord_val {xs : List Int} (h : Bytes xs) : refWord xs = ((val (xs.take 8) : Nat) : Int) := by
  have := rwGo_val h 8 0 (by decide)
  simpa [refWord] using this
end Go.Spec
