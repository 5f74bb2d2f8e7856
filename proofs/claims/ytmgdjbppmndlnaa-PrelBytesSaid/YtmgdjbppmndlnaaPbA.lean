/- Bytes and numbers: plain arithmetic. No conditions. -/
import Derived.Test.YtmgdjbppmndlnaaPcP
set_option linter.unusedVariables false
namespace Go.Spec
open Go Go.Ev
theorem or_addP {a b m : Nat} (ha : a < 2 ^ m) : (b * 2 ^ m) ||| a = b * 2 ^ m + a := by
  have := Nat.shiftLeft_add_eq_or_of_lt ha b
  rw [Nat.shiftLeft_eq] at this
  exact this.symm
theorem or_natP {k : IntKind} {n a b : Nat} (hk : k.bits = n) (ha : a < 2 ^ n) (hb : b < 2 ^ n) (hw : k.wrap ((a ||| b : Nat) : Int) = ((a ||| b : Nat) : Int)) : orK k (a : Int) (b : Int) = ((a ||| b : Nat) : Int) := by
  rw [orK_eq, hk, BitVec.ofInt_natCast, BitVec.ofInt_natCast, BitVec.toNat_or, BitVec.toNat_ofNat, BitVec.toNat_ofNat, Nat.mod_eq_of_lt ha, Nat.mod_eq_of_lt hb]
  exact hw
theorem shl_natP {k : IntKind} {b m : Nat} (hm : m ≤ k.bits) (hw : k.wrap ((b * 2 ^ m : Nat) : Int) = ((b * 2 ^ m : Nat) : Int)) : shlK k (b : Int) (m : Int) = ((b * 2 ^ m : Nat) : Int) := by
  rw [shlK_eq, Int.toNat_natCast, Nat.min_eq_left hm]
  have : ((b : Int) * 2 ^ m) = ((b * 2 ^ m : Nat) : Int) := by simp
  rw [this]
  exact hw
/-- One byte more below. -/
theorem or16 {a b : Int} (ha : 0 ≤ a ∧ a ≤ 255) (hb : 0 ≤ b ∧ b ≤ 255) : orK .u16 (shlK .u16 (IntKind.wrap .u16 a) 8) (IntKind.wrap .u16 b) = 256 * a + b := by
  obtain ⟨n, rfl⟩ := Int.eq_ofNat_of_zero_le ha.1
  obtain ⟨m, rfl⟩ := Int.eq_ofNat_of_zero_le hb.1
  have e := or_addP (a := m) (b := n) (m := 8) (by omega)
  rw [Go.IntWalk.u16_in _ (by omega), Go.IntWalk.u16_in _ (by omega)]
  have h1 := shl_natP (k := .u16) (b := n) (m := 8) (by decide) (Go.IntWalk.u16_in _ (by omega))
  rw [show ((8 : Nat) : Int) = 8 from rfl] at h1
  rw [h1, or_natP (n := 16) rfl (by omega) (by omega) (by rw [e]; exact Go.IntWalk.u16_in _ (by omega)), e]
  omega
theorem ori64 {a b : Int} (ha : 0 ≤ a ∧ a ≤ 255) (hb : 0 ≤ b ∧ b ≤ 255) : orK .i64 (shlK .i64 (IntKind.wrap .i64 a) 8) (IntKind.wrap .i64 b) = 256 * a + b := by
  obtain ⟨n, rfl⟩ := Int.eq_ofNat_of_zero_le ha.1
  obtain ⟨m, rfl⟩ := Int.eq_ofNat_of_zero_le hb.1
  have e := or_addP (a := m) (b := n) (m := 8) (by omega)
  rw [Go.IntWalk.i64_in _ (by omega), Go.IntWalk.i64_in _ (by omega)]
  have h1 := shl_natP (k := .i64) (b := n) (m := 8) (by decide) (Go.IntWalk.i64_in _ (by omega))
  rw [show ((8 : Nat) : Int) = 8 from rfl] at h1
  rw [h1, or_natP (n := 64) rfl (by omega) (by omega) (by rw [e]; exact Go.IntWalk.i64_in _ (by omega)), e]
  omega
theorem or32 {a b c d : Int} (ha : 0 ≤ a ∧ a ≤ 255) (hb : 0 ≤ b ∧ b ≤ 255) (hc : 0 ≤ c ∧ c ≤ 255) (hd : 0 ≤ d ∧ d ≤ 255) :
    orK .u32 (orK .u32 (orK .u32 (shlK .u32 (IntKind.wrap .u32 a) 24) (shlK .u32 (IntKind.wrap .u32 b) 16)) (shlK .u32 (IntKind.wrap .u32 c) 8)) (IntKind.wrap .u32 d) = 16777216 * a + 65536 * b + 256 * c + d := by
  obtain ⟨n, rfl⟩ := Int.eq_ofNat_of_zero_le ha.1
  obtain ⟨m, rfl⟩ := Int.eq_ofNat_of_zero_le hb.1
  obtain ⟨p, rfl⟩ := Int.eq_ofNat_of_zero_le hc.1
  obtain ⟨q, rfl⟩ := Int.eq_ofNat_of_zero_le hd.1
  rw [Go.IntWalk.u32_in _ (by omega), Go.IntWalk.u32_in _ (by omega), Go.IntWalk.u32_in _ (by omega), Go.IntWalk.u32_in _ (by omega)]
  have h1 := shl_natP (k := .u32) (b := n) (m := 24) (by decide) (Go.IntWalk.u32_in _ (by omega))
  have h2 := shl_natP (k := .u32) (b := m) (m := 16) (by decide) (Go.IntWalk.u32_in _ (by omega))
  have h3 := shl_natP (k := .u32) (b := p) (m := 8) (by decide) (Go.IntWalk.u32_in _ (by omega))
  rw [show ((24 : Nat) : Int) = 24 from rfl] at h1
  rw [show ((16 : Nat) : Int) = 16 from rfl] at h2
  rw [show ((8 : Nat) : Int) = 8 from rfl] at h3
  rw [h1, h2, h3]
  have e1 : (n * 2 ^ 24) ||| (m * 2 ^ 16) = n * 2 ^ 24 + m * 2 ^ 16 := or_addP (a := m * 2 ^ 16) (b := n) (m := 24) (by omega)
  rw [or_natP (n := 32) (a := n * 2 ^ 24) (b := m * 2 ^ 16) rfl (by omega) (by omega) (by rw [e1]; exact Go.IntWalk.u32_in _ (by omega)), e1]
  have e2 : (n * 2 ^ 24 + m * 2 ^ 16) ||| (p * 2 ^ 8) = n * 2 ^ 24 + m * 2 ^ 16 + p * 2 ^ 8 := by
    have := or_addP (a := p * 2 ^ 8) (b := n * 2 ^ 8 + m) (m := 16) (by omega)
    rw [show (n * 2 ^ 8 + m) * 2 ^ 16 = n * 2 ^ 24 + m * 2 ^ 16 by omega] at this
    exact this
  rw [or_natP (n := 32) (a := n * 2 ^ 24 + m * 2 ^ 16) (b := p * 2 ^ 8) rfl (by omega) (by omega) (by rw [e2]; exact Go.IntWalk.u32_in _ (by omega)), e2]
  have e3 : (n * 2 ^ 24 + m * 2 ^ 16 + p * 2 ^ 8) ||| q = n * 2 ^ 24 + m * 2 ^ 16 + p * 2 ^ 8 + q := by
    have := or_addP (a := q) (b := n * 2 ^ 16 + m * 2 ^ 8 + p) (m := 8) (by omega)
    rw [show (n * 2 ^ 16 + m * 2 ^ 8 + p) * 2 ^ 8 = n * 2 ^ 24 + m * 2 ^ 16 + p * 2 ^ 8 by omega] at this
    exact this
  rw [or_natP (n := 32) (a := n * 2 ^ 24 + m * 2 ^ 16 + p * 2 ^ 8) (b := q) rfl (by omega) (by omega) (by rw [e3]; exact Go.IntWalk.u32_in _ (by omega)), e3]
  omega
theorem add16 {a b : Int} (ha : 0 ≤ a ∧ a ≤ 255) (hb : 0 ≤ b ∧ b ≤ 255) : addK .u16 (mulK .u16 256 (IntKind.wrap .u16 a)) (IntKind.wrap .u16 b) = 256 * a + b := by
  rw [Go.IntWalk.u16_in a (by omega), Go.IntWalk.u16_in b (by omega), addK_eq, mulK_eq, Go.IntWalk.u16_in (256 * a) (by omega), Go.IntWalk.u16_in _ (by omega)]
theorem add32 {a b c d : Int} (ha : 0 ≤ a ∧ a ≤ 255) (hb : 0 ≤ b ∧ b ≤ 255) (hc : 0 ≤ c ∧ c ≤ 255) (hd : 0 ≤ d ∧ d ≤ 255) :
    addK .u32 (mulK .u32 256 (addK .u32 (mulK .u32 256 (addK .u32 (mulK .u32 256 (addK .u32 0 (IntKind.wrap .u32 a))) (IntKind.wrap .u32 b))) (IntKind.wrap .u32 c))) (IntKind.wrap .u32 d) = 16777216 * a + 65536 * b + 256 * c + d := by
  rw [Go.IntWalk.u32_in a (by omega), Go.IntWalk.u32_in b (by omega), Go.IntWalk.u32_in c (by omega), Go.IntWalk.u32_in d (by omega)]
  simp only [addK_eq, mulK_eq]
  rw [Go.IntWalk.u32_in (0 + a) (by omega), Go.IntWalk.u32_in (256 * (0 + a)) (by omega), Go.IntWalk.u32_in (256 * (0 + a) + b) (by omega), Go.IntWalk.u32_in (256 * (256 * (0 + a) + b)) (by omega), Go.IntWalk.u32_in (256 * (256 * (0 + a) + b) + c) (by omega), Go.IntWalk.u32_in (256 * (256 * (256 * (0 + a) + b) + c)) (by omega), Go.IntWalk.u32_in _ (by omega)]
  omega
/-- As few more as make it a multiple of 4. -/
theorem and_not3 (x : Nat) (hx : x < 2 ^ 64) : x &&& (2 ^ 64 - 1 - 3) = x / 4 * 4 := by
  refine Nat.eq_of_testBit_eq fun i => ?_
  rw [Nat.testBit_and]
  have e1 : (2 ^ 64 - 1 - 3 : Nat) = (2 ^ 62 - 1) <<< 2 := by decide
  have e2 : x / 4 * 4 = (x >>> 2) <<< 2 := by rw [Nat.shiftLeft_eq, Nat.shiftRight_eq_div_pow]
  rw [e1, e2, Nat.testBit_shiftLeft, Nat.testBit_shiftLeft, Nat.testBit_shiftRight, Nat.testBit_two_pow_sub_one]
  by_cases h : 2 ≤ i
  · rw [decide_eq_true h, Bool.true_and, Bool.true_and, show 2 + (i - 2) = i by omega]
    by_cases h2 : i < 64
    · rw [decide_eq_true (by omega : i - 2 < 62), Bool.and_true]
    · have : x.testBit i = false := Nat.testBit_lt_two_pow (Nat.lt_of_lt_of_le hx (Nat.pow_le_pow_right (by decide) (by omega)))
      rw [this, Bool.false_and]
  · rw [decide_eq_false h, Bool.false_and, Bool.false_and, Bool.and_false]
theorem up_k {n : Nat} (h : n ≤ 1000000) : andnK .i64 (addK .i64 ((n : Nat) : Int) 3) 3 = ((up4 n : Nat) : Int) := by
  rw [add64 (by omega), andnK_eq]
  have e : (BitVec.ofInt 64 ((n : Int) + 3) &&& ~~~BitVec.ofInt 64 3).toNat = up4 n := by
    rw [show ((n : Int) + 3) = ((n + 3 : Nat) : Int) by omega, show (3 : Int) = ((3 : Nat) : Int) from rfl, BitVec.ofInt_natCast, BitVec.ofInt_natCast, BitVec.toNat_and, BitVec.toNat_not, BitVec.toNat_ofNat, BitVec.toNat_ofNat, Nat.mod_eq_of_lt (by omega), Nat.mod_eq_of_lt (by omega)]
    exact and_not3 (n + 3) (by omega)
  show IntKind.i64.wrap ((BitVec.ofInt 64 ((n : Int) + 3) &&& ~~~BitVec.ofInt 64 3).toNat : Int) = _
  rw [e]
  exact Go.IntWalk.i64_in _ (by unfold up4; omega)
theorem quo16 {x : Int} (h : 0 ≤ x ∧ x ≤ 65535) : quoK .u16 x 256 = shrK .u16 x 8 := by
  rw [quoK_eq, shrK_eq, Int.tdiv_eq_ediv_of_nonneg h.1, Int.fdiv_eq_ediv_of_nonneg _ (by decide), show (2 : Int) ^ min (Int.toNat 8) (IntKind.bits .u16) = 256 from rfl]
  exact Go.IntWalk.u16_in _ (by omega)
theorem quo32 {x : Int} (h : 0 ≤ x ∧ x ≤ 4294967295) : quoK .u32 x 16777216 = shrK .u32 x 24 ∧ quoK .u32 x 65536 = shrK .u32 x 16 ∧ quoK .u32 x 256 = shrK .u32 x 8 := by
  refine ⟨?_, ?_, ?_⟩
  · rw [quoK_eq, shrK_eq, Int.tdiv_eq_ediv_of_nonneg h.1, Int.fdiv_eq_ediv_of_nonneg _ (by decide), show (2 : Int) ^ min (Int.toNat 24) (IntKind.bits .u32) = 16777216 from rfl]
    exact Go.IntWalk.u32_in _ (by omega)
  · rw [quoK_eq, shrK_eq, Int.tdiv_eq_ediv_of_nonneg h.1, Int.fdiv_eq_ediv_of_nonneg _ (by decide), show (2 : Int) ^ min (Int.toNat 16) (IntKind.bits .u32) = 65536 from rfl]
    exact Go.IntWalk.u32_in _ (by omega)
  · rw [quoK_eq, shrK_eq, Int.tdiv_eq_ediv_of_nonneg h.1, Int.fdiv_eq_ediv_of_nonneg _ (by decide), show (2 : Int) ^ min (Int.toNat 8) (IntKind.bits .u32) = 256 from rfl]
    exact Go.IntWalk.u32_in _ (by omega)
theorem u8_mod (n : Nat) : IntKind.wrap .u8 ((n : Nat) : Int) = ((n % 256 : Nat) : Int) := by rw [IntKind.wrap_u8]; omega
theorem u8_range (x : Int) : 0 ≤ IntKind.wrap .u8 x ∧ IntKind.wrap .u8 x ≤ 255 := by rw [IntKind.wrap_u8]; omega
end Go.Spec
