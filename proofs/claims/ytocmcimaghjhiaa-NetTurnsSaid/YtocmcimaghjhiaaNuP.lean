/- NetTurns: plain facts of bits and of places. No conditions. -/
import Derived.Test.YtocmcimaghjhiaaNuS
set_option linter.unusedVariables false
namespace Go.Spec
open Go Go.Ev
def okB (b : List Int) : Prop := ∀ x ∈ b, 0 ≤ x ∧ x ≤ 255
theorem okB_at {b : List Int} (h : okB b) (j : Nat) : 0 ≤ b.getD j 0 ∧ b.getD j 0 ≤ 255 := by
  by_cases hj : j < b.length
  · rw [List.getD_eq_getElem?_getD, List.getElem?_eq_getElem hj]; exact h _ (List.getElem_mem hj)
  · rw [List.getD_eq_getElem?_getD, List.getElem?_eq_none (by omega)]; exact ⟨Int.le_refl _, by decide⟩
theorem u8_wrap {x : Int} (h : 0 ≤ x ∧ x ≤ 255) : IntKind.wrap .u8 x = x := by rw [IntKind.wrap_u8]; omega
theorem xor_eq {x y : Int} (hx : 0 ≤ x ∧ x ≤ 255) (hy : 0 ≤ y ∧ y ≤ 255) : xorK .u8 x y = ((x.toNat ^^^ y.toNat : Nat) : Int) ∧ (x.toNat ^^^ y.toNat : Nat) < 256 := by
  have hlt : x.toNat ^^^ y.toNat < 2 ^ 8 := Nat.xor_lt_two_pow (by omega) (by omega)
  refine ⟨?_, by simpa using hlt⟩
  rw [xorK_eq]
  show IntKind.wrap .u8 (((BitVec.ofInt 8 x ^^^ BitVec.ofInt 8 y).toNat : Nat) : Int) = _
  rw [BitVec.toNat_xor, BitVec.toNat_ofInt, BitVec.toNat_ofInt]
  have e1 : (x % ((2 ^ 8 : Nat) : Int)).toNat = x.toNat := by rw [Int.emod_eq_of_lt hx.1 (by simpa using (by omega : x < 256))]
  have e2 : (y % ((2 ^ 8 : Nat) : Int)).toNat = y.toNat := by rw [Int.emod_eq_of_lt hy.1 (by simpa using (by omega : y < 256))]
  rw [e1, e2, u8_wrap]
  have : x.toNat ^^^ y.toNat < 256 := by simpa using hlt
  omega
theorem xor_in {x y : Int} (hx : 0 ≤ x ∧ x ≤ 255) (hy : 0 ≤ y ∧ y ≤ 255) : 0 ≤ xorK .u8 x y ∧ xorK .u8 x y ≤ 255 := by
  obtain ⟨h1, h2⟩ := xor_eq hx hy
  rw [h1]; omega
theorem xor_self {x : Int} (hx : 0 ≤ x ∧ x ≤ 255) : xorK .u8 x x = 0 := by rw [(xor_eq hx hx).1, Nat.xor_self]; rfl
/-- Turned twice. -/
theorem xor_twice {x m : Int} (hx : 0 ≤ x ∧ x ≤ 255) (hm : 0 ≤ m ∧ m ≤ 255) : xorK .u8 (xorK .u8 x m) m = x := by
  rw [(xor_eq (xor_in hx hm) hm).1, (xor_eq hx hm).1, Int.toNat_natCast, Nat.xor_assoc, Nat.xor_self, Nat.xor_zero]
  omega
/-- What is turned and what it was part by the bits that were turned. -/
theorem xor_part {x m : Int} (hx : 0 ≤ x ∧ x ≤ 255) (hm : 0 ≤ m ∧ m ≤ 255) : xorK .u8 (xorK .u8 x m) x = m := by
  rw [(xor_eq (xor_in hx hm) hx).1, (xor_eq hx hm).1, Int.toNat_natCast, Nat.xor_comm x.toNat, Nat.xor_assoc, Nat.xor_self, Nat.xor_zero]
  omega
/-- One bit of a byte. -/
theorem one_bit {r : Nat} (h : r < 8) : 0 < shlK .u8 1 (r : Int) ∧ shlK .u8 1 (r : Int) ≤ 255 ∧ andK .u8 (shlK .u8 1 (r : Int)) (subK .u8 (shlK .u8 1 (r : Int)) 1) = 0 := by
  have : r = 0 ∨ r = 1 ∨ r = 2 ∨ r = 3 ∨ r = 4 ∨ r = 5 ∨ r = 6 ∨ r = 7 := by omega
  rcases this with rfl | rfl | rfl | rfl | rfl | rfl | rfl | rfl <;> decide
/-- Where, and which bit. -/
theorem turn_at (bit : Int) {b : List Int} (h0 : 0 < b.length) (h : b.length ≤ 100000) : ∃ y : Nat, y < 8 * b.length ∧ byT bit b = y / 8 ∧ remK (atT bit b) 8 = ((y % 8 : Nat) : Int) := by
  obtain ⟨y, y1, y2⟩ := bit_at bit h0 h
  refine ⟨y, y1, ?_, ?_⟩
  · unfold byT atT; rw [y2, quo8 y (by omega), Int.toNat_natCast]
  · unfold atT; rw [y2, rem8]
theorem turnB_len (bit : Int) (b : List Int) : (turnB bit b).length = b.length := by
  cases b with
  | nil => rfl
  | cons x r => show (turnL bit (x :: r)).length = _; unfold turnL; rw [List.length_set]
theorem turnB_eq (bit : Int) {b : List Int} (h : 0 < b.length) : turnB bit b = turnL bit b := by
  cases b with
  | nil => simp at h
  | cons x r => rfl
theorem turnB_ok (bit : Int) {b : List Int} (h : okB b) (hl : b.length ≤ 100000) : okB (turnB bit b) := by
  cases b with
  | nil => exact h
  | cons x r =>
    intro z hz
    rw [turnB_eq bit (by simp)] at hz
    obtain ⟨y, y1, y2, y3⟩ := turn_at bit (b := x :: r) (by simp) hl
    rcases List.mem_or_eq_of_mem_set hz with hz | rfl
    · exact h z hz
    · have hb := one_bit (r := y % 8) (by omega)
      rw [y3]
      exact xor_in (okB_at h _) ⟨by omega, hb.2.1⟩
/-- Byte by byte. -/
theorem turn_byte (bit : Int) {b : List Int} (h : okB b) (hl : b.length ≤ 100000) {j : Nat} (hj : j < b.length) :
    (j = byT bit b → ∃ r : Nat, r < 8 ∧ xorK .u8 ((turnB bit b).getD j 0) (b.getD j 0) = shlK .u8 1 (r : Int)) ∧ (j ≠ byT bit b → xorK .u8 ((turnB bit b).getD j 0) (b.getD j 0) = 0) := by
  obtain ⟨y, y1, y2, y3⟩ := turn_at bit (b := b) (by omega) hl
  rw [turnB_eq bit (by omega)]
  unfold turnL
  refine ⟨fun e => ⟨y % 8, by omega, ?_⟩, fun e => ?_⟩
  · have hb := one_bit (r := y % 8) (by omega)
    rw [List.getD_eq_getElem?_getD, ← e, List.getElem?_set_self hj, Option.getD_some, y3]
    exact xor_part (okB_at h _) ⟨by omega, hb.2.1⟩
  · rw [List.getD_eq_getElem?_getD, List.getElem?_set_ne (fun e2 => e e2.symm), ← List.getD_eq_getElem?_getD]
    exact xor_self (okB_at h _)
theorem byT_lt (bit : Int) {b : List Int} (h0 : 0 < b.length) (hl : b.length ≤ 100000) : byT bit b < b.length := by
  obtain ⟨y, y1, y2, y3⟩ := turn_at bit h0 hl
  omega
/-- A bit that is turned twice is as it was. -/
theorem turn_twice (bit : Int) {b : List Int} (h : okB b) (hl : b.length ≤ 100000) : turnB bit (turnB bit b) = b := by
  by_cases h0 : 0 < b.length
  · obtain ⟨y, y1, y2, y3⟩ := turn_at bit h0 hl
    have hlt := byT_lt bit h0 hl
    have hb := one_bit (r := y % 8) (by omega)
    have e : turnB bit b = turnL bit b := turnB_eq bit h0
    have hlen : (turnL bit b).length = b.length := by rw [← e]; exact turnB_len bit b
    have at_ : atT bit (turnL bit b) = atT bit b := by unfold atT; rw [hlen]
    have by_ : byT bit (turnL bit b) = byT bit b := by unfold byT; rw [at_]
    rw [e, turnB_eq bit (by omega)]
    unfold turnL at *
    rw [by_, at_]
    refine List.ext_getElem? fun j => ?_
    by_cases hj : j = byT bit b
    · subst hj
      rw [List.getElem?_set_self (by rw [List.length_set]; exact hlt)]
      have e2 : (b.set (byT bit b) (xorK .u8 (b.getD (byT bit b) 0) (shlK .u8 1 (remK (atT bit b) 8)))).getD (byT bit b) 0 = xorK .u8 (b.getD (byT bit b) 0) (shlK .u8 1 (remK (atT bit b) 8)) := by
        rw [List.getD_eq_getElem?_getD, List.getElem?_set_self hlt, Option.getD_some]
      rw [e2, y3, xor_twice (okB_at h _) ⟨by omega, hb.2.1⟩, List.getD_eq_getElem?_getD, List.getElem?_eq_getElem hlt, Option.getD_some]
    · rw [List.getElem?_set_ne (fun e2 => hj e2.symm), List.getElem?_set_ne (fun e2 => hj e2.symm)]
  · have : b = [] := List.length_eq_zero_iff.1 (by omega)
    subst this; rfl
/-- A place that is there already. -/
theorem place_self {i n : Nat} (h : i < n) (hn : n ≤ 1000000) : placeN (i : Int) n = i := by
  have e1 : (i : Int).tmod (n : Int) = (i : Int) := by rw [Int.tmod_eq_emod_of_nonneg (by omega), Int.emod_eq_of_lt (by omega) (by omega)]
  have e2 : ((i : Int) + (n : Int)).tmod (n : Int) = (i : Int) := by rw [Int.tmod_eq_emod_of_nonneg (by omega), Int.add_emod_right, Int.emod_eq_of_lt (by omega) (by omega)]
  unfold placeN placeK
  rw [remK_eq, remK_eq, e1, add64 (by omega), e2]
  omega
end Go.Spec
