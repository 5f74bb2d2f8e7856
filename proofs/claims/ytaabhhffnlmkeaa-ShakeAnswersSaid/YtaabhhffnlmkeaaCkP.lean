/- The cookie of chapter 16: the plain law: two are alike just if their bytes are. No conditions. -/
import Derived.Test.YtaabhhffnlmkeaaCkD
import Derived.Test.YtaabhhffnlmkeaaSiQ
import Derived.Laws.Strings
namespace Go.Spec
open Go Go.Ev

theorem strEq_refl (s : ByteArray) : strEq s s = true := by simp [strEq]
theorem strEq_of {a b : List Int} (ha : Bytes a) (hb : Bytes b) : strEq (strOf a) (strOf b) = eqL a b := by
  unfold strEq
  rw [ByteArray.toList_eq, ByteArray.toList_eq]
  show ((a.map byteOfInt) == (b.map byteOfInt)) = eqL a b
  have inj : ∀ {a b : List Int}, Bytes a → Bytes b → a.map byteOfInt = b.map byteOfInt → a = b := by
    intro a
    induction a with
    | nil => intro b _ _ h; cases b with
      | nil => rfl
      | cons y r => cases h
    | cons x r ih => intro b ha hb h; cases b with
      | nil => cases h
      | cons y s =>
        simp only [List.map_cons, List.cons.injEq] at h
        have h1 := ha x (by simp)
        have h2 := hb y (by simp)
        have e : x = y := by
          have := congrArg UInt8.toNat h.1
          unfold byteOfInt at this
          rw [UInt8.toNat_ofNat', UInt8.toNat_ofNat'] at this
          omega
        rw [e, ih ha.tail hb.tail h.2]
  unfold eqL
  by_cases e : a = b
  · subst e; simp
  · have : a.map byteOfInt ≠ b.map byteOfInt := fun h => e (inj ha hb h)
    rw [beq_eq_false_iff_ne.2 this, beq_eq_false_iff_ne.2 e]
theorem Bytes.app {a b : List Int} (ha : Bytes a) (hb : Bytes b) : Bytes (a ++ b) := fun x h => (List.mem_append.1 h).elim (ha x) (hb x)
theorem beB_byte (n s : Int) : 0 ≤ beB n s ∧ beB n s ≤ 255 := by unfold beB; rw [IntKind.wrap_u8]; omega
theorem be8_bytes (n : Int) : Bytes (be8 n) := by
  intro x h
  simp only [be8, List.mem_cons, List.not_mem_nil, or_false] at h
  rcases h with rfl | rfl | rfl | rfl | rfl | rfl | rfl | rfl <;> exact beB_byte _ _
theorem be4_bytes (n : Int) : Bytes (be4 n) := by
  intro x h
  simp only [be4, List.mem_cons, List.not_mem_nil, or_false] at h
  rcases h with rfl | rfl | rfl | rfl <;> exact beB_byte _ _
theorem be2_bytes (n : Int) : Bytes (be2 n) := by
  intro x h
  simp only [be2, List.mem_cons, List.not_mem_nil, or_false] at h
  rcases h with rfl | rfl <;> exact beB_byte _ _
theorem addrsB_bytes : ∀ xs : List Int, Bytes (addrsB xs)
  | [] => fun x h => by cases h
  | x :: r => (be4_bytes _).app (addrsB_bytes r)
theorem headOf_bytes (t : Tc) (c : Int) : Bytes (headOf t c) := by
  unfold headOf
  repeat' refine Bytes.app ?_ ?_
  all_goals first | exact be4_bytes _ | exact be8_bytes _ | exact be2_bytes _
theorem plainOf_bytes (t : Tc) : Bytes (plainOf t) := (headOf_bytes _ _).app (addrsB_bytes _)
theorem beB_eq {n : Int} (h : 0 ≤ n) (j : Nat) (hj : j ≤ 64) : beB n (j : Int) = n / 2 ^ j % 256 := by
  unfold beB
  rw [IntKind.wrap_u8, shrK_eq]
  have e : min (Int.toNat (j : Int)) (IntKind.bits .u64) = j := by
    show min (Int.toNat (j : Int)) 64 = j
    rw [Int.toNat_natCast]; omega
  rw [e, Int.fdiv_eq_ediv_of_nonneg _ (Int.le_of_lt (Int.pow_pos (by decide)))]
theorem b0 {n : Int} (h : 0 ≤ n) : beB n 0 = n % 256 := by simpa using beB_eq h 0 (by decide)
theorem b8 {n : Int} (h : 0 ≤ n) : beB n 8 = n / 256 % 256 := by simpa using beB_eq h 8 (by decide)
theorem b16 {n : Int} (h : 0 ≤ n) : beB n 16 = n / 65536 % 256 := by simpa using beB_eq h 16 (by decide)
theorem b24 {n : Int} (h : 0 ≤ n) : beB n 24 = n / 16777216 % 256 := by simpa using beB_eq h 24 (by decide)
theorem b32 {n : Int} (h : 0 ≤ n) : beB n 32 = n / 4294967296 % 256 := by simpa using beB_eq h 32 (by decide)
theorem b40 {n : Int} (h : 0 ≤ n) : beB n 40 = n / 1099511627776 % 256 := by simpa using beB_eq h 40 (by decide)
theorem b48 {n : Int} (h : 0 ≤ n) : beB n 48 = n / 281474976710656 % 256 := by simpa using beB_eq h 48 (by decide)
theorem b56 {n : Int} (h : 0 ≤ n) : beB n 56 = n / 72057594037927936 % 256 := by simpa using beB_eq h 56 (by decide)
theorem be4_inj {a b : Int} (ha : 0 ≤ a ∧ a ≤ 4294967295) (hb : 0 ≤ b ∧ b ≤ 4294967295) (h : be4 (w64 a) = be4 (w64 b)) : a = b := by
  unfold w64 at h
  rw [Go.IntWalk.u64_in a (by omega), Go.IntWalk.u64_in b (by omega)] at h
  simp only [be4, List.cons.injEq, and_true] at h
  rw [b0 ha.1, b8 ha.1, b16 ha.1, b24 ha.1, b0 hb.1, b8 hb.1, b16 hb.1, b24 hb.1] at h
  omega
theorem be2_inj {a b : Int} (ha : 0 ≤ a ∧ a ≤ 65535) (hb : 0 ≤ b ∧ b ≤ 65535) (h : be2 (w64 a) = be2 (w64 b)) : a = b := by
  unfold w64 at h
  rw [Go.IntWalk.u64_in a (by omega), Go.IntWalk.u64_in b (by omega)] at h
  simp only [be2, List.cons.injEq, and_true] at h
  rw [b0 ha.1, b8 ha.1, b0 hb.1, b8 hb.1] at h
  omega
theorem be8_inj {a b : Int} (ha : 0 ≤ a ∧ a ≤ 18446744073709551615) (hb : 0 ≤ b ∧ b ≤ 18446744073709551615) (h : be8 a = be8 b) : a = b := by
  simp only [be8, List.cons.injEq, and_true] at h
  rw [b0 ha.1, b8 ha.1, b16 ha.1, b24 ha.1, b32 ha.1, b40 ha.1, b48 ha.1, b56 ha.1, b0 hb.1, b8 hb.1, b16 hb.1, b24 hb.1, b32 hb.1, b40 hb.1, b48 hb.1, b56 hb.1] at h
  obtain ⟨h1, h2, h3, h4, h5, h6, h7, h8⟩ := h
  have e1 : a / 4294967296 = b / 4294967296 := by omega
  have e2 : a % 4294967296 = b % 4294967296 := by omega
  omega
/-- Are the numbers in their bounds? -/
structure TcOk (t : Tc) : Prop where
  h0 : 0 ≤ t.a0 ∧ t.a0 ≤ 4294967295
  h1 : 0 ≤ t.a1 ∧ t.a1 ≤ 4294967295
  h2 : 0 ≤ t.a2 ∧ t.a2 ≤ 4294967295
  h3 : 0 ≤ t.a3 ∧ t.a3 ≤ 4294967295
  h4 : 0 ≤ t.a4 ∧ t.a4 ≤ 4294967295
  h5 : 0 ≤ t.a5 ∧ t.a5 ≤ 65535
  h6 : 0 ≤ t.a6 ∧ t.a6 ≤ 65535
  h7 : ∀ x ∈ t.xs, 0 ≤ x ∧ x ≤ 4294967295
  h8 : 0 ≤ t.a8 ∧ t.a8 ≤ 4294967295
  h9 : 0 ≤ t.a9 ∧ t.a9 ≤ 4294967295
  h10 : 0 ≤ t.a10 ∧ t.a10 ≤ 18446744073709551615
theorem addrsB_inj : ∀ {xs ys : List Int}, (∀ x ∈ xs, 0 ≤ x ∧ x ≤ 4294967295) → (∀ x ∈ ys, 0 ≤ x ∧ x ≤ 4294967295) → addrsB xs = addrsB ys → xs = ys
  | [], [], _, _, _ => rfl
  | [], y :: s, _, _, h => by simp [addrsB, be4] at h
  | x :: r, [], _, _, h => by simp [addrsB, be4] at h
  | x :: r, y :: s, hx, hy, h => by
    have h2 := List.append_inj h (by simp [be4])
    rw [be4_inj (hx x (by simp)) (hy y (by simp)) h2.1, addrsB_inj (fun z hz => hx z (by simp [hz])) (fun z hz => hy z (by simp [hz])) h2.2]
theorem plain_inj {t u : Tc} (ht : TcOk t) (hu : TcOk u) (h : plainOf t = plainOf u) : t = u := by
  have h1 := List.append_inj h rfl
  have hx := addrsB_inj ht.h7 hu.h7 h1.2
  have h2 := h1.1
  unfold headOf at h2
  obtain ⟨h2, _⟩ := List.append_inj h2 rfl
  obtain ⟨h2, e10⟩ := List.append_inj h2 rfl
  obtain ⟨h2, e9⟩ := List.append_inj h2 rfl
  obtain ⟨h2, e8⟩ := List.append_inj h2 rfl
  obtain ⟨h2, e6⟩ := List.append_inj h2 rfl
  obtain ⟨h2, e5⟩ := List.append_inj h2 rfl
  obtain ⟨h2, e4⟩ := List.append_inj h2 rfl
  obtain ⟨h2, e3⟩ := List.append_inj h2 rfl
  obtain ⟨h2, e2⟩ := List.append_inj h2 rfl
  obtain ⟨e0, e1⟩ := List.append_inj h2 rfl
  have f0 := be4_inj ht.h0 hu.h0 e0
  have f1 := be4_inj ht.h1 hu.h1 e1
  have f2 := be4_inj ht.h2 hu.h2 e2
  have f3 := be4_inj ht.h3 hu.h3 e3
  have f4 := be4_inj ht.h4 hu.h4 e4
  have f5 := be2_inj ht.h5 hu.h5 e5
  have f6 := be2_inj ht.h6 hu.h6 e6
  have f8 := be4_inj ht.h8 hu.h8 e8
  have f9 := be4_inj ht.h9 hu.h9 e9
  have f10 := be8_inj ht.h10 hu.h10 e10
  cases t; cases u
  simp_all
theorem sameOf_iff (t u : Tc) : sameOf t u = true ↔ t = u := by
  cases t; cases u
  simp only [sameOf, eqL, Bool.and_eq_true, beq_iff_eq, Tc.mk.injEq]
  constructor
  · rintro ⟨⟨⟨⟨⟨⟨⟨⟨⟨⟨h1, h2⟩, h3⟩, h4⟩, h5⟩, h6⟩, h7⟩, h8⟩, h9⟩, h10⟩, h11⟩
    exact ⟨h2, h3, h4, h5, h6, h7, h8, h1, h9, h10, h11⟩
  · rintro ⟨h2, h3, h4, h5, h6, h7, h8, h1, h9, h10, h11⟩
    exact ⟨⟨⟨⟨⟨⟨⟨⟨⟨⟨h1, h2⟩, h3⟩, h4⟩, h5⟩, h6⟩, h7⟩, h8⟩, h9⟩, h10⟩, h11⟩
theorem same_plain {t u : Tc} (ht : TcOk t) (hu : TcOk u) : strEq (strOf (plainOf t)) (strOf (plainOf u)) = sameOf t u := by
  rw [strEq_of (plainOf_bytes _) (plainOf_bytes _)]
  by_cases e : t = u
  · subst e
    rw [(sameOf_iff t t).2 rfl]; simp [eqL]
  · have h1 : sameOf t u = false := by
      cases h : sameOf t u with
      | false => rfl
      | true => exact absurd ((sameOf_iff t u).1 h) e
    have h2 : plainOf t ≠ plainOf u := fun h => e (plain_inj ht hu h)
    rw [h1]; simp [eqL, h2]
theorem make_rf {key : List Int} (hk : Bytes key) (hl : key.length = 16) (t : Tc) (hn : t.xs.length ≤ 1000000) : makeOf key t = makeRf key t := by
  unfold makeOf makeRf
  have hp : (plainOf t).length ≤ 4611686018427387904 := by
    have : ∀ xs : List Int, (addrsB xs).length = 4 * xs.length := by
      intro xs
      induction xs with
      | nil => rfl
      | cons x r ih => simp only [addrsB, List.length_append, ih, be4, List.length_cons, List.length_nil]; omega
    unfold plainOf
    rw [List.length_append, this]
    show 44 + _ ≤ _
    omega
  have h := sip_ref (key := key) (xss := [plainOf t]) (n := 1) hk hl (fun j => by
    cases j with
    | zero => exact plainOf_bytes t
    | succ j => intro x h; simp at h) (by simpa [cat] using hp)
  rw [h]
  simp [cat]
end Go.Spec
