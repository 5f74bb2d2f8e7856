/- What a cookie is opened to: the plain law. No conditions. -/
import Derived.Test.YtaabhhffnlmkeaaOpD
import Derived.Test.YtaabhhffnlmkeaaCkP
namespace Go.Spec
open Go Go.Ev
theorem numK_step {x c : Int} (h0 : 0 ≤ x) (hx : (x + 1) * 256 ≤ 18446744073709551616) (hc : 0 ≤ c ∧ c ≤ 255) : orK .u64 (shlK .u64 x 8) (IntKind.wrap .u64 c) = x * 256 + c := by
  obtain ⟨n, rfl⟩ := Int.eq_ofNat_of_zero_le h0
  obtain ⟨m, rfl⟩ := Int.eq_ofNat_of_zero_le hc.1
  have h1 := shl_nat (b := n) (m := 8) (by decide) (by omega)
  rw [show ((8 : Nat) : Int) = 8 from rfl] at h1
  rw [h1, Go.IntWalk.u64_in _ (by omega), or_nat (by omega) (by omega), Nat.or_comm, or_add (by omega)]
  omega
theorem num4 {a b c d : Int} (ha : 0 ≤ a ∧ a ≤ 255) (hb : 0 ≤ b ∧ b ≤ 255) (hc : 0 ≤ c ∧ c ≤ 255) (hd : 0 ≤ d ∧ d ≤ 255) :
    numK [a, b, c, d] 0 = ((a * 256 + b) * 256 + c) * 256 + d := by
  simp only [numK]
  rw [numK_step (x := 0) (by omega) (by omega) ha, numK_step (by omega) (by omega) hb, numK_step (by omega) (by omega) hc, numK_step (by omega) (by omega) hd]
  omega
theorem num2 {a b : Int} (ha : 0 ≤ a ∧ a ≤ 255) (hb : 0 ≤ b ∧ b ≤ 255) : numK [a, b] 0 = a * 256 + b := by
  simp only [numK]
  rw [numK_step (x := 0) (by omega) (by omega) ha, numK_step (by omega) (by omega) hb]
  omega
theorem num8 {a b c d e f g h : Int} (ha : 0 ≤ a ∧ a ≤ 255) (hb : 0 ≤ b ∧ b ≤ 255) (hc : 0 ≤ c ∧ c ≤ 255) (hd : 0 ≤ d ∧ d ≤ 255) (he : 0 ≤ e ∧ e ≤ 255) (hf : 0 ≤ f ∧ f ≤ 255) (hg : 0 ≤ g ∧ g ≤ 255) (hh : 0 ≤ h ∧ h ≤ 255) :
    numK [a, b, c, d, e, f, g, h] 0 = (((((((a * 256 + b) * 256 + c) * 256 + d) * 256 + e) * 256 + f) * 256 + g) * 256 + h) := by
  simp only [numK]
  rw [numK_step (x := 0) (by omega) (by omega) ha, numK_step (by omega) (by omega) hb, numK_step (by omega) (by omega) hc, numK_step (by omega) (by omega) hd, numK_step (by omega) (by omega) he, numK_step (by omega) (by omega) hf, numK_step (by omega) (by omega) hg, numK_step (by omega) (by omega) hh]
  omega
theorem be4_num {a b c d : Int} (ha : 0 ≤ a ∧ a ≤ 255) (hb : 0 ≤ b ∧ b ≤ 255) (hc : 0 ≤ c ∧ c ≤ 255) (hd : 0 ≤ d ∧ d ≤ 255) : be4 (w64 (IntKind.wrap .u32 (numK [a, b, c, d] 0))) = [a, b, c, d] := by
  rw [num4 ha hb hc hd]
  have e : IntKind.wrap .u32 (((a * 256 + b) * 256 + c) * 256 + d) = ((a * 256 + b) * 256 + c) * 256 + d := by rw [IntKind.wrap_u32]; omega
  rw [e]
  unfold w64
  rw [Go.IntWalk.u64_in _ (by omega)]
  unfold be4
  rw [b0 (by omega), b8 (by omega), b16 (by omega), b24 (by omega)]
  simp only [List.cons.injEq, and_true]
  omega
theorem be2_num {a b : Int} (ha : 0 ≤ a ∧ a ≤ 255) (hb : 0 ≤ b ∧ b ≤ 255) : be2 (w64 (IntKind.wrap .u16 (numK [a, b] 0))) = [a, b] := by
  rw [num2 ha hb]
  have e : IntKind.wrap .u16 (a * 256 + b) = a * 256 + b := by rw [IntKind.wrap_u16]; omega
  rw [e]
  unfold w64
  rw [Go.IntWalk.u64_in _ (by omega)]
  unfold be2
  rw [b0 (by omega), b8 (by omega)]
  simp only [List.cons.injEq, and_true]
  omega
theorem be8_num {a b c d e f g h : Int} (ha : 0 ≤ a ∧ a ≤ 255) (hb : 0 ≤ b ∧ b ≤ 255) (hc : 0 ≤ c ∧ c ≤ 255) (hd : 0 ≤ d ∧ d ≤ 255) (he : 0 ≤ e ∧ e ≤ 255) (hf : 0 ≤ f ∧ f ≤ 255) (hg : 0 ≤ g ∧ g ≤ 255) (hh : 0 ≤ h ∧ h ≤ 255) :
    be8 (numK [a, b, c, d, e, f, g, h] 0) = [a, b, c, d, e, f, g, h] := by
  rw [num8 ha hb hc hd he hf hg hh]
  unfold be8
  rw [b0 (by omega), b8 (by omega), b16 (by omega), b24 (by omega), b32 (by omega), b40 (by omega), b48 (by omega), b56 (by omega)]
  simp only [List.cons.injEq, and_true]
  omega
/-- n elements from place i on. -/
def sl (b : List Int) (i n : Nat) : List Int := (b.drop i).take n
theorem sl_app (b : List Int) (i n m : Nat) : sl b i n ++ sl b (i + n) m = sl b i (n + m) := by
  unfold sl
  rw [← List.drop_drop, ← List.take_add]
theorem sl_bytes {b : List Int} (h : Bytes b) (i n : Nat) : Bytes (sl b i n) := fun x hx => h x (List.mem_of_mem_drop (List.mem_of_mem_take hx))
theorem sl_len {b : List Int} {i n : Nat} (h : i + n ≤ b.length) : (sl b i n).length = n := by unfold sl; simp; omega
theorem ex4 {l : List Int} (h : l.length = 4) : ∃ a b c d, l = [a, b, c, d] := by
  match l, h with
  | [a, b, c, d], _ => exact ⟨a, b, c, d, rfl⟩
theorem ex2 {l : List Int} (h : l.length = 2) : ∃ a b, l = [a, b] := by
  match l, h with
  | [a, b], _ => exact ⟨a, b, rfl⟩
theorem ex8 {l : List Int} (h : l.length = 8) : ∃ a b c d e f g i, l = [a, b, c, d, e, f, g, i] := by
  match l, h with
  | [a, b, c, d, e, f, g, i], _ => exact ⟨a, b, c, d, e, f, g, i, rfl⟩
theorem be4_sl {b : List Int} (hb : Bytes b) {i : Nat} (h : i + 4 ≤ b.length) : be4 (w64 (w4 b i)) = sl b i 4 := by
  obtain ⟨p, q, r, s, e⟩ := ex4 (sl_len h)
  have hs := sl_bytes hb i 4
  unfold w4 num
  rw [show (b.drop i).take 4 = [p, q, r, s] from e]
  rw [e] at hs ⊢
  exact be4_num (hs p (by simp)) (hs q (by simp)) (hs r (by simp)) (hs s (by simp))
theorem be2_sl {b : List Int} (hb : Bytes b) {i : Nat} (h : i + 2 ≤ b.length) : be2 (w64 (w2 b i)) = sl b i 2 := by
  obtain ⟨p, q, e⟩ := ex2 (sl_len h)
  have hs := sl_bytes hb i 2
  unfold w2 num
  rw [show (b.drop i).take 2 = [p, q] from e]
  rw [e] at hs ⊢
  exact be2_num (hs p (by simp)) (hs q (by simp))
theorem be8_sl {b : List Int} (hb : Bytes b) {i : Nat} (h : i + 8 ≤ b.length) : be8 (num b i 8) = sl b i 8 := by
  obtain ⟨p, q, r, s, t, u, v, w, e⟩ := ex8 (sl_len h)
  have hs := sl_bytes hb i 8
  unfold num
  rw [show (b.drop i).take 8 = [p, q, r, s, t, u, v, w] from e]
  rw [e] at hs ⊢
  exact be8_num (hs p (by simp)) (hs q (by simp)) (hs r (by simp)) (hs s (by simp)) (hs t (by simp)) (hs u (by simp)) (hs v (by simp)) (hs w (by simp))
theorem num8_in {b : List Int} (hb : Bytes b) {i : Nat} (h : i + 8 ≤ b.length) : 0 ≤ num b i 8 ∧ num b i 8 ≤ 18446744073709551615 := by
  obtain ⟨p, q, r, s, t, u, v, w, e⟩ := ex8 (sl_len h)
  have hs := sl_bytes hb i 8
  unfold num
  rw [show (b.drop i).take 8 = [p, q, r, s, t, u, v, w] from e]
  rw [e] at hs
  have h1 := hs p (by simp)
  have h2 := hs q (by simp)
  have h3 := hs r (by simp)
  have h4 := hs s (by simp)
  have h5 := hs t (by simp)
  have h6 := hs u (by simp)
  have h7 := hs v (by simp)
  have h8 := hs w (by simp)
  rw [num8 h1 h2 h3 h4 h5 h6 h7 h8]
  omega
theorem w4_in (b : List Int) (i : Nat) : 0 ≤ w4 b i ∧ w4 b i ≤ 4294967295 := by unfold w4; rw [IntKind.wrap_u32]; omega
theorem w2_in (b : List Int) (i : Nat) : 0 ≤ w2 b i ∧ w2 b i ≤ 65535 := by unfold w2; rw [IntKind.wrap_u16]; omega
theorem xsFrom_len (b : List Int) : ∀ n i, (xsFrom b i n).length = n
  | 0, _ => rfl
  | n + 1, i => by simp [xsFrom, xsFrom_len b n]
theorem addrs_sl {b : List Int} (hb : Bytes b) : ∀ n i, i + 4 * n ≤ b.length → addrsB (xsFrom b i n) = sl b i (4 * n)
  | 0, i, _ => by simp [xsFrom, addrsB, sl]
  | n + 1, i, h => by
    rw [xsFrom, addrsB, be4_sl hb (by omega), addrs_sl hb n (i + 4) (by omega), sl_app, show 4 + 4 * n = 4 * (n + 1) by omega]
/-- The bytes of what was read: those ahead, how many addresses, the addresses. -/
theorem plain_read {b : List Int} (hb : Bytes b) (h : 44 + 4 * manyOf b ≤ b.length) (h44 : 44 ≤ b.length) :
    plainOf (readT b) = sl b 0 40 ++ be4 (w64 ((manyOf b : Nat) : Int)) ++ sl b 44 (4 * manyOf b) := by
  unfold plainOf headOf
  have ex : (readT b).xs = xsFrom b 44 (manyOf b) := rfl
  rw [ex, xsFrom_len, addrs_sl hb _ _ h]
  simp only [readT]
  rw [be4_sl hb (by omega), be4_sl hb (by omega), be4_sl hb (by omega), be4_sl hb (by omega), be4_sl hb (by omega), be2_sl hb (by omega), be2_sl hb (by omega), be4_sl hb (by omega), be4_sl hb (by omega), be8_sl hb (by omega)]
  have a1 := sl_app b 0 4 4
  have a2 := sl_app b 0 8 4
  have a3 := sl_app b 0 12 4
  have a4 := sl_app b 0 16 4
  have a5 := sl_app b 0 20 2
  have a6 := sl_app b 0 22 2
  have a7 := sl_app b 0 24 4
  have a8 := sl_app b 0 28 4
  have a9 := sl_app b 0 32 8
  simp only [Nat.zero_add, Nat.reduceAdd] at a1 a2 a3 a4 a5 a6 a7 a8 a9
  rw [a1, a2, a3, a4, a5, a6, a7, a8, a9]
theorem readT_ok {b : List Int} (hb : Bytes b) (h : 40 ≤ b.length) : TcOk (readT b) :=
  ⟨w4_in _ _, w4_in _ _, w4_in _ _, w4_in _ _, w4_in _ _, w2_in _ _, w2_in _ _, fun x hx => by
    have : ∀ n i, ∀ x ∈ xsFrom b i n, 0 ≤ x ∧ x ≤ 4294967295 := by
      intro n
      induction n with
      | zero => intro i x hx; cases hx
      | succ n ih =>
        intro i x hx
        rcases List.mem_cons.1 hx with rfl | hx
        · exact w4_in _ _
        · exact ih _ x hx
    exact this _ _ x hx, w4_in _ _, w4_in _ _, num8_in hb (by omega)⟩
theorem sum_in (key : List Int) (xss : List (List Int)) (n : Nat) : 0 ≤ sipOf key xss n ∧ sipOf key xss n ≤ 18446744073709551615 := by
  unfold sipOf sipEnd
  simp only
  rw [xorK_eq, IntKind.wrap_u64]
  omega
end Go.Spec
