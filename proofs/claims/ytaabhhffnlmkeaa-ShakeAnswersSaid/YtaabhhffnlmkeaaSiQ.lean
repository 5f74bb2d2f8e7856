/- The sum of chapter 2: any cut into parts, and the reference, come to the same. Plain arithmetic. No conditions. -/
import Derived.Test.YtaabhhffnlmkeaaSiP
namespace Go.Spec
open Go Go.Ev

/-- Whole words taken off; what is left of the bytes. -/
def blocks : Nat → S4 → List Int → S4 × List Int
  | 0, s, p => (s, p)
  | f + 1, s, p => if 8 ≤ p.length then blocks f (takeS s ((val (p.take 8) : Nat) : Int)) (p.drop 8) else (s, p)
theorem blocks_short {s : S4} {p : List Int} (h : p.length < 8) : ∀ G, blocks G s p = (s, p)
  | 0 => rfl
  | G + 1 => by simp only [blocks]; rw [if_neg (by omega)]
theorem blocks_fuel : ∀ (G G' : Nat) (s : S4) (p : List Int), p.length ≤ G → p.length ≤ G' → blocks G s p = blocks G' s p
  | 0, G', s, p, h, _ => by rw [blocks_short (by omega), blocks_short (by omega)]
  | G + 1, 0, s, p, _, h => by rw [blocks_short (by omega), blocks_short (by omega)]
  | G + 1, G' + 1, s, p, h, h' => by
    simp only [blocks]
    split
    · exact blocks_fuel G G' _ _ (by simp <;> omega) (by simp <;> omega)
    · rfl
theorem blocks_left : ∀ (G : Nat) (s : S4) (p : List Int), p.length ≤ G → (blocks G s p).2.length < 8
  | 0, s, p, h => by rw [blocks_short (by omega)]; show p.length < 8; omega
  | G + 1, s, p, h => by
    simp only [blocks]
    split
    · exact blocks_left G _ _ (by simp <;> omega)
    · show p.length < 8; omega
theorem blocks_bytes : ∀ (G : Nat) (s : S4) (p : List Int), Bytes p → Bytes (blocks G s p).2
  | 0, s, p, h => h
  | G + 1, s, p, h => by
    simp only [blocks]
    split
    · exact blocks_bytes G _ _ fun y hy => h y (List.mem_of_mem_drop hy)
    · exact h
theorem blocks_append : ∀ (G : Nat) (s : S4) (q b : List Int) (G1 G2 : Nat), q.length ≤ G → (q ++ b).length ≤ G1 → (q ++ b).length ≤ G2 →
    blocks G1 s (q ++ b) = blocks G2 (blocks G s q).1 ((blocks G s q).2 ++ b)
  | 0, s, q, b, G1, G2, h, h1, h2 => by
    have : q = [] := List.eq_nil_of_length_eq_zero (by omega)
    subst this
    exact blocks_fuel _ _ _ _ h1 h2
  | G + 1, s, q, b, G1, G2, h, h1, h2 => by
    by_cases h8 : 8 ≤ q.length
    · simp only [List.length_append] at h1 h2
      obtain ⟨G1, rfl⟩ : ∃ g, G1 = g + 1 := ⟨G1 - 1, by omega⟩
      have e : blocks (G1 + 1) s (q ++ b) = blocks G1 (takeS s ((val (q.take 8) : Nat) : Int)) (q.drop 8 ++ b) := by
        simp only [blocks]
        rw [if_pos (by simp <;> omega), List.take_append_of_le_length h8, List.drop_append_of_le_length h8]
      have e2 : blocks (G + 1) s q = blocks G (takeS s ((val (q.take 8) : Nat) : Int)) (q.drop 8) := by
        simp only [blocks]
        rw [if_pos h8]
      rw [e, e2]
      exact blocks_append G _ _ b G1 G2 (by simp <;> omega) (by simp <;> omega) (by simp <;> omega)
    · rw [blocks_short (p := q) (by omega)]
      exact blocks_fuel _ _ _ _ h1 h2
theorem remK8 (n : Nat) : remK (n : Int) 8 = ((n % 8 : Nat) : Int) := by
  rw [remK_eq, Go.IntWalk.rem_in _ _ (by omega)]; omega
theorem feed_blocks : ∀ (F : Nat) (ys p : List Int) (s : S4) (n G : Nat), ys.length ≤ F → Bytes p → Bytes ys → p.length < 8 → n % 8 = p.length → n + ys.length ≤ 4611686018427387904 → (p ++ ys).length ≤ G →
    feed F ys ⟨s, ((val p : Nat) : Int), (n : Int)⟩ = ⟨(blocks G s (p ++ ys)).1, ((val (blocks G s (p ++ ys)).2 : Nat) : Int), ((n + ys.length : Nat) : Int)⟩
  | 0, ys, p, s, n, G, hF, hp, hy, hl, hn, hb, hG => by
    have : ys = [] := List.eq_nil_of_length_eq_zero (by omega)
    subst this
    rw [List.append_nil, blocks_short hl]
    rfl
  | F + 1, [], p, s, n, G, hF, hp, hy, hl, hn, hb, hG => by
    rw [List.append_nil, blocks_short hl]
    rfl
  | F + 1, y :: r, p, s, n, G, hF, hp, hy, hl, hn, hb, hG => by
    simp only [List.length_cons] at hF hb
    simp only [List.length_append, List.length_cons] at hG
    simp only [feed]
    by_cases hc : remK (n : Int) 8 = 0 ∧ 8 ≤ (y :: r).length
    · rw [if_pos hc]
      obtain ⟨c1, c2⟩ := hc
      rw [remK8] at c1
      have hp0 : p = [] := List.eq_nil_of_length_eq_zero (by omega)
      subst hp0
      simp only [List.length_cons] at c2
      obtain ⟨G, rfl⟩ : ∃ g, G = g + 1 := ⟨G - 1, by omega⟩
      have e : blocks (G + 1) s ([] ++ y :: r) = blocks G (takeS s ((val ((y :: r).take 8) : Nat) : Int)) ([] ++ (y :: r).drop 8) := by
        simp only [blocks, List.nil_append]
        rw [if_pos (by simpa using c2)]
      rw [e, word8_val hy (by simpa using c2)]
      have en : addK .i64 (n : Int) 8 = ((n + 8 : Nat) : Int) := by rw [i64_add8 (by omega)]; omega
      rw [en]
      have ih := feed_blocks F ((y :: r).drop 8) [] (takeS s ((val ((y :: r).take 8) : Nat) : Int)) (n + 8) G (by simp <;> omega) hp (fun x hx => hy x (List.mem_of_mem_drop hx)) (by decide) (by simp at hn ⊢; omega) (by simp <;> omega) (by simp <;> omega)
      have el : n + 8 + ((y :: r).drop 8).length = n + (y :: r).length := by simp <;> omega
      rw [el] at ih
      exact ih
    · rw [if_neg hc]
      have en : addK .i64 (n : Int) 1 = ((n + 1 : Nat) : Int) := by rw [i64_add (by omega)]; omega
      have em : mulK .i64 8 (remK (n : Int) 8) = ((8 * p.length : Nat) : Int) := by
        rw [remK8, hn, mulK_eq, Go.IntWalk.i64_in _ (by omega)]; omega
      have hyy := hy y (by simp)
      have ef : fill ⟨s, ((val p : Nat) : Int), (n : Int)⟩ y = if remK ((n + 1 : Nat) : Int) 8 = 0 then ⟨takeS s ((val (p ++ [y]) : Nat) : Int), 0, ((n + 1 : Nat) : Int)⟩ else ⟨s, ((val (p ++ [y]) : Nat) : Int), ((n + 1 : Nat) : Int)⟩ := by
        unfold fill
        simp only
        rw [en, em, or_byte hp (by omega) hyy _ rfl]
      rw [ef, remK8]
      have hpy : Bytes (p ++ [y]) := fun x hx => by
        rcases List.mem_append.1 hx with hx | hx
        · exact hp x hx
        · simp at hx; subst hx; exact hyy
      have hr : Bytes r := hy.tail
      by_cases h7 : p.length = 7
      · rw [if_pos (by omega)]
        obtain ⟨G, rfl⟩ : ∃ g, G = g + 1 := ⟨G - 1, by omega⟩
        have el : p ++ y :: r = (p ++ [y]) ++ r := by simp
        have l8 : (p ++ [y]).length = 8 := by simp [h7]
        have e : blocks (G + 1) s (p ++ y :: r) = blocks G (takeS s ((val (p ++ [y]) : Nat) : Int)) ([] ++ r) := by
          rw [el]
          simp only [blocks]
          rw [if_pos (by rw [List.length_append, l8]; omega), List.take_append_of_le_length (by omega), List.drop_append_of_le_length (by omega), ← l8, List.take_length, List.drop_length]
        rw [e]
        have ih := feed_blocks F r [] (takeS s ((val (p ++ [y]) : Nat) : Int)) (n + 1) G (by omega) (fun x hx => by cases hx) hr (by decide) (by simp; omega) (by omega) (by simp; omega)
        have el2 : n + 1 + r.length = n + (y :: r).length := by simp <;> omega
        rw [el2] at ih
        exact ih
      · rw [if_neg (by omega)]
        have ih := feed_blocks F r (p ++ [y]) s (n + 1) G (by omega) hpy hr (by simp <;> omega) (by simp <;> omega) (by omega) (by simp <;> omega)
        have el : p ++ y :: r = (p ++ [y]) ++ r := by simp
        have el2 : n + 1 + r.length = n + (y :: r).length := by simp <;> omega
        rw [el, ← el2]
        exact ih
/-- So many parts from part i on, one behind the other. -/
def cat (xss : List (List Int)) : Nat → Nat → List Int
  | 0, _ => []
  | n + 1, i => xss.getD i [] ++ cat xss n (i + 1)
theorem feedAll_blocks (xss : List (List Int)) : ∀ (m i : Nat) (p : List Int) (s : S4) (n G : Nat), (∀ j, Bytes (xss.getD j [])) → Bytes p → p.length < 8 → n % 8 = p.length → n + (cat xss m i).length ≤ 4611686018427387904 → (p ++ cat xss m i).length ≤ G →
    feedAll xss m i ⟨s, ((val p : Nat) : Int), (n : Int)⟩ = ⟨(blocks G s (p ++ cat xss m i)).1, ((val (blocks G s (p ++ cat xss m i)).2 : Nat) : Int), ((n + (cat xss m i).length : Nat) : Int)⟩
  | 0, i, p, s, n, G, hx, hp, hl, hn, hb, hG => by
    simp only [cat, List.append_nil, feedAll]
    rw [blocks_short hl]
    rfl
  | m + 1, i, p, s, n, G, hx, hp, hl, hn, hb, hG => by
    simp only [cat, List.length_append] at hb hG
    simp only [feedAll]
    have h1 := feed_blocks (xss.getD i []).length (xss.getD i []) p s n (p ++ xss.getD i []).length (Nat.le_refl _) hp (hx i) hl hn (by omega) (Nat.le_refl _)
    rw [h1]
    have hl2 := blocks_left (p ++ xss.getD i []).length s (p ++ xss.getD i []) (Nat.le_refl _)
    have hb2 : Bytes (blocks (p ++ xss.getD i []).length s (p ++ xss.getD i [])).2 := blocks_bytes _ _ _ fun y hy => (List.mem_append.1 hy).elim (hp y) (hx i y)
    have hlen : ∀ (G : Nat) (s : S4) (q : List Int), q.length ≤ G → ∃ k, q.length = 8 * k + (blocks G s q).2.length := by
      intro G
      induction G with
      | zero => intro s q h; exact ⟨0, by simp [blocks]⟩
      | succ G ih =>
        intro s q h
        simp only [blocks]
        split
        · obtain ⟨k, hk⟩ := ih (takeS s ((val (q.take 8) : Nat) : Int)) (q.drop 8) (by simp <;> omega)
          refine ⟨k + 1, ?_⟩
          simp only [List.length_drop] at hk
          omega
        · exact ⟨0, by simp⟩
    obtain ⟨k, hk⟩ := hlen (p ++ xss.getD i []).length s (p ++ xss.getD i []) (Nat.le_refl _)
    have hL : (p ++ xss.getD i []).length = p.length + (xss.getD i []).length := List.length_append
    have ih := feedAll_blocks xss m (i + 1) (blocks (p ++ xss.getD i []).length s (p ++ xss.getD i [])).2 (blocks (p ++ xss.getD i []).length s (p ++ xss.getD i [])).1 (n + (xss.getD i []).length) G hx hb2 hl2 (by omega) (by omega) (by
      rw [List.length_append]
      omega)
    rw [ih]
    have e := blocks_append (p ++ xss.getD i []).length s (p ++ xss.getD i []) (cat xss m (i + 1)) G G (Nat.le_refl _) (by rw [List.length_append, List.length_append]; omega) (by rw [List.length_append, List.length_append]; omega)
    have e2 : p ++ cat xss (m + 1) i = p ++ xss.getD i [] ++ cat xss m (i + 1) := by simp [cat]
    have e3 : n + (xss.getD i []).length + (cat xss m (i + 1)).length = n + (cat xss (m + 1) i).length := by simp [cat] <;> omega
    rw [e2, e, e3]
/-- The last word. -/
theorem last_word {p : List Int} (hp : Bytes p) (hl : p.length < 8) (n : Nat) : orK .u64 ((val p : Nat) : Int) (shlK .u64 (IntKind.wrap .u64 (IntKind.wrap .u8 (n : Int))) 56) = ((val p + n % 256 * 2 ^ 56 : Nat) : Int) := by
  have h1 := val_lt hp
  rw [pow256] at h1
  have h2 : (2 : Nat) ^ (8 * p.length) ≤ 2 ^ 56 := Nat.pow_le_pow_right (by decide) (by omega)
  have h3 : n % 256 * 2 ^ 56 ≤ 255 * 2 ^ 56 := Nat.mul_le_mul (by omega) (Nat.le_refl _)
  have e8 : IntKind.wrap .u8 (n : Int) = ((n % 256 : Nat) : Int) := by rw [IntKind.wrap_u8]; omega
  rw [e8, Go.IntWalk.u64_in ((n % 256 : Nat) : Int) (by omega), show (56 : Int) = ((56 : Nat) : Int) from rfl, shl_nat (by omega) (by omega), or_nat (by omega) (by omega), or_add (by omega)]
theorem refGo_blocks {xs : List Int} (h : Bytes xs) (hn : xs.length ≤ 4611686018427387904) : ∀ (F i G : Nat) (v : S4), i ≤ xs.length → xs.length < i + 8 * F → (xs.drop i).length ≤ G →
    refGo xs F i v = takeS (blocks G v (xs.drop i)).1 ((val (blocks G v (xs.drop i)).2 + xs.length % 256 * 2 ^ 56 : Nat) : Int)
  | 0, i, G, v, hi, hF, hG => by omega
  | F + 1, i, G, v, hi, hF, hG => by
    simp only [refGo]
    rw [if_pos hi]
    have hd : Bytes (xs.drop i) := fun x hx => h x (List.mem_of_mem_drop hx)
    have hld : (xs.drop i).length = xs.length - i := by simp
    unfold wordAt
    by_cases h8 : i + 8 ≤ xs.length
    · rw [if_pos h8]
      obtain ⟨G, rfl⟩ : ∃ g, G = g + 1 := ⟨G - 1, by omega⟩
      have ht : Bytes ((xs.drop i).take 8) := fun x hx => hd x (List.mem_of_mem_take hx)
      rw [refWord_val ht, List.take_take, Nat.min_self]
      have e : blocks (G + 1) v (xs.drop i) = blocks G (takeS v ((val ((xs.drop i).take 8) : Nat) : Int)) (xs.drop (i + 8)) := by
        simp only [blocks]
        rw [if_pos (by omega), List.drop_drop]
      rw [e]
      exact refGo_blocks h hn F (i + 8) G _ h8 (by omega) (by simp <;> omega)
    · rw [if_neg h8]
      have hs : (xs.drop i).length < 8 := by omega
      rw [blocks_short hs]
      have stop : ∀ v, refGo xs F (i + 8) v = v := fun v => by
        cases F with
        | zero => rfl
        | succ F => simp only [refGo]; rw [if_neg (by omega)]
      rw [stop]
      unfold lastWord
      rw [refWord_val hd, List.take_of_length_le (by omega)]
      have h1 := val_lt hd
      rw [pow256] at h1
      have h2 : (2 : Nat) ^ (8 * (xs.drop i).length) ≤ 2 ^ 56 := Nat.pow_le_pow_right (by decide) (by omega)
      have er : remK ((xs.length : Nat) : Int) 256 = ((xs.length % 256 : Nat) : Int) := by rw [remK_eq, Go.IntWalk.rem_in _ _ (by omega)]; omega
      have em : mulK .u64 (IntKind.wrap .u64 ((xs.length % 256 : Nat) : Int)) 72057594037927936 = ((xs.length % 256 * 2 ^ 56 : Nat) : Int) := by
        rw [mulK_eq, Go.IntWalk.u64_in ((xs.length % 256 : Nat) : Int) (by omega), Go.IntWalk.u64_in _ (by omega)]; omega
      rw [er, em, addK_eq, Go.IntWalk.u64_in _ (by omega)]
      congr 1
theorem sip0_ref0 {key : List Int} (hk : Bytes key) (hl : key.length = 16) : sip0 key = ref0 key := by
  have h1 : Bytes (key.take 8) := fun x hx => hk x (List.mem_of_mem_take hx)
  have h2 : Bytes (key.drop 8) := fun x hx => hk x (List.mem_of_mem_drop hx)
  have e1 : word8 (key.take 8) = refWord (key.take 8) := by rw [word8_val h1 (by simp <;> omega), refWord_val h1]
  have e2 : word8 (key.drop 8) = refWord (key.drop 8) := by rw [word8_val h2 (by simp <;> omega), refWord_val h2]
  unfold sip0 ref0
  rw [e1, e2]
/-- The sum over parts is the reference's over all bytes. -/
theorem sip_ref {key : List Int} {xss : List (List Int)} {n : Nat} (hk : Bytes key) (hl : key.length = 16) (hx : ∀ j, Bytes (xss.getD j [])) (hn : (cat xss n 0).length ≤ 4611686018427387904) :
    sipOf key xss n = refOf key (cat xss n 0) := by
  have hc : ∀ (n i : Nat), Bytes (cat xss n i) := by
    intro n
    induction n with
    | zero => intro i y hy; cases hy
    | succ n ih => intro i y hy; exact (List.mem_append.1 hy).elim (hx i y) (ih (i + 1) y)
  unfold sipOf refOf
  have h1 := feedAll_blocks xss n 0 [] (sip0 key) 0 (cat xss n 0).length hx (fun x h => by cases h) (by decide) rfl (by omega) (by simp)
  have h1' : feedAll xss n 0 ⟨sip0 key, 0, 0⟩ = ⟨(blocks (cat xss n 0).length (sip0 key) (cat xss n 0)).1, ((val (blocks (cat xss n 0).length (sip0 key) (cat xss n 0)).2 : Nat) : Int), (((cat xss n 0).length : Nat) : Int)⟩ := by
    have e0 : 0 + (cat xss n 0).length = (cat xss n 0).length := by omega
    rw [e0] at h1
    exact h1
  rw [h1', refGo_blocks (hc n 0) hn ((cat xss n 0).length / 8 + 1) 0 (cat xss n 0).length _ (by omega) (by omega) (by simp), List.drop_zero, sip0_ref0 hk hl]
  have hb := blocks_bytes (cat xss n 0).length (ref0 key) (cat xss n 0) (hc n 0)
  have hs := blocks_left (cat xss n 0).length (ref0 key) (cat xss n 0) (Nat.le_refl _)
  generalize blocks (cat xss n 0).length (ref0 key) (cat xss n 0) = q at hb hs ⊢
  unfold sipEnd refEnd
  simp only
  rw [last_word hb hs]
end Go.Spec
