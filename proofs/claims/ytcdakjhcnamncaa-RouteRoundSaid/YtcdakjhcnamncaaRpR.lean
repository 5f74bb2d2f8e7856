/- Routes: reading states; paths that are not there. No conditions. -/
import Derived.Test.YtcdakjhcnamncaaRpD
import Derived.Test.YtcdakjhcnamncaaEvD
set_option linter.unusedVariables false
set_option linter.unusedSimpArgs false
set_option maxRecDepth 100000
namespace Go.Ev
open Go Go.Proofs Go.Spec
attribute [local irreducible] ev evCall branch need again
theorem rdAll_at : ∀ (ps : List Pa) (o : Nat) (K : List Pa → Prop), rdAll (ptrsO ps o) (pasO ps o) o K = K ps
  | [], o, K => rfl
  | p :: r, o, K => by
    show (match Nat.beq o o with
      | true => rdPath (pO p (o + 1) (o + 2)) _
      | false => False) = _
    rw [Nat.beq_refl]
    show (match Nat.beq (o + 1) (o + 1), Nat.beq (o + 2) (o + 2) with
      | true, true => rdTm (tO p) _
      | _, _ => False) = _
    rw [Nat.beq_refl, Nat.beq_refl]
    exact rdAll_at r (o + 3) _
theorem rdAll_ok : ∀ (rows : List (List SC)) (st : St) (o : Nat) (K : List Pa → Prop), rdAll rows st o K → ∃ ps, rows = ptrsO ps o ∧ st = pasO ps o ∧ K ps := by
  intro rows
  induction rows with
  | nil =>
    intro st o K h
    cases st with
    | nil => exact ⟨[], rfl, rfl, h⟩
    | cons x r =>
      have h : False := h
      exact h.elim
  | cons row rs ih =>
    intro st o K h
    unfold rdAll at h
    split at h
    · contradiction
    · rename_i q rs' x y z r e
      obtain ⟨rfl, rfl⟩ := List.cons.inj e
      split at h
      · rename_i hq
        obtain rfl := Nat.eq_of_beq_eq_true hq
        unfold rdPath at h
        split at h
        · rename_i f t a b tr m d
          split at h
          · rename_i ha hb
            obtain rfl := Nat.eq_of_beq_eq_true ha
            obtain rfl := Nat.eq_of_beq_eq_true hb
            unfold rdTm at h
            split at h
            · unfold rdWi at h
              split at h
              · obtain ⟨ps, e1, e2, e3⟩ := ih _ _ _ h
                refine ⟨_, ?_, ?_, e3⟩
                · rw [e1]; rfl
                · rw [e2]; rfl
              · exact h.elim
            · exact h.elim
          · exact h.elim
        · exact h.elim
      · exact h.elim
    · exact h.elim
theorem rdRt_at (ps : List Pa) (prim sil al : Int) (K : List Pa → Int → Int → Int → Prop) : rdRt (rtL ps prim sil al) K = K ps prim sil al := rdAll_at ps 2 _
theorem rdRt_ok {st : St} {K : List Pa → Int → Int → Int → Prop} (h : rdRt st K) : ∃ ps prim sil al, st = rtL ps prim sil al ∧ K ps prim sil al := by
  unfold rdRt at h
  split at h
  · rename_i prim sil al rows r
    obtain ⟨ps, e1, e2, e3⟩ := rdAll_ok _ _ _ _ h
    exact ⟨ps, prim, sil, al, by rw [e1, e2]; rfl, e3⟩
  · exact h.elim
theorem rd_lin {st : St} {F : List Pa → Int → Int → Int → (SV → St → Prop) → Prop} (hF : ∀ ps a b c, Lin (F ps a b c)) : Lin (fun k => rdRt st fun ps a b c => F ps a b c k) := by
  intro k h
  obtain ⟨ps, a, b, c, rfl, h'⟩ := rdRt_ok h
  obtain ⟨v, s, h1, h2⟩ := hF ps a b c k h'
  refine ⟨v, s, h1, fun k2 hk => ?_⟩
  show rdRt (rtL ps a b c) _
  rw [rdRt_at]; exact h2 k2 hk
theorem missP_id (I : Int) : ∀ (ps : List Pa) (j : Nat), (∀ i : Nat, j ≤ i → i < j + lenP ps → I ≠ (i : Int)) → missP I ps j = ps ∧ missT I ps j = false
  | [], j, _ => ⟨rfl, rfl⟩
  | p :: r, j, h => by
    have h0 := h j (Nat.le_refl _) (by show j < j + (lenP r + 1); omega)
    obtain ⟨h1, h2⟩ := missP_id I r (j + 1) (fun i a b => h i (by omega) (by show i < j + (lenP r + 1); omega))
    unfold missP missT selI selB
    rw [if_neg h0, if_neg h0, if_neg h0, h1, h2]
    exact ⟨rfl, rfl⟩
theorem hearP_id (I : Int) : ∀ (ps : List Pa) (j : Nat), (∀ i : Nat, j ≤ i → i < j + lenP ps → I ≠ (i : Int)) → hearP I ps j = ps ∧ hearT I ps j = false
  | [], j, _ => ⟨rfl, rfl⟩
  | p :: r, j, h => by
    have h0 := h j (Nat.le_refl _) (by show j < j + (lenP r + 1); omega)
    obtain ⟨h1, h2⟩ := hearP_id I r (j + 1) (fun i a b => h i (by omega) (by show i < j + (lenP r + 1); omega))
    unfold hearP hearT selI selB
    rw [if_neg h0, if_neg h0, if_neg h0, h1, h2]
    exact ⟨rfl, rfl⟩
theorem there_no {I : Int} {n : Nat} (h : I < 0 ∨ I ≥ (n : Int)) : thereB I n = false := by
  unfold thereB
  rcases h with h | h
  · rw [decide_eq_false (by omega)]; rfl
  · rw [decide_eq_false (show ¬ I < (n : Int) by omega), Bool.and_false]
theorem there_ne {I : Int} {n : Nat} (h : I < 0 ∨ I ≥ (n : Int)) : ∀ i : Nat, 0 ≤ i → i < 0 + n → I ≠ (i : Int) := fun i _ hi e => by omega
theorem miss_no {I : Int} {ps : List Pa} (h : I < 0 ∨ I ≥ (lenP ps : Int)) (prim sil al : Int) {k : SV → St → Prop} (hk : k (.tup [.one (bv (missT I ps 0)), .one (bv (lostB I (lenP ps) sil al))]) (rtL (missP I ps 0) prim (thI I (lenP ps) (addK .i64 sil 1) sil) al)) : k (.tup [.one (bv false), .one (bv false)]) (rtL ps prim sil al) := by
  obtain ⟨h1, h2⟩ := missP_id I ps 0 (there_ne h)
  unfold lostB thI at hk
  rw [h1, h2, there_no h] at hk
  exact hk
theorem hear_no {I : Int} {ps : List Pa} (h : I < 0 ∨ I ≥ (lenP ps : Int)) (prim sil al : Int) {k : SV → St → Prop} (hk : k (.sa (.one (bv (hearT I ps 0)))) (rtL (hearP I ps 0) prim (thI I (lenP ps) 0 sil) al)) : k (.sa (.one (bv false))) (rtL ps prim sil al) := by
  obtain ⟨h1, h2⟩ := hearP_id I ps 0 (there_ne h)
  unfold thI at hk
  rw [h1, h2, there_no h] at hk
  exact hk
theorem prim_no {I : Int} {ps : List Pa} (h : I < 0 ∨ I ≥ (lenP ps : Int)) (prim sil al : Int) {k : SV → St → Prop} (hk : k (.sa (.one (iv .i64 (thI I (lenP ps) 0 4)))) (rtL ps (thI I (lenP ps) I prim) sil al)) : k (.sa (.one (iv .i64 4))) (rtL ps prim sil al) := by
  unfold thI at hk
  rw [there_no h] at hk
  exact hk
theorem downs_len : ∀ ps : List Pa, (downs ps).length = lenP ps
  | [] => rfl
  | p :: r => by show (downs r).length + 1 = lenP r + 1; rw [downs_len r]
theorem next_no {I : Int} {ps : List Pa} (h : I < 0 ∨ I ≥ (lenP ps : Int)) (prim sil al : Int) {k : SV → St → Prop} (hk : k (.sa (.one (iv .i64 (nextI (downs ps) I)))) (rtL ps prim sil al)) : k (.sa (.one (iv .i64 0))) (rtL ps prim sil al) := by
  unfold nextI at hk
  rw [downs_len, there_no h] at hk
  exact hk
theorem fu_br {K : Nat → Prop} {j : Nat} {d : Bool} {r : List (Nat × Bool)} {z : Nat} {X : Prop} (h : K (firstU ((j, d) :: r) z)) (hX : K (firstU r z) → X) : branch (Bool.not d) (K j) X := by
  cases d with
  | false => exact br (fun _ => h) (fun e => by cases e)
  | true => exact br (fun e => by cases e) (fun _ => hX h)
theorem len_cases {ps : List Pa} (h : okN (lenP ps) = true) : (∃ p0, ps = [p0]) ∨ (∃ p0 p1, ps = [p0, p1]) ∨ (∃ p0 p1 p2, ps = [p0, p1, p2]) ∨ (∃ p0 p1 p2 p3, ps = [p0, p1, p2, p3]) ∨ (∃ p0 p1 p2 p3 p4 p5, ps = [p0, p1, p2, p3, p4, p5]) ∨ (∃ p0 p1 p2 p3 p4 p5 p6 p7 p8, ps = [p0, p1, p2, p3, p4, p5, p6, p7, p8]) := by
  match ps, h with
  | [], h => cases h
  | [p0], _ => exact Or.inl ⟨p0, rfl⟩
  | [p0, p1], _ => exact Or.inr (Or.inl ⟨p0, p1, rfl⟩)
  | [p0, p1, p2], _ => exact Or.inr (Or.inr (Or.inl ⟨p0, p1, p2, rfl⟩))
  | [p0, p1, p2, p3], _ => exact Or.inr (Or.inr (Or.inr (Or.inl ⟨p0, p1, p2, p3, rfl⟩)))
  | [p0, p1, p2, p3, p4], h => cases h
  | [p0, p1, p2, p3, p4, p5], _ => exact Or.inr (Or.inr (Or.inr (Or.inr (Or.inl ⟨p0, p1, p2, p3, p4, p5, rfl⟩))))
  | [p0, p1, p2, p3, p4, p5, p6], h => cases h
  | [p0, p1, p2, p3, p4, p5, p6, p7], h => cases h
  | [p0, p1, p2, p3, p4, p5, p6, p7, p8], _ => exact Or.inr (Or.inr (Or.inr (Or.inr (Or.inr (⟨p0, p1, p2, p3, p4, p5, p6, p7, p8, rfl⟩)))))
  | p0 :: p1 :: p2 :: p3 :: p4 :: p5 :: p6 :: p7 :: p8 :: p9 :: r, h =>
    exfalso
    unfold okN lenP lenP lenP lenP lenP lenP lenP lenP lenP lenP at h
    simp only [Bool.or_eq_true, beq_iff_eq] at h
    omega
end Go.Ev
