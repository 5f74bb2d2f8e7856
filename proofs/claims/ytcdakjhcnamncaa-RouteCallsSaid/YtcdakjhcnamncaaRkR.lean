/- Routes: reading states; paths that are not there. No conditions. -/
import Derived.Test.YtcdakjhcnamncaaRkD
import Derived.Test.YtcdakjhcnamncaaEvD
set_option linter.unusedVariables false
set_option linter.unusedSimpArgs false
set_option maxRecDepth 100000
namespace Go.Ev
open Go Go.Proofs Go.Spec
attribute [local irreducible] ev evCall branch need again
theorem rdAll_at : ∀ (ps : List Pa) (s : St) (o : Nat) (K : List Pa → St → Prop), rdAll (ptrsO ps o) (pasO ps o ++ s) o K = K ps s
 | [], s, o, K => by show rdAll [] s o K = K [] s; unfold rdAll; rfl
 | p :: r, s, o, K => by
   show (match Nat.beq o o with
     | true => rdPath (pO p (o + 1) (o + 2) (o + 3)) _
     | false => False) = _
   rw [Nat.beq_refl]
   show (match Nat.beq (o + 1) (o + 1), Nat.beq (o + 2) (o + 2), Nat.beq (o + 3) (o + 3) with
     | true, true, true => rdTm (tO p) _
     | _, _, _ => False) = _
   rw [Nat.beq_refl, Nat.beq_refl, Nat.beq_refl]
   exact rdAll_at r s (o + 4) _
theorem rdAll_ok : ∀ (rows : List (List SC)) (st : St) (o : Nat) (K : List Pa → St → Prop), rdAll rows st o K → ∃ ps s, rows = ptrsO ps o ∧ st = pasO ps o ++ s ∧ K ps s := by
 intro rows
 induction rows with
 | nil =>
   intro st o K h
   unfold rdAll at h
   exact ⟨[], st, rfl, rfl, h⟩
 | cons row rs ih =>
   intro st o K h
   unfold rdAll at h
   split at h
   · contradiction
   · rename_i q rs' x y z u r e
     obtain ⟨rfl, rfl⟩ := List.cons.inj e
     split at h
     · rename_i hq
       obtain rfl := Nat.eq_of_beq_eq_true hq
       unfold rdPath at h
       split at h
       · rename_i f t a b tr m d c
         split at h
         · rename_i ha hb hc
           obtain rfl := Nat.eq_of_beq_eq_true ha
           obtain rfl := Nat.eq_of_beq_eq_true hb
           obtain rfl := Nat.eq_of_beq_eq_true hc
           unfold rdTm at h
           split at h
           · unfold rdWi at h
             split at h
             · unfold rdOut at h
               split at h
               · obtain ⟨ps, s, e1, e2, e3⟩ := ih _ _ _ h
                 refine ⟨_, s, ?_, ?_, e3⟩
                 · rw [e1]; rfl
                 · rw [e2]; rfl
               · exact h.elim
             · exact h.elim
           · exact h.elim
         · exact h.elim
       · exact h.elim
     · exact h.elim
   · exact h.elim
theorem rdRtK_at (ps : List Pa) (prim sil al : Int) (s : St) (K : List Pa → Int → Int → Int → St → Prop) : rdRtK (rtL ps prim sil al ++ s) K = K ps prim sil al s := rdAll_at ps s 2 _
theorem rdRtK_ok {st : St} {K : List Pa → Int → Int → Int → St → Prop} (h : rdRtK st K) : ∃ ps prim sil al s, st = rtL ps prim sil al ++ s ∧ K ps prim sil al s := by
 unfold rdRtK at h
 split at h
 · rename_i prim sil al rows r
   obtain ⟨ps, s, e1, e2, e3⟩ := rdAll_ok _ _ _ _ h
   exact ⟨ps, prim, sil, al, s, by rw [e1, e2]; rfl, e3⟩
 · exact h.elim
theorem rdRt_at (ps : List Pa) (prim sil al : Int) (K : List Pa → Int → Int → Int → Prop) : rdRt (rtL ps prim sil al) K = K ps prim sil al := by
 have h := rdRtK_at ps prim sil al [] (fun ps prim sil al s => noSt s (K ps prim sil al))
 rw [List.append_nil] at h
 exact h
theorem rdRt_ok {st : St} {K : List Pa → Int → Int → Int → Prop} (h : rdRt st K) : ∃ ps prim sil al, st = rtL ps prim sil al ∧ K ps prim sil al := by
 obtain ⟨ps, prim, sil, al, s, e, h'⟩ := rdRtK_ok h
 cases s with
 | nil => exact ⟨ps, prim, sil, al, by rw [e, List.append_nil], h'⟩
 | cons x r =>
   have h' : False := h'
   exact h'.elim
theorem rd_lin {st : St} {F : List Pa → Int → Int → Int → (SV → St → Prop) → Prop} (hF : ∀ ps a b c, Lin (F ps a b c)) : Lin (fun k => rdRt st fun ps a b c => F ps a b c k) := by
 intro k h
 obtain ⟨ps, a, b, c, rfl, h'⟩ := rdRt_ok h
 obtain ⟨v, s, h1, h2⟩ := hF ps a b c k h'
 refine ⟨v, s, h1, fun k2 hk => ?_⟩
 show rdRt (rtL ps a b c) _
 rw [rdRt_at]; exact h2 k2 hk
theorem rdAllR_at : ∀ (rs : List Ra) (o : Nat) (K : List Ra → Prop), rdAllR (ptrsR rs o) (rasO rs) o K = K rs
 | [], o, K => rfl
 | p :: r, o, K => by
   show (match Nat.beq o o with
     | true => rdRa (raO p) _
     | false => False) = _
   rw [Nat.beq_refl]
   exact rdAllR_at r (o + 1) _
theorem rdRa_ok {x : Option SO} {K : Ra → Prop} (h : rdRa x K) : ∃ p, x = raO p ∧ K p := by
 unfold rdRa at h
 split at h
 · rename_i c0 c1 c2 c3 c4 c5 c6 r
   split at h
   · split at h
     · exact ⟨_, rfl, h⟩
     · exact h.elim
   · exact h.elim
 · exact h.elim
theorem rdAllR_ok : ∀ (rows : List (List SC)) (st : St) (o : Nat) (K : List Ra → Prop), rdAllR rows st o K → ∃ rs, rows = ptrsR rs o ∧ st = rasO rs ∧ K rs := by
 intro rows
 induction rows with
 | nil =>
   intro st o K h
   cases st with
   | nil => exact ⟨[], rfl, rfl, h⟩
   | cons x r =>
     have h : False := h
     exact h.elim
 | cons row rs ih =>
   intro st o K h
   unfold rdAllR at h
   split at h
   · contradiction
   · rename_i q rs' x r e
     obtain ⟨rfl, rfl⟩ := List.cons.inj e
     split at h
     · rename_i hq
       obtain rfl := Nat.eq_of_beq_eq_true hq
       obtain ⟨p, rfl, h⟩ := rdRa_ok h
       obtain ⟨l, e1, e2, e3⟩ := ih _ _ _ h
       exact ⟨p :: l, by rw [e1]; rfl, by rw [e2]; rfl, e3⟩
     · exact h.elim
   · exact h.elim
theorem rdRf_at (o : Nat) (rs : List Ra) (prim sil al : Int) (K : List Ra → Int → Int → Int → Prop) : rdRf o (rfL o rs prim sil al) K = K rs prim sil al := by
 show (match Nat.beq (o + 1) (o + 1) with
   | true => rdAllR (ptrsR rs (o + 2)) (rasO rs) (o + 2) _
   | false => False) = _
 rw [Nat.beq_refl]
 exact rdAllR_at rs (o + 2) _
theorem rdRf_ok {o : Nat} {st : St} {K : List Ra → Int → Int → Int → Prop} (h : rdRf o st K) : ∃ rs prim sil al, st = rfL o rs prim sil al ∧ K rs prim sil al := by
 unfold rdRf at h
 split at h
 · rename_i a prim sil al rows r
   split at h
   · rename_i ha
     obtain rfl := Nat.eq_of_beq_eq_true ha
     obtain ⟨rs, e1, e2, e3⟩ := rdAllR_ok _ _ _ _ h
     exact ⟨rs, prim, sil, al, by rw [e1, e2]; rfl, e3⟩
   · exact h.elim
 · exact h.elim
theorem rdf_lin {o : Nat} {st : St} {F : List Ra → Int → Int → Int → (SV → St → Prop) → Prop} (hF : ∀ ps a b c, Lin (F ps a b c)) : Lin (fun k => rdRf o st fun ps a b c => F ps a b c k) := by
 intro k h
 obtain ⟨ps, a, b, c, rfl, h'⟩ := rdRf_ok h
 obtain ⟨v, s, h1, h2⟩ := hF ps a b c k h'
 refine ⟨v, s, h1, fun k2 hk => ?_⟩
 show rdRf o (rfL o ps a b c) _
 rw [rdRf_at]; exact h2 k2 hk
theorem missP_id (I : Int) : ∀ (ps : List Pa) (j : Nat), (∀ i : Nat, j ≤ i → i < j + lenP ps → I ≠ (i : Int)) → missP I ps j = ps ∧ missT I ps j = false
 | [], j, _ => ⟨rfl, rfl⟩
 | p :: r, j, h => by
   have h0 := h j (Nat.le_refl _) (by show j < j + (lenP r + 1); omega)
   obtain ⟨h1, h2⟩ := missP_id I r (j + 1) (fun i a b => h i (by omega) (by show i < j + (lenP r + 1); omega))
   unfold missP missT selI selB
   rw [if_neg h0, if_neg h0, if_neg h0, h1, h2]
   exact ⟨rfl, rfl⟩
theorem hearP_id (I : Int) : ∀ (ps : List Pa) (j : Nat), (∀ i : Nat, j ≤ i → i < j + lenP ps → I ≠ (i : Int)) → hearP I ps j = ps ∧ hearT I ps j = false
 | [], j, _ => ⟨rfl, rfl⟩
 | p :: r, j, h => by
   have h0 := h j (Nat.le_refl _) (by show j < j + (lenP r + 1); omega)
   obtain ⟨h1, h2⟩ := hearP_id I r (j + 1) (fun i a b => h i (by omega) (by show i < j + (lenP r + 1); omega))
   unfold hearP hearT selI selB
   rw [if_neg h0, if_neg h0, if_neg h0, h1, h2]
   exact ⟨rfl, rfl⟩
theorem missR_id (I : Int) : ∀ (ps : List Ra) (j : Nat), (∀ i : Nat, j ≤ i → i < j + lenR ps → I ≠ (i : Int)) → missR I ps j = ps ∧ missRT I ps j = false
 | [], j, _ => ⟨rfl, rfl⟩
 | p :: r, j, h => by
   have h0 := h j (Nat.le_refl _) (by show j < j + (lenR r + 1); omega)
   obtain ⟨h1, h2⟩ := missR_id I r (j + 1) (fun i a b => h i (by omega) (by show i < j + (lenR r + 1); omega))
   unfold missR missRT selI selB
   rw [if_neg h0, if_neg h0, if_neg h0, h1, h2]
   exact ⟨rfl, rfl⟩
theorem hearR_id (I : Int) : ∀ (ps : List Ra) (j : Nat), (∀ i : Nat, j ≤ i → i < j + lenR ps → I ≠ (i : Int)) → hearR I ps j = ps ∧ hearRT I ps j = false
 | [], j, _ => ⟨rfl, rfl⟩
 | p :: r, j, h => by
   have h0 := h j (Nat.le_refl _) (by show j < j + (lenR r + 1); omega)
   obtain ⟨h1, h2⟩ := hearR_id I r (j + 1) (fun i a b => h i (by omega) (by show i < j + (lenR r + 1); omega))
   unfold hearR hearRT selI selB
   rw [if_neg h0, if_neg h0, if_neg h0, h1, h2]
   exact ⟨rfl, rfl⟩
theorem there_no {I : Int} {n : Nat} (h : I < 0 ∨ I ≥ (n : Int)) : thereB I n = false := by
 unfold thereB
 rcases h with h | h
 · rw [decide_eq_false (by omega)]; rfl
 · rw [decide_eq_false (show ¬ I < (n : Int) by omega), Bool.and_false]
theorem there_ne {I : Int} {n : Nat} (h : I < 0 ∨ I ≥ (n : Int)) : ∀ i : Nat, 0 ≤ i → i < 0 + n → I ≠ (i : Int) := fun i _ hi e => by omega
theorem stk_eq {α : Type} : ∀ (ds : List Bool) (x : α), stk ds x = x
 | [], x => rfl
 | d :: r, x => by
   unfold stk
   cases d <;> exact stk_eq r x
theorem nextS_eq (ds : List Bool) (I : Int) : nextS ds I = nextI ds I := stk_eq ds _
theorem chooseS_eq (ds : List Bool) (I : Int) : chooseS ds I = chooseI ds I := stk_eq ds _
theorem miss_no {I : Int} {ps : List Pa} (h : I < 0 ∨ I ≥ (lenP ps : Int)) (prim sil al : Int) {k : SV → St → Prop} (hk : k (.tup [.one (bv (missT I ps 0)), .one (bv (lostB I (lenP ps) sil al))]) (rtL (missP I ps 0) prim (thI I (lenP ps) (addK .i64 sil 1) sil) al)) : k (.tup [.one (bv false), .one (bv false)]) (rtL ps prim sil al) := by
 obtain ⟨h1, h2⟩ := missP_id I ps 0 (there_ne h)
 unfold lostB thI at hk
 rw [h1, h2, there_no h] at hk
 exact hk
theorem hear_no {I : Int} {ps : List Pa} (h : I < 0 ∨ I ≥ (lenP ps : Int)) (prim sil al : Int) {k : SV → St → Prop} (hk : k (.sa (.one (bv (hearT I ps 0)))) (rtL (hearP I ps 0) prim (thI I (lenP ps) 0 sil) al)) : k (.sa (.one (bv false))) (rtL ps prim sil al) := by
 obtain ⟨h1, h2⟩ := hearP_id I ps 0 (there_ne h)
 unfold thI at hk
 rw [h1, h2, there_no h] at hk
 exact hk
theorem downs_len : ∀ ps : List Pa, (downs ps).length = lenP ps
 | [] => rfl
 | p :: r => by show (downs r).length + 1 = lenP r + 1; rw [downs_len r]
theorem next_no {I : Int} {ps : List Pa} (h : I < 0 ∨ I ≥ (lenP ps : Int)) (prim sil al : Int) {k : SV → St → Prop} (hk : k (.sa (.one (iv .i64 (nextS (downs ps) I)))) (rtL ps prim sil al)) : k (.sa (.one (iv .i64 0))) (rtL ps prim sil al) := by
 rw [nextS_eq] at hk
 unfold nextI at hk
 rw [downs_len, there_no h] at hk
 exact hk
theorem miss_noR {I : Int} {ps : List Ra} (h : I < 0 ∨ I ≥ (lenR ps : Int)) (prim sil al : Int) {k : SV → St → Prop} (hk : k (.tup [.one (bv (missRT I ps 0)), .one (bv (lostB I (lenR ps) sil al))]) (rfL 0 (missR I ps 0) prim (thI I (lenR ps) (addK .i64 sil 1) sil) al)) : k (.tup [.one (bv false), .one (bv false)]) (rfL 0 ps prim sil al) := by
 obtain ⟨h1, h2⟩ := missR_id I ps 0 (there_ne h)
 unfold lostB thI at hk
 rw [h1, h2, there_no h] at hk
 exact hk
theorem hear_noR {I : Int} {ps : List Ra} (h : I < 0 ∨ I ≥ (lenR ps : Int)) (prim sil al : Int) {k : SV → St → Prop} (hk : k (.sa (.one (bv (hearRT I ps 0)))) (rfL 0 (hearR I ps 0) prim (thI I (lenR ps) 0 sil) al)) : k (.sa (.one (bv false))) (rfL 0 ps prim sil al) := by
 obtain ⟨h1, h2⟩ := hearR_id I ps 0 (there_ne h)
 unfold thI at hk
 rw [h1, h2, there_no h] at hk
 exact hk
theorem downR_len : ∀ ps : List Ra, (downR ps).length = lenR ps
 | [] => rfl
 | p :: r => by show (downR r).length + 1 = lenR r + 1; rw [downR_len r]
theorem next_noR {I : Int} {ps : List Ra} (h : I < 0 ∨ I ≥ (lenR ps : Int)) (prim sil al : Int) {k : SV → St → Prop} (hk : k (.sa (.one (iv .i64 (nextS (downR ps) I)))) (rfL 0 ps prim sil al)) : k (.sa (.one (iv .i64 0))) (rfL 0 ps prim sil al) := by
 rw [nextS_eq] at hk
 unfold nextI at hk
 rw [downR_len, there_no h] at hk
 exact hk
theorem pick_t {b : Bool} {x y : Int} (e : b = true) : (if b = true then x else y) = x := if_pos e
theorem prim_no {I : Int} {ps : List Pa} (h : I < 0 ∨ I ≥ (lenP ps : Int)) (prim sil al : Int) {k : SV → St → Prop} (hk : k (.sa (.one (iv .i64 (thI I (lenP ps) 0 4)))) (rtL ps (thI I (lenP ps) I prim) sil al)) : k (.sa (.one (iv .i64 4))) (rtL ps prim sil al) := by
 unfold thI at hk
 rw [there_no h] at hk
 exact hk
theorem fu_br {K : Nat → Prop} {j : Nat} {d : Bool} {r : List (Nat × Bool)} {z : Nat} {X : Prop} (h : K (firstU ((j, d) :: r) z)) (hX : K (firstU r z) → X) : branch (Bool.not d) (K j) X := by
 cases d with
 | false => exact br (fun _ => h) (fun e => by cases e)
 | true => exact br (fun e => by cases e) (fun _ => hX h)
theorem fu_brR {K : Nat → Prop} {j : Nat} {a : Bool} {r : List (Nat × Bool)} {z : Nat} {X : Prop} (h : K (firstU ((j, Bool.not a) :: r) z)) (hX : K (firstU r z) → X) : branch a (K j) X := by
 cases a with
 | true => exact br (fun _ => h) (fun e => by cases e)
 | false => exact br (fun e => by cases e) (fun _ => hX h)
theorem fu_nx {L : List Pa} {prim sil al : Int} {k : SV → St → Prop} {j : Nat} {d : Bool} {r : List (Nat × Bool)} {z : Nat} {X : Prop} (h : k (.sa (.one (iv .i64 ((firstU ((j, d) :: r) z : Nat) : Int)))) (rtL L prim sil al)) (hX : k (.sa (.one (iv .i64 ((firstU r z : Nat) : Int)))) (rtL L prim sil al) → X) : branch (Bool.not d) (k (.sa (.one (iv .i64 ((j : Nat) : Int)))) (rtL L prim sil al)) X := fu_br (K := fun n => k (.sa (.one (iv .i64 ((n : Nat) : Int)))) (rtL L prim sil al)) h hX
theorem fu_nr {L : List Ra} {prim sil al : Int} {k : SV → St → Prop} {j : Nat} {a : Bool} {r : List (Nat × Bool)} {z : Nat} {X : Prop} (h : k (.sa (.one (iv .i64 ((firstU ((j, Bool.not a) :: r) z : Nat) : Int)))) (rfL 0 L prim sil al)) (hX : k (.sa (.one (iv .i64 ((firstU r z : Nat) : Int)))) (rfL 0 L prim sil al) → X) : branch a (k (.sa (.one (iv .i64 ((j : Nat) : Int)))) (rfL 0 L prim sil al)) X := fu_brR (K := fun n => k (.sa (.one (iv .i64 ((n : Nat) : Int)))) (rfL 0 L prim sil al)) h hX
theorem len_cases {ps : List Pa} (h : okN (lenP ps) = true) : (∃ p0, ps = [p0]) ∨ (∃ p0 p1, ps = [p0, p1]) ∨ (∃ p0 p1 p2, ps = [p0, p1, p2]) ∨ (∃ p0 p1 p2 p3, ps = [p0, p1, p2, p3]) ∨ (∃ p0 p1 p2 p3 p4 p5, ps = [p0, p1, p2, p3, p4, p5]) ∨ (∃ p0 p1 p2 p3 p4 p5 p6 p7 p8, ps = [p0, p1, p2, p3, p4, p5, p6, p7, p8]) := by
 match ps, h with
 | [], h => cases h
 | [p0], _ => exact Or.inl ⟨p0, rfl⟩
 | [p0, p1], _ => exact Or.inr (Or.inl ⟨p0, p1, rfl⟩)
 | [p0, p1, p2], _ => exact Or.inr (Or.inr (Or.inl ⟨p0, p1, p2, rfl⟩))
 | [p0, p1, p2, p3], _ => exact Or.inr (Or.inr (Or.inr (Or.inl ⟨p0, p1, p2, p3, rfl⟩)))
 | [p0, p1, p2, p3, p4], h => cases h
 | [p0, p1, p2, p3, p4, p5], _ => exact Or.inr (Or.inr (Or.inr (Or.inr (Or.inl ⟨p0, p1, p2, p3, p4, p5, rfl⟩))))
 | [p0, p1, p2, p3, p4, p5, p6], h => cases h
 | [p0, p1, p2, p3, p4, p5, p6, p7], h => cases h
 | [p0, p1, p2, p3, p4, p5, p6, p7, p8], _ => exact Or.inr (Or.inr (Or.inr (Or.inr (Or.inr (⟨p0, p1, p2, p3, p4, p5, p6, p7, p8, rfl⟩)))))
 | p0 :: p1 :: p2 :: p3 :: p4 :: p5 :: p6 :: p7 :: p8 :: p9 :: r, h =>
   exfalso
   unfold okN lenP lenP lenP lenP lenP lenP lenP lenP lenP lenP at h
   simp only [Bool.or_eq_true, beq_iff_eq] at h
   omega
theorem len_casesR {ps : List Ra} (h : okN (lenR ps) = true) : (∃ p0, ps = [p0]) ∨ (∃ p0 p1, ps = [p0, p1]) ∨ (∃ p0 p1 p2, ps = [p0, p1, p2]) ∨ (∃ p0 p1 p2 p3, ps = [p0, p1, p2, p3]) ∨ (∃ p0 p1 p2 p3 p4 p5, ps = [p0, p1, p2, p3, p4, p5]) ∨ (∃ p0 p1 p2 p3 p4 p5 p6 p7 p8, ps = [p0, p1, p2, p3, p4, p5, p6, p7, p8]) := by
 match ps, h with
 | [], h => cases h
 | [p0], _ => exact Or.inl ⟨p0, rfl⟩
 | [p0, p1], _ => exact Or.inr (Or.inl ⟨p0, p1, rfl⟩)
 | [p0, p1, p2], _ => exact Or.inr (Or.inr (Or.inl ⟨p0, p1, p2, rfl⟩))
 | [p0, p1, p2, p3], _ => exact Or.inr (Or.inr (Or.inr (Or.inl ⟨p0, p1, p2, p3, rfl⟩)))
 | [p0, p1, p2, p3, p4], h => cases h
 | [p0, p1, p2, p3, p4, p5], _ => exact Or.inr (Or.inr (Or.inr (Or.inr (Or.inl ⟨p0, p1, p2, p3, p4, p5, rfl⟩))))
 | [p0, p1, p2, p3, p4, p5, p6], h => cases h
 | [p0, p1, p2, p3, p4, p5, p6, p7], h => cases h
 | [p0, p1, p2, p3, p4, p5, p6, p7, p8], _ => exact Or.inr (Or.inr (Or.inr (Or.inr (Or.inr (⟨p0, p1, p2, p3, p4, p5, p6, p7, p8, rfl⟩)))))
 | p0 :: p1 :: p2 :: p3 :: p4 :: p5 :: p6 :: p7 :: p8 :: p9 :: r, h =>
   exfalso
   unfold okN lenR lenR lenR lenR lenR lenR lenR lenR lenR lenR at h
   simp only [Bool.or_eq_true, beq_iff_eq] at h
   omega
end Go.Ev
