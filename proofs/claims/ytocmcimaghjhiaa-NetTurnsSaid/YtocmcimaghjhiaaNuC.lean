/- The law NetTurns: its loops and its run. No conditions. -/
import Derived.Test.YtocmcimaghjhiaaNuW
import Derived.Test.YtocmcimaghjhiaaNuP
import Derived.Test.YtocmcimaghjhiaaWkN
import Derived.Test.YtocmcimaghjhiaaNvT0
import Derived.Test.YtocmcimaghjhiaaNvT1
import Derived.Test.YtocmcimaghjhiaaNvT2
import Derived.Test.YtocmcimaghjhiaaNvT3
import Derived.Test.YtocmcimaghjhiaaNvT4
import Derived.Test.YtocmcimaghjhiaaNvT5
set_option linter.unusedVariables false
set_option linter.unusedSimpArgs false
set_option maxHeartbeats 4000000
namespace Go.Ev
open Go Go.Proofs Go.Spec
attribute [local irreducible] ev evCall branch need again
theorem cxNu_ok : CxOk Try.prog cxNu := mkCx_ok namesN mixedN (by
  intro x h
  simp only [List.mem_cons, List.not_mem_nil, or_false] at h
  rcases h with rfl | rfl | rfl | rfl | rfl
  · exact known_sum
  · exact send_sum
  · exact peek_sum
  · exact twice_sum
  · exact turn_sum)
theorem strEq_refl (s : ByteArray) : strEq s s = true := by simp [strEq]
theorem eqK_refl (x : Int) : eqK x x = true := eqK_t.2 rfl
theorem nn {b : Bool} (h : b = true) : Bool.not b = false := by rw [h]; rfl
theorem brn {b : Bool} {p q : Prop} (h : b = true) (h1 : q) : branch (Bool.not b) p q := by subst h; exact br (fun e => by cases e) fun _ => h1
theorem brT {b : Bool} {p q : Prop} (h : b = true) (h1 : p) : branch b p q := by subst h; exact br (fun _ => h1) fun e => by cases e
variable {n : Nat} {fs ts us b wb : List Int} {bs : List (List Int)} {q bit most f t a bits c i : Int} {L N M : Nat} {k : SV → St → Prop}
theorem r5z (h : hd4 n fs ts us b wb bs q bit most f t a bits (addK .i64 i 1) N M k) : hd5 n fs ts us b wb bs q bit most f t a bits 0 i L (N + 1) M k := by
  refine Eq.mpr (t_nv5 ..) (Again.mk (brf (by decide) ?_))
  exact h
theorem r5s (hc : c > 0) (ha : andK .u8 c (subK .u8 c 1) = 0) (h : hd4 n fs ts us b wb bs q bit most f t a (addK .i64 bits 1) (addK .i64 i 1) N M k) : hd5 n fs ts us b wb bs q bit most f t a bits c i (L + 1) (N + 1) M k := by
  refine Eq.mpr (t_nv5 ..) (Again.mk (brt hc ?_))
  rw [ha]
  exact r5z (L := L) h
/-- How many bits were met. -/
def bitsAt (bit : Int) (wb : List Int) (i : Nat) : Int := if byT bit wb < i then 1 else 0
structure Good0 (n : Nat) (fs ts us : List Int) (bs : List (List Int)) (bit : Int) (wb : List Int) : Prop where
  len : fs.length = n ∧ ts.length = n ∧ bs.length = n ∧ us.length = n ∧ n ≤ 1000000
  few : n ≤ 100
  pos : 0 < n
  ok : okB wb
  sm : wb.length ≤ 100000
  bit : inI bit = true
  smalls : ∀ j, smallB (bs.getD j []) = true
theorem Good0.n1 (g : Good0 n fs ts us bs bit wb) : placeN (n : Int) (n + 1) = n := place_self (by omega) (by have := g.few; omega)
theorem inI_nat {j : Nat} (h : j ≤ 1000000) : inI (j : Int) = true := by unfold inI; exact decide_eq_true (by omega)
theorem fin4 (g : Good0 n fs ts us bs bit wb) (hk : k (.sa (.one (bv true))) [lIn n fs ts bs]) (hi : i = ((wb.length : Nat) : Int)) (hb : bits = if wb.length = 0 then 0 else 1) : hd4 n fs ts us (turnB bit wb) wb bs q bit most f t a bits i L M k := by
  have hlen := turnB_len bit wb
  have gsm := g.sm
  refine Eq.mpr (t_nv4 (c := 0) ..) (Again.mk (brf (by omega) ?_))
  refine brn (eqK_t.2 ?_) ?_
  · rw [hb]; split <;> split <;> omega
  have nOk := decide_eq_true g.len
  have h1 := inI_nat (j := n) (by have := g.few; omega)
  have h2 : fewB (turnB bit wb) = true := fewB_iff.2 (by omega)
  have h3 : smallB (turnB bit (turnB bit wb)) = true := smallB_iff.2 (by rw [turnB_len]; omega)
  refine nd (by simp only [nOk, h1, g.bit, h2, decide_eq_true g.n1, Bool.and_self]) ?_
  refine nd (by simp only [nOk, h1, h3, g.smalls, Bool.and_self]) ?_
  rw [g.n1]
  refine brf (by omega) (brT (eqK_refl _) (brT (eqK_refl _) ?_))
  rw [turn_twice bit g.ok g.sm, List.take_length, strEq_refl]
  exact ndd (by omega) (ndd (by omega) hk)
theorem loop4 (g : Good0 n fs ts us bs bit wb) (hk : k (.sa (.one (bv true))) [lIn n fs ts bs]) : ∀ (rem j L : Nat), j + rem = wb.length → rem + 1 ≤ L → hd4 n fs ts us (turnB bit wb) wb bs q bit most f t a (bitsAt bit wb j) (j : Int) L M k := by
  intro rem
  have hlen := turnB_len bit wb
  have gsm := g.sm
  induction rem with
  | zero =>
    intro j L hj hL
    refine fin4 g hk (by omega) ?_
    unfold bitsAt
    by_cases h0 : wb.length = 0
    · rw [if_pos h0, if_neg (by omega)]
    · have := byT_lt bit (b := wb) (by omega) g.sm
      rw [if_neg h0, if_pos (by omega)]
  | succ rem ih =>
    intro j L hj hL
    obtain ⟨L, rfl⟩ : ∃ L', L = L' + 1 := ⟨L - 1, by omega⟩
    have hjl : j < wb.length := by omega
    obtain ⟨y1, y2⟩ := turn_byte bit g.ok g.sm hjl
    have hn := ih (j + 1) L (by omega) (by omega)
    have hadd : addK .i64 (j : Int) 1 = ((j + 1 : Nat) : Int) := by rw [add64 (by omega)]; omega
    refine Eq.mpr (t_nv4 (c := 0) ..) (Again.mk (brt (by omega) ?_))
    simp only [Nat.zero_add, Int.toNat_natCast]
    refine ndd (by omega) (ndd (by omega) (ndd (by omega) (ndd (by omega) (ndd (by omega) (ndd (by omega) ?_)))))
    by_cases e : j = byT bit wb
    · obtain ⟨r, r1, r2⟩ := y1 e
      obtain ⟨p1, p2, p3⟩ := one_bit r1
      rw [r2]
      refine r5s (L := L) (N := L) p1 p3 ?_
      rw [hadd]
      have : addK .i64 (bitsAt bit wb j) 1 = bitsAt bit wb (j + 1) := by unfold bitsAt; rw [if_neg (by omega), if_pos (by omega)]; decide
      rw [this]
      exact hn
    · rw [y2 e]
      refine r5z (N := L) ?_
      rw [hadd]
      have : bitsAt bit wb j = bitsAt bit wb (j + 1) := by unfold bitsAt; split <;> split <;> omega
      rw [this]
      exact hn
theorem loop3 (g : Good0 n fs ts us bs bit wb) (hk : k (.sa (.one (bv true))) [lIn n fs ts bs]) (hM : wb.length + 1 ≤ M) : ∀ (rem j L : Nat), j + rem = n → rem ≤ L → hd3 n fs ts us (turnB bit wb) wb bs q bit most f t a (j : Int) L M k := by
  intro rem
  have hlen := turnB_len bit wb
  have gsm := g.sm
  have gf := g.few
  have nOk := decide_eq_true g.len
  have h2 : smallB (turnB bit wb) = true := smallB_iff.2 (by omega)
  induction rem with
  | zero =>
    intro j L hj hL
    refine Eq.mpr (t_nv3 ..) (Again.mk (brf (by omega) ?_))
    refine nd (by simp only [nOk, inI_nat (j := n) (by omega), h2, g.smalls, Bool.and_self]) ?_
    rw [g.n1]
    refine brf (by omega) (brn (eqK_refl _) (brn (eqK_refl _) (brn (eqK_refl _) (brn (eqK_t.2 (by omega)) ?_))))
    have h4 := loop4 (q := q) (most := most) (f := f) (t := t) (a := a) (M := M) g hk wb.length 0 M (by omega) hM
    have e0 : bitsAt bit wb 0 = 0 := by unfold bitsAt; rw [if_neg (by omega)]
    rw [e0] at h4
    exact h4
  | succ rem ih =>
    intro j L hj hL
    obtain ⟨L, rfl⟩ : ∃ L', L = L' + 1 := ⟨L - 1, by omega⟩
    have hp : placeN (j : Int) (n + 1) = j := place_self (by omega) (by omega)
    refine Eq.mpr (t_nv3 ..) (Again.mk (brt (by omega) ?_))
    simp only [Nat.zero_add, Int.toNat_natCast, List.take_length]
    refine ndd (by omega) (ndd (by omega) (ndd (by omega) ?_))
    refine nd (by simp only [nOk, inI_nat (j := j) (by omega), h2, g.smalls, Bool.and_self]) ?_
    rw [hp]
    refine brt (by omega) (brT (eqK_refl _) (brT (eqK_refl _) (ndd (Nat.le_refl _) (ndd (Nat.le_refl _) (brn (strEq_refl _) ?_)))))
    rw [show addK .i64 (j : Int) 1 = ((j + 1 : Nat) : Int) by rw [add64 (by omega)]; omega]
    exact ih (j + 1) L (by omega) (by omega)
/-- The times of the first ones. -/
def usN (i : Nat) : List Int := (List.range i).map fun (x : Nat) => IntKind.wrap .u64 (x : Int)
theorem usN_succ (i : Nat) : usN (i + 1) = usN i ++ [IntKind.wrap .u64 (i : Int)] := by unfold usN; rw [List.range_succ, List.map_append]; rfl
theorem take_snoc {α : Type} (d : α) {l : List α} {i : Nat} (h : i < l.length) : l.take (i + 1) = l.take i ++ [l.getD i d] := by
  rw [List.take_succ_eq_append_getElem h, List.getD_eq_getElem?_getD, List.getElem?_eq_getElem h]; rfl
theorem loop2 (lens : fs.length = n ∧ ts.length = n ∧ bs.length = n) (hn : n ≤ 100) (h0 : 0 < n) (hbs : ∀ j, (bs.getD j []).length ≤ 20000) (hok : ∀ j, okB (bs.getD j [])) (hq : inI q = true) (hbit : inI bit = true)
    (hk : k (.sa (.one (bv true))) [lIn n fs ts bs]) (hM : 20101 ≤ M) : ∀ (rem j L : Nat), j + rem = n → rem ≤ L → hd2 n j fs ts (fs.take j) (ts.take j) (usN j) bs (bs.take j) q bit ((n : Int) + 1) (j : Int) L M k := by
  intro rem
  obtain ⟨l1, l2, l3⟩ := lens
  have lu : ∀ j, (usN j).length = j := fun j => by unfold usN; simp
  induction rem with
  | zero =>
    intro j L hj hL
    have e : j = n := by omega
    subst e
    have e1 : fs.take j = fs := List.take_of_length_le (by omega)
    have e2 : ts.take j = ts := List.take_of_length_le (by omega)
    have e3 : bs.take j = bs := List.take_of_length_le (by omega)
    rw [e1, e2, e3]
    obtain ⟨p1, p2⟩ := placeK_in q (n := j) h0 (by omega)
    have hlen : fs.length = j ∧ ts.length = j ∧ bs.length = j ∧ (usN j).length = j ∧ j ≤ 1000000 := ⟨l1, l2, l3, lu j, by omega⟩
    have g : Good0 j fs ts (usN j) bs bit (bs.getD (placeN q j) []) := ⟨hlen, hn, h0, hok _, by have := hbs (placeN q j); omega, hbit, fun x => smallB_iff.2 (by have := hbs x; omega)⟩
    have nOk := decide_eq_true hlen
    have hf : fewB (bs.getD (placeN q j) []) = true := fewB_iff.2 g.sm
    refine Eq.mpr (t_nv2 ..) (Again.mk (brf (by omega) ?_))
    refine nd (by simp only [nOk, decide_eq_true h0, hq, g.smalls, Bool.and_self]) ?_
    refine nd (by simp only [nOk, decide_eq_true (show 0 < j ∧ ((j : Nat) : Int) < (j : Int) + 1 by omega), hq, g.smalls, Bool.and_self]) ?_
    refine nd (by simp only [nOk, inI_nat (j := j) (by omega), hbit, hf, decide_eq_true g.n1, Bool.and_self]) ?_
    refine brn (by rw [show (decide (((List.length (List.getD bs (placeN q j) []) : Nat) : Int) > 0)) = decide (0 < List.length (List.getD bs (placeN q j) [])) from decide_eq_decide.2 (by omega)]; simp) ?_
    have h3 := loop3 (q := q) (most := (j : Int) + 1) (f := fs.getD (placeN q j) 0) (t := ts.getD (placeN q j) 0) (a := (usN j).getD (placeN q j) 0) (M := M) g hk (by have := hbs (placeN q j); omega) j 0 M (by omega) (by omega)
    exact h3
  | succ rem ih =>
    intro j L hj hL
    obtain ⟨L, rfl⟩ : ∃ L', L = L' + 1 := ⟨L - 1, by omega⟩
    refine Eq.mpr (t_nv2 ..) (Again.mk (brt (by omega) ?_))
    simp only [Nat.zero_add, Int.toNat_natCast]
    refine ndd (by omega) (ndd (by omega) (ndd (by omega) ?_))
    have hlen : (fs.take j).length = j ∧ (ts.take j).length = j ∧ (bs.take j).length = j ∧ (usN j).length = j ∧ j ≤ 1000000 := ⟨by rw [List.length_take]; omega, by rw [List.length_take]; omega, by rw [List.length_take]; omega, lu j, by omega⟩
    refine nd (by simp only [decide_eq_true hlen, decide_eq_true (show (bs.getD j []).length ≤ 140737488355328 by have := hbs j; omega), Bool.and_self]) ?_
    refine brf (by omega) ?_
    rw [← take_snoc 0 (by omega), ← take_snoc 0 (by omega), ← take_snoc [] (by omega), ← usN_succ, show addK .i64 (j : Int) 1 = ((j + 1 : Nat) : Int) by rw [add64 (by omega)]; omega]
    exact ih (j + 1) L (by omega) (by omega)
theorem loop1 (lens : fs.length = n ∧ ts.length = n ∧ bs.length = n) (hmax : ∀ j, (bs.getD j []).length ≤ 140737488355328) (hok : ∀ j, okB (bs.getD j [])) (hq : inI q = true) (hbit : inI bit = true) (hnn : n ≤ 140737488355328)
    (hk : k (.sa (.one (bv true))) [lIn n fs ts bs]) (hM : 20101 ≤ M) : ∀ (rem j L : Nat) (s : Int), 0 ≤ s ∧ s ≤ 20000 → (∀ x, x < j → (bs.getD x []).length ≤ 20000) → j + rem = n → rem ≤ L → hd1 n fs ts bs q bit s (j : Int) L M k := by
  intro rem
  induction rem with
  | zero =>
    intro j L s hs hx hj hL
    refine Eq.mpr (t_nv1 ..) (Again.mk (brf (by omega) ?_))
    refine brd (fun _ => hk) (fun c1 => ?_)
    refine bre (fun _ => hk) (fun c2 => ?_)
    have hb : ∀ x, (bs.getD x []).length ≤ 20000 := fun x => by
      by_cases h : x < j
      · exact hx x h
      · rw [List.getD_eq_getElem?_getD, List.getElem?_eq_none (by omega)]; exact Nat.zero_le _
    have e1 : addK .i64 ((n : Nat) : Int) 1 = (n : Int) + 1 := by rw [add64 (by omega)]
    rw [e1, if_neg (show ¬ (100000 : Int) < (n : Int) + 1 by omega), if_pos (show (n : Int) + 1 > 0 by omega)]
    exact loop2 lens (by omega) (by omega) hb hok hq hbit hk hM n 0 M (by omega) (by omega)
  | succ rem ih =>
    intro j L s hs hx hj hL
    obtain ⟨L, rfl⟩ : ∃ L', L = L' + 1 := ⟨L - 1, by omega⟩
    refine Eq.mpr (t_nv1 ..) (Again.mk (brt (by omega) ?_))
    simp only [Nat.zero_add, Int.toNat_natCast]
    refine ndd (by omega) (ndd (by omega) (ndd (by omega) ?_))
    have hm := hmax j
    have e1 : addK .i64 s (((bs.getD j []).length : Nat) : Int) = s + (((bs.getD j []).length : Nat) : Int) := add64 (by omega)
    rw [e1]
    refine brd (fun _ => hk) (fun c1 => ?_)
    rw [show addK .i64 (j : Int) 1 = ((j + 1 : Nat) : Int) by rw [add64 (by omega)]; omega]
    refine ih (j + 1) L _ ⟨by omega, by omega⟩ (fun x hx2 => ?_) (by omega) (by omega)
    by_cases h : x = j
    · subst h; omega
    · exact hx x (by omega)
theorem nt_run (lens : fs.length = n ∧ ts.length = n ∧ bs.length = n) (hmax : ∀ j, (bs.getD j []).length ≤ 140737488355328) (hok : ∀ j, okB (bs.getD j [])) (hq : inI q = true) (hbit : inI bit = true) (hnn : n ≤ 140737488355328)
    (hk : k (.sa (.one (bv true))) [lIn n fs ts bs]) : ∃ N, evCall cxNu (ev cxNu N) 4 [.one (.ref 0), .one (iv .i64 q), .one (iv .i64 bit)] [lIn n fs ts bs] k := by
  refine ⟨n + 20101 + 80, Eq.mpr (t_nv0 ..) ?_⟩
  exact loop1 lens hmax hok hq hbit hnn hk (M := n + 20101) (by omega) n 0 (n + 20101) 0 ⟨by omega, by omega⟩ (fun x hx => absurd hx (Nat.not_lt_zero _)) (by omega) (by omega)
end Go.Ev
