/- Questions that are done once: the plain law, of numbers and lists alone. No conditions. -/
import Derived.Test.YtannijnkeaggfaaOnD
import Derived.IntWalk
namespace Go.Spec
open Go Go.Ev
/-- The number of question i. -/
def numAt (n0 : Int) (i : Nat) : Int := (n0 + (i : Int)) % 4294967296
/-- An asker, a doer, and what is on its way. -/
structure Tw where
  next : Int
  dnext : Int
  out : Option (Int × Int)
  kept : Option (Int × Int)
  did : List Int
  asked : List Int
  got : Int
  qn : List Int
  qq : List Int
  rn : List Int
  ra : List Int
theorem woL_len {xs : List Int} {j : Nat} (h : j < xs.length) : (woL j xs).length = xs.length - 1 := by
  simp [woL]; omega
theorem woL_getD {xs : List Int} {j : Nat} (h : j < xs.length) (i : Nat) : (woL j xs).getD i 0 = xs.getD (if i < j then i else i + 1) 0 := by
  simp only [woL, List.getD_eq_getElem?_getD, List.getElem?_append, List.length_take, List.getElem?_take, List.getElem?_drop]
  have hm : min j xs.length = j := by omega
  rw [hm]
  by_cases hi : i < j
  · simp [hi]
  · simp only [hi, if_false]
    rw [show j + 1 + (i - j) = i + 1 by omega]
theorem snoc_getD {xs : List Int} {y : Int} (i : Nat) : (xs ++ [y]).getD i 0 = if i = xs.length then y else xs.getD i 0 := by
  simp only [List.getD_eq_getElem?_getD, List.getElem?_append]
  by_cases h : i < xs.length
  · rw [if_pos h, if_neg (by omega)]
  · rw [if_neg h]
    by_cases e : i = xs.length
    · subst e; simp
    · rw [if_neg e, List.getElem?_eq_none (by simp; omega), List.getElem?_eq_none (by omega)]
theorem numAt_inj {n0 : Int} {i j : Nat} (hi : i ≤ 100000) (hj : j ≤ 100000) (h : numAt n0 i = numAt n0 j) : i = j := by
  unfold numAt at h; omega
theorem numAt_in (n0 : Int) (i : Nat) : 0 ≤ numAt n0 i ∧ numAt n0 i ≤ 4294967295 := by unfold numAt; omega
theorem numAt_succ (n0 : Int) (i : Nat) : addK .u32 (numAt n0 i) 1 = numAt n0 (i + 1) := by
  rw [addK_eq, IntKind.wrap_u32]; unfold numAt; omega
theorem numAt_pred (n0 : Int) (i : Nat) : subK .u32 (numAt n0 (i + 1)) 1 = numAt n0 i := by
  rw [subK_eq, IntKind.wrap_u32]; unfold numAt; omega
theorem numAt_zero {n0 : Int} (h : 0 ≤ n0 ∧ n0 ≤ 4294967295) : numAt n0 0 = n0 := by unfold numAt; omega
theorem numAt_before {n0 : Int} {i : Nat} (hi : i ≤ 100000) : numAt n0 i ≠ subK .u32 (numAt n0 0) 1 := by
  rw [subK_eq, IntKind.wrap_u32]; unfold numAt; omega
theorem befB_self (x : Int) : befB x x = false := by
  unfold befB
  have e : subK .u32 x x = 0 := by rw [subK_eq, IntKind.wrap_u32]; omega
  rw [e]; rfl
theorem numAt_diff {n0 : Int} {i : Nat} (hi : i ≤ 100000) : subK .u32 (numAt n0 i) (numAt n0 0) = (i : Int) := by
  rw [subK_eq, IntKind.wrap_u32]; unfold numAt; omega

/-- Questions that are on their way. -/
def QOk (n0 : Int) (asked qn qq : List Int) : Prop :=
  qq.length = qn.length ∧ ∀ j, j < qn.length → ∃ i, i < asked.length ∧ qn.getD j 0 = numAt n0 i ∧ qq.getD j 0 = asked.getD i 0
/-- Replies that are on their way. -/
def ROk (n0 : Int) (asked : List Int) (e : Nat) (rn ra : List Int) : Prop :=
  ra.length = rn.length ∧ ∀ j, j < rn.length → ∃ i, i < e ∧ rn.getD j 0 = numAt n0 i ∧ ra.getD j 0 = asked.getD i 0 * 4294967296 + ((i : Int) + 1)
theorem QOk.snoc {n0 : Int} {asked qn qq : List Int} (h : QOk n0 asked qn qq) {i : Nat} (hi : i < asked.length) {a b : Int} (ha : a = numAt n0 i) (hb : b = asked.getD i 0) : QOk n0 asked (qn ++ [a]) (qq ++ [b]) := by
  refine ⟨by simp [h.1], fun j hj => ?_⟩
  rw [snoc_getD, snoc_getD, h.1]
  simp at hj
  by_cases e : j = qn.length
  · rw [if_pos e, if_pos e]; exact ⟨i, hi, ha, hb⟩
  · rw [if_neg e, if_neg e]; exact h.2 j (by omega)
theorem ROk.snoc {n0 : Int} {asked : List Int} {e : Nat} {rn ra : List Int} (h : ROk n0 asked e rn ra) {i : Nat} (hi : i < e) {a b : Int} (ha : a = numAt n0 i) (hb : b = asked.getD i 0 * 4294967296 + ((i : Int) + 1)) : ROk n0 asked e (rn ++ [a]) (ra ++ [b]) := by
  refine ⟨by simp [h.1], fun j hj => ?_⟩
  rw [snoc_getD, snoc_getD, h.1]
  simp at hj
  by_cases e : j = rn.length
  · rw [if_pos e, if_pos e]; exact ⟨i, hi, ha, hb⟩
  · rw [if_neg e, if_neg e]; exact h.2 j (by omega)
theorem QOk.wo {n0 : Int} {asked qn qq : List Int} (h : QOk n0 asked qn qq) {j : Nat} (hj : j < qn.length) : QOk n0 asked (woL j qn) (woL j qq) := by
  have hq : j < qq.length := by rw [h.1]; exact hj
  refine ⟨by rw [woL_len hj, woL_len hq, h.1], fun i hi => ?_⟩
  rw [woL_len hj] at hi
  rw [woL_getD hj, woL_getD hq]
  exact h.2 _ (by split <;> omega)
theorem ROk.wo {n0 : Int} {asked : List Int} {e : Nat} {rn ra : List Int} (h : ROk n0 asked e rn ra) {j : Nat} (hj : j < rn.length) : ROk n0 asked e (woL j rn) (woL j ra) := by
  have hq : j < ra.length := by rw [h.1]; exact hj
  refine ⟨by rw [woL_len hj, woL_len hq, h.1], fun i hi => ?_⟩
  rw [woL_len hj] at hi
  rw [woL_getD hj, woL_getD hq]
  exact h.2 _ (by split <;> omega)
theorem QOk.more {n0 : Int} {asked qn qq : List Int} (h : QOk n0 asked qn qq) (x : Int) : QOk n0 (asked ++ [x]) qn qq := by
  refine ⟨h.1, fun j hj => ?_⟩
  obtain ⟨i, h1, h2, h3⟩ := h.2 j hj
  refine ⟨i, by simp; omega, h2, ?_⟩
  rw [snoc_getD, if_neg (by omega)]; exact h3
theorem ROk.more {n0 : Int} {asked : List Int} {e : Nat} {rn ra : List Int} (h : ROk n0 asked e rn ra) (he : e ≤ asked.length) (x : Int) : ROk n0 (asked ++ [x]) e rn ra := by
  refine ⟨h.1, fun j hj => ?_⟩
  obtain ⟨i, h1, h2, h3⟩ := h.2 j hj
  refine ⟨i, h1, h2, ?_⟩
  rw [snoc_getD, if_neg (by omega)]; exact h3
theorem ROk.up {n0 : Int} {asked : List Int} {e e' : Nat} {rn ra : List Int} (h : ROk n0 asked e rn ra) (he : e ≤ e') : ROk n0 asked e' rn ra :=
  ⟨h.1, fun j hj => let ⟨i, h1, h2, h3⟩ := h.2 j hj; ⟨i, by omega, h2, h3⟩⟩
def OutOk (n0 : Int) (asked : List Int) (e : Nat) (got : Int) : Option (Int × Int) → Prop
  | none => e = asked.length ∧ got = ((asked.length : Nat) : Int)
  | some (a, b) => 0 < asked.length ∧ a = numAt n0 (asked.length - 1) ∧ b = asked.getD (asked.length - 1) 0 ∧ got = ((asked.length : Nat) : Int) - 1 ∧ (e = asked.length - 1 ∨ e = asked.length)
def KeptOk (n0 : Int) (asked : List Int) (e : Nat) : Option (Int × Int) → Prop
  | none => e = 0
  | some (a, b) => 0 < e ∧ a = numAt n0 (e - 1) ∧ b = asked.getD (e - 1) 0 * 4294967296 + (e : Int)
structure Inv (n0 : Int) (c : Nat) (s : Tw) : Prop where
  n0in : 0 ≤ n0 ∧ n0 ≤ 4294967295
  next : s.next = numAt n0 s.asked.length
  dnext : s.dnext = numAt n0 s.did.length
  did : s.did = s.asked.take s.did.length
  le : s.did.length ≤ s.asked.length
  rng : ∀ x ∈ s.asked, 0 ≤ x ∧ x ≤ 4294967295
  out : OutOk n0 s.asked s.did.length s.got s.out
  kept : KeptOk n0 s.asked s.did.length s.kept
  q : QOk n0 s.asked s.qn s.qq
  r : ROk n0 s.asked s.did.length s.rn s.ra
  am : s.asked.length ≤ c
  qm : s.qn.length ≤ c
  rm : s.rn.length ≤ c
theorem getD_rng {l : List Int} (h : ∀ x ∈ l, 0 ≤ x ∧ x ≤ 4294967295) (i : Nat) : 0 ≤ l.getD i 0 ∧ l.getD i 0 ≤ 4294967295 := by
  rw [List.getD_eq_getElem?_getD]
  by_cases hi : i < l.length
  · rw [List.getElem?_eq_getElem hi]; exact h _ (List.getElem_mem hi)
  · rw [List.getElem?_eq_none (by omega)]; simp
theorem Inv.later {n0 : Int} {c : Nat} {s : Tw} (h : Inv n0 c s) : Inv n0 (c + 1) s :=
  ⟨h.n0in, h.next, h.dnext, h.did, h.le, h.rng, h.out, h.kept, h.q, h.r, Nat.le_succ_of_le h.am, Nat.le_succ_of_le h.qm, Nat.le_succ_of_le h.rm⟩
theorem Inv.ask {n0 : Int} {c : Nat} {s : Tw} (h : Inv n0 c s) (ho : s.out = none) {x : Int} (hx : 0 ≤ x ∧ x ≤ 4294967295) :
    Inv n0 (c + 1) { s with next := addK .u32 s.next 1, out := some (s.next, x), asked := s.asked ++ [x], qn := s.qn ++ [s.next], qq := s.qq ++ [x] } := by
  have ho' := h.out
  rw [ho] at ho'
  obtain ⟨o1, o2⟩ := ho'
  have hl : (s.asked ++ [x]).length = s.asked.length + 1 := by simp
  refine ⟨h.n0in, ?_, h.dnext, ?_, ?_, ?_, ?_, ?_, ?_, ?_, ?_, ?_, ?_⟩
  · show addK .u32 s.next 1 = numAt n0 (s.asked ++ [x]).length
    rw [hl, h.next, numAt_succ]
  · show s.did = (s.asked ++ [x]).take s.did.length
    rw [List.take_append_of_le_length (by have := h.le; omega)]; exact h.did
  · show s.did.length ≤ (s.asked ++ [x]).length
    have := h.le; omega
  · intro y hy
    rcases List.mem_append.1 hy with hy | hy
    · exact h.rng y hy
    · simp at hy; subst hy; exact hx
  · show 0 < (s.asked ++ [x]).length ∧ s.next = numAt n0 ((s.asked ++ [x]).length - 1) ∧ x = (s.asked ++ [x]).getD ((s.asked ++ [x]).length - 1) 0 ∧ s.got = (((s.asked ++ [x]).length : Nat) : Int) - 1 ∧ _
    rw [hl]
    refine ⟨by omega, by rw [h.next]; rfl, ?_, by omega, .inl ?_⟩
    · rw [snoc_getD, if_pos (by omega)]
    · show s.did.length = _
      omega
  · have hk := h.kept
    show KeptOk n0 (s.asked ++ [x]) s.did.length s.kept
    cases hs : s.kept with
    | none => rw [hs] at hk; exact hk
    | some p =>
      obtain ⟨a, b⟩ := p
      rw [hs] at hk
      obtain ⟨k1, k2, k3⟩ := hk
      refine ⟨k1, k2, ?_⟩
      rw [snoc_getD, if_neg (by have := h.le; omega)]; exact k3
  · refine (h.q.more x).snoc (i := s.asked.length) (by simp) h.next ?_
    rw [snoc_getD, if_pos rfl]
  · exact h.r.more h.le x
  · show (s.asked ++ [x]).length ≤ c + 1
    have := h.am; omega
  · show (s.qn ++ [s.next]).length ≤ c + 1
    have := h.qm; simp; omega
  · exact Nat.le_succ_of_le h.rm
theorem Inv.again {n0 : Int} {c : Nat} {s : Tw} (h : Inv n0 c s) {a b : Int} (ho : s.out = some (a, b)) : Inv n0 (c + 1) { s with qn := s.qn ++ [a], qq := s.qq ++ [b] } := by
  have ho' := h.out
  rw [ho] at ho'
  obtain ⟨o1, o2, o3, _⟩ := ho'
  exact ⟨h.n0in, h.next, h.dnext, h.did, h.le, h.rng, h.out, h.kept, h.q.snoc (i := s.asked.length - 1) (by omega) o2 o3, h.r, Nat.le_succ_of_le h.am, by have := h.qm; simp; omega, Nat.le_succ_of_le h.rm⟩
theorem Inv.qwo {n0 : Int} {c : Nat} {s : Tw} (h : Inv n0 c s) {j : Nat} (hj : j < s.qn.length) : Inv n0 (c + 1) { s with qn := woL j s.qn, qq := woL j s.qq } :=
  ⟨h.n0in, h.next, h.dnext, h.did, h.le, h.rng, h.out, h.kept, h.q.wo hj, h.r, Nat.le_succ_of_le h.am, by have := h.qm; show (woL j s.qn).length ≤ c + 1; rw [woL_len hj]; omega, Nat.le_succ_of_le h.rm⟩
theorem Inv.qdup {n0 : Int} {c : Nat} {s : Tw} (h : Inv n0 c s) {j : Nat} (hj : j < s.qn.length) : Inv n0 (c + 1) { s with qn := s.qn ++ [s.qn.getD j 0], qq := s.qq ++ [s.qq.getD j 0] } := by
  obtain ⟨i, h1, h2, h3⟩ := h.q.2 j hj
  exact ⟨h.n0in, h.next, h.dnext, h.did, h.le, h.rng, h.out, h.kept, h.q.snoc h1 h2 h3, h.r, Nat.le_succ_of_le h.am, by have := h.qm; simp; omega, Nat.le_succ_of_le h.rm⟩
theorem Inv.rwo {n0 : Int} {c : Nat} {s : Tw} (h : Inv n0 c s) {j : Nat} (hj : j < s.rn.length) : Inv n0 (c + 1) { s with rn := woL j s.rn, ra := woL j s.ra } :=
  ⟨h.n0in, h.next, h.dnext, h.did, h.le, h.rng, h.out, h.kept, h.q, h.r.wo hj, Nat.le_succ_of_le h.am, Nat.le_succ_of_le h.qm, by have := h.rm; show (woL j s.rn).length ≤ c + 1; rw [woL_len hj]; omega⟩
theorem Inv.rdup {n0 : Int} {c : Nat} {s : Tw} (h : Inv n0 c s) {j : Nat} (hj : j < s.rn.length) : Inv n0 (c + 1) { s with rn := s.rn ++ [s.rn.getD j 0], ra := s.ra ++ [s.ra.getD j 0] } := by
  obtain ⟨i, h1, h2, h3⟩ := h.r.2 j hj
  exact ⟨h.n0in, h.next, h.dnext, h.did, h.le, h.rng, h.out, h.kept, h.q, h.r.snoc h1 h2 h3, Nat.le_succ_of_le h.am, Nat.le_succ_of_le h.qm, by have := h.rm; simp; omega⟩
/-- What is answered: what was asked, and how many were done. -/
def ansOf (x : Int) (n : Nat) : Int := addK .u64 (shlK .u64 (IntKind.wrap .u64 x) 32) (IntKind.wrap .u64 (n : Int))
theorem ansOf_eq {x : Int} (hx : 0 ≤ x ∧ x ≤ 4294967295) {n : Nat} (hn : n ≤ 1000) : ansOf x n = x * 4294967296 + (n : Int) := by
  unfold ansOf
  rw [Go.IntWalk.u64_in _ (by omega), Go.IntWalk.u64_in _ (by omega), shlK_eq, addK_eq]
  have e : min (Int.toNat 32) (IntKind.bits .u64) = 32 := rfl
  rw [e, IntKind.wrap_u64, IntKind.wrap_u64]
  have : (2 : Int) ^ 32 = 4294967296 := rfl
  rw [this]; omega
/-- A question comes that is due. -/
theorem Inv.qnew {n0 : Int} {c : Nat} {s : Tw} (h : Inv n0 c s) (hc : c ≤ 300) {j : Nat} (hj : j < s.qn.length) (hd : s.qn.getD j 0 = s.dnext) :
    Inv n0 (c + 1) { s with dnext := addK .u32 s.dnext 1, kept := some (s.qn.getD j 0, ansOf (s.qq.getD j 0) (s.did.length + 1)), did := s.did ++ [s.qq.getD j 0], qn := woL j s.qn, qq := woL j s.qq, rn := s.rn ++ [s.qn.getD j 0], ra := s.ra ++ [ansOf (s.qq.getD j 0) (s.did.length + 1)] } := by
  obtain ⟨i, h1, h2, h3⟩ := h.q.2 j hj
  have hle := h.le
  have ham := h.am
  have ei : i = s.did.length := numAt_inj (n0 := n0) (by omega) (by omega) (by rw [← h2, hd, h.dnext])
  subst ei
  have hx := getD_rng h.rng s.did.length
  rw [← h3] at hx
  have ea := ansOf_eq hx (n := s.did.length + 1) (by omega)
  have hl : (s.did ++ [s.qq.getD j 0]).length = s.did.length + 1 := by simp
  refine ⟨h.n0in, h.next, ?_, ?_, ?_, h.rng, ?_, ?_, h.q.wo hj, ?_, Nat.le_succ_of_le h.am, ?_, ?_⟩
  · show addK .u32 s.dnext 1 = numAt n0 (s.did ++ [s.qq.getD j 0]).length
    rw [hl, h.dnext, numAt_succ]
  · show s.did ++ [s.qq.getD j 0] = s.asked.take (s.did ++ [s.qq.getD j 0]).length
    rw [hl, List.take_add_one, ← h.did, h3]
    congr 1
    rw [List.getD_eq_getElem?_getD, List.getElem?_eq_getElem h1]; rfl
  · show (s.did ++ [s.qq.getD j 0]).length ≤ s.asked.length
    omega
  · have ho := h.out
    show OutOk n0 s.asked (s.did ++ [s.qq.getD j 0]).length s.got s.out
    rw [hl]
    cases hs : s.out with
    | none => rw [hs] at ho; obtain ⟨o1, _⟩ := ho; omega
    | some p =>
      obtain ⟨a, b⟩ := p
      rw [hs] at ho
      obtain ⟨o1, o2, o3, o4, o5⟩ := ho
      exact ⟨o1, o2, o3, o4, by omega⟩
  · show 0 < (s.did ++ [s.qq.getD j 0]).length ∧ s.qn.getD j 0 = numAt n0 ((s.did ++ [s.qq.getD j 0]).length - 1) ∧ ansOf (s.qq.getD j 0) (s.did.length + 1) = s.asked.getD ((s.did ++ [s.qq.getD j 0]).length - 1) 0 * 4294967296 + (((s.did ++ [s.qq.getD j 0]).length : Nat) : Int)
    rw [hl, ea, h3, h2]
    exact ⟨by omega, rfl, rfl⟩
  · show ROk n0 s.asked (s.did ++ [s.qq.getD j 0]).length _ _
    rw [hl]
    refine (h.r.up (Nat.le_succ _)).snoc (i := s.did.length) (by omega) h2 ?_
    rw [ea, h3]; rfl
  · have := h.qm; show (woL j s.qn).length ≤ c + 1; rw [woL_len hj]; omega
  · have := h.rm; simp; omega
/-- The last one comes again. -/
theorem Inv.qold {n0 : Int} {c : Nat} {s : Tw} (h : Inv n0 c s) {j : Nat} (hj : j < s.qn.length) {a b : Int} (hk : s.kept = some (a, b)) :
    Inv n0 (c + 1) { s with qn := woL j s.qn, qq := woL j s.qq, rn := s.rn ++ [a], ra := s.ra ++ [b] } := by
  have hk' := h.kept
  rw [hk] at hk'
  obtain ⟨k1, k2, k3⟩ := hk'
  exact ⟨h.n0in, h.next, h.dnext, h.did, h.le, h.rng, h.out, h.kept, h.q.wo hj, h.r.snoc (i := s.did.length - 1) (by omega) k2 (by rw [k3]; omega), Nat.le_succ_of_le h.am,
    by have := h.qm; show (woL j s.qn).length ≤ c + 1; rw [woL_len hj]; omega, by have := h.rm; simp; omega⟩
/-- The reply comes that is waited for. -/
theorem Inv.rok {n0 : Int} {c : Nat} {s : Tw} (h : Inv n0 c s) (hc : c ≤ 300) {j : Nat} (hj : j < s.rn.length) {a b : Int} (ho : s.out = some (a, b)) (hn : s.rn.getD j 0 = a) :
    Inv n0 (c + 1) { s with out := none, got := addK .i64 s.got 1, rn := woL j s.rn, ra := woL j s.ra } ∧
    s.ra.getD j 0 = s.asked.getD (s.asked.length - 1) 0 * 4294967296 + ((s.asked.length : Nat) : Int) := by
  have ho' := h.out
  rw [ho] at ho'
  obtain ⟨o1, o2, o3, o4, o5⟩ := ho'
  obtain ⟨i, h1, h2, h3⟩ := h.r.2 j hj
  have hle := h.le
  have ham := h.am
  have ei : i = s.asked.length - 1 := numAt_inj (n0 := n0) (by omega) (by omega) (by rw [← h2, hn, o2])
  subst ei
  refine ⟨⟨h.n0in, h.next, h.dnext, h.did, h.le, h.rng, ⟨by show s.did.length = s.asked.length; omega, ?_⟩, h.kept, h.q, h.r.wo hj, Nat.le_succ_of_le h.am, Nat.le_succ_of_le h.qm,
    by have := h.rm; show (woL j s.rn).length ≤ c + 1; rw [woL_len hj]; omega⟩, ?_⟩
  · show addK .i64 s.got 1 = _
    show addK .i64 s.got 1 = ((s.asked.length : Nat) : Int)
    rw [o4, addK_eq, IntKind.wrap_i64]; omega
  · rw [h3]; omega
end Go.Spec
