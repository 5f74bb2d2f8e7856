/- Questions of which some are dropped: the plain law, of numbers and lists alone. No conditions. -/
import Derived.Test.YtannijnkeaggfaaOnP
namespace Go.Spec
open Go Go.Ev
def OutD (n0 : Int) (asked : List Int) : Option (Int × Int) → Prop
  | none => True
  | some (a, b) => 0 < asked.length ∧ a = numAt n0 (asked.length - 1) ∧ b = asked.getD (asked.length - 1) 0
structure InvD (n0 : Int) (c : Nat) (s : Tw) : Prop where
  n0in : 0 ≤ n0 ∧ n0 ≤ 4294967295
  next : s.next = numAt n0 s.asked.length
  dnext : s.dnext = numAt n0 s.did.length
  did : s.did = s.asked.take s.did.length
  le : s.did.length ≤ s.asked.length
  out : OutD n0 s.asked s.out
  q : QOk n0 s.asked s.qn s.qq
  r : s.ra.length = s.rn.length
  am : s.asked.length ≤ c
  qm : s.qn.length ≤ c
  rm : s.rn.length ≤ c
theorem InvD.later {n0 : Int} {c : Nat} {s : Tw} (h : InvD n0 c s) : InvD n0 (c + 1) s :=
  ⟨h.n0in, h.next, h.dnext, h.did, h.le, h.out, h.q, h.r, Nat.le_succ_of_le h.am, Nat.le_succ_of_le h.qm, Nat.le_succ_of_le h.rm⟩
theorem InvD.drop {n0 : Int} {c : Nat} {s : Tw} (h : InvD n0 c s) : InvD n0 (c + 1) { s with out := none } :=
  ⟨h.n0in, h.next, h.dnext, h.did, h.le, trivial, h.q, h.r, Nat.le_succ_of_le h.am, Nat.le_succ_of_le h.qm, Nat.le_succ_of_le h.rm⟩
theorem InvD.ask {n0 : Int} {c : Nat} {s : Tw} (h : InvD n0 c s) (x : Int) :
    InvD n0 (c + 1) { s with next := addK .u32 s.next 1, out := some (s.next, x), asked := s.asked ++ [x], qn := s.qn ++ [s.next], qq := s.qq ++ [x] } := by
  have hl : (s.asked ++ [x]).length = s.asked.length + 1 := by simp
  refine ⟨h.n0in, ?_, h.dnext, ?_, ?_, ?_, ?_, h.r, ?_, ?_, Nat.le_succ_of_le h.rm⟩
  · show addK .u32 s.next 1 = numAt n0 (s.asked ++ [x]).length
    rw [hl, h.next, numAt_succ]
  · show s.did = (s.asked ++ [x]).take s.did.length
    rw [List.take_append_of_le_length (by have := h.le; omega)]; exact h.did
  · show s.did.length ≤ (s.asked ++ [x]).length
    have := h.le; omega
  · show 0 < (s.asked ++ [x]).length ∧ s.next = numAt n0 ((s.asked ++ [x]).length - 1) ∧ x = (s.asked ++ [x]).getD ((s.asked ++ [x]).length - 1) 0
    rw [hl]
    exact ⟨by omega, by rw [h.next]; rfl, by rw [snoc_getD, if_pos (by omega)]⟩
  · refine (h.q.more x).snoc (i := s.asked.length) (by simp) h.next ?_
    rw [snoc_getD, if_pos rfl]
  · show (s.asked ++ [x]).length ≤ c + 1
    have := h.am; omega
  · show (s.qn ++ [s.next]).length ≤ c + 1
    have := h.qm; simp; omega
theorem InvD.again {n0 : Int} {c : Nat} {s : Tw} (h : InvD n0 c s) {a b : Int} (ho : s.out = some (a, b)) : InvD n0 (c + 1) { s with qn := s.qn ++ [a], qq := s.qq ++ [b] } := by
  have ho' := h.out
  rw [ho] at ho'
  obtain ⟨o1, o2, o3⟩ := ho'
  exact ⟨h.n0in, h.next, h.dnext, h.did, h.le, h.out, h.q.snoc (i := s.asked.length - 1) (by omega) o2 o3, h.r, Nat.le_succ_of_le h.am, by have := h.qm; simp; omega, Nat.le_succ_of_le h.rm⟩
theorem InvD.qwo {n0 : Int} {c : Nat} {s : Tw} (h : InvD n0 c s) {j : Nat} (hj : j < s.qn.length) : InvD n0 (c + 1) { s with qn := woL j s.qn, qq := woL j s.qq } :=
  ⟨h.n0in, h.next, h.dnext, h.did, h.le, h.out, h.q.wo hj, h.r, Nat.le_succ_of_le h.am, by have := h.qm; show (woL j s.qn).length ≤ c + 1; rw [woL_len hj]; omega, Nat.le_succ_of_le h.rm⟩
theorem InvD.qdup {n0 : Int} {c : Nat} {s : Tw} (h : InvD n0 c s) {j : Nat} (hj : j < s.qn.length) : InvD n0 (c + 1) { s with qn := s.qn ++ [s.qn.getD j 0], qq := s.qq ++ [s.qq.getD j 0] } := by
  obtain ⟨i, h1, h2, h3⟩ := h.q.2 j hj
  exact ⟨h.n0in, h.next, h.dnext, h.did, h.le, h.out, h.q.snoc h1 h2 h3, h.r, Nat.le_succ_of_le h.am, by have := h.qm; simp; omega, Nat.le_succ_of_le h.rm⟩
theorem wo_both {rn ra : List Int} (h : ra.length = rn.length) {j : Nat} (hj : j < rn.length) : (woL j ra).length = (woL j rn).length := by rw [woL_len hj, woL_len (by omega), h]
theorem InvD.rwo {n0 : Int} {c : Nat} {s : Tw} (h : InvD n0 c s) {j : Nat} (hj : j < s.rn.length) : InvD n0 (c + 1) { s with rn := woL j s.rn, ra := woL j s.ra } :=
  ⟨h.n0in, h.next, h.dnext, h.did, h.le, h.out, h.q, wo_both h.r hj, Nat.le_succ_of_le h.am, Nat.le_succ_of_le h.qm, by have := h.rm; show (woL j s.rn).length ≤ c + 1; rw [woL_len hj]; omega⟩
theorem InvD.rdup {n0 : Int} {c : Nat} {s : Tw} (h : InvD n0 c s) (a b : Int) : InvD n0 (c + 1) { s with rn := s.rn ++ [a], ra := s.ra ++ [b] } :=
  ⟨h.n0in, h.next, h.dnext, h.did, h.le, h.out, h.q, by simp [h.r], Nat.le_succ_of_le h.am, Nat.le_succ_of_le h.qm, by have := h.rm; simp; omega⟩
/-- A question comes that is due. -/
theorem InvD.qnew {n0 : Int} {c : Nat} {s : Tw} (h : InvD n0 c s) (hc : c ≤ 300) {j : Nat} (hj : j < s.qn.length) (hd : s.qn.getD j 0 = s.dnext) (kp : Option (Int × Int)) (a b : Int) :
    InvD n0 (c + 1) { s with dnext := addK .u32 s.dnext 1, kept := kp, did := s.did ++ [s.qq.getD j 0], qn := woL j s.qn, qq := woL j s.qq, rn := s.rn ++ [a], ra := s.ra ++ [b] } := by
  obtain ⟨i, h1, h2, h3⟩ := h.q.2 j hj
  have hle := h.le
  have ham := h.am
  have ei : i = s.did.length := numAt_inj (n0 := n0) (by omega) (by omega) (by rw [← h2, hd, h.dnext])
  subst ei
  have hl : (s.did ++ [s.qq.getD j 0]).length = s.did.length + 1 := by simp
  refine ⟨h.n0in, h.next, ?_, ?_, ?_, h.out, h.q.wo hj, ?_, Nat.le_succ_of_le h.am, ?_, ?_⟩
  · show addK .u32 s.dnext 1 = numAt n0 (s.did ++ [s.qq.getD j 0]).length
    rw [hl, h.dnext, numAt_succ]
  · show s.did ++ [s.qq.getD j 0] = s.asked.take (s.did ++ [s.qq.getD j 0]).length
    rw [hl, List.take_add_one, ← h.did, h3]
    congr 1
    rw [List.getD_eq_getElem?_getD, List.getElem?_eq_getElem h1]; rfl
  · show (s.did ++ [s.qq.getD j 0]).length ≤ s.asked.length
    omega
  · show (s.ra ++ [b]).length = (s.rn ++ [a]).length
    simp [h.r]
  · have := h.qm; show (woL j s.qn).length ≤ c + 1; rw [woL_len hj]; omega
  · have := h.rm; simp; omega
theorem InvD.qold {n0 : Int} {c : Nat} {s : Tw} (h : InvD n0 c s) {j : Nat} (hj : j < s.qn.length) (a b : Int) :
    InvD n0 (c + 1) { s with qn := woL j s.qn, qq := woL j s.qq, rn := s.rn ++ [a], ra := s.ra ++ [b] } :=
  ⟨h.n0in, h.next, h.dnext, h.did, h.le, h.out, h.q.wo hj, by simp [h.r], Nat.le_succ_of_le h.am,
    by have := h.qm; show (woL j s.qn).length ≤ c + 1; rw [woL_len hj]; omega, by have := h.rm; simp; omega⟩
/-- A reply is taken. -/
theorem InvD.rok {n0 : Int} {c : Nat} {s : Tw} (h : InvD n0 c s) {j : Nat} (hj : j < s.rn.length) (g : Int) :
    InvD n0 (c + 1) { s with out := none, got := g, rn := woL j s.rn, ra := woL j s.ra } :=
  ⟨h.n0in, h.next, h.dnext, h.did, h.le, trivial, h.q, wo_both h.r hj, Nat.le_succ_of_le h.am, Nat.le_succ_of_le h.qm, by have := h.rm; show (woL j s.rn).length ≤ c + 1; rw [woL_len hj]; omega⟩
end Go.Spec
