/- The law ResetDenied, run: whatever the wish is. No conditions. -/
import Derived.Test.YtjeinfbicgpkiaaRdK0
import Derived.Test.YtjeinfbicgpkiaaRdK1
import Derived.Test.YtjeinfbicgpkiaaRdK2
import Derived.Test.YtjeinfbicgpkiaaRdK3
import Derived.Test.YtjeinfbicgpkiaaRaS
import Derived.Test.YtjeinfbicgpkiaaWkD
set_option linter.unusedVariables false
set_option linter.unusedSimpArgs false
namespace Go.Ev
open Go Go.Proofs Go.Spec
attribute [local irreducible] ev evCall branch need again
theorem cxRd_ok : CxOk Try.prog cxRd := mkCx_ok (by kernel_rfl) (by kernel_rfl) (by
  intro y h
  simp only [List.mem_cons, List.not_mem_nil, or_false] at h
  rcases h with rfl | rfl | rfl | rfl | rfl | rfl | rfl
  · exact known_sum
  · exact there_sum
  · exact all_sum
  · exact coM_sum
  · exact does_sum
  · exact ans_sum
  · exact clone16_sum)
theorem resetL_len : ∀ (xs qs : List Int), (resetL xs qs).length = qs.length
  | [], _ => rfl
  | x :: r, qs => by rw [resetL, resetL_len r, List.length_set]
theorem doB1 (t : Int) (xs : List Int) : doB 1 t xs = thereB t xs := rfl
theorem doB2 (t : Int) (xs : List Int) : doB 2 t xs = false := rfl
theorem moB1 (t m : Int) : moB 1 t m = false := rfl
theorem moB2 (t m : Int) : moB 2 t m = decide (t + m ≤ 16) := rfl
theorem allLt_of {n : Nat} {xs : List Int} (h : okU16 xs = true) (h2 : thereB (n : Int) xs = true) : allLt n xs = true :=
  List.all_eq_true.2 fun x hx => decide_eq_true ⟨(u16_all h x hx).1, there_lt h2 x hx⟩
theorem allLt_up (n : Nat) : allLt n (upI 0 n) = true :=
  List.all_eq_true.2 fun x hx => by have := upI_mem hx; exact decide_eq_true ⟨this.1, by omega⟩
theorem brF {a b : Prop} (h : b) : branch false a b := br (fun e => by cases e) (fun _ => h)
theorem brNot {c : Bool} {a b : Prop} (h1 : c = false → a) (h2 : c = true → b) : branch (Bool.not c) a b := by
  cases c
  · exact br (fun _ => h1 rfl) (fun e => by cases e)
  · exact br (fun e => by cases e) (fun _ => h2 rfl)
theorem okQ1 (m : Int) : okQ 1 m = true := rfl
theorem okQ2 {m : Int} (h : 0 < m) : okQ 2 m = true := decide_eq_true h
theorem up_len (n : Nat) : (upI 0 n).length = n := upI_len n 0
theorem rd_run (s i kd more : Int) (xs : List Int) (hs : 0 ≤ s ∧ s ≤ 65535) (hi : 0 ≤ i ∧ i ≤ 65535) (hk : 0 ≤ kd ∧ kd ≤ 255) (hm : 0 ≤ more ∧ more ≤ 65535) (hx : ∀ x ∈ xs, 0 ≤ x ∧ x ≤ 65535) (hl : xs.length ≤ 140737488355328) (k : SV → St → Prop) (hT : ∀ st, k (.sa (.one (bv true))) st) :
    ∃ N, evCall cxRd (ev cxRd N) 6 [.one (iv .u16 s), .one (iv .u16 i), .agg [iv .u8 kd, .ref 0, iv .u16 more]] [rd16 xs] k := by
  refine ⟨300, ?_⟩
  obtain ⟨S, rfl⟩ : ∃ S : Nat, s = (S : Int) := ⟨s.toNat, by omega⟩
  obtain ⟨I, rfl⟩ : ∃ I : Nat, i = (I : Int) := ⟨i.toNat, by omega⟩
  obtain ⟨Q, rfl⟩ : ∃ Q : Nat, more = (Q : Int) := ⟨more.toNat, by omega⟩
  have hok : okU16 xs = true := List.all_eq_true.2 fun x hx' => decide_eq_true (hx x hx')
  have hif1 : (if (0 > (S : Int)) then (0 : Int) else (S : Int)) = S := by split <;> omega
  have hif2 : (if ((I : Int) > 0) then (I : Int) else (0 : Int)) = I := by split <;> omega
  have w1 : IntKind.wrap .i64 (S : Int) = S := Go.IntWalk.i64_in _ (by omega)
  have w2 : IntKind.wrap .i64 (I : Int) = I := Go.IntWalk.i64_in _ (by omega)
  have w3 : IntKind.wrap .i64 (Q : Int) = Q := Go.IntWalk.i64_in _ (by omega)
  have a1 : addK .i64 (S : Int) (Q : Int) = S + Q := add64 (by omega)
  have a2 : addK .i64 (I : Int) (Q : Int) = I + Q := add64 (by omega)
  have hlt := fun h2 => allLt_of (n := S) hok h2
  have hup := allLt_up S
  have cases4 : kd = 0 ∨ kd = 1 ∨ kd = 2 ∨ ∃ m : Nat, kd = ((m + 3 : Nat) : Int) := by
    by_cases h : kd = 0
    · exact .inl h
    · by_cases h1 : kd = 1
      · exact .inr (.inl h1)
      · by_cases h2 : kd = 2
        · exact .inr (.inr (.inl h2))
        · exact .inr (.inr (.inr ⟨(kd - 3).toNat, by omega⟩))
  rcases cases4 with rfl | rfl | rfl | ⟨m, rfl⟩
  · rw [t_rd0 (N := 0)]
    simp only [Int.toNat_natCast, List.take_length, List.length_take, List.length_replicate, List.length_append, resetL_len, up_len, Nat.min_self, hif1, hif2, w1, w2, w3, a1, a2]
    repeat' first
      | exact hT _
      | (exfalso; omega)
      | with_reducible refine ndd (by omega) ?_
      | with_reducible refine brd (fun _ => ?_) (fun _ => ?_)
      | with_reducible refine bre (fun _ => ?_) (fun _ => ?_)
  · rw [t_rd1 (N := 0)]
    simp only [Int.toNat_natCast, List.take_length, List.length_take, List.length_replicate, List.length_append, resetL_len, up_len, Nat.min_self, hif1, hif2, w1, w2, w3, a1, a2, doB1, moB1]
    repeat' first
      | exact hT _
      | (exfalso; omega)
      | with_reducible refine ndd (by omega) ?_
      | refine nd (Bool.and_eq_true_iff.2 ⟨decide_eq_true (by first | omega | (simp only [true_and]; omega)), Bool.and_eq_true_iff.2 ⟨by first | exact okQ1 _ | exact okQ2 (by omega), hlt ‹_›⟩⟩) ?_
      | refine nd (Bool.and_eq_true_iff.2 ⟨decide_eq_true (by first | omega | (simp only [true_and]; omega)), by first | exact hok | exact hup | exact hlt ‹_›⟩) ?_
      | with_reducible refine brd (fun _ => ?_) (fun _ => ?_)
      | with_reducible refine bre (fun _ => ?_) (fun _ => ?_)
      | with_reducible refine brF ?_
      | with_reducible refine brNot (fun _ => ?_) (fun _ => ?_)
      | with_reducible refine br (fun _ => ?_) (fun _ => ?_)
  · rw [t_rd2 (N := 0)]
    simp only [Int.toNat_natCast, List.take_length, List.length_take, List.length_replicate, List.length_append, resetL_len, up_len, Nat.min_self, hif1, hif2, w1, w2, w3, a1, a2, doB2, moB2]
    repeat' first
      | exact hT _
      | (exfalso; omega)
      | with_reducible refine ndd (by omega) ?_
      | refine nd (Bool.and_eq_true_iff.2 ⟨decide_eq_true (by first | omega | (simp only [true_and]; omega)), Bool.and_eq_true_iff.2 ⟨by first | exact okQ1 _ | exact okQ2 (by omega), hlt ‹_›⟩⟩) ?_
      | refine nd (Bool.and_eq_true_iff.2 ⟨decide_eq_true (by first | omega | (simp only [true_and]; omega)), by first | exact hok | exact hup | exact hlt ‹_›⟩) ?_
      | with_reducible refine brd (fun _ => ?_) (fun _ => ?_)
      | with_reducible refine bre (fun _ => ?_) (fun _ => ?_)
      | with_reducible refine brF ?_
      | with_reducible refine brNot (fun _ => ?_) (fun _ => ?_)
      | with_reducible refine br (fun _ => ?_) (fun _ => ?_)
  · rw [t_rd3 (N := 0)]
    simp only [Int.toNat_natCast, List.take_length, List.length_take, List.length_replicate, List.length_append, resetL_len, up_len, Nat.min_self, hif1, hif2, w1, w2, w3, a1, a2]
    repeat' first
      | exact hT _
      | (exfalso; omega)
      | with_reducible refine ndd (by omega) ?_
      | with_reducible refine brd (fun _ => ?_) (fun _ => ?_)
      | with_reducible refine bre (fun _ => ?_) (fun _ => ?_)
end Go.Ev
