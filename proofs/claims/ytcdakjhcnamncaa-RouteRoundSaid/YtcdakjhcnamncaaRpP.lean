/- Going round the paths: a check of all cases. Plain facts. No conditions. -/
import Derived.Test.YtcdakjhcnamncaaRpD
set_option linter.unusedVariables false
namespace Go.Spec
open Go Go.Ev Go.Proofs
/-- Some lists of n truths and all of them. -/
def allB : Nat → (List Bool → Bool) → Bool
  | 0, P => P []
  | n + 1, P => allB n (fun l => P (false :: l)) && allB n (fun l => P (true :: l))
theorem allB_at : ∀ {n : Nat} {P : List Bool → Bool}, allB n P = true → ∀ l : List Bool, l.length = n → P l = true
  | 0, P, h, l, e => by
    rw [List.length_eq_zero_iff.1 e]; exact h
  | n + 1, P, h, [], e => by cases e
  | n + 1, P, h, b :: l, e => by
    obtain ⟨h1, h2⟩ := Bool.and_eq_true_iff.1 h
    have e' : l.length = n := by simpa using e
    cases b with
    | false => exact allB_at h1 l e'
    | true => exact allB_at h2 l e'
/-- Where one comes to, and what was seen on the way. -/
def seenF (ds : List Bool) : Nat → Nat → List Bool → List Bool
  | 0, _, s => s
  | c + 1, a, s => seenF ds c (nextN ds a) (s.set (nextN ds a) true)
def anyUp : List Bool → Bool
  | [] => false
  | d :: r => Bool.not d || anyUp r
def chooseN (ds : List Bool) (i : Nat) : Nat := if ds.getD i false = true then nextN ds i else i
def seenOk (any : Bool) : List Bool → List Bool → Bool
  | s :: r, d :: q => (s || (d && any)) && seenOk any r q
  | _, _ => true
def goodR (n : Nat) (ds : List Bool) (i : Nat) : Bool := seenOk (anyUp ds) (seenF ds n i (List.replicate n false)) ds
def goodC (ds : List Bool) (i : Nat) : Bool := Bool.not (ds.getD (chooseN ds i) false) || Bool.not (anyUp ds)
def goodAll (n : Nat) (ds : List Bool) : Bool := (List.range n).all fun i => goodR n ds i && (goodC ds i && decide (nextN ds i < n))
theorem good1 : allB 1 (goodAll 1) = true := by kernel_rfl
theorem good2 : allB 2 (goodAll 2) = true := by kernel_rfl
theorem good3 : allB 3 (goodAll 3) = true := by kernel_rfl
theorem good4 : allB 4 (goodAll 4) = true := by kernel_rfl
theorem good6 : allB 6 (goodAll 6) = true := by kernel_rfl
theorem good9 : allB 9 (goodAll 9) = true := by kernel_rfl
theorem good_at {n : Nat} (hn : okN n = true) {ds : List Bool} (hl : ds.length = n) {i : Nat} (hi : i < n) : goodR n ds i = true ∧ goodC ds i = true ∧ nextN ds i < n := by
  have h : goodAll n ds = true := by
    unfold okN at hn
    simp only [Bool.or_eq_true, beq_iff_eq] at hn
    rcases hn with ((((rfl | rfl) | rfl) | rfl) | rfl) | rfl
    · exact allB_at good1 ds hl
    · exact allB_at good2 ds hl
    · exact allB_at good3 ds hl
    · exact allB_at good4 ds hl
    · exact allB_at good6 ds hl
    · exact allB_at good9 ds hl
  have h := List.all_eq_true.1 h i (List.mem_range.2 hi)
  simp only [Bool.and_eq_true, decide_eq_true_eq] at h
  exact h
end Go.Spec
