/- Messages, cut one behind the other: which piece is whose. Plain facts. No conditions. -/
import Derived.Test.YtipmphkcbhjinaaFbP
import Derived.Test.YtipmphkcbhjinaaFcD
set_option linter.unusedVariables false
namespace Go.Spec
open Go Go.Ev
structure Inp where
  tsn : Int
  n : Nat
  ss : List Int
  us : List Bool
  ps : List Int
  ds : List (List Int)
  ns : List Int
  zs : List Int
def Inp.sz (x : Inp) (i : Nat) : Nat := cutS (x.zs.getD i 0) (x.ds.getD i []).length
def Inp.ct (x : Inp) (i : Nat) : Nat := cutN (x.sz i) (x.ds.getD i []).length
/-- Where the pieces of message i begin. -/
def Inp.st (x : Inp) : Nat → Nat
  | 0 => 0
  | i + 1 => Inp.st x i + x.ct i
/-- Whose piece g is. -/
def Inp.wh (x : Inp) : Nat → Nat → Nat
  | 0, _ => 0
  | k + 1, g => if x.st k ≤ g then k else Inp.wh x k g
def Inp.O (x : Inp) (g : Nat) : Nat := x.wh x.n g
def Inp.Gi (x : Inp) (i g : Nat) : Pc := ⟨(x.tsn + (g : Int)) % 4294967296, cutF1 (x.us.getD i false) (x.ct i) (g - x.st i), x.ss.getD i 0, x.ns.getD i 0, x.ps.getD i 0, 0, (cutD (x.zs.getD i 0) (x.ds.getD i [])).getD (g - x.st i) []⟩
def Inp.G (x : Inp) (g : Nat) : Pc := x.Gi (x.O g) g
def Inp.S (x : Inp) (g : Nat) : Nat := x.st (x.O g)
def Inp.E (x : Inp) (g : Nat) : Nat := x.st (x.O g + 1)
theorem Inp.st_mono (x : Inp) {i j : Nat} (h : i ≤ j) : x.st i ≤ x.st j := by
  induction j with
  | zero => rw [show i = 0 by omega]; exact Nat.le_refl _
  | succ j ih =>
    by_cases e : i = j + 1
    · subst e; exact Nat.le_refl _
    · have := ih (by omega)
      show _ ≤ x.st j + x.ct j
      omega
theorem Inp.wh_eq (x : Inp) {i g : Nat} (h1 : x.st i ≤ g) (h2 : g < x.st (i + 1)) : ∀ {k : Nat}, i < k → x.wh k g = i := by
  intro k
  induction k with
  | zero => intro h; omega
  | succ k ih =>
    intro h
    unfold Inp.wh
    by_cases e : i = k
    · subst e; rw [if_pos h1]
    · have := x.st_mono (i := i + 1) (j := k) (by omega)
      rw [if_neg (by omega), ih (by omega)]
theorem Inp.wh_in (x : Inp) {g : Nat} : ∀ {k : Nat}, g < x.st k → x.wh k g < k ∧ x.st (x.wh k g) ≤ g ∧ g < x.st (x.wh k g + 1) := by
  intro k
  induction k with
  | zero => intro h; cases h
  | succ k ih =>
    intro h
    unfold Inp.wh
    by_cases e : x.st k ≤ g
    · rw [if_pos e]; exact ⟨by omega, e, h⟩
    · rw [if_neg e]
      obtain ⟨a, b, c⟩ := ih (by omega)
      exact ⟨by omega, b, c⟩
theorem Inp.O_eq (x : Inp) {i g : Nat} (hi : i < x.n) (h1 : x.st i ≤ g) (h2 : g < x.st (i + 1)) : x.O g = i := x.wh_eq h1 h2 hi
theorem Inp.O_in (x : Inp) {g : Nat} (h : g < x.st x.n) : x.O g < x.n ∧ x.st (x.O g) ≤ g ∧ g < x.st (x.O g + 1) := x.wh_in h
def cutB (u a b : Bool) : Int := (if u = true then 4 else 0) + (if a = true then 2 else 0) + (if b = true then 1 else 0)
theorem cutF1_B (u : Bool) (n r : Nat) : cutF1 u n r = cutB u (decide (r = 0)) (decide (r + 1 = n)) := by
  unfold cutF1 cutB
  simp only [decide_eq_true_eq]
theorem cutF1_2 (u : Bool) (n r : Nat) : hasF (cutF1 u n r) 2 = decide (r = 0) := by
  rw [cutF1_B]
  generalize decide (r = 0) = a
  generalize decide (r + 1 = n) = b
  cases u <;> cases a <;> cases b <;> rfl
theorem cutF1_1 (u : Bool) (n r : Nat) : hasF (cutF1 u n r) 1 = decide (r + 1 = n) := by
  rw [cutF1_B]
  generalize decide (r = 0) = a
  generalize decide (r + 1 = n) = b
  cases u <;> cases a <;> cases b <;> rfl
theorem cutF1_4 (u : Bool) (n r : Nat) : hasF (cutF1 u n r) 4 = u := by
  rw [cutF1_B]
  generalize decide (r = 0) = a
  generalize decide (r + 1 = n) = b
  cases u <;> cases a <;> cases b <;> rfl
theorem cutF1_x (u : Bool) (n r m q : Nat) : eqK (andK .u8 (xorK .u8 (cutF1 u n r) (cutF1 u m q)) 4) 0 = true := by
  rw [cutF1_B, cutF1_B]
  generalize decide (r = 0) = a
  generalize decide (r + 1 = n) = b
  generalize decide (q = 0) = c
  generalize decide (q + 1 = m) = d
  cases u <;> cases a <;> cases b <;> cases c <;> cases d <;> rfl
theorem Inp.lay (x : Inp) (hm : x.st x.n ≤ 1000000) : Lay x.tsn (x.st x.n) x.G x.S x.E := by
  refine ⟨hm, fun g => rfl, fun g hg => ?_, fun g hg h h1 h2 => ?_, fun g hg => ?_, fun g hg => ?_, fun g hg h h1 h2 => ?_⟩
  · obtain ⟨a, b, c⟩ := x.O_in hg
    exact ⟨b, c, x.st_mono (by omega)⟩
  · obtain ⟨a, b, c⟩ := x.O_in hg
    have := x.O_eq a h1 h2
    unfold Inp.S Inp.E
    rw [this]
    exact ⟨rfl, rfl⟩
  · obtain ⟨a, b, c⟩ := x.O_in hg
    show hasF (cutF1 _ _ (g - x.st (x.O g))) 2 = decide (g = x.st (x.O g))
    rw [cutF1_2]
    exact decide_eq_decide.2 (by omega)
  · obtain ⟨a, b, c⟩ := x.O_in hg
    show hasF (cutF1 _ (x.ct (x.O g)) (g - x.st (x.O g))) 1 = decide (g + 1 = x.st (x.O g + 1))
    have e : x.st (x.O g + 1) = x.st (x.O g) + x.ct (x.O g) := rfl
    rw [cutF1_1]
    exact decide_eq_decide.2 (by omega)
  · obtain ⟨a, b, c⟩ := x.O_in hg
    have := x.O_eq a h1 h2
    unfold Inp.G alikeB
    rw [this]
    simp only [Inp.Gi, Bool.and_eq_true, eqK_t]
    exact ⟨⟨trivial, trivial⟩, eqK_t.1 (cutF1_x _ _ _ _ _)⟩
theorem parts_take (s : Nat) (xs : List Int) : ∀ n, (partsL s n xs).flatten = xs.take (n * s) := by
  intro n
  induction n with
  | zero => simp [partsL]
  | succ n ih =>
    have : partsL s (n + 1) xs = partsL s n xs ++ [(xs.drop (n * s)).take s] := by simp [partsL, List.range_succ]
    rw [this, List.flatten_append, ih, Nat.succ_mul, List.take_add]
    simp
theorem Inp.data (x : Inp) {g : Nat} (hg : g < x.st x.n) (h0 : (x.ds.getD (x.O g) []).length ≠ 0) (h1 : 1 ≤ x.zs.getD (x.O g) 0) : datG x.G (x.S g) (x.E g - x.S g) = x.ds.getD (x.O g) [] := by
  obtain ⟨a, b, c⟩ := x.O_in hg
  have e : x.st (x.O g + 1) = x.st (x.O g) + x.ct (x.O g) := rfl
  have e2 : x.E g - x.S g = x.ct (x.O g) := by unfold Inp.E Inp.S; omega
  have e3 : datG x.G (x.S g) (x.ct (x.O g)) = (cutD (x.zs.getD (x.O g) 0) (x.ds.getD (x.O g) [])).flatten := by
    unfold datG
    congr 1
    refine List.ext_getElem (by simp [cutD, partsL, Inp.ct, Inp.sz]) fun i h1 h2 => ?_
    simp only [List.length_map, List.length_range'] at h1
    rw [List.getElem_map, List.getElem_range', Nat.one_mul]
    have ho : x.O (x.S g + i) = x.O g := x.O_eq a (by unfold Inp.S; omega) (by unfold Inp.S; omega)
    unfold Inp.G
    rw [ho]
    simp only [Inp.Gi]
    rw [show x.S g + i - x.st (x.O g) = i by unfold Inp.S; omega, List.getD_eq_getElem?_getD, List.getElem?_eq_getElem h2]
    rfl
  rw [e2, e3]
  unfold cutD
  rw [parts_take, List.take_of_length_le]
  unfold cutS cutN
  generalize (x.ds.getD (x.O g) []).length = len at h0 ⊢
  generalize hs : min (x.zs.getD (x.O g) 0).toNat len = s
  have hs1 : 1 ≤ s := by omega
  have := Nat.div_add_mod (len + s - 1) s
  have h3 := Nat.mod_lt (len + s - 1) (show 0 < s by omega)
  rw [Nat.mul_comm]
  omega
/-- So many of these are of message i. -/
def Inp.cnt (x : Inp) (l : List Nat) (i : Nat) : Nat := l.countP fun g => decide (x.O g = i)
theorem nodupN_le : ∀ (a b : List Nat), a.Nodup → (∀ x ∈ a, x ∈ b) → a.length ≤ b.length
  | [], _, _, _ => Nat.zero_le _
  | x :: a, b, hn, hs => by
    have hx := hs x (by simp)
    rw [List.nodup_cons] at hn
    have := nodupN_le a (b.erase x) hn.2 fun y hy => (List.mem_erase_of_ne (fun (e : y = x) => hn.1 (by rw [← e]; exact hy))).2 (hs y (by simp [hy]))
    rw [List.length_erase_of_mem hx] at this
    have : 0 < b.length := List.length_pos_of_mem hx
    simp only [List.length_cons]
    omega
theorem Inp.cnt_le (x : Inp) {l : List Nat} (hn : l.Nodup) (hl : ∀ g ∈ l, g < x.st x.n) {i : Nat} (hi : i < x.n) : x.cnt l i ≤ x.ct i := by
  have h := nodupN_le (l.filter fun g => decide (x.O g = i)) (List.range' (x.st i) (x.ct i)) (hn.sublist List.filter_sublist) (fun g hg => by
    rw [List.mem_filter] at hg
    obtain ⟨a, b, c⟩ := x.O_in (hl g hg.1)
    have e := of_decide_eq_true hg.2
    rw [e] at b c
    have : x.st (i + 1) = x.st i + x.ct i := rfl
    exact List.mem_range'_1.2 ⟨b, by omega⟩)
  rw [List.length_range'] at h
  unfold Inp.cnt
  rw [List.countP_eq_length_filter]
  exact h
theorem Inp.cnt_all (x : Inp) {l : List Nat} (hn : l.Nodup) (hl : ∀ g ∈ l, g < x.st x.n) {i : Nat} (hi : i < x.n) : x.cnt l i = x.ct i ↔ ∀ g, x.st i ≤ g → g < x.st (i + 1) → g ∈ l := by
  have es : x.st (i + 1) = x.st i + x.ct i := rfl
  have hle := x.cnt_le hn hl hi
  unfold Inp.cnt at hle ⊢
  rw [List.countP_eq_length_filter] at hle ⊢
  constructor
  · intro h g h1 h2
    by_cases hg : g ∈ l
    · exact hg
    · exfalso
      have := nodupN_le (g :: l.filter fun g => decide (x.O g = i)) (List.range' (x.st i) (x.ct i)) (List.nodup_cons.2 ⟨fun hm => hg (List.mem_filter.1 hm).1, hn.sublist List.filter_sublist⟩) (fun y hy => by
        rcases List.mem_cons.1 hy with hy | hy
        · subst hy; exact List.mem_range'_1.2 ⟨h1, by omega⟩
        · rw [List.mem_filter] at hy
          obtain ⟨a, b, c⟩ := x.O_in (hl y hy.1)
          have e := of_decide_eq_true hy.2
          rw [e] at b c
          exact List.mem_range'_1.2 ⟨b, by omega⟩)
      rw [List.length_range', List.length_cons] at this
      omega
  · intro h
    have := nodupN_le (List.range' (x.st i) (x.ct i)) (l.filter fun g => decide (x.O g = i)) List.nodup_range' (fun y hy => by
      have hy := List.mem_range'_1.1 hy
      exact List.mem_filter.2 ⟨h y hy.1 (by omega), decide_eq_true (x.O_eq hi hy.1 (by omega))⟩)
    rw [List.length_range'] at this
    omega
end Go.Spec
