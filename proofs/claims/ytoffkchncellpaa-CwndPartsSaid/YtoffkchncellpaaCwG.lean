/- The law CwndParts, run: above the threshold a whole window makes it greater by mtu, however it is parted. No conditions. -/
import Derived.Test.YtoffkchncellpaaCwF
namespace Go.Ev
open Go Go.Proofs Go.Spec
attribute [local irreducible] ev evCall branch need again

theorem ack_above {w : W} {n : Int} (hn : 1 ≤ n) (hn2 : n ≤ 65535) (hst : w.t < w.s) (hs : w.s ≤ 1048576) (hs0 : 0 ≤ w.s) (hm : 0 ≤ w.m ∧ w.m ≤ 1500) (hp : 0 ≤ w.p ∧ w.p ≤ 1000000000000) :
    ackW w n true = if w.p + n ≥ w.s then ⟨w.m, if 1048576 < w.s + w.m then 1048576 else w.s + w.m, w.t, w.p + n - w.s⟩ else ⟨w.m, w.s, w.t, w.p + n⟩ := by
  obtain ⟨m, s, t, p⟩ := w
  simp only at hst hs hs0 hm hp ⊢
  unfold ackW
  have h1 : ¬ n < 1 := by omega
  have h2 : ¬ s ≤ t := by omega
  have h3 : ¬ 1073741824 < n := by omega
  have e1 : wr64 (p + n) = p + n := Go.IntWalk.i64_in _ (by omega)
  have e2 : wr64 (s + m) = s + m := Go.IntWalk.i64_in _ (by omega)
  simp only [Bool.true_eq_false, if_false, h1, h2, h3, e1, Int.lt_irrefl, e2]
  by_cases h : p + n ≥ s
  · have e3 : wr64 (p + n - s) = p + n - s := Go.IntWalk.i64_in _ (by omega)
    simp only [h, if_true, e3]
  · simp only [h, if_false]

structure InvP (mtu size sum : Int) (i : Int) (w : W) : Prop where
  m : w.m = mtu
  m0 : 64 ≤ mtu
  m1 : mtu ≤ 1500
  s : w.s = size
  p : w.p = sum
  s0 : 5 * mtu ≤ size
  s1 : size ≤ 1048576
  t0 : w.t = 4 * mtu
  p0 : 0 ≤ sum
  p1 : sum ≤ i * 65535

theorem parts_loop (mtu : Int) (len c : Nat) (A : List Int) (hA : ∀ x ∈ A, 0 ≤ x ∧ x ≤ 65535) (hlen : len ≤ 3000) (k : Exit → Fr → St → Prop)
    (hk : ∀ (i size sum : Int) (w : W), w.s = size → k (Exit.exit 0) (frm 75 [(0, .sa (.one (iv .i64 mtu))), (5, .sa (.one (.ptr 1 0 0))), (7, .sa (.one (iv .i64 size))), (8, .sa (.one (iv .i64 sum))), (37, .sa (.one (.sl 0 0 len (some c)))), (38, .sa (.one (iv .i64 len))), (39, .sa (.one (iv .i64 i))), (40, .sa (.one (bv false)))]) [some (.mem false .ext 37 1 (.tab len [.ints .u16 A])), obj 43 4 [iv .i64 w.m, iv .i64 w.s, iv .i64 w.t, iv .i64 w.p]]) :
    ∀ (rem : Nat) (i size sum : Int) (w : W), 0 ≤ i → i + rem = len → InvP mtu size sum i w →
      ev cx2 (rem + 50) 1 4 (codeAt Try.prog 4 [1, 1, 1, 1, 1, 1, 1, 0, 1, 0]) (frm 75 [(0, .sa (.one (iv .i64 mtu))), (5, .sa (.one (.ptr 1 0 0))), (7, .sa (.one (iv .i64 size))), (8, .sa (.one (iv .i64 sum))), (37, .sa (.one (.sl 0 0 len (some c)))), (38, .sa (.one (iv .i64 len))), (39, .sa (.one (iv .i64 i)))]) [some (.mem false .ext 37 1 (.tab len [.ints .u16 A])), obj 43 4 [iv .i64 w.m, iv .i64 w.s, iv .i64 w.t, iv .i64 w.p]] k
  | 0, i, size, sum, w, h0, h1, hw => by
    rw [t_partsStep mtu size sum len c A i w.m w.s w.t w.p 0 k]
    refine br (fun h => absurd h ?_) (fun _ => hk i size sum w hw.s)
    simp; omega
  | rem + 1, i, size, sum, w, h0, h1, hw => by
    rw [t_partsStep mtu size sum len c A i w.m w.s w.t w.p (rem + 1) k]
    have hi : IntKind.wrap .i64 (i + 1) = i + 1 := Go.IntWalk.i64_in _ (by omega)
    have hN : rem + 1 + 49 = rem + 50 := by omega
    rw [hi, hN]
    obtain ⟨q0, q1, q2, q3, q4, q5, q6, q7, q8, q9⟩ := id hw
    have IH := fun size' sum' w' (h : InvP mtu size' sum' (i + 1) w') => parts_loop mtu len c A hA hlen k hk rem (i + 1) size' sum' w' (by omega) (by omega) h
    have hn : 0 ≤ List.getD A (0 + i.toNat) 0 ∧ List.getD A (0 + i.toNat) 0 ≤ 65535 := by
      rw [List.getD_eq_getElem?_getD]
      cases hx : A[0 + i.toNat]? with
      | none => simp
      | some x => exact hA x (List.mem_of_getElem? hx)
    refine br (fun _ => ?_) (fun h => absurd h ?_)
    · refine nd (by simp; omega) (nd (by simp; omega) (nd (by simp; omega) ?_))
      generalize List.getD A (0 + i.toNat) 0 = n at hn ⊢
      have e1 : IntKind.wrap .i64 n = n := Go.IntWalk.i64_in _ (by omega)
      have e2 : IntKind.wrap .i64 (sum + n) = sum + n := Go.IntWalk.i64_in _ (by omega)
      have e3 : IntKind.wrap .i64 (sum + n - size) = sum + n - size := Go.IntWalk.i64_in _ (by omega)
      have e4 : IntKind.wrap .i64 (size + mtu) = size + mtu := Go.IntWalk.i64_in _ (by omega)
      rw [e1, e2, e3, e4]
      refine br (fun h => absurd h (by simp; omega)) (fun _ => br (fun c0 => ?_) (fun c0 => ?_))
      · exact IH size sum w ⟨q0, q1, q2, q3, q4, q5, q6, q7, q8, by omega⟩
      · have hn1 : n ≠ 0 := by simpa using c0
        have ea := ack_above (w := ⟨w.m, w.s, w.t, w.p⟩) (n := n) (by omega) hn.2 (by show w.t < w.s; omega) (by show w.s ≤ _; omega) (by show 0 ≤ w.s; omega) (by show 0 ≤ w.m ∧ w.m ≤ 1500; omega) (by show 0 ≤ w.p ∧ w.p ≤ _; omega)
        rw [ea]
        simp only
        refine br (fun h => ?_) (fun h => ?_)
        · have h : sum + n ≥ size := by simpa using h
          have h2 : w.p + n ≥ w.s := by omega
          rw [if_pos h2]
          simp only
          refine IH (if 1048576 < size + mtu then 1048576 else size + mtu) (sum + n - size) ⟨w.m, if 1048576 < w.s + w.m then 1048576 else w.s + w.m, w.t, w.p + n - w.s⟩ ⟨q0, q1, q2, ?_, ?_, ?_, ?_, q7, by omega, by omega⟩
          · show (if _ then _ else _) = _
            rw [q0, q3]
          · show w.p + n - w.s = _
            rw [q3, q4]
          · split <;> omega
          · split <;> omega
        · have h : ¬ sum + n ≥ size := by simpa using h
          have h2 : ¬ w.p + n ≥ w.s := by omega
          rw [if_neg h2]
          simp only
          exact IH size (sum + n) ⟨w.m, w.s, w.t, w.p + n⟩ ⟨q0, q1, q2, q3, by show w.p + n = _; omega, q5, q6, q7, by omega, by omega⟩
    · simp; omega

theorem parts_start {mtu : Int} (h0 : 64 ≤ mtu) (h1 : mtu ≤ 1500) : half ⟨mtu, 2 * mtu, 65536, 0⟩ = 4 * mtu ∧ ackW ⟨mtu, 4 * mtu, 4 * mtu, 0⟩ mtu true = ⟨mtu, 5 * mtu, 4 * mtu, 0⟩ := by
  constructor
  · have e3 : (2 * mtu).tdiv 2 = mtu := by rw [Int.tdiv_eq_ediv_of_nonneg (by omega)]; omega
    have e1 : wr64 (4 * mtu) = 4 * mtu := Go.IntWalk.i64_in _ (by omega)
    have e2 : wr64 mtu = mtu := Go.IntWalk.i64_in _ (by omega)
    unfold half
    simp only [e3, e1, e2]
    rw [if_pos (by omega)]
  · unfold ackW
    have h2 : ¬ mtu < 1 := by omega
    have e2 : wr64 (4 * mtu + mtu) = 5 * mtu := by rw [show 4 * mtu + mtu = 5 * mtu by omega]; exact Go.IntWalk.i64_in _ (by omega)
    have h3 : ¬ (1048576 : Int) < 5 * mtu := by omega
    simp only [Bool.true_eq_false, if_false, h2, Int.le_refl, if_true, Int.lt_irrefl, e2, h3]

/-- The law, whatever came in. -/
theorem lawParts (mtu : Int) (len c : Nat) (A : List Int) (hA : ∀ x ∈ A, 0 ≤ x ∧ x ≤ 65535) : ∃ n, evCall cx2 (ev cx2 n) 4 [.one (iv .i64 mtu), .one (.sl 0 0 len (some c))] [some (.mem false .ext 37 1 (.tab len [.ints .u16 A]))]
    (fun v _ => v = .sa (.one (.raw (.bool true)))) := by
  refine ⟨len + 60, ?_⟩
  rw [t_parts mtu len c A len]
  refine br (fun _ => rfl) (fun h2 => br (fun _ => rfl) (fun h3 => br (fun _ => rfl) (fun h1 => br (fun h => ?_) (fun _ => br (fun h => ?_) (fun _ => ?_)))))
  · rw [h2] at h; cases h
  · rw [h3] at h; cases h
  · simp only [decide_eq_false_iff_not, Int.not_lt, gt_iff_lt] at h1 h2 h3
    have e : IntKind.wrap .i64 (2 * mtu) = 2 * mtu := Go.IntWalk.i64_in _ (by omega)
    have e5 : IntKind.wrap .i64 (5 * mtu) = 5 * mtu := Go.IntWalk.i64_in _ (by omega)
    obtain ⟨s1, s2⟩ := parts_start h2 h3
    rw [e, e5, s1, s2]
    refine parts_loop mtu len c A hA (by omega) _ (fun i size sum w hs => ?_) len 0 (5 * mtu) 0 ⟨mtu, 5 * mtu, 4 * mtu, 0⟩ (by omega) (by omega) ⟨rfl, h2, h3, rfl, rfl, by omega, by omega, rfl, by omega, by omega⟩
    rw [t_partsEnd]
    refine br (fun _ => rfl) (fun h => absurd h ?_)
    simp [hs]
theorem lawPartsNil (mtu : Int) (o : Option Addr) : ∃ n, evCall cx2 (ev cx2 n) 4 [.one (iv .i64 mtu), .one (.raw (.slice o 0 0))] [] (fun v _ => v = .sa (.one (.raw (.bool true)))) := by
  refine ⟨60, ?_⟩
  rw [t_partsNil mtu o]
  refine br (fun _ => rfl) (fun h2 => br (fun _ => rfl) (fun h3 => br (fun h => ?_) (fun _ => br (fun h => ?_) (fun _ => ?_))))
  · rw [h2] at h; cases h
  · rw [h3] at h; cases h
  · simp only [decide_eq_false_iff_not, Int.not_lt, gt_iff_lt] at h2 h3
    have e : IntKind.wrap .i64 (2 * mtu) = 2 * mtu := Go.IntWalk.i64_in _ (by omega)
    have e5 : IntKind.wrap .i64 (5 * mtu) = 5 * mtu := Go.IntWalk.i64_in _ (by omega)
    obtain ⟨s1, s2⟩ := parts_start h2 h3
    rw [e, e5, s1, s2]
    refine br (fun _ => rfl) (fun h => absurd h ?_)
    simp
end Go.Ev
