/- The law CwndBounds, run: the window stays in its bounds, whatever the calls are. No conditions. -/
import Derived.Test.YtoffkchncellpaaCwS
import Derived.Test.YtoffkchncellpaaCwT2
import Derived.Test.YtoffkchncellpaaCwT3
namespace Go.Ev
open Go Go.Proofs Go.Spec
attribute [local irreducible] ev evCall branch need again

theorem cx2_ok : CxOk Try.prog cx2 := mkCx_ok names mixed (by
  intro x h
  simp only [List.mem_cons, List.not_mem_nil, or_false] at h
  rcases h with rfl | rfl | rfl | rfl | rfl | rfl | rfl
  · exact ack_sum
  · exact loss_sum
  · exact timeout_sum
  · exact ackR_sum
  · exact lossR_sum
  · exact timeoutR_sum
  · exact works_sum)

structure InvB (mtu : Int) (w : W) : Prop where
  m : w.m = mtu
  m0 : 64 ≤ mtu
  m1 : mtu ≤ 1500
  s0 : mtu ≤ w.s
  s1 : w.s ≤ 1048576
  t0 : 4 * mtu ≤ w.t

theorem ack_facts {mtu : Int} {w : W} (h : InvB mtu w) (n : Int) (b : Bool) :
    (ackW w n b).m = w.m ∧ (ackW w n b).t = w.t ∧ w.s ≤ (ackW w n b).s ∧ (ackW w n b).s ≤ w.s + mtu ∧ (ackW w n b).s ≤ 1048576 ∧ (b = false → (ackW w n b).s = w.s) := by
  obtain ⟨h0, h1, h2, h3, h4, h5⟩ := h
  unfold ackW
  cases b with
  | false => simp; omega
  | true =>
    simp only [Bool.true_eq_false, if_false]
    by_cases hn : n < 1
    · rw [if_pos hn]; exact ⟨rfl, rfl, by omega, by omega, by omega, by simp⟩
    · rw [if_neg hn]
      have e : ∀ x : Int, 0 ≤ x → x ≤ 1500 → wr64 (w.s + x) = w.s + x := fun x a b => Go.IntWalk.i64_in _ (by omega)
      have cap : ∀ x : Int, w.s ≤ x → x ≤ w.s + mtu → w.s ≤ (if (1048576 : Int) < x then (1048576 : Int) else x) ∧ (if (1048576 : Int) < x then (1048576 : Int) else x) ≤ w.s + mtu ∧ (if (1048576 : Int) < x then (1048576 : Int) else x) ≤ 1048576 := by
        intro x hx hy; split <;> omega
      by_cases hst : w.s ≤ w.t
      · rw [if_pos hst]
        have hx : w.s ≤ wr64 (w.s + if w.m < n then w.m else n) ∧ wr64 (w.s + if w.m < n then w.m else n) ≤ w.s + mtu := by
          rw [e _ (by split <;> omega) (by split <;> omega)]; split <;> omega
        obtain ⟨c1, c2, c3⟩ := cap _ hx.1 hx.2
        exact ⟨rfl, rfl, c1, c2, c3, by simp⟩
      · rw [if_neg hst]
        by_cases hp : wr64 (w.p + if 1073741824 < n then 1073741824 else n) ≥ w.s
        · rw [if_pos hp]
          have hx : w.s ≤ wr64 (w.s + if w.m < w.m then w.m else w.m) ∧ wr64 (w.s + if w.m < w.m then w.m else w.m) ≤ w.s + mtu := by
            rw [e _ (by split <;> omega) (by split <;> omega)]; split <;> omega
          obtain ⟨c1, c2, c3⟩ := cap _ hx.1 hx.2
          exact ⟨rfl, rfl, c1, c2, c3, by simp⟩
        · rw [if_neg hp]
          exact ⟨rfl, rfl, by show w.s ≤ w.s; omega, by show w.s ≤ _; omega, by show w.s ≤ _; omega, by simp⟩
theorem half_facts {mtu : Int} {w : W} (h : InvB mtu w) : 4 * mtu ≤ half w ∧ half w ≤ 1048576 ∧ w.s.tdiv 2 ≤ half w ∧ IntKind.wrap .i64 (w.s.tdiv 2) = w.s.tdiv 2 := by
  obtain ⟨h0, h1, h2, h3, h4, h5⟩ := h
  have e3 : w.s.tdiv 2 = w.s / 2 := Int.tdiv_eq_ediv_of_nonneg (by omega)
  have e1 : wr64 (4 * w.m) = 4 * w.m := Go.IntWalk.i64_in _ (by omega)
  have e2 : wr64 (w.s.tdiv 2) = w.s / 2 := by rw [e3]; exact Go.IntWalk.i64_in _ (by omega)
  refine ⟨?_, ?_, ?_, by rw [e3]; exact Go.IntWalk.i64_in _ (by omega)⟩
  · unfold half; rw [e1, e2]; split <;> omega
  · unfold half; rw [e1, e2]; split <;> omega
  · unfold half; rw [e1, e2, e3]; split <;> omega

theorem bounds_loop (mtu : Int) (len c : Nat) (A B : List Int) (C : List Bool) (hlen : len ≤ 3000) (k : Exit → Fr → St → Prop)
    (hk : ∀ (i : Int) (w : W), k (Exit.exit 0) (frm 111 [(0, .sa (.one (iv .i64 mtu))), (5, .sa (.one (.ptr 1 0 0))), (31, .sa (.one (.sl 0 0 len (some c)))), (32, .sa (.one (iv .i64 len))), (33, .sa (.one (iv .i64 i))), (34, .sa (.one (bv false)))]) [some (.mem false .ext 29 3 (.tab len [.ints .i64 A, .ints .i64 B, .bools C])), obj 43 4 [iv .i64 w.m, iv .i64 w.s, iv .i64 w.t, iv .i64 w.p]]) :
    ∀ (rem : Nat) (i : Int) (w : W), 0 ≤ i → i + rem = len → InvB mtu w →
      ev cx2 (rem + 53) 1 3 (codeAt Try.prog 3 [1, 1, 1, 1, 0, 1, 0]) (frm 111 [(0, .sa (.one (iv .i64 mtu))), (5, .sa (.one (.ptr 1 0 0))), (31, .sa (.one (.sl 0 0 len (some c)))), (32, .sa (.one (iv .i64 len))), (33, .sa (.one (iv .i64 i)))]) [some (.mem false .ext 29 3 (.tab len [.ints .i64 A, .ints .i64 B, .bools C])), obj 43 4 [iv .i64 w.m, iv .i64 w.s, iv .i64 w.t, iv .i64 w.p]] k
  | 0, i, w, h0, h1, hw => by
    rw [t_boundsStep mtu len c A B C i w.m w.s w.t w.p 0 k]
    refine br (fun h => absurd h ?_) (fun _ => hk i w)
    simp; omega
  | rem + 1, i, w, h0, h1, hw => by
    rw [t_boundsStep mtu len c A B C i w.m w.s w.t w.p (rem + 1) k]
    have hi : IntKind.wrap .i64 (i + 1) = i + 1 := Go.IntWalk.i64_in _ (by omega)
    have hN : rem + 1 + 52 = rem + 53 := by omega
    rw [hi, hN]
    obtain ⟨q0, q1, q2, q3, q4, q5⟩ := id hw
    have IH := fun w' (h : InvB mtu w') => bounds_loop mtu len c A B C hlen k hk rem (i + 1) w' (by omega) (by omega) h
    have e4 : IntKind.wrap .i64 (4 * mtu) = 4 * mtu := Go.IntWalk.i64_in _ (by omega)
    have e5 : IntKind.wrap .i64 (w.s + mtu) = w.s + mtu := Go.IntWalk.i64_in _ (by omega)
    have HF := half_facts (w := ⟨w.m, w.s, w.t, w.p⟩) hw
    obtain ⟨f1, f2, f3, f4⟩ := HF
    have AF := fun n b => ack_facts (w := ⟨w.m, w.s, w.t, w.p⟩) hw n b
    have IHl := IH (lossW ⟨w.m, w.s, w.t, w.p⟩) ⟨q0, q1, q2, by show mtu ≤ half _; omega, f2, f1⟩
    have IHt := IH (timeoutW ⟨w.m, w.s, w.t, w.p⟩) ⟨q0, q1, q2, by show mtu ≤ w.m; omega, by show w.m ≤ _; omega, f1⟩
    have IHa := fun n b => IH (ackW ⟨w.m, w.s, w.t, w.p⟩ n b) (by
      obtain ⟨a1, a2, a3, a4, a5, a6⟩ := AF n b
      exact ⟨a1.trans q0, q1, q2, Int.le_trans q3 a3, a5, by rw [a2]; exact q5⟩)
    have IHs := IH w hw
    simp only [lossW] at IHl
    simp only [timeoutW] at IHt
    clear IH
    rw [e4, e5, f4]
    refine br (fun _ => ?_) (fun h => absurd h ?_)
    · refine nd (by simp; omega) (nd (by simp; omega) (nd (by simp; omega) ?_))
      generalize List.getD A (0 + i.toNat) 0 = a
      generalize List.getD B (0 + i.toNat) 0 = n
      generalize List.getD C (0 + i.toNat) false = b
      have IHa := IHa n b
      obtain ⟨a1, a2, a3, a4, a5, a6⟩ := AF n b
      simp only at a1 a2 a3 a4 a5 a6 f3
      refine br (fun c0 => ?_) (fun c0 => br (fun c1 => ?_) (fun c1 => br (fun c2 => ?_) (fun c2 => ?_)))
      · refine br (fun h => absurd h (by simp; omega)) (fun _ => br (fun h => absurd h (by simp; omega)) (fun _ => br (fun h => absurd h (by simp; omega)) (fun _ => br (fun _ => ?_) (fun h => absurd (c0.symm.trans h) (by simp)))))
        refine br (fun h => absurd h (by simp; omega)) (fun _ => br (fun h => absurd h (by simp; omega)) (fun _ => br (fun h => br (fun hb => ?_) (fun _ => IHa)) (fun _ => IHa)))
        have : b = false := by simpa using hb
        have := a6 this
        simp at h
        omega
      · refine br (fun h => absurd h (by simp; omega)) (fun _ => br (fun h => absurd h (by simp; omega)) (fun _ => br (fun h => absurd h (by simp; omega)) (fun _ => br (fun h => absurd (c0.symm.trans h) (by simp)) (fun _ => br (fun _ => ?_) (fun h => absurd (c1.symm.trans h) (by simp))))))
        exact br (fun h => absurd h (by simp; omega)) (fun _ => br (fun h => absurd h (by simp)) (fun _ => IHl))
      · refine br (fun h => absurd h (by simp; omega)) (fun _ => br (fun h => absurd h (by simp; omega)) (fun _ => br (fun h => absurd h (by simp; omega)) (fun _ => br (fun h => absurd (c0.symm.trans h) (by simp)) (fun _ => br (fun h => absurd (c1.symm.trans h) (by simp)) (fun _ => br (fun _ => ?_) (fun h => absurd (c2.symm.trans h) (by simp)))))))
        exact br (fun h => absurd h (by simp; omega)) (fun _ => br (fun h => absurd h (by simp; omega)) (fun _ => IHt))
      · refine br (fun h => absurd h (by simp; omega)) (fun _ => br (fun h => absurd h (by simp; omega)) (fun _ => br (fun h => absurd h (by simp; omega)) (fun _ => br (fun h => absurd (c0.symm.trans h) (by simp)) (fun _ => br (fun h => absurd (c1.symm.trans h) (by simp)) (fun _ => br (fun h => absurd (c2.symm.trans h) (by simp)) (fun _ => ?_))))))
        exact br (fun h => absurd h (by simp)) (fun _ => IHs)
    · simp; omega

/-- The law, whatever came in. -/
theorem lawBounds (mtu : Int) (len c : Nat) (A B : List Int) (C : List Bool) : ∃ n, evCall cx2 (ev cx2 n) 3 [.one (iv .i64 mtu), .one (.sl 0 0 len (some c))] [some (.mem false .ext 29 3 (.tab len [.ints .i64 A, .ints .i64 B, .bools C]))]
    (fun v _ => v = .sa (.one (.raw (.bool true)))) := by
  refine ⟨len + 60, ?_⟩
  rw [t_bounds mtu len c A B C len]
  refine br (fun _ => rfl) (fun h1 => br (fun h2 => br (fun _ => rfl) (fun h => ?_)) (fun h2 => br (fun h3 => br (fun _ => rfl) (fun _ => br (fun _ => rfl) (fun h => ?_))) (fun h3 => ?_)))
  · rw [h2] at h; cases h
  · rw [h3] at h; cases h
  · simp only [decide_eq_false_iff_not, Int.not_lt, gt_iff_lt] at h1 h2 h3
    have e : IntKind.wrap .i64 (2 * mtu) = 2 * mtu := Go.IntWalk.i64_in _ (by omega)
    rw [e]
    refine bounds_loop mtu len c A B C (by omega) _ (fun i w => ?_) len 0 ⟨mtu, 2 * mtu, 65536, 0⟩ (by omega) (by omega) ⟨rfl, h2, h3, by show mtu ≤ 2 * mtu; omega, by show 2 * mtu ≤ _; omega, by show 4 * mtu ≤ 65536; omega⟩
    rw [t_boundsEnd]
    rfl
theorem lawBoundsNil (mtu : Int) (o : Option Addr) : ∃ n, evCall cx2 (ev cx2 n) 3 [.one (iv .i64 mtu), .one (.raw (.slice o 0 0))] [] (fun v _ => v = .sa (.one (.raw (.bool true)))) := by
  refine ⟨60, ?_⟩
  rw [t_boundsNil mtu o]
  repeat' first | exact rfl | refine br (fun _ => ?_) (fun _ => ?_)
  all_goals simp_all
end Go.Ev
