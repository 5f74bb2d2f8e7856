/- The law CwndCalls, run: whatever the calls are, the window's numbers are the document's behind each. No conditions. -/
import Derived.Test.YtoffkchncellpaaCwS
namespace Go.Ev
open Go Go.Proofs Go.Spec
attribute [local irreducible] ev evCall branch need again

structure InvW (w : W) : Prop where
  m0 : 64 ≤ w.m
  m1 : w.m ≤ 1500
  s0 : 0 ≤ w.s
  s1 : w.s ≤ 1048576

theorem ack_eq {w : W} (h : InvW w) (n : Int) (b : Bool) : ackR w n b = ackW w n b := by
  obtain ⟨h1, h2, h3, h4⟩ := h
  obtain ⟨m, s, t, p⟩ := w
  simp only at h1 h2 h3 h4
  unfold ackR ackW growR wr64
  cases b with
  | false => simp
  | true =>
    by_cases hn : n < 1
    · simp [hn]
    · simp only [Bool.true_eq_false, if_false, hn]
      have e0 : (IntKind.wrap .i64 (s + 0)) = s := by rw [Int.add_zero]; exact Go.IntWalk.i64_in _ (by omega)
      by_cases hb : n > 1073741824
      · have hm : m < n := by omega
        have hm2 : (1073741824 : Int) > m := by omega
        have hb2 : 1073741824 < n := hb
        simp only [hb, hb2, hm, hm2, if_true, Int.lt_irrefl, if_false]
        by_cases hst : s ≤ t
        · simp [hst]
        · simp only [hst, if_false]
          split
          · simp
          · simp only [e0]
            rw [if_neg (by omega)]
      · have hb2 : ¬ 1073741824 < n := hb
        simp only [hb, hb2, if_false, Int.lt_irrefl]
        by_cases hst : s ≤ t
        · simp [hst]
        · simp only [hst, if_false]
          split
          · simp
          · simp only [e0]
            rw [if_neg (by omega)]
theorem ack_inv {w : W} (h : InvW w) (n : Int) (b : Bool) : InvW (ackW w n b) := by
  obtain ⟨h1, h2, h3, h4⟩ := h
  unfold ackW
  split
  · exact ⟨h1, h2, h3, h4⟩
  · split
    · exact ⟨h1, h2, h3, h4⟩
    · rename_i hn
      have e : ∀ x : Int, 0 ≤ x → x ≤ 1500 → wr64 (w.s + x) = w.s + x := fun x a b => Go.IntWalk.i64_in _ (by omega)
      have cap : ∀ x : Int, 0 ≤ x → 0 ≤ (if (1048576 : Int) < x then (1048576 : Int) else x) ∧ (if (1048576 : Int) < x then (1048576 : Int) else x) ≤ 1048576 := by
        intro x hx; split <;> omega
      by_cases hst : w.s ≤ w.t
      · rw [if_pos hst]
        have hx : 0 ≤ wr64 (w.s + if w.m < n then w.m else n) := by
          rw [e _ (by split <;> omega) (by split <;> omega)]; split <;> omega
        exact ⟨h1, h2, (cap _ hx).1, (cap _ hx).2⟩
      · rw [if_neg hst]
        by_cases hp : wr64 (w.p + if 1073741824 < n then 1073741824 else n) ≥ w.s
        · rw [if_pos hp]
          have hx : 0 ≤ wr64 (w.s + if w.m < w.m then w.m else w.m) := by
            rw [e _ (by split <;> omega) (by split <;> omega)]; split <;> omega
          exact ⟨h1, h2, (cap _ hx).1, (cap _ hx).2⟩
        · rw [if_neg hp]
          exact ⟨h1, h2, h3, h4⟩
theorem half_in {w : W} (h : InvW w) : 0 ≤ half w ∧ half w ≤ 1048576 := by
  obtain ⟨h1, h2, h3, h4⟩ := h
  unfold half
  have e1 : wr64 (4 * w.m) = 4 * w.m := Go.IntWalk.i64_in _ (by omega)
  have e3 : w.s.tdiv 2 = w.s / 2 := Int.tdiv_eq_ediv_of_nonneg h3
  have e2 : wr64 (w.s.tdiv 2) = w.s / 2 := by rw [e3]; exact Go.IntWalk.i64_in _ (by omega)
  rw [e1, e2]
  split <;> omega
theorem loss_eq (w : W) : lossR w = lossW w := by
  unfold lossR lossW half
  by_cases h : wr64 (w.s.tdiv 2) < wr64 (4 * w.m)
  · have h2 : wr64 (4 * w.m) > wr64 (w.s.tdiv 2) := h
    simp [h, h2]
  · have h2 : ¬ wr64 (4 * w.m) > wr64 (w.s.tdiv 2) := h
    simp [h, h2]
theorem timeout_eq (w : W) : timeoutR w = timeoutW w := by
  unfold timeoutR timeoutW half
  by_cases h : wr64 (w.s.tdiv 2) < wr64 (4 * w.m)
  · have h2 : wr64 (4 * w.m) > wr64 (w.s.tdiv 2) := h
    simp [h, h2]
  · have h2 : ¬ wr64 (4 * w.m) > wr64 (w.s.tdiv 2) := h
    simp [h, h2]
theorem loss_inv {w : W} (h : InvW w) : InvW (lossW w) := ⟨h.m0, h.m1, (half_in h).1, (half_in h).2⟩
theorem timeout_inv {w : W} (h : InvW w) : InvW (timeoutW w) := ⟨h.m0, h.m1, by have := h.m0; show 0 ≤ w.m; omega, by have := h.m1; show w.m ≤ _; omega⟩

def callsSt (len : Nat) (A B : List Int) (C : List Bool) (w r : W) : St :=
  [some (.mem false .ext 29 3 (.tab len [.ints .i64 A, .ints .i64 B, .bools C])), obj 43 4 [iv .i64 w.m, iv .i64 w.s, iv .i64 w.t, iv .i64 w.p], obj 32 4 [iv .i64 r.m, iv .i64 r.s, iv .i64 r.t, iv .i64 r.p]]
def callsFr (len c : Nat) (i : Int) : Fr :=
  frm 76 [(5, .sa (.one (.ptr 1 0 0))), (7, .sa (.one (.ptr 2 0 0))), (43, .sa (.one (.sl 0 0 len (some c)))), (44, .sa (.one (iv .i64 len))), (45, .sa (.one (iv .i64 i)))]

theorem calls_loop (len c : Nat) (A B : List Int) (C : List Bool) (hlen : len ≤ 3000) (k : Exit → Fr → St → Prop)
    (hk : ∀ (i : Int) (w r : W), k (Exit.exit 0) (frm 76 [(5, .sa (.one (.ptr 1 0 0))), (7, .sa (.one (.ptr 2 0 0))), (43, .sa (.one (.sl 0 0 len (some c)))), (44, .sa (.one (iv .i64 len))), (45, .sa (.one (iv .i64 i))), (46, .sa (.one (bv false)))]) (callsSt len A B C w r)) :
    ∀ (rem : Nat) (i : Int) (w : W), 0 ≤ i → i + rem = len → InvW w →
      ev cx1 (rem + 51) 1 6 (codeAt Try.prog 6 [1, 1, 1, 1, 1, 1, 0, 1, 0]) (callsFr len c i) (callsSt len A B C w w) k
  | 0, i, w, h0, h1, hw => by
    unfold callsFr callsSt
    rw [t_callsStep len c A B C i w.m w.s w.t w.p w.m w.s w.t w.p 0 k]
    refine br (fun h => absurd h ?_) (fun _ => hk i w w)
    simp; omega
  | rem + 1, i, w, h0, h1, hw => by
    unfold callsFr callsSt
    rw [t_callsStep len c A B C i w.m w.s w.t w.p w.m w.s w.t w.p (rem + 1) k]
    have hi : IntKind.wrap .i64 (i + 1) = i + 1 := Go.IntWalk.i64_in _ (by omega)
    have hN : rem + 1 + 50 = rem + 51 := by omega
    rw [hi, hN]
    have IH := fun w' (h : InvW w') => calls_loop len c A B C hlen k hk rem (i + 1) w' (by omega) (by omega) h
    unfold callsFr callsSt at IH
    have IHl := IH (lossW ⟨w.m, w.s, w.t, w.p⟩) (loss_inv hw)
    have IHt := IH (timeoutW ⟨w.m, w.s, w.t, w.p⟩) (timeout_inv hw)
    have IHa := fun n b => IH (ackW ⟨w.m, w.s, w.t, w.p⟩ n b) (ack_inv hw n b)
    have IHs := IH w hw
    simp only [lossW] at IHl
    simp only [timeoutW] at IHt
    clear IH
    refine br (fun _ => ?_) (fun h => absurd h ?_)
    · refine nd (by simp; omega) (nd (by simp; omega) (nd (by simp; omega) ?_))
      refine br (fun _ => ?_) (fun _ => br (fun _ => ?_) (fun _ => br (fun _ => ?_) (fun _ => ?_)))
      · rw [ack_eq (w := ⟨w.m, w.s, w.t, w.p⟩) hw]
        exact br (fun h => absurd h (by simp)) (fun _ => br (fun h => absurd h (by simp)) (fun _ => br (fun _ => IHa (B.getD (0 + i.toNat) 0) (C.getD (0 + i.toNat) false)) (fun _ => IHa (B.getD (0 + i.toNat) 0) (C.getD (0 + i.toNat) false))))
      · rw [loss_eq]
        simp only [lossW]
        exact br (fun h => absurd h (by simp [lossW])) (fun _ => br (fun h => absurd h (by simp [lossW])) (fun _ => br (fun _ => IHl) (fun _ => IHl)))
      · rw [timeout_eq]
        simp only [timeoutW]
        exact br (fun h => absurd h (by simp [timeoutW])) (fun _ => br (fun h => absurd h (by simp [timeoutW])) (fun _ => br (fun _ => IHt) (fun _ => IHt)))
      · exact br (fun h => absurd h (by simp)) (fun _ => br (fun h => absurd h (by simp)) (fun _ => br (fun _ => IHs) (fun _ => IHs)))
    · simp; omega

/-- The law, whatever came in. -/
theorem calls_run (mtu : Int) (len c : Nat) (A B : List Int) (C : List Bool) : ∃ n, evCall cx1 (ev cx1 n) 6 [.one (iv .i64 mtu), .one (.sl 0 0 len (some c))] [some (.mem false .ext 29 3 (.tab len [.ints .i64 A, .ints .i64 B, .bools C]))]
    (fun v _ => v = .sa (.one (.raw (.bool true)))) := by
  refine ⟨len + 60, ?_⟩
  rw [t_calls mtu len c A B C len]
  refine br (fun _ => rfl) (fun h1 => br (fun h2 => br (fun _ => rfl) (fun h => ?_)) (fun h2 => br (fun h3 => br (fun _ => rfl) (fun _ => br (fun _ => rfl) (fun h => ?_))) (fun h3 => br (fun h => ?_) (fun _ => br (fun h => ?_) (fun _ => ?_)))))
  · rw [h2] at h; cases h
  · rw [h3] at h; cases h
  · rw [h2] at h; cases h
  · rw [h3] at h; cases h
  · simp only [decide_eq_false_iff_not, Int.not_lt, gt_iff_lt] at h1 h2 h3
    have e : IntKind.wrap .i64 (2 * mtu) = 2 * mtu := Go.IntWalk.i64_in _ (by omega)
    rw [e]
    refine calls_loop len c A B C (by omega) _ (fun i w r => ?_) len 0 ⟨mtu, 2 * mtu, 65536, 0⟩ (by omega) (by omega) ⟨h2, h3, by show 0 ≤ 2 * mtu; omega, by show 2 * mtu ≤ _; omega⟩
    unfold callsSt
    rw [t_callsEnd]
    rfl
theorem calls_runNil (mtu : Int) (o : Option Addr) : ∃ n, evCall cx1 (ev cx1 n) 6 [.one (iv .i64 mtu), .one (.raw (.slice o 0 0))] [] (fun v _ => v = .sa (.one (.raw (.bool true)))) := by
  refine ⟨60, ?_⟩
  rw [t_callsNil mtu o]
  refine br (fun h2 => br (fun _ => rfl) (fun h => ?_)) (fun h2 => br (fun h3 => br (fun _ => rfl) (fun _ => br (fun _ => rfl) (fun h => ?_))) (fun h3 => br (fun h => ?_) (fun _ => br (fun h => ?_) (fun _ => rfl))))
  · rw [h2] at h; cases h
  · rw [h3] at h; cases h
  · rw [h2] at h; cases h
  · rw [h3] at h; cases h
end Go.Ev
