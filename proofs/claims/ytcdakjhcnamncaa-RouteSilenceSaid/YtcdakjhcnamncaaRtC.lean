/- RouteSilence: the run. No conditions. -/
import Derived.Test.YtcdakjhcnamncaaSiNh
import Derived.Test.YtcdakjhcnamncaaSiNb
import Derived.Test.YtcdakjhcnamncaaWkR
import Derived.Test.YtcdakjhcnamncaaRtC1
import Derived.Test.YtcdakjhcnamncaaRtC2
import Derived.Test.YtcdakjhcnamncaaRtC3
import Derived.Test.YtcdakjhcnamncaaRtC4
import Derived.Test.YtcdakjhcnamncaaRtC6
import Derived.Test.YtcdakjhcnamncaaRtC9
set_option linter.unusedVariables false
set_option linter.unusedSimpArgs false
set_option maxRecDepth 100000
set_option maxHeartbeats 4000000
namespace Go.Ev
open Go Go.Proofs Go.Spec
attribute [local irreducible] ev evCall branch need again

theorem cxSi_ok : CxOk Try.prog cxSi := mkCx_ok (by kernel_rfl) (by kernel_rfl) (by
  intro y h
  simp only [List.mem_cons, List.not_mem_nil, or_false] at h
  rcases h with rfl | rfl | rfl
  · exact known_sum
  · exact addr_sum
  · exact pn_sum)
theorem cxSb_ok : CxOk Try.prog cxSb := mkCx_ok (by kernel_rfl) (by kernel_rfl) (by
  intro y h
  simp only [List.mem_cons, List.not_mem_nil, or_false] at h
  rcases h with rfl | rfl
  · exact known_sum
  · exact rnbad_sum)
theorem sib_run (mtu ss sr rr mm ri rmin rmax it pt al beat life : Int) (n : Nat) (xs ys ks is : List Int) (k : SV → St → Prop) (hb : (addrB xs && addrB ys) = false) (hT : ∀ st, k (.sa (.one (bv true))) st) :
    evCall cxSb (ev cxSb 40) 3 [(.agg (cellsCfg ⟨mtu, ss, sr, rr, mm, ri, rmin, rmax, it, pt, al, beat, life⟩)), .one (.ref 0), .one (.ref 1), .one (.ref 2)] [rd32 xs, rd32 ys, some (.own false .ext 0 2 (.tab n [.ints .u8 ks, .ints .i64 is]))] k := by
  rw [t_sib, List.take_length, List.take_length]
  refine brd (fun _ => hT _) (fun g1 => brd (fun _ => hT _) (fun g2 => brd (fun _ => hT _) (fun g3 => ?_)))
  refine ndd (by omega) (ndd (by omega) (nd ?_ (hT _)))
  rw [hb, decide_eq_true (by omega), decide_eq_true (by omega)]
  rfl
theorem len3 {xs : List Int} (h : addrB xs = true) : (∃ a, xs = [a]) ∨ (∃ a b, xs = [a, b]) ∨ ∃ a b c, xs = [a, b, c] := by
  unfold addrB at h
  simp only [Bool.and_eq_true_iff, decide_eq_true_iff] at h
  obtain ⟨_, h1, h2⟩ := h
  match xs, h1, h2 with
  | [a], _, _ => exact Or.inl ⟨a, rfl⟩
  | [a, b], _, _ => exact Or.inr (Or.inl ⟨a, b, rfl⟩)
  | [a, b, c], _, _ => exact Or.inr (Or.inr ⟨a, b, c, rfl⟩)
theorem sig_run (mtu ss sr rr mm ri rmin rmax it pt al beat life : Int) (n : Nat) (xs ys ks is : List Int) (k : SV → St → Prop) (hb : (addrB xs && addrB ys) = true) (hks : ∀ j, 0 ≤ ks.getD j 0) (hT : ∀ st, k (.sa (.one (bv true))) st) :
    evCall cxSi (ev cxSi (n + 80)) 3 [(.agg (cellsCfg ⟨mtu, ss, sr, rr, mm, ri, rmin, rmax, it, pt, al, beat, life⟩)), .one (.ref 0), .one (.ref 1), .one (.ref 2)] [rd32 xs, rd32 ys, some (.own false .ext 0 2 (.tab n [.ints .u8 ks, .ints .i64 is]))] k := by
  obtain ⟨hx, hy⟩ := Bool.and_eq_true_iff.1 hb
  rcases len3 hx with ⟨a0, rfl⟩ | ⟨a0, a1, rfl⟩ | ⟨a0, a1, a2, rfl⟩
  · rcases len3 hy with ⟨b0, rfl⟩ | ⟨b0, b1, rfl⟩ | ⟨b0, b1, b2, rfl⟩
    · rw [t_si11, hx, hy]
      refine brd (fun _ => hT _) (fun g1 => br (fun e => by cases e) (fun _ => br (fun e => by cases e) (fun _ => ?_)))
      repeat' refine br (fun _ => ?_) (fun _ => hT _)
      exact evFuelR (si_loop1 mtu ss sr rr mm ri rmin rmax it pt al beat life n _ _ ks is 0 n k (by omega) hks hT n 0 (by omega) _ _ _ _ _ _) (by omega)
    · rw [t_si12, hx, hy]
      refine brd (fun _ => hT _) (fun g1 => br (fun e => by cases e) (fun _ => br (fun e => by cases e) (fun _ => ?_)))
      repeat' refine br (fun _ => ?_) (fun _ => hT _)
      exact evFuelR (si_loop2 mtu ss sr rr mm ri rmin rmax it pt al beat life n _ _ ks is 0 n k (by omega) hks hT n 0 (by omega) _ _ _ _ _ _ _ _ _ _) (by omega)
    · rw [t_si13, hx, hy]
      refine brd (fun _ => hT _) (fun g1 => br (fun e => by cases e) (fun _ => br (fun e => by cases e) (fun _ => ?_)))
      repeat' refine br (fun _ => ?_) (fun _ => hT _)
      exact evFuelR (si_loop3 mtu ss sr rr mm ri rmin rmax it pt al beat life n _ _ ks is 0 n k (by omega) hks hT n 0 (by omega) _ _ _ _ _ _ _ _ _ _ _ _ _ _) (by omega)
  · rcases len3 hy with ⟨b0, rfl⟩ | ⟨b0, b1, rfl⟩ | ⟨b0, b1, b2, rfl⟩
    · rw [t_si21, hx, hy]
      refine brd (fun _ => hT _) (fun g1 => br (fun e => by cases e) (fun _ => br (fun e => by cases e) (fun _ => ?_)))
      repeat' refine br (fun _ => ?_) (fun _ => hT _)
      exact evFuelR (si_loop2 mtu ss sr rr mm ri rmin rmax it pt al beat life n _ _ ks is 0 n k (by omega) hks hT n 0 (by omega) _ _ _ _ _ _ _ _ _ _) (by omega)
    · rw [t_si22, hx, hy]
      refine brd (fun _ => hT _) (fun g1 => br (fun e => by cases e) (fun _ => br (fun e => by cases e) (fun _ => ?_)))
      repeat' refine br (fun _ => ?_) (fun _ => hT _)
      exact evFuelR (si_loop4 mtu ss sr rr mm ri rmin rmax it pt al beat life n _ _ ks is 0 n k (by omega) hks hT n 0 (by omega) _ _ _ _ _ _ _ _ _ _ _ _ _ _ _ _ _ _) (by omega)
    · rw [t_si23, hx, hy]
      refine brd (fun _ => hT _) (fun g1 => br (fun e => by cases e) (fun _ => br (fun e => by cases e) (fun _ => ?_)))
      repeat' refine br (fun _ => ?_) (fun _ => hT _)
      exact evFuelR (si_loop6 mtu ss sr rr mm ri rmin rmax it pt al beat life n _ _ ks is 0 n k (by omega) hks hT n 0 (by omega) _ _ _ _ _ _ _ _ _ _ _ _ _ _ _ _ _ _ _ _ _ _ _ _ _ _) (by omega)
  · rcases len3 hy with ⟨b0, rfl⟩ | ⟨b0, b1, rfl⟩ | ⟨b0, b1, b2, rfl⟩
    · rw [t_si31, hx, hy]
      refine brd (fun _ => hT _) (fun g1 => br (fun e => by cases e) (fun _ => br (fun e => by cases e) (fun _ => ?_)))
      repeat' refine br (fun _ => ?_) (fun _ => hT _)
      exact evFuelR (si_loop3 mtu ss sr rr mm ri rmin rmax it pt al beat life n _ _ ks is 0 n k (by omega) hks hT n 0 (by omega) _ _ _ _ _ _ _ _ _ _ _ _ _ _) (by omega)
    · rw [t_si32, hx, hy]
      refine brd (fun _ => hT _) (fun g1 => br (fun e => by cases e) (fun _ => br (fun e => by cases e) (fun _ => ?_)))
      repeat' refine br (fun _ => ?_) (fun _ => hT _)
      exact evFuelR (si_loop6 mtu ss sr rr mm ri rmin rmax it pt al beat life n _ _ ks is 0 n k (by omega) hks hT n 0 (by omega) _ _ _ _ _ _ _ _ _ _ _ _ _ _ _ _ _ _ _ _ _ _ _ _ _ _) (by omega)
    · rw [t_si33, hx, hy]
      refine brd (fun _ => hT _) (fun g1 => br (fun e => by cases e) (fun _ => br (fun e => by cases e) (fun _ => ?_)))
      repeat' refine br (fun _ => ?_) (fun _ => hT _)
      exact evFuelR (si_loop9 mtu ss sr rr mm ri rmin rmax it pt al beat life n _ _ ks is 0 n k (by omega) hks hT n 0 (by omega) _ _ _ _ _ _ _ _ _ _ _ _ _ _ _ _ _ _ _ _ _ _ _ _ _ _ _ _ _ _ _ _ _ _ _ _ _ _) (by omega)
theorem sig_ex (mtu ss sr rr mm ri rmin rmax it pt al beat life : Int) (n : Nat) (xs ys ks is : List Int) (k : SV → St → Prop) (hb : (addrB xs && addrB ys) = true) (hks : ∀ j, 0 ≤ ks.getD j 0) (hT : ∀ st, k (.sa (.one (bv true))) st) :
    ∃ N, evCall cxSi (ev cxSi N) 3 [.agg [iv .i64 mtu, iv .u16 ss, iv .i64 sr, iv .i64 rr, iv .i64 mm, iv .u32 ri, iv .u32 rmin, iv .u32 rmax, iv .u8 it, iv .u8 pt, iv .u8 al, iv .u32 beat, iv .u32 life], .one (.ref 0), .one (.ref 1), .one (.ref 2)] [rd32 xs, rd32 ys, some (.own false .ext 0 2 (.tab n [.ints .u8 ks, .ints .i64 is]))] k := ⟨_, sig_run mtu ss sr rr mm ri rmin rmax it pt al beat life n xs ys ks is k hb hks hT⟩
theorem sib_ex (mtu ss sr rr mm ri rmin rmax it pt al beat life : Int) (n : Nat) (xs ys ks is : List Int) (k : SV → St → Prop) (hb : (addrB xs && addrB ys) = false) (hT : ∀ st, k (.sa (.one (bv true))) st) :
    ∃ N, evCall cxSb (ev cxSb N) 3 [.agg [iv .i64 mtu, iv .u16 ss, iv .i64 sr, iv .i64 rr, iv .i64 mm, iv .u32 ri, iv .u32 rmin, iv .u32 rmax, iv .u8 it, iv .u8 pt, iv .u8 al, iv .u32 beat, iv .u32 life], .one (.ref 0), .one (.ref 1), .one (.ref 2)] [rd32 xs, rd32 ys, some (.own false .ext 0 2 (.tab n [.ints .u8 ks, .ints .i64 is]))] k := ⟨_, sib_run mtu ss sr rr mm ri rmin rmax it pt al beat life n xs ys ks is k hb hT⟩
end Go.Ev
