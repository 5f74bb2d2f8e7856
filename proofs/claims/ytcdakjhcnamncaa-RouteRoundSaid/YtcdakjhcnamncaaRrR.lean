/- The law RouteRound, run. No conditions. -/
import Derived.Test.YtcdakjhcnamncaaRoZ
import Derived.Test.YtcdakjhcnamncaaWkR
import Derived.Test.YtcdakjhcnamncaaRtS2
import Derived.Test.YtcdakjhcnamncaaRpS
import Derived.Test.YtcdakjhcnamncaaRrC1
import Derived.Test.YtcdakjhcnamncaaRrC2
import Derived.Test.YtcdakjhcnamncaaRrC3
import Derived.Test.YtcdakjhcnamncaaRrC4
import Derived.Test.YtcdakjhcnamncaaRrC6
import Derived.Test.YtcdakjhcnamncaaRrC9
set_option linter.unusedVariables false
set_option linter.unusedSimpArgs false
set_option maxRecDepth 100000
set_option maxHeartbeats 4000000
namespace Go.Ev
open Go Go.Proofs Go.Spec
attribute [local irreducible] ev evCall branch need again
theorem cxRr_ok : CxOk Try.prog cxRr := mkCx_ok (by kernel_rfl) (by kernel_rfl) (by
  intro y h
  simp only [List.mem_cons, List.not_mem_nil, or_false] at h
  rcases h with rfl | rfl | rfl | rfl | rfl | rfl | rfl | rfl
  · exact known_sum
  · exact addr_sum
  · exact pn_sum
  · exact miss_sum
  · exact hear_sum
  · exact prim_sum
  · exact next_sum
  · exact choose_sum)
theorem cxRq_ok : CxOk Try.prog cxRq := mkCx_ok (by kernel_rfl) (by kernel_rfl) (by
  intro y h
  simp only [List.mem_cons, List.not_mem_nil, or_false] at h
  rcases h with rfl | rfl
  · exact known_sum
  · exact rnbad_sum)
theorem lfi {p : Prop} (h : p) : lf p := h
theorem len3 {xs : List Int} (h : addrB xs = true) : (∃ a, xs = [a]) ∨ (∃ a b, xs = [a, b]) ∨ ∃ a b c, xs = [a, b, c] := by
  unfold addrB at h
  simp only [Bool.and_eq_true_iff, decide_eq_true_iff] at h
  obtain ⟨_, h1, h2⟩ := h
  match xs, h1, h2 with
  | [a], _, _ => exact Or.inl ⟨a, rfl⟩
  | [a, b], _, _ => exact Or.inr (Or.inl ⟨a, b, rfl⟩)
  | [a, b, c], _, _ => exact Or.inr (Or.inr ⟨a, b, c, rfl⟩)
theorem rob_run (mtu ss sr rr mm ri rmin rmax it pt al beat life from_ : Int) (n : Nat) (xs ys ks is : List Int) (k : SV → St → Prop) (hb : (addrB xs && addrB ys) = false) (hT : ∀ st, k (.sa (.one (bv true))) st) :
    evCall cxRq (ev cxRq 40) 4 [(.agg (cellsCfg ⟨mtu, ss, sr, rr, mm, ri, rmin, rmax, it, pt, al, beat, life⟩)), .one (.ref 0), .one (.ref 1), .one (.ref 2), .one (iv .i64 from_)] [rd32 xs, rd32 ys, some (.own false .ext 0 2 (.tab n [.ints .u8 ks, .ints .i64 is]))] k := by
  rw [t_rob (N := 0), List.take_length, List.take_length]
  refine brd (fun _ => hT _) (fun g1 => brd (fun _ => hT _) (fun g2 => brd (fun _ => hT _) (fun g3 => ?_)))
  refine ndd (by omega) (ndd (by omega) (nd ?_ (hT _)))
  rw [hb, decide_eq_true (by omega), decide_eq_true (by omega)]
  rfl
theorem rr_11 (mtu ss sr rr mm ri rmin rmax it pt al beat life a0 b0 from_ : Int) (n : Nat) (ks is : List Int) (L : Nat) (k : SV → St → Prop) (hn : n ≤ 2000) (hL : n + 9 ≤ L) (hx : addrB [a0] = true) (hy : addrB [b0] = true) (hT : ∀ st, k (.sa (.one (bv true))) st) : ev cxRr (L + 77) 3 4 (codeAt Try.prog 4 [1, 1, 0]) (frm 124 [(1, (.sa (.one (SC.ref 0)))), (2, (.sa (.one (SC.ref 1)))), (3, (.sa (.one (SC.ref 2)))), (4, (.sa (.one (iv .i64 from_)))), (5, (.sa (.one (SC.ptr 3 0 0)))), (10, (.sa (.one (SC.ptr 4 0 0))))]) [exO [a0], exO [b0], some (.own false .ext 0 2 (.tab n [.ints .u8 ks, .ints .i64 is])), obj 25 13 [iv .i64 mtu, iv .u16 ss, iv .i64 sr, iv .i64 rr, iv .i64 mm, iv .u32 ri, iv .u32 rmin, iv .u32 rmax, iv .u8 it, iv .u8 pt, iv .u8 al, iv .u32 beat, iv .u32 life], obj 4 1 [bv false]] (kSeq (ev cxRr (L + 77) 3 4 (codeAt Try.prog 4 [1, 1, 1])) (kRet (Cx.P cxRr) [(ResultVar.cell 10 4)] 3 k)) := by
  rw [t_c3_11, hx, hy]
  refine Again.mk (br (fun e => by cases e) (fun _ => br (fun e => by cases e) (fun _ => ?_)))
  have hz : ∀ P : Prop, (P → P) := fun _ h => h
  repeat' refine br (fun _ => ?_) (fun _ => ?_)
  all_goals refine lfi ?_
  all_goals first
    | (rw [t_c4z]; exact hT _)
    | (rw [t_c4z]; exact Again.mk (hT _))
    | skip
  refine evF (md_loop1 mtu ss sr rr mm ri rmin rmax it pt al beat life _ n _ _ ks is (L - n) L _ hn (fun p0 prim sil hp => ?_) n 0 ⟨a0, b0, IntKind.wrap .i64 pt, 0, false, IntKind.wrap .u64 rmin, IntKind.wrap .u64 rmax, IntKind.wrap .u64 ri, 0, 0, false, mtu, mulK .i64 2 mtu, 65536, 0⟩ 0 0 (by omega) (by decide)) (by omega)
  show ev cxRr _ 3 _ _ _ _ _
  unfold BS1
  rw [t_c4_1]
  refine Again.mk (brd (fun _ => hT _) (fun f1 => brd (fun _ => hT _) (fun f2 => lfi ?_)))
  have h := c7_1 p0 prim sil (IntKind.wrap .i64 al) from_ n [a0] [b0] ks is L k (by omega) hT hp (there_iff.2 ⟨by omega, by omega⟩)
  exact h
theorem rr_12 (mtu ss sr rr mm ri rmin rmax it pt al beat life a0 b0 b1 from_ : Int) (n : Nat) (ks is : List Int) (L : Nat) (k : SV → St → Prop) (hn : n ≤ 2000) (hL : n + 9 ≤ L) (hx : addrB [a0] = true) (hy : addrB [b0, b1] = true) (hT : ∀ st, k (.sa (.one (bv true))) st) : ev cxRr (L + 77) 3 4 (codeAt Try.prog 4 [1, 1, 0]) (frm 124 [(1, (.sa (.one (SC.ref 0)))), (2, (.sa (.one (SC.ref 1)))), (3, (.sa (.one (SC.ref 2)))), (4, (.sa (.one (iv .i64 from_)))), (5, (.sa (.one (SC.ptr 3 0 0)))), (10, (.sa (.one (SC.ptr 4 0 0))))]) [exO [a0], exO [b0, b1], some (.own false .ext 0 2 (.tab n [.ints .u8 ks, .ints .i64 is])), obj 25 13 [iv .i64 mtu, iv .u16 ss, iv .i64 sr, iv .i64 rr, iv .i64 mm, iv .u32 ri, iv .u32 rmin, iv .u32 rmax, iv .u8 it, iv .u8 pt, iv .u8 al, iv .u32 beat, iv .u32 life], obj 4 1 [bv false]] (kSeq (ev cxRr (L + 77) 3 4 (codeAt Try.prog 4 [1, 1, 1])) (kRet (Cx.P cxRr) [(ResultVar.cell 10 4)] 3 k)) := by
  rw [t_c3_12, hx, hy]
  refine Again.mk (br (fun e => by cases e) (fun _ => br (fun e => by cases e) (fun _ => ?_)))
  have hz : ∀ P : Prop, (P → P) := fun _ h => h
  repeat' refine br (fun _ => ?_) (fun _ => ?_)
  all_goals refine lfi ?_
  all_goals first
    | (rw [t_c4z]; exact hT _)
    | (rw [t_c4z]; exact Again.mk (hT _))
    | skip
  refine evF (md_loop2 mtu ss sr rr mm ri rmin rmax it pt al beat life _ n _ _ ks is (L - n) L _ hn (fun p0 p1 prim sil hp => ?_) n 0 ⟨a0, b0, IntKind.wrap .i64 pt, 0, false, IntKind.wrap .u64 rmin, IntKind.wrap .u64 rmax, IntKind.wrap .u64 ri, 0, 0, false, mtu, mulK .i64 2 mtu, 65536, 0⟩ ⟨a0, b1, IntKind.wrap .i64 pt, 0, false, IntKind.wrap .u64 rmin, IntKind.wrap .u64 rmax, IntKind.wrap .u64 ri, 0, 0, false, mtu, mulK .i64 2 mtu, 65536, 0⟩ 0 0 (by omega) (by decide)) (by omega)
  show ev cxRr _ 3 _ _ _ _ _
  unfold BS2
  rw [t_c4_2]
  refine Again.mk (brd (fun _ => hT _) (fun f1 => brd (fun _ => hT _) (fun f2 => lfi ?_)))
  have h := c7_2 p0 p1 prim sil (IntKind.wrap .i64 al) from_ n [a0] [b0, b1] ks is L k (by omega) hT hp (there_iff.2 ⟨by omega, by omega⟩)
  exact h
theorem rr_13 (mtu ss sr rr mm ri rmin rmax it pt al beat life a0 b0 b1 b2 from_ : Int) (n : Nat) (ks is : List Int) (L : Nat) (k : SV → St → Prop) (hn : n ≤ 2000) (hL : n + 9 ≤ L) (hx : addrB [a0] = true) (hy : addrB [b0, b1, b2] = true) (hT : ∀ st, k (.sa (.one (bv true))) st) : ev cxRr (L + 77) 3 4 (codeAt Try.prog 4 [1, 1, 0]) (frm 124 [(1, (.sa (.one (SC.ref 0)))), (2, (.sa (.one (SC.ref 1)))), (3, (.sa (.one (SC.ref 2)))), (4, (.sa (.one (iv .i64 from_)))), (5, (.sa (.one (SC.ptr 3 0 0)))), (10, (.sa (.one (SC.ptr 4 0 0))))]) [exO [a0], exO [b0, b1, b2], some (.own false .ext 0 2 (.tab n [.ints .u8 ks, .ints .i64 is])), obj 25 13 [iv .i64 mtu, iv .u16 ss, iv .i64 sr, iv .i64 rr, iv .i64 mm, iv .u32 ri, iv .u32 rmin, iv .u32 rmax, iv .u8 it, iv .u8 pt, iv .u8 al, iv .u32 beat, iv .u32 life], obj 4 1 [bv false]] (kSeq (ev cxRr (L + 77) 3 4 (codeAt Try.prog 4 [1, 1, 1])) (kRet (Cx.P cxRr) [(ResultVar.cell 10 4)] 3 k)) := by
  rw [t_c3_13, hx, hy]
  refine Again.mk (br (fun e => by cases e) (fun _ => br (fun e => by cases e) (fun _ => ?_)))
  have hz : ∀ P : Prop, (P → P) := fun _ h => h
  repeat' refine br (fun _ => ?_) (fun _ => ?_)
  all_goals refine lfi ?_
  all_goals first
    | (rw [t_c4z]; exact hT _)
    | (rw [t_c4z]; exact Again.mk (hT _))
    | skip
  refine evF (md_loop3 mtu ss sr rr mm ri rmin rmax it pt al beat life _ n _ _ ks is (L - n) L _ hn (fun p0 p1 p2 prim sil hp => ?_) n 0 ⟨a0, b0, IntKind.wrap .i64 pt, 0, false, IntKind.wrap .u64 rmin, IntKind.wrap .u64 rmax, IntKind.wrap .u64 ri, 0, 0, false, mtu, mulK .i64 2 mtu, 65536, 0⟩ ⟨a0, b1, IntKind.wrap .i64 pt, 0, false, IntKind.wrap .u64 rmin, IntKind.wrap .u64 rmax, IntKind.wrap .u64 ri, 0, 0, false, mtu, mulK .i64 2 mtu, 65536, 0⟩ ⟨a0, b2, IntKind.wrap .i64 pt, 0, false, IntKind.wrap .u64 rmin, IntKind.wrap .u64 rmax, IntKind.wrap .u64 ri, 0, 0, false, mtu, mulK .i64 2 mtu, 65536, 0⟩ 0 0 (by omega) (by decide)) (by omega)
  show ev cxRr _ 3 _ _ _ _ _
  unfold BS3
  rw [t_c4_3]
  refine Again.mk (brd (fun _ => hT _) (fun f1 => brd (fun _ => hT _) (fun f2 => lfi ?_)))
  have h := c7_3 p0 p1 p2 prim sil (IntKind.wrap .i64 al) from_ n [a0] [b0, b1, b2] ks is L k (by omega) hT hp (there_iff.2 ⟨by omega, by omega⟩)
  exact h
theorem rr_21 (mtu ss sr rr mm ri rmin rmax it pt al beat life a0 a1 b0 from_ : Int) (n : Nat) (ks is : List Int) (L : Nat) (k : SV → St → Prop) (hn : n ≤ 2000) (hL : n + 9 ≤ L) (hx : addrB [a0, a1] = true) (hy : addrB [b0] = true) (hT : ∀ st, k (.sa (.one (bv true))) st) : ev cxRr (L + 77) 3 4 (codeAt Try.prog 4 [1, 1, 0]) (frm 124 [(1, (.sa (.one (SC.ref 0)))), (2, (.sa (.one (SC.ref 1)))), (3, (.sa (.one (SC.ref 2)))), (4, (.sa (.one (iv .i64 from_)))), (5, (.sa (.one (SC.ptr 3 0 0)))), (10, (.sa (.one (SC.ptr 4 0 0))))]) [exO [a0, a1], exO [b0], some (.own false .ext 0 2 (.tab n [.ints .u8 ks, .ints .i64 is])), obj 25 13 [iv .i64 mtu, iv .u16 ss, iv .i64 sr, iv .i64 rr, iv .i64 mm, iv .u32 ri, iv .u32 rmin, iv .u32 rmax, iv .u8 it, iv .u8 pt, iv .u8 al, iv .u32 beat, iv .u32 life], obj 4 1 [bv false]] (kSeq (ev cxRr (L + 77) 3 4 (codeAt Try.prog 4 [1, 1, 1])) (kRet (Cx.P cxRr) [(ResultVar.cell 10 4)] 3 k)) := by
  rw [t_c3_21, hx, hy]
  refine Again.mk (br (fun e => by cases e) (fun _ => br (fun e => by cases e) (fun _ => ?_)))
  have hz : ∀ P : Prop, (P → P) := fun _ h => h
  repeat' refine br (fun _ => ?_) (fun _ => ?_)
  all_goals refine lfi ?_
  all_goals first
    | (rw [t_c4z]; exact hT _)
    | (rw [t_c4z]; exact Again.mk (hT _))
    | skip
  refine evF (md_loop2 mtu ss sr rr mm ri rmin rmax it pt al beat life _ n _ _ ks is (L - n) L _ hn (fun p0 p1 prim sil hp => ?_) n 0 ⟨a0, b0, IntKind.wrap .i64 pt, 0, false, IntKind.wrap .u64 rmin, IntKind.wrap .u64 rmax, IntKind.wrap .u64 ri, 0, 0, false, mtu, mulK .i64 2 mtu, 65536, 0⟩ ⟨a1, b0, IntKind.wrap .i64 pt, 0, false, IntKind.wrap .u64 rmin, IntKind.wrap .u64 rmax, IntKind.wrap .u64 ri, 0, 0, false, mtu, mulK .i64 2 mtu, 65536, 0⟩ 0 0 (by omega) (by decide)) (by omega)
  show ev cxRr _ 3 _ _ _ _ _
  unfold BS2
  rw [t_c4_2]
  refine Again.mk (brd (fun _ => hT _) (fun f1 => brd (fun _ => hT _) (fun f2 => lfi ?_)))
  have h := c7_2 p0 p1 prim sil (IntKind.wrap .i64 al) from_ n [a0, a1] [b0] ks is L k (by omega) hT hp (there_iff.2 ⟨by omega, by omega⟩)
  exact h
theorem rr_22 (mtu ss sr rr mm ri rmin rmax it pt al beat life a0 a1 b0 b1 from_ : Int) (n : Nat) (ks is : List Int) (L : Nat) (k : SV → St → Prop) (hn : n ≤ 2000) (hL : n + 9 ≤ L) (hx : addrB [a0, a1] = true) (hy : addrB [b0, b1] = true) (hT : ∀ st, k (.sa (.one (bv true))) st) : ev cxRr (L + 77) 3 4 (codeAt Try.prog 4 [1, 1, 0]) (frm 124 [(1, (.sa (.one (SC.ref 0)))), (2, (.sa (.one (SC.ref 1)))), (3, (.sa (.one (SC.ref 2)))), (4, (.sa (.one (iv .i64 from_)))), (5, (.sa (.one (SC.ptr 3 0 0)))), (10, (.sa (.one (SC.ptr 4 0 0))))]) [exO [a0, a1], exO [b0, b1], some (.own false .ext 0 2 (.tab n [.ints .u8 ks, .ints .i64 is])), obj 25 13 [iv .i64 mtu, iv .u16 ss, iv .i64 sr, iv .i64 rr, iv .i64 mm, iv .u32 ri, iv .u32 rmin, iv .u32 rmax, iv .u8 it, iv .u8 pt, iv .u8 al, iv .u32 beat, iv .u32 life], obj 4 1 [bv false]] (kSeq (ev cxRr (L + 77) 3 4 (codeAt Try.prog 4 [1, 1, 1])) (kRet (Cx.P cxRr) [(ResultVar.cell 10 4)] 3 k)) := by
  rw [t_c3_22, hx, hy]
  refine Again.mk (br (fun e => by cases e) (fun _ => br (fun e => by cases e) (fun _ => ?_)))
  have hz : ∀ P : Prop, (P → P) := fun _ h => h
  repeat' refine br (fun _ => ?_) (fun _ => ?_)
  all_goals refine lfi ?_
  all_goals first
    | (rw [t_c4z]; exact hT _)
    | (rw [t_c4z]; exact Again.mk (hT _))
    | skip
  refine evF (md_loop4 mtu ss sr rr mm ri rmin rmax it pt al beat life _ n _ _ ks is (L - n) L _ hn (fun p0 p1 p2 p3 prim sil hp => ?_) n 0 ⟨a0, b0, IntKind.wrap .i64 pt, 0, false, IntKind.wrap .u64 rmin, IntKind.wrap .u64 rmax, IntKind.wrap .u64 ri, 0, 0, false, mtu, mulK .i64 2 mtu, 65536, 0⟩ ⟨a0, b1, IntKind.wrap .i64 pt, 0, false, IntKind.wrap .u64 rmin, IntKind.wrap .u64 rmax, IntKind.wrap .u64 ri, 0, 0, false, mtu, mulK .i64 2 mtu, 65536, 0⟩ ⟨a1, b0, IntKind.wrap .i64 pt, 0, false, IntKind.wrap .u64 rmin, IntKind.wrap .u64 rmax, IntKind.wrap .u64 ri, 0, 0, false, mtu, mulK .i64 2 mtu, 65536, 0⟩ ⟨a1, b1, IntKind.wrap .i64 pt, 0, false, IntKind.wrap .u64 rmin, IntKind.wrap .u64 rmax, IntKind.wrap .u64 ri, 0, 0, false, mtu, mulK .i64 2 mtu, 65536, 0⟩ 0 0 (by omega) (by decide)) (by omega)
  show ev cxRr _ 3 _ _ _ _ _
  unfold BS4
  rw [t_c4_4]
  refine Again.mk (brd (fun _ => hT _) (fun f1 => brd (fun _ => hT _) (fun f2 => lfi ?_)))
  have h := c7_4 p0 p1 p2 p3 prim sil (IntKind.wrap .i64 al) from_ n [a0, a1] [b0, b1] ks is L k (by omega) hT hp (there_iff.2 ⟨by omega, by omega⟩)
  exact h
theorem rr_23 (mtu ss sr rr mm ri rmin rmax it pt al beat life a0 a1 b0 b1 b2 from_ : Int) (n : Nat) (ks is : List Int) (L : Nat) (k : SV → St → Prop) (hn : n ≤ 2000) (hL : n + 9 ≤ L) (hx : addrB [a0, a1] = true) (hy : addrB [b0, b1, b2] = true) (hT : ∀ st, k (.sa (.one (bv true))) st) : ev cxRr (L + 77) 3 4 (codeAt Try.prog 4 [1, 1, 0]) (frm 124 [(1, (.sa (.one (SC.ref 0)))), (2, (.sa (.one (SC.ref 1)))), (3, (.sa (.one (SC.ref 2)))), (4, (.sa (.one (iv .i64 from_)))), (5, (.sa (.one (SC.ptr 3 0 0)))), (10, (.sa (.one (SC.ptr 4 0 0))))]) [exO [a0, a1], exO [b0, b1, b2], some (.own false .ext 0 2 (.tab n [.ints .u8 ks, .ints .i64 is])), obj 25 13 [iv .i64 mtu, iv .u16 ss, iv .i64 sr, iv .i64 rr, iv .i64 mm, iv .u32 ri, iv .u32 rmin, iv .u32 rmax, iv .u8 it, iv .u8 pt, iv .u8 al, iv .u32 beat, iv .u32 life], obj 4 1 [bv false]] (kSeq (ev cxRr (L + 77) 3 4 (codeAt Try.prog 4 [1, 1, 1])) (kRet (Cx.P cxRr) [(ResultVar.cell 10 4)] 3 k)) := by
  rw [t_c3_23, hx, hy]
  refine Again.mk (br (fun e => by cases e) (fun _ => br (fun e => by cases e) (fun _ => ?_)))
  have hz : ∀ P : Prop, (P → P) := fun _ h => h
  repeat' refine br (fun _ => ?_) (fun _ => ?_)
  all_goals refine lfi ?_
  all_goals first
    | (rw [t_c4z]; exact hT _)
    | (rw [t_c4z]; exact Again.mk (hT _))
    | skip
  refine evF (md_loop6 mtu ss sr rr mm ri rmin rmax it pt al beat life _ n _ _ ks is (L - n) L _ hn (fun p0 p1 p2 p3 p4 p5 prim sil hp => ?_) n 0 ⟨a0, b0, IntKind.wrap .i64 pt, 0, false, IntKind.wrap .u64 rmin, IntKind.wrap .u64 rmax, IntKind.wrap .u64 ri, 0, 0, false, mtu, mulK .i64 2 mtu, 65536, 0⟩ ⟨a0, b1, IntKind.wrap .i64 pt, 0, false, IntKind.wrap .u64 rmin, IntKind.wrap .u64 rmax, IntKind.wrap .u64 ri, 0, 0, false, mtu, mulK .i64 2 mtu, 65536, 0⟩ ⟨a0, b2, IntKind.wrap .i64 pt, 0, false, IntKind.wrap .u64 rmin, IntKind.wrap .u64 rmax, IntKind.wrap .u64 ri, 0, 0, false, mtu, mulK .i64 2 mtu, 65536, 0⟩ ⟨a1, b0, IntKind.wrap .i64 pt, 0, false, IntKind.wrap .u64 rmin, IntKind.wrap .u64 rmax, IntKind.wrap .u64 ri, 0, 0, false, mtu, mulK .i64 2 mtu, 65536, 0⟩ ⟨a1, b1, IntKind.wrap .i64 pt, 0, false, IntKind.wrap .u64 rmin, IntKind.wrap .u64 rmax, IntKind.wrap .u64 ri, 0, 0, false, mtu, mulK .i64 2 mtu, 65536, 0⟩ ⟨a1, b2, IntKind.wrap .i64 pt, 0, false, IntKind.wrap .u64 rmin, IntKind.wrap .u64 rmax, IntKind.wrap .u64 ri, 0, 0, false, mtu, mulK .i64 2 mtu, 65536, 0⟩ 0 0 (by omega) (by decide)) (by omega)
  show ev cxRr _ 3 _ _ _ _ _
  unfold BS6
  rw [t_c4_6]
  refine Again.mk (brd (fun _ => hT _) (fun f1 => brd (fun _ => hT _) (fun f2 => lfi ?_)))
  have h := c7_6 p0 p1 p2 p3 p4 p5 prim sil (IntKind.wrap .i64 al) from_ n [a0, a1] [b0, b1, b2] ks is L k (by omega) hT hp (there_iff.2 ⟨by omega, by omega⟩)
  exact h
theorem rr_31 (mtu ss sr rr mm ri rmin rmax it pt al beat life a0 a1 a2 b0 from_ : Int) (n : Nat) (ks is : List Int) (L : Nat) (k : SV → St → Prop) (hn : n ≤ 2000) (hL : n + 9 ≤ L) (hx : addrB [a0, a1, a2] = true) (hy : addrB [b0] = true) (hT : ∀ st, k (.sa (.one (bv true))) st) : ev cxRr (L + 77) 3 4 (codeAt Try.prog 4 [1, 1, 0]) (frm 124 [(1, (.sa (.one (SC.ref 0)))), (2, (.sa (.one (SC.ref 1)))), (3, (.sa (.one (SC.ref 2)))), (4, (.sa (.one (iv .i64 from_)))), (5, (.sa (.one (SC.ptr 3 0 0)))), (10, (.sa (.one (SC.ptr 4 0 0))))]) [exO [a0, a1, a2], exO [b0], some (.own false .ext 0 2 (.tab n [.ints .u8 ks, .ints .i64 is])), obj 25 13 [iv .i64 mtu, iv .u16 ss, iv .i64 sr, iv .i64 rr, iv .i64 mm, iv .u32 ri, iv .u32 rmin, iv .u32 rmax, iv .u8 it, iv .u8 pt, iv .u8 al, iv .u32 beat, iv .u32 life], obj 4 1 [bv false]] (kSeq (ev cxRr (L + 77) 3 4 (codeAt Try.prog 4 [1, 1, 1])) (kRet (Cx.P cxRr) [(ResultVar.cell 10 4)] 3 k)) := by
  rw [t_c3_31, hx, hy]
  refine Again.mk (br (fun e => by cases e) (fun _ => br (fun e => by cases e) (fun _ => ?_)))
  have hz : ∀ P : Prop, (P → P) := fun _ h => h
  repeat' refine br (fun _ => ?_) (fun _ => ?_)
  all_goals refine lfi ?_
  all_goals first
    | (rw [t_c4z]; exact hT _)
    | (rw [t_c4z]; exact Again.mk (hT _))
    | skip
  refine evF (md_loop3 mtu ss sr rr mm ri rmin rmax it pt al beat life _ n _ _ ks is (L - n) L _ hn (fun p0 p1 p2 prim sil hp => ?_) n 0 ⟨a0, b0, IntKind.wrap .i64 pt, 0, false, IntKind.wrap .u64 rmin, IntKind.wrap .u64 rmax, IntKind.wrap .u64 ri, 0, 0, false, mtu, mulK .i64 2 mtu, 65536, 0⟩ ⟨a1, b0, IntKind.wrap .i64 pt, 0, false, IntKind.wrap .u64 rmin, IntKind.wrap .u64 rmax, IntKind.wrap .u64 ri, 0, 0, false, mtu, mulK .i64 2 mtu, 65536, 0⟩ ⟨a2, b0, IntKind.wrap .i64 pt, 0, false, IntKind.wrap .u64 rmin, IntKind.wrap .u64 rmax, IntKind.wrap .u64 ri, 0, 0, false, mtu, mulK .i64 2 mtu, 65536, 0⟩ 0 0 (by omega) (by decide)) (by omega)
  show ev cxRr _ 3 _ _ _ _ _
  unfold BS3
  rw [t_c4_3]
  refine Again.mk (brd (fun _ => hT _) (fun f1 => brd (fun _ => hT _) (fun f2 => lfi ?_)))
  have h := c7_3 p0 p1 p2 prim sil (IntKind.wrap .i64 al) from_ n [a0, a1, a2] [b0] ks is L k (by omega) hT hp (there_iff.2 ⟨by omega, by omega⟩)
  exact h
theorem rr_32 (mtu ss sr rr mm ri rmin rmax it pt al beat life a0 a1 a2 b0 b1 from_ : Int) (n : Nat) (ks is : List Int) (L : Nat) (k : SV → St → Prop) (hn : n ≤ 2000) (hL : n + 9 ≤ L) (hx : addrB [a0, a1, a2] = true) (hy : addrB [b0, b1] = true) (hT : ∀ st, k (.sa (.one (bv true))) st) : ev cxRr (L + 77) 3 4 (codeAt Try.prog 4 [1, 1, 0]) (frm 124 [(1, (.sa (.one (SC.ref 0)))), (2, (.sa (.one (SC.ref 1)))), (3, (.sa (.one (SC.ref 2)))), (4, (.sa (.one (iv .i64 from_)))), (5, (.sa (.one (SC.ptr 3 0 0)))), (10, (.sa (.one (SC.ptr 4 0 0))))]) [exO [a0, a1, a2], exO [b0, b1], some (.own false .ext 0 2 (.tab n [.ints .u8 ks, .ints .i64 is])), obj 25 13 [iv .i64 mtu, iv .u16 ss, iv .i64 sr, iv .i64 rr, iv .i64 mm, iv .u32 ri, iv .u32 rmin, iv .u32 rmax, iv .u8 it, iv .u8 pt, iv .u8 al, iv .u32 beat, iv .u32 life], obj 4 1 [bv false]] (kSeq (ev cxRr (L + 77) 3 4 (codeAt Try.prog 4 [1, 1, 1])) (kRet (Cx.P cxRr) [(ResultVar.cell 10 4)] 3 k)) := by
  rw [t_c3_32, hx, hy]
  refine Again.mk (br (fun e => by cases e) (fun _ => br (fun e => by cases e) (fun _ => ?_)))
  have hz : ∀ P : Prop, (P → P) := fun _ h => h
  repeat' refine br (fun _ => ?_) (fun _ => ?_)
  all_goals refine lfi ?_
  all_goals first
    | (rw [t_c4z]; exact hT _)
    | (rw [t_c4z]; exact Again.mk (hT _))
    | skip
  refine evF (md_loop6 mtu ss sr rr mm ri rmin rmax it pt al beat life _ n _ _ ks is (L - n) L _ hn (fun p0 p1 p2 p3 p4 p5 prim sil hp => ?_) n 0 ⟨a0, b0, IntKind.wrap .i64 pt, 0, false, IntKind.wrap .u64 rmin, IntKind.wrap .u64 rmax, IntKind.wrap .u64 ri, 0, 0, false, mtu, mulK .i64 2 mtu, 65536, 0⟩ ⟨a0, b1, IntKind.wrap .i64 pt, 0, false, IntKind.wrap .u64 rmin, IntKind.wrap .u64 rmax, IntKind.wrap .u64 ri, 0, 0, false, mtu, mulK .i64 2 mtu, 65536, 0⟩ ⟨a1, b0, IntKind.wrap .i64 pt, 0, false, IntKind.wrap .u64 rmin, IntKind.wrap .u64 rmax, IntKind.wrap .u64 ri, 0, 0, false, mtu, mulK .i64 2 mtu, 65536, 0⟩ ⟨a1, b1, IntKind.wrap .i64 pt, 0, false, IntKind.wrap .u64 rmin, IntKind.wrap .u64 rmax, IntKind.wrap .u64 ri, 0, 0, false, mtu, mulK .i64 2 mtu, 65536, 0⟩ ⟨a2, b0, IntKind.wrap .i64 pt, 0, false, IntKind.wrap .u64 rmin, IntKind.wrap .u64 rmax, IntKind.wrap .u64 ri, 0, 0, false, mtu, mulK .i64 2 mtu, 65536, 0⟩ ⟨a2, b1, IntKind.wrap .i64 pt, 0, false, IntKind.wrap .u64 rmin, IntKind.wrap .u64 rmax, IntKind.wrap .u64 ri, 0, 0, false, mtu, mulK .i64 2 mtu, 65536, 0⟩ 0 0 (by omega) (by decide)) (by omega)
  show ev cxRr _ 3 _ _ _ _ _
  unfold BS6
  rw [t_c4_6]
  refine Again.mk (brd (fun _ => hT _) (fun f1 => brd (fun _ => hT _) (fun f2 => lfi ?_)))
  have h := c7_6 p0 p1 p2 p3 p4 p5 prim sil (IntKind.wrap .i64 al) from_ n [a0, a1, a2] [b0, b1] ks is L k (by omega) hT hp (there_iff.2 ⟨by omega, by omega⟩)
  exact h
theorem rr_33 (mtu ss sr rr mm ri rmin rmax it pt al beat life a0 a1 a2 b0 b1 b2 from_ : Int) (n : Nat) (ks is : List Int) (L : Nat) (k : SV → St → Prop) (hn : n ≤ 2000) (hL : n + 9 ≤ L) (hx : addrB [a0, a1, a2] = true) (hy : addrB [b0, b1, b2] = true) (hT : ∀ st, k (.sa (.one (bv true))) st) : ev cxRr (L + 77) 3 4 (codeAt Try.prog 4 [1, 1, 0]) (frm 124 [(1, (.sa (.one (SC.ref 0)))), (2, (.sa (.one (SC.ref 1)))), (3, (.sa (.one (SC.ref 2)))), (4, (.sa (.one (iv .i64 from_)))), (5, (.sa (.one (SC.ptr 3 0 0)))), (10, (.sa (.one (SC.ptr 4 0 0))))]) [exO [a0, a1, a2], exO [b0, b1, b2], some (.own false .ext 0 2 (.tab n [.ints .u8 ks, .ints .i64 is])), obj 25 13 [iv .i64 mtu, iv .u16 ss, iv .i64 sr, iv .i64 rr, iv .i64 mm, iv .u32 ri, iv .u32 rmin, iv .u32 rmax, iv .u8 it, iv .u8 pt, iv .u8 al, iv .u32 beat, iv .u32 life], obj 4 1 [bv false]] (kSeq (ev cxRr (L + 77) 3 4 (codeAt Try.prog 4 [1, 1, 1])) (kRet (Cx.P cxRr) [(ResultVar.cell 10 4)] 3 k)) := by
  rw [t_c3_33, hx, hy]
  refine Again.mk (br (fun e => by cases e) (fun _ => br (fun e => by cases e) (fun _ => ?_)))
  have hz : ∀ P : Prop, (P → P) := fun _ h => h
  repeat' refine br (fun _ => ?_) (fun _ => ?_)
  all_goals refine lfi ?_
  all_goals first
    | (rw [t_c4z]; exact hT _)
    | (rw [t_c4z]; exact Again.mk (hT _))
    | skip
  refine evF (md_loop9 mtu ss sr rr mm ri rmin rmax it pt al beat life _ n _ _ ks is (L - n) L _ hn (fun p0 p1 p2 p3 p4 p5 p6 p7 p8 prim sil hp => ?_) n 0 ⟨a0, b0, IntKind.wrap .i64 pt, 0, false, IntKind.wrap .u64 rmin, IntKind.wrap .u64 rmax, IntKind.wrap .u64 ri, 0, 0, false, mtu, mulK .i64 2 mtu, 65536, 0⟩ ⟨a0, b1, IntKind.wrap .i64 pt, 0, false, IntKind.wrap .u64 rmin, IntKind.wrap .u64 rmax, IntKind.wrap .u64 ri, 0, 0, false, mtu, mulK .i64 2 mtu, 65536, 0⟩ ⟨a0, b2, IntKind.wrap .i64 pt, 0, false, IntKind.wrap .u64 rmin, IntKind.wrap .u64 rmax, IntKind.wrap .u64 ri, 0, 0, false, mtu, mulK .i64 2 mtu, 65536, 0⟩ ⟨a1, b0, IntKind.wrap .i64 pt, 0, false, IntKind.wrap .u64 rmin, IntKind.wrap .u64 rmax, IntKind.wrap .u64 ri, 0, 0, false, mtu, mulK .i64 2 mtu, 65536, 0⟩ ⟨a1, b1, IntKind.wrap .i64 pt, 0, false, IntKind.wrap .u64 rmin, IntKind.wrap .u64 rmax, IntKind.wrap .u64 ri, 0, 0, false, mtu, mulK .i64 2 mtu, 65536, 0⟩ ⟨a1, b2, IntKind.wrap .i64 pt, 0, false, IntKind.wrap .u64 rmin, IntKind.wrap .u64 rmax, IntKind.wrap .u64 ri, 0, 0, false, mtu, mulK .i64 2 mtu, 65536, 0⟩ ⟨a2, b0, IntKind.wrap .i64 pt, 0, false, IntKind.wrap .u64 rmin, IntKind.wrap .u64 rmax, IntKind.wrap .u64 ri, 0, 0, false, mtu, mulK .i64 2 mtu, 65536, 0⟩ ⟨a2, b1, IntKind.wrap .i64 pt, 0, false, IntKind.wrap .u64 rmin, IntKind.wrap .u64 rmax, IntKind.wrap .u64 ri, 0, 0, false, mtu, mulK .i64 2 mtu, 65536, 0⟩ ⟨a2, b2, IntKind.wrap .i64 pt, 0, false, IntKind.wrap .u64 rmin, IntKind.wrap .u64 rmax, IntKind.wrap .u64 ri, 0, 0, false, mtu, mulK .i64 2 mtu, 65536, 0⟩ 0 0 (by omega) (by decide)) (by omega)
  show ev cxRr _ 3 _ _ _ _ _
  unfold BS9
  rw [t_c4_9]
  refine Again.mk (brd (fun _ => hT _) (fun f1 => brd (fun _ => hT _) (fun f2 => lfi ?_)))
  have h := c7_9 p0 p1 p2 p3 p4 p5 p6 p7 p8 prim sil (IntKind.wrap .i64 al) from_ n [a0, a1, a2] [b0, b1, b2] ks is L k (by omega) hT hp (there_iff.2 ⟨by omega, by omega⟩)
  exact h
theorem rr_run (mtu ss sr rr mm ri rmin rmax it pt al beat life from_ : Int) (n : Nat) (xs ys ks is : List Int) (k : SV → St → Prop) (hb : (addrB xs && addrB ys) = true) (hT : ∀ st, k (.sa (.one (bv true))) st) :
    evCall cxRr (ev cxRr (n + 100 + 80)) 4 [(.agg (cellsCfg ⟨mtu, ss, sr, rr, mm, ri, rmin, rmax, it, pt, al, beat, life⟩)), .one (.ref 0), .one (.ref 1), .one (.ref 2), .one (iv .i64 from_)] [exO xs, exO ys, some (.own false .ext 0 2 (.tab n [.ints .u8 ks, .ints .i64 is]))] k := by
  obtain ⟨hx, hy⟩ := Bool.and_eq_true_iff.1 hb
  rw [t_ro]
  refine brd (fun _ => hT _) (fun g1 => brd (fun _ => hT _) (fun g2 => brd (fun _ => hT _) (fun g3 => lfi ?_)))
  rcases len3 hx with ⟨a0, rfl⟩ | ⟨a0, a1, rfl⟩ | ⟨a0, a1, a2, rfl⟩
  · rcases len3 hy with ⟨b0, rfl⟩ | ⟨b0, b1, rfl⟩ | ⟨b0, b1, b2, rfl⟩
    · exact rr_11 mtu ss sr rr mm ri rmin rmax it pt al beat life a0 b0 from_ n ks is (n + 100) k (by omega) (by omega) hx hy hT
    · exact rr_12 mtu ss sr rr mm ri rmin rmax it pt al beat life a0 b0 b1 from_ n ks is (n + 100) k (by omega) (by omega) hx hy hT
    · exact rr_13 mtu ss sr rr mm ri rmin rmax it pt al beat life a0 b0 b1 b2 from_ n ks is (n + 100) k (by omega) (by omega) hx hy hT
  · rcases len3 hy with ⟨b0, rfl⟩ | ⟨b0, b1, rfl⟩ | ⟨b0, b1, b2, rfl⟩
    · exact rr_21 mtu ss sr rr mm ri rmin rmax it pt al beat life a0 a1 b0 from_ n ks is (n + 100) k (by omega) (by omega) hx hy hT
    · exact rr_22 mtu ss sr rr mm ri rmin rmax it pt al beat life a0 a1 b0 b1 from_ n ks is (n + 100) k (by omega) (by omega) hx hy hT
    · exact rr_23 mtu ss sr rr mm ri rmin rmax it pt al beat life a0 a1 b0 b1 b2 from_ n ks is (n + 100) k (by omega) (by omega) hx hy hT
  · rcases len3 hy with ⟨b0, rfl⟩ | ⟨b0, b1, rfl⟩ | ⟨b0, b1, b2, rfl⟩
    · exact rr_31 mtu ss sr rr mm ri rmin rmax it pt al beat life a0 a1 a2 b0 from_ n ks is (n + 100) k (by omega) (by omega) hx hy hT
    · exact rr_32 mtu ss sr rr mm ri rmin rmax it pt al beat life a0 a1 a2 b0 b1 from_ n ks is (n + 100) k (by omega) (by omega) hx hy hT
    · exact rr_33 mtu ss sr rr mm ri rmin rmax it pt al beat life a0 a1 a2 b0 b1 b2 from_ n ks is (n + 100) k (by omega) (by omega) hx hy hT
theorem rr_ex (mtu ss sr rr mm ri rmin rmax it pt al beat life from_ : Int) (n : Nat) (xs ys ks is : List Int) (k : SV → St → Prop) (hb : (addrB xs && addrB ys) = true) (hT : ∀ st, k (.sa (.one (bv true))) st) :
    ∃ N, evCall cxRr (ev cxRr N) 4 [.agg [iv .i64 mtu, iv .u16 ss, iv .i64 sr, iv .i64 rr, iv .i64 mm, iv .u32 ri, iv .u32 rmin, iv .u32 rmax, iv .u8 it, iv .u8 pt, iv .u8 al, iv .u32 beat, iv .u32 life], .one (.ref 0), .one (.ref 1), .one (.ref 2), .one (iv .i64 from_)] [some (.own false .ext 0 1 (.ints .u32 xs)), some (.own false .ext 0 1 (.ints .u32 ys)), some (.own false .ext 0 2 (.tab n [.ints .u8 ks, .ints .i64 is]))] k := ⟨_, rr_run mtu ss sr rr mm ri rmin rmax it pt al beat life from_ n xs ys ks is k hb hT⟩
theorem rob_ex (mtu ss sr rr mm ri rmin rmax it pt al beat life from_ : Int) (n : Nat) (xs ys ks is : List Int) (k : SV → St → Prop) (hb : (addrB xs && addrB ys) = false) (hT : ∀ st, k (.sa (.one (bv true))) st) :
    ∃ N, evCall cxRq (ev cxRq N) 4 [.agg [iv .i64 mtu, iv .u16 ss, iv .i64 sr, iv .i64 rr, iv .i64 mm, iv .u32 ri, iv .u32 rmin, iv .u32 rmax, iv .u8 it, iv .u8 pt, iv .u8 al, iv .u32 beat, iv .u32 life], .one (.ref 0), .one (.ref 1), .one (.ref 2), .one (iv .i64 from_)] [some (.own false .ext 0 1 (.ints .u32 xs)), some (.own false .ext 0 1 (.ints .u32 ys)), some (.own false .ext 0 2 (.tab n [.ints .u8 ks, .ints .i64 is]))] k := ⟨_, rob_run mtu ss sr rr mm ri rmin rmax it pt al beat life from_ n xs ys ks is k hb hT⟩
end Go.Ev
