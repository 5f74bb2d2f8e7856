/- The law RouteCalls, run. No conditions. -/
import Derived.Test.YtcdakjhcnamncaaWkR
import Derived.Test.YtcdakjhcnamncaaRlX
import Derived.Test.YtcdakjhcnamncaaRlA
set_option linter.unusedVariables false
set_option linter.unusedSimpArgs false
set_option maxRecDepth 100000
namespace Go.Ev
open Go Go.Proofs Go.Spec
attribute [local irreducible] ev evCall branch need again
theorem rlA_11 (mtu ss sr rr mm ri rmin rmax it pt al beat life : Int) (a0 b0 : Int) (n : Nat) (ks is : List Int) (k : KT) (hc : checkB ⟨mtu, ss, sr, rr, mm, ri, rmin, rmax, it, pt, al, beat, life⟩ = mayB ⟨mtu, ss, sr, rr, mm, ri, rmin, rmax, it, pt, al, beat, life⟩) (hp : 0 ≤ pt ∧ pt ≤ 255) (ha : addrB [a0] = true) (hb : addrB [b0] = true) (hT : ∀ st, k (.sa (.one (bv true))) st) :
   ∃ N, evCall (cxRl 1) (ev (cxRl 1) N) 6 [(.agg (cellsCfg ⟨mtu, ss, sr, rr, mm, ri, rmin, rmax, it, pt, al, beat, life⟩)), .one (.ref 0), .one (.ref 1), .one (.ref 2)] [exO [a0], exO [b0], taO n ks is] k := by
 refine ⟨(n + 10) + 80, ?_⟩
 refine Eq.mpr (t_rlA11 mtu ss sr rr mm ri rmin rmax it pt al beat life a0 b0 n ks is (n + 10) k) ?_
 refine brd (fun _ => hT _) (fun hn => ?_)
 rw [ha, hb]
 refine br (fun e => by cases e) (fun _ => br (fun e => by cases e) (fun _ => ?_))
 rw [← hc]
 refine br (fun e => ?_) (fun e => ?_)
 · rw [e]
   refine br (fun e => by cases e) (fun _ => br (fun e => by cases e) (fun _ => br (fun e => by cases e) (fun _ => ?_)))
   have hnd : (endsP [pNew mtu ri rmin rmax pt a0 b0]).Nodup := by
     exact List.nodup_cons.2 ⟨by simp [endsP], List.nodup_nil⟩
   have hr : relS 0 [pNew mtu ri rmin rmax pt a0 b0] [rNew mtu ri rmin rmax pt a0 b0] = true := by
     exact Bool.and_eq_true_iff.2 ⟨rel_new hp _ _, rfl⟩
   exact rl_loop1 _ n [a0] [b0] ks is 10 (n + 10) k (by omega) hT n 0 (pNew mtu ri rmin rmax pt a0 b0) (rNew mtu ri rmin rmax pt a0 b0) 0 0 (by omega) hr hnd (by decide)
 · rw [e]
   exact br (fun _ => hT _) (fun e => by cases e)
theorem rlA_12 (mtu ss sr rr mm ri rmin rmax it pt al beat life : Int) (a0 b0 b1 : Int) (n : Nat) (ks is : List Int) (k : KT) (hc : checkB ⟨mtu, ss, sr, rr, mm, ri, rmin, rmax, it, pt, al, beat, life⟩ = mayB ⟨mtu, ss, sr, rr, mm, ri, rmin, rmax, it, pt, al, beat, life⟩) (hp : 0 ≤ pt ∧ pt ≤ 255) (ha : addrB [a0] = true) (hb : addrB [b0, b1] = true) (hT : ∀ st, k (.sa (.one (bv true))) st) :
   ∃ N, evCall (cxRl 2) (ev (cxRl 2) N) 6 [(.agg (cellsCfg ⟨mtu, ss, sr, rr, mm, ri, rmin, rmax, it, pt, al, beat, life⟩)), .one (.ref 0), .one (.ref 1), .one (.ref 2)] [exO [a0], exO [b0, b1], taO n ks is] k := by
 refine ⟨(n + 10) + 80, ?_⟩
 refine Eq.mpr (t_rlA12 mtu ss sr rr mm ri rmin rmax it pt al beat life a0 b0 b1 n ks is (n + 10) k) ?_
 refine brd (fun _ => hT _) (fun hn => ?_)
 rw [ha, hb]
 refine br (fun e => by cases e) (fun _ => br (fun e => by cases e) (fun _ => ?_))
 rw [← hc]
 refine br (fun e => ?_) (fun e => ?_)
 · rw [e]
   refine br (fun _ => ?_) (fun e => by cases e)
   refine br (fun e => by cases e) (fun _ => br (fun e => by cases e) (fun _ => br (fun e => by cases e) (fun _ => ?_)))
   have B2 := addr2 hb
   have hnd : (endsP [pNew mtu ri rmin rmax pt a0 b0, pNew mtu ri rmin rmax pt a0 b1]).Nodup := by
     simp only [endsP, pNew, List.nodup_cons, List.mem_cons, List.not_mem_nil, or_false, Prod.mk.injEq, not_or, not_false_eq_true, List.nodup_nil, and_true, true_and]
     omega
   have hr : relS 0 [pNew mtu ri rmin rmax pt a0 b0, pNew mtu ri rmin rmax pt a0 b1] [rNew mtu ri rmin rmax pt a0 b0, rNew mtu ri rmin rmax pt a0 b1] = true := by
     exact Bool.and_eq_true_iff.2 ⟨rel_new hp _ _, Bool.and_eq_true_iff.2 ⟨rel_new hp _ _, rfl⟩⟩
   exact rl_loop2 _ n [a0] [b0, b1] ks is 10 (n + 10) k (by omega) hT n 0 (pNew mtu ri rmin rmax pt a0 b0) (pNew mtu ri rmin rmax pt a0 b1) (rNew mtu ri rmin rmax pt a0 b0) (rNew mtu ri rmin rmax pt a0 b1) 0 0 (by omega) hr hnd (by decide)
 · rw [e]
   exact br (fun _ => hT _) (fun e => by cases e)
theorem rlA_13 (mtu ss sr rr mm ri rmin rmax it pt al beat life : Int) (a0 b0 b1 b2 : Int) (n : Nat) (ks is : List Int) (k : KT) (hc : checkB ⟨mtu, ss, sr, rr, mm, ri, rmin, rmax, it, pt, al, beat, life⟩ = mayB ⟨mtu, ss, sr, rr, mm, ri, rmin, rmax, it, pt, al, beat, life⟩) (hp : 0 ≤ pt ∧ pt ≤ 255) (ha : addrB [a0] = true) (hb : addrB [b0, b1, b2] = true) (hT : ∀ st, k (.sa (.one (bv true))) st) :
   ∃ N, evCall (cxRl 3) (ev (cxRl 3) N) 6 [(.agg (cellsCfg ⟨mtu, ss, sr, rr, mm, ri, rmin, rmax, it, pt, al, beat, life⟩)), .one (.ref 0), .one (.ref 1), .one (.ref 2)] [exO [a0], exO [b0, b1, b2], taO n ks is] k := by
 refine ⟨(n + 10) + 80, ?_⟩
 refine Eq.mpr (t_rlA13 mtu ss sr rr mm ri rmin rmax it pt al beat life a0 b0 b1 b2 n ks is (n + 10) k) ?_
 refine brd (fun _ => hT _) (fun hn => ?_)
 rw [ha, hb]
 refine br (fun e => by cases e) (fun _ => br (fun e => by cases e) (fun _ => ?_))
 rw [← hc]
 refine br (fun e => ?_) (fun e => ?_)
 · rw [e]
   refine br (fun _ => ?_) (fun e => by cases e)
   refine br (fun _ => ?_) (fun e => by cases e)
   refine br (fun e => by cases e) (fun _ => br (fun e => by cases e) (fun _ => br (fun e => by cases e) (fun _ => ?_)))
   obtain ⟨B1, B2, B3⟩ := addr3 hb
   have hnd : (endsP [pNew mtu ri rmin rmax pt a0 b0, pNew mtu ri rmin rmax pt a0 b1, pNew mtu ri rmin rmax pt a0 b2]).Nodup := by
     simp only [endsP, pNew, List.nodup_cons, List.mem_cons, List.not_mem_nil, or_false, Prod.mk.injEq, not_or, not_false_eq_true, List.nodup_nil, and_true, true_and]
     omega
   have hr : relS 0 [pNew mtu ri rmin rmax pt a0 b0, pNew mtu ri rmin rmax pt a0 b1, pNew mtu ri rmin rmax pt a0 b2] [rNew mtu ri rmin rmax pt a0 b0, rNew mtu ri rmin rmax pt a0 b1, rNew mtu ri rmin rmax pt a0 b2] = true := by
     exact Bool.and_eq_true_iff.2 ⟨rel_new hp _ _, Bool.and_eq_true_iff.2 ⟨rel_new hp _ _, Bool.and_eq_true_iff.2 ⟨rel_new hp _ _, rfl⟩⟩⟩
   exact rl_loop3 _ n [a0] [b0, b1, b2] ks is 10 (n + 10) k (by omega) hT n 0 (pNew mtu ri rmin rmax pt a0 b0) (pNew mtu ri rmin rmax pt a0 b1) (pNew mtu ri rmin rmax pt a0 b2) (rNew mtu ri rmin rmax pt a0 b0) (rNew mtu ri rmin rmax pt a0 b1) (rNew mtu ri rmin rmax pt a0 b2) 0 0 (by omega) hr hnd (by decide)
 · rw [e]
   exact br (fun _ => hT _) (fun e => by cases e)
theorem rlA_21 (mtu ss sr rr mm ri rmin rmax it pt al beat life : Int) (a0 a1 b0 : Int) (n : Nat) (ks is : List Int) (k : KT) (hc : checkB ⟨mtu, ss, sr, rr, mm, ri, rmin, rmax, it, pt, al, beat, life⟩ = mayB ⟨mtu, ss, sr, rr, mm, ri, rmin, rmax, it, pt, al, beat, life⟩) (hp : 0 ≤ pt ∧ pt ≤ 255) (ha : addrB [a0, a1] = true) (hb : addrB [b0] = true) (hT : ∀ st, k (.sa (.one (bv true))) st) :
   ∃ N, evCall (cxRl 2) (ev (cxRl 2) N) 6 [(.agg (cellsCfg ⟨mtu, ss, sr, rr, mm, ri, rmin, rmax, it, pt, al, beat, life⟩)), .one (.ref 0), .one (.ref 1), .one (.ref 2)] [exO [a0, a1], exO [b0], taO n ks is] k := by
 refine ⟨(n + 10) + 80, ?_⟩
 refine Eq.mpr (t_rlA21 mtu ss sr rr mm ri rmin rmax it pt al beat life a0 a1 b0 n ks is (n + 10) k) ?_
 refine brd (fun _ => hT _) (fun hn => ?_)
 rw [ha, hb]
 refine br (fun e => by cases e) (fun _ => br (fun e => by cases e) (fun _ => ?_))
 rw [← hc]
 refine br (fun e => ?_) (fun e => ?_)
 · rw [e]
   refine br (fun _ => ?_) (fun e => by cases e)
   refine br (fun e => by cases e) (fun _ => br (fun e => by cases e) (fun _ => br (fun e => by cases e) (fun _ => ?_)))
   have A2 := addr2 ha
   have hnd : (endsP [pNew mtu ri rmin rmax pt a0 b0, pNew mtu ri rmin rmax pt a1 b0]).Nodup := by
     simp only [endsP, pNew, List.nodup_cons, List.mem_cons, List.not_mem_nil, or_false, Prod.mk.injEq, not_or, not_false_eq_true, List.nodup_nil, and_true, true_and]
     omega
   have hr : relS 0 [pNew mtu ri rmin rmax pt a0 b0, pNew mtu ri rmin rmax pt a1 b0] [rNew mtu ri rmin rmax pt a0 b0, rNew mtu ri rmin rmax pt a1 b0] = true := by
     exact Bool.and_eq_true_iff.2 ⟨rel_new hp _ _, Bool.and_eq_true_iff.2 ⟨rel_new hp _ _, rfl⟩⟩
   exact rl_loop2 _ n [a0, a1] [b0] ks is 10 (n + 10) k (by omega) hT n 0 (pNew mtu ri rmin rmax pt a0 b0) (pNew mtu ri rmin rmax pt a1 b0) (rNew mtu ri rmin rmax pt a0 b0) (rNew mtu ri rmin rmax pt a1 b0) 0 0 (by omega) hr hnd (by decide)
 · rw [e]
   exact br (fun _ => hT _) (fun e => by cases e)
theorem rlA_22 (mtu ss sr rr mm ri rmin rmax it pt al beat life : Int) (a0 a1 b0 b1 : Int) (n : Nat) (ks is : List Int) (k : KT) (hc : checkB ⟨mtu, ss, sr, rr, mm, ri, rmin, rmax, it, pt, al, beat, life⟩ = mayB ⟨mtu, ss, sr, rr, mm, ri, rmin, rmax, it, pt, al, beat, life⟩) (hp : 0 ≤ pt ∧ pt ≤ 255) (ha : addrB [a0, a1] = true) (hb : addrB [b0, b1] = true) (hT : ∀ st, k (.sa (.one (bv true))) st) :
   ∃ N, evCall (cxRl 4) (ev (cxRl 4) N) 6 [(.agg (cellsCfg ⟨mtu, ss, sr, rr, mm, ri, rmin, rmax, it, pt, al, beat, life⟩)), .one (.ref 0), .one (.ref 1), .one (.ref 2)] [exO [a0, a1], exO [b0, b1], taO n ks is] k := by
 refine ⟨(n + 10) + 80, ?_⟩
 refine Eq.mpr (t_rlA22 mtu ss sr rr mm ri rmin rmax it pt al beat life a0 a1 b0 b1 n ks is (n + 10) k) ?_
 refine brd (fun _ => hT _) (fun hn => ?_)
 rw [ha, hb]
 refine br (fun e => by cases e) (fun _ => br (fun e => by cases e) (fun _ => ?_))
 rw [← hc]
 refine br (fun e => ?_) (fun e => ?_)
 · rw [e]
   refine br (fun _ => ?_) (fun e => by cases e)
   refine br (fun _ => ?_) (fun e => by cases e)
   refine br (fun _ => ?_) (fun e => by cases e)
   refine br (fun e => by cases e) (fun _ => br (fun e => by cases e) (fun _ => br (fun e => by cases e) (fun _ => ?_)))
   have A2 := addr2 ha
   have B2 := addr2 hb
   have hnd : (endsP [pNew mtu ri rmin rmax pt a0 b0, pNew mtu ri rmin rmax pt a0 b1, pNew mtu ri rmin rmax pt a1 b0, pNew mtu ri rmin rmax pt a1 b1]).Nodup := by
     simp only [endsP, pNew, List.nodup_cons, List.mem_cons, List.not_mem_nil, or_false, Prod.mk.injEq, not_or, not_false_eq_true, List.nodup_nil, and_true, true_and]
     omega
   have hr : relS 0 [pNew mtu ri rmin rmax pt a0 b0, pNew mtu ri rmin rmax pt a0 b1, pNew mtu ri rmin rmax pt a1 b0, pNew mtu ri rmin rmax pt a1 b1] [rNew mtu ri rmin rmax pt a0 b0, rNew mtu ri rmin rmax pt a0 b1, rNew mtu ri rmin rmax pt a1 b0, rNew mtu ri rmin rmax pt a1 b1] = true := by
     exact Bool.and_eq_true_iff.2 ⟨rel_new hp _ _, Bool.and_eq_true_iff.2 ⟨rel_new hp _ _, Bool.and_eq_true_iff.2 ⟨rel_new hp _ _, Bool.and_eq_true_iff.2 ⟨rel_new hp _ _, rfl⟩⟩⟩⟩
   exact rl_loop4 _ n [a0, a1] [b0, b1] ks is 10 (n + 10) k (by omega) hT n 0 (pNew mtu ri rmin rmax pt a0 b0) (pNew mtu ri rmin rmax pt a0 b1) (pNew mtu ri rmin rmax pt a1 b0) (pNew mtu ri rmin rmax pt a1 b1) (rNew mtu ri rmin rmax pt a0 b0) (rNew mtu ri rmin rmax pt a0 b1) (rNew mtu ri rmin rmax pt a1 b0) (rNew mtu ri rmin rmax pt a1 b1) 0 0 (by omega) hr hnd (by decide)
 · rw [e]
   exact br (fun _ => hT _) (fun e => by cases e)
theorem rlA_23 (mtu ss sr rr mm ri rmin rmax it pt al beat life : Int) (a0 a1 b0 b1 b2 : Int) (n : Nat) (ks is : List Int) (k : KT) (hc : checkB ⟨mtu, ss, sr, rr, mm, ri, rmin, rmax, it, pt, al, beat, life⟩ = mayB ⟨mtu, ss, sr, rr, mm, ri, rmin, rmax, it, pt, al, beat, life⟩) (hp : 0 ≤ pt ∧ pt ≤ 255) (ha : addrB [a0, a1] = true) (hb : addrB [b0, b1, b2] = true) (hT : ∀ st, k (.sa (.one (bv true))) st) :
   ∃ N, evCall (cxRl 6) (ev (cxRl 6) N) 6 [(.agg (cellsCfg ⟨mtu, ss, sr, rr, mm, ri, rmin, rmax, it, pt, al, beat, life⟩)), .one (.ref 0), .one (.ref 1), .one (.ref 2)] [exO [a0, a1], exO [b0, b1, b2], taO n ks is] k := by
 refine ⟨(n + 10) + 80, ?_⟩
 refine Eq.mpr (t_rlA23 mtu ss sr rr mm ri rmin rmax it pt al beat life a0 a1 b0 b1 b2 n ks is (n + 10) k) ?_
 refine brd (fun _ => hT _) (fun hn => ?_)
 rw [ha, hb]
 refine br (fun e => by cases e) (fun _ => br (fun e => by cases e) (fun _ => ?_))
 rw [← hc]
 refine br (fun e => ?_) (fun e => ?_)
 · rw [e]
   refine br (fun _ => ?_) (fun e => by cases e)
   refine br (fun _ => ?_) (fun e => by cases e)
   refine br (fun _ => ?_) (fun e => by cases e)
   refine br (fun _ => ?_) (fun e => by cases e)
   refine br (fun _ => ?_) (fun e => by cases e)
   refine br (fun e => by cases e) (fun _ => br (fun e => by cases e) (fun _ => br (fun e => by cases e) (fun _ => ?_)))
   have A2 := addr2 ha
   obtain ⟨B1, B2, B3⟩ := addr3 hb
   have hnd : (endsP [pNew mtu ri rmin rmax pt a0 b0, pNew mtu ri rmin rmax pt a0 b1, pNew mtu ri rmin rmax pt a0 b2, pNew mtu ri rmin rmax pt a1 b0, pNew mtu ri rmin rmax pt a1 b1, pNew mtu ri rmin rmax pt a1 b2]).Nodup := by
     simp only [endsP, pNew, List.nodup_cons, List.mem_cons, List.not_mem_nil, or_false, Prod.mk.injEq, not_or, not_false_eq_true, List.nodup_nil, and_true, true_and]
     omega
   have hr : relS 0 [pNew mtu ri rmin rmax pt a0 b0, pNew mtu ri rmin rmax pt a0 b1, pNew mtu ri rmin rmax pt a0 b2, pNew mtu ri rmin rmax pt a1 b0, pNew mtu ri rmin rmax pt a1 b1, pNew mtu ri rmin rmax pt a1 b2] [rNew mtu ri rmin rmax pt a0 b0, rNew mtu ri rmin rmax pt a0 b1, rNew mtu ri rmin rmax pt a0 b2, rNew mtu ri rmin rmax pt a1 b0, rNew mtu ri rmin rmax pt a1 b1, rNew mtu ri rmin rmax pt a1 b2] = true := by
     exact Bool.and_eq_true_iff.2 ⟨rel_new hp _ _, Bool.and_eq_true_iff.2 ⟨rel_new hp _ _, Bool.and_eq_true_iff.2 ⟨rel_new hp _ _, Bool.and_eq_true_iff.2 ⟨rel_new hp _ _, Bool.and_eq_true_iff.2 ⟨rel_new hp _ _, Bool.and_eq_true_iff.2 ⟨rel_new hp _ _, rfl⟩⟩⟩⟩⟩⟩
   exact rl_loop6 _ n [a0, a1] [b0, b1, b2] ks is 10 (n + 10) k (by omega) hT n 0 (pNew mtu ri rmin rmax pt a0 b0) (pNew mtu ri rmin rmax pt a0 b1) (pNew mtu ri rmin rmax pt a0 b2) (pNew mtu ri rmin rmax pt a1 b0) (pNew mtu ri rmin rmax pt a1 b1) (pNew mtu ri rmin rmax pt a1 b2) (rNew mtu ri rmin rmax pt a0 b0) (rNew mtu ri rmin rmax pt a0 b1) (rNew mtu ri rmin rmax pt a0 b2) (rNew mtu ri rmin rmax pt a1 b0) (rNew mtu ri rmin rmax pt a1 b1) (rNew mtu ri rmin rmax pt a1 b2) 0 0 (by omega) hr hnd (by decide)
 · rw [e]
   exact br (fun _ => hT _) (fun e => by cases e)
theorem rlA_31 (mtu ss sr rr mm ri rmin rmax it pt al beat life : Int) (a0 a1 a2 b0 : Int) (n : Nat) (ks is : List Int) (k : KT) (hc : checkB ⟨mtu, ss, sr, rr, mm, ri, rmin, rmax, it, pt, al, beat, life⟩ = mayB ⟨mtu, ss, sr, rr, mm, ri, rmin, rmax, it, pt, al, beat, life⟩) (hp : 0 ≤ pt ∧ pt ≤ 255) (ha : addrB [a0, a1, a2] = true) (hb : addrB [b0] = true) (hT : ∀ st, k (.sa (.one (bv true))) st) :
   ∃ N, evCall (cxRl 3) (ev (cxRl 3) N) 6 [(.agg (cellsCfg ⟨mtu, ss, sr, rr, mm, ri, rmin, rmax, it, pt, al, beat, life⟩)), .one (.ref 0), .one (.ref 1), .one (.ref 2)] [exO [a0, a1, a2], exO [b0], taO n ks is] k := by
 refine ⟨(n + 10) + 80, ?_⟩
 refine Eq.mpr (t_rlA31 mtu ss sr rr mm ri rmin rmax it pt al beat life a0 a1 a2 b0 n ks is (n + 10) k) ?_
 refine brd (fun _ => hT _) (fun hn => ?_)
 rw [ha, hb]
 refine br (fun e => by cases e) (fun _ => br (fun e => by cases e) (fun _ => ?_))
 rw [← hc]
 refine br (fun e => ?_) (fun e => ?_)
 · rw [e]
   refine br (fun _ => ?_) (fun e => by cases e)
   refine br (fun _ => ?_) (fun e => by cases e)
   refine br (fun e => by cases e) (fun _ => br (fun e => by cases e) (fun _ => br (fun e => by cases e) (fun _ => ?_)))
   obtain ⟨A1, A2, A3⟩ := addr3 ha
   have hnd : (endsP [pNew mtu ri rmin rmax pt a0 b0, pNew mtu ri rmin rmax pt a1 b0, pNew mtu ri rmin rmax pt a2 b0]).Nodup := by
     simp only [endsP, pNew, List.nodup_cons, List.mem_cons, List.not_mem_nil, or_false, Prod.mk.injEq, not_or, not_false_eq_true, List.nodup_nil, and_true, true_and]
     omega
   have hr : relS 0 [pNew mtu ri rmin rmax pt a0 b0, pNew mtu ri rmin rmax pt a1 b0, pNew mtu ri rmin rmax pt a2 b0] [rNew mtu ri rmin rmax pt a0 b0, rNew mtu ri rmin rmax pt a1 b0, rNew mtu ri rmin rmax pt a2 b0] = true := by
     exact Bool.and_eq_true_iff.2 ⟨rel_new hp _ _, Bool.and_eq_true_iff.2 ⟨rel_new hp _ _, Bool.and_eq_true_iff.2 ⟨rel_new hp _ _, rfl⟩⟩⟩
   exact rl_loop3 _ n [a0, a1, a2] [b0] ks is 10 (n + 10) k (by omega) hT n 0 (pNew mtu ri rmin rmax pt a0 b0) (pNew mtu ri rmin rmax pt a1 b0) (pNew mtu ri rmin rmax pt a2 b0) (rNew mtu ri rmin rmax pt a0 b0) (rNew mtu ri rmin rmax pt a1 b0) (rNew mtu ri rmin rmax pt a2 b0) 0 0 (by omega) hr hnd (by decide)
 · rw [e]
   exact br (fun _ => hT _) (fun e => by cases e)
theorem rlA_32 (mtu ss sr rr mm ri rmin rmax it pt al beat life : Int) (a0 a1 a2 b0 b1 : Int) (n : Nat) (ks is : List Int) (k : KT) (hc : checkB ⟨mtu, ss, sr, rr, mm, ri, rmin, rmax, it, pt, al, beat, life⟩ = mayB ⟨mtu, ss, sr, rr, mm, ri, rmin, rmax, it, pt, al, beat, life⟩) (hp : 0 ≤ pt ∧ pt ≤ 255) (ha : addrB [a0, a1, a2] = true) (hb : addrB [b0, b1] = true) (hT : ∀ st, k (.sa (.one (bv true))) st) :
   ∃ N, evCall (cxRl 6) (ev (cxRl 6) N) 6 [(.agg (cellsCfg ⟨mtu, ss, sr, rr, mm, ri, rmin, rmax, it, pt, al, beat, life⟩)), .one (.ref 0), .one (.ref 1), .one (.ref 2)] [exO [a0, a1, a2], exO [b0, b1], taO n ks is] k := by
 refine ⟨(n + 10) + 80, ?_⟩
 refine Eq.mpr (t_rlA32 mtu ss sr rr mm ri rmin rmax it pt al beat life a0 a1 a2 b0 b1 n ks is (n + 10) k) ?_
 refine brd (fun _ => hT _) (fun hn => ?_)
 rw [ha, hb]
 refine br (fun e => by cases e) (fun _ => br (fun e => by cases e) (fun _ => ?_))
 rw [← hc]
 refine br (fun e => ?_) (fun e => ?_)
 · rw [e]
   refine br (fun _ => ?_) (fun e => by cases e)
   refine br (fun _ => ?_) (fun e => by cases e)
   refine br (fun _ => ?_) (fun e => by cases e)
   refine br (fun _ => ?_) (fun e => by cases e)
   refine br (fun _ => ?_) (fun e => by cases e)
   refine br (fun e => by cases e) (fun _ => br (fun e => by cases e) (fun _ => br (fun e => by cases e) (fun _ => ?_)))
   obtain ⟨A1, A2, A3⟩ := addr3 ha
   have B2 := addr2 hb
   have hnd : (endsP [pNew mtu ri rmin rmax pt a0 b0, pNew mtu ri rmin rmax pt a0 b1, pNew mtu ri rmin rmax pt a1 b0, pNew mtu ri rmin rmax pt a1 b1, pNew mtu ri rmin rmax pt a2 b0, pNew mtu ri rmin rmax pt a2 b1]).Nodup := by
     simp only [endsP, pNew, List.nodup_cons, List.mem_cons, List.not_mem_nil, or_false, Prod.mk.injEq, not_or, not_false_eq_true, List.nodup_nil, and_true, true_and]
     omega
   have hr : relS 0 [pNew mtu ri rmin rmax pt a0 b0, pNew mtu ri rmin rmax pt a0 b1, pNew mtu ri rmin rmax pt a1 b0, pNew mtu ri rmin rmax pt a1 b1, pNew mtu ri rmin rmax pt a2 b0, pNew mtu ri rmin rmax pt a2 b1] [rNew mtu ri rmin rmax pt a0 b0, rNew mtu ri rmin rmax pt a0 b1, rNew mtu ri rmin rmax pt a1 b0, rNew mtu ri rmin rmax pt a1 b1, rNew mtu ri rmin rmax pt a2 b0, rNew mtu ri rmin rmax pt a2 b1] = true := by
     exact Bool.and_eq_true_iff.2 ⟨rel_new hp _ _, Bool.and_eq_true_iff.2 ⟨rel_new hp _ _, Bool.and_eq_true_iff.2 ⟨rel_new hp _ _, Bool.and_eq_true_iff.2 ⟨rel_new hp _ _, Bool.and_eq_true_iff.2 ⟨rel_new hp _ _, Bool.and_eq_true_iff.2 ⟨rel_new hp _ _, rfl⟩⟩⟩⟩⟩⟩
   exact rl_loop6 _ n [a0, a1, a2] [b0, b1] ks is 10 (n + 10) k (by omega) hT n 0 (pNew mtu ri rmin rmax pt a0 b0) (pNew mtu ri rmin rmax pt a0 b1) (pNew mtu ri rmin rmax pt a1 b0) (pNew mtu ri rmin rmax pt a1 b1) (pNew mtu ri rmin rmax pt a2 b0) (pNew mtu ri rmin rmax pt a2 b1) (rNew mtu ri rmin rmax pt a0 b0) (rNew mtu ri rmin rmax pt a0 b1) (rNew mtu ri rmin rmax pt a1 b0) (rNew mtu ri rmin rmax pt a1 b1) (rNew mtu ri rmin rmax pt a2 b0) (rNew mtu ri rmin rmax pt a2 b1) 0 0 (by omega) hr hnd (by decide)
 · rw [e]
   exact br (fun _ => hT _) (fun e => by cases e)
theorem rlA_33 (mtu ss sr rr mm ri rmin rmax it pt al beat life : Int) (a0 a1 a2 b0 b1 b2 : Int) (n : Nat) (ks is : List Int) (k : KT) (hc : checkB ⟨mtu, ss, sr, rr, mm, ri, rmin, rmax, it, pt, al, beat, life⟩ = mayB ⟨mtu, ss, sr, rr, mm, ri, rmin, rmax, it, pt, al, beat, life⟩) (hp : 0 ≤ pt ∧ pt ≤ 255) (ha : addrB [a0, a1, a2] = true) (hb : addrB [b0, b1, b2] = true) (hT : ∀ st, k (.sa (.one (bv true))) st) :
   ∃ N, evCall cxRl9 (ev cxRl9 N) 6 [(.agg (cellsCfg ⟨mtu, ss, sr, rr, mm, ri, rmin, rmax, it, pt, al, beat, life⟩)), .one (.ref 0), .one (.ref 1), .one (.ref 2)] [exO [a0, a1, a2], exO [b0, b1, b2], taO n ks is] k := by
 refine ⟨(n + 20) + 80, ?_⟩
 refine Eq.mpr (t_rlA33 mtu ss sr rr mm ri rmin rmax it pt al beat life a0 a1 a2 b0 b1 b2 n ks is (n + 20) k) ?_
 refine brd (fun _ => hT _) (fun hn => ?_)
 rw [ha, hb]
 refine br (fun e => by cases e) (fun _ => br (fun e => by cases e) (fun _ => ?_))
 rw [← hc]
 refine br (fun e => ?_) (fun e => ?_)
 · rw [e]
   refine br (fun _ => ?_) (fun e => by cases e)
   refine br (fun _ => ?_) (fun e => by cases e)
   refine br (fun _ => ?_) (fun e => by cases e)
   refine br (fun _ => ?_) (fun e => by cases e)
   refine br (fun _ => ?_) (fun e => by cases e)
   refine br (fun _ => ?_) (fun e => by cases e)
   refine br (fun _ => ?_) (fun e => by cases e)
   refine br (fun _ => ?_) (fun e => by cases e)
   refine br (fun e => by cases e) (fun _ => br (fun e => by cases e) (fun _ => br (fun e => by cases e) (fun _ => ?_)))
   obtain ⟨A1, A2, A3⟩ := addr3 ha
   obtain ⟨B1, B2, B3⟩ := addr3 hb
   have hnd : (endsP [pNew mtu ri rmin rmax pt a0 b0, pNew mtu ri rmin rmax pt a0 b1, pNew mtu ri rmin rmax pt a0 b2, pNew mtu ri rmin rmax pt a1 b0, pNew mtu ri rmin rmax pt a1 b1, pNew mtu ri rmin rmax pt a1 b2, pNew mtu ri rmin rmax pt a2 b0, pNew mtu ri rmin rmax pt a2 b1, pNew mtu ri rmin rmax pt a2 b2]).Nodup := by
     simp only [endsP, pNew, List.nodup_cons, List.mem_cons, List.not_mem_nil, or_false, Prod.mk.injEq, not_or, not_false_eq_true, List.nodup_nil, and_true, true_and]
     omega
   have hr : relS 0 [pNew mtu ri rmin rmax pt a0 b0, pNew mtu ri rmin rmax pt a0 b1, pNew mtu ri rmin rmax pt a0 b2, pNew mtu ri rmin rmax pt a1 b0, pNew mtu ri rmin rmax pt a1 b1, pNew mtu ri rmin rmax pt a1 b2, pNew mtu ri rmin rmax pt a2 b0, pNew mtu ri rmin rmax pt a2 b1, pNew mtu ri rmin rmax pt a2 b2] [rNew mtu ri rmin rmax pt a0 b0, rNew mtu ri rmin rmax pt a0 b1, rNew mtu ri rmin rmax pt a0 b2, rNew mtu ri rmin rmax pt a1 b0, rNew mtu ri rmin rmax pt a1 b1, rNew mtu ri rmin rmax pt a1 b2, rNew mtu ri rmin rmax pt a2 b0, rNew mtu ri rmin rmax pt a2 b1, rNew mtu ri rmin rmax pt a2 b2] = true := by
     exact Bool.and_eq_true_iff.2 ⟨rel_new hp _ _, Bool.and_eq_true_iff.2 ⟨rel_new hp _ _, Bool.and_eq_true_iff.2 ⟨rel_new hp _ _, Bool.and_eq_true_iff.2 ⟨rel_new hp _ _, Bool.and_eq_true_iff.2 ⟨rel_new hp _ _, Bool.and_eq_true_iff.2 ⟨rel_new hp _ _, Bool.and_eq_true_iff.2 ⟨rel_new hp _ _, Bool.and_eq_true_iff.2 ⟨rel_new hp _ _, Bool.and_eq_true_iff.2 ⟨rel_new hp _ _, rfl⟩⟩⟩⟩⟩⟩⟩⟩⟩
   exact rl_loop9 _ n [a0, a1, a2] [b0, b1, b2] ks is 20 (n + 20) (by decide) k (by omega) hT n 0 (pNew mtu ri rmin rmax pt a0 b0) (pNew mtu ri rmin rmax pt a0 b1) (pNew mtu ri rmin rmax pt a0 b2) (pNew mtu ri rmin rmax pt a1 b0) (pNew mtu ri rmin rmax pt a1 b1) (pNew mtu ri rmin rmax pt a1 b2) (pNew mtu ri rmin rmax pt a2 b0) (pNew mtu ri rmin rmax pt a2 b1) (pNew mtu ri rmin rmax pt a2 b2) (rNew mtu ri rmin rmax pt a0 b0) (rNew mtu ri rmin rmax pt a0 b1) (rNew mtu ri rmin rmax pt a0 b2) (rNew mtu ri rmin rmax pt a1 b0) (rNew mtu ri rmin rmax pt a1 b1) (rNew mtu ri rmin rmax pt a1 b2) (rNew mtu ri rmin rmax pt a2 b0) (rNew mtu ri rmin rmax pt a2 b1) (rNew mtu ri rmin rmax pt a2 b2) 0 0 (by omega) hr hnd (by decide)
 · rw [e]
   exact br (fun _ => hT _) (fun e => by cases e)
theorem rl_run (mtu ss sr rr mm ri rmin rmax it pt al beat life : Int) (n : Nat) (xs ys ks is : List Int) (k : KT) (hk : SumOk Try.prog 7 sTrue) (hw : CfgWf ⟨mtu, ss, sr, rr, mm, ri, rmin, rmax, it, pt, al, beat, life⟩) (hb : (addrB xs && addrB ys) = true) (hT : ∀ st, k (.sa (.one (bv true))) st) :
   ∃ (c : Cx) (N : Nat), CxOk Try.prog c ∧ evCall c (ev c N) 6 [(.agg (cellsCfg ⟨mtu, ss, sr, rr, mm, ri, rmin, rmax, it, pt, al, beat, life⟩)), .one (.ref 0), .one (.ref 1), .one (.ref 2)] [exO xs, exO ys, taO n ks is] k := by
 obtain ⟨h1, h2⟩ := Bool.and_eq_true_iff.1 hb
 have hc := check_eq hw
 have hp := hw.pt
 rcases addr_len h1 with ⟨a0, rfl⟩ | ⟨a0, a1, rfl⟩ | ⟨a0, a1, a2, rfl⟩
 · rcases addr_len h2 with ⟨b0, rfl⟩ | ⟨b0, b1, rfl⟩ | ⟨b0, b1, b2, rfl⟩
   · obtain ⟨N, hN⟩ := rlA_11 mtu ss sr rr mm ri rmin rmax it pt al beat life a0 b0 n ks is k hc hp h1 h2 hT
     exact ⟨_, N, cxRl_ok _ hk, hN⟩
   · obtain ⟨N, hN⟩ := rlA_12 mtu ss sr rr mm ri rmin rmax it pt al beat life a0 b0 b1 n ks is k hc hp h1 h2 hT
     exact ⟨_, N, cxRl_ok _ hk, hN⟩
   · obtain ⟨N, hN⟩ := rlA_13 mtu ss sr rr mm ri rmin rmax it pt al beat life a0 b0 b1 b2 n ks is k hc hp h1 h2 hT
     exact ⟨_, N, cxRl_ok _ hk, hN⟩
 · rcases addr_len h2 with ⟨b0, rfl⟩ | ⟨b0, b1, rfl⟩ | ⟨b0, b1, b2, rfl⟩
   · obtain ⟨N, hN⟩ := rlA_21 mtu ss sr rr mm ri rmin rmax it pt al beat life a0 a1 b0 n ks is k hc hp h1 h2 hT
     exact ⟨_, N, cxRl_ok _ hk, hN⟩
   · obtain ⟨N, hN⟩ := rlA_22 mtu ss sr rr mm ri rmin rmax it pt al beat life a0 a1 b0 b1 n ks is k hc hp h1 h2 hT
     exact ⟨_, N, cxRl_ok _ hk, hN⟩
   · obtain ⟨N, hN⟩ := rlA_23 mtu ss sr rr mm ri rmin rmax it pt al beat life a0 a1 b0 b1 b2 n ks is k hc hp h1 h2 hT
     exact ⟨_, N, cxRl_ok _ hk, hN⟩
 · rcases addr_len h2 with ⟨b0, rfl⟩ | ⟨b0, b1, rfl⟩ | ⟨b0, b1, b2, rfl⟩
   · obtain ⟨N, hN⟩ := rlA_31 mtu ss sr rr mm ri rmin rmax it pt al beat life a0 a1 a2 b0 n ks is k hc hp h1 h2 hT
     exact ⟨_, N, cxRl_ok _ hk, hN⟩
   · obtain ⟨N, hN⟩ := rlA_32 mtu ss sr rr mm ri rmin rmax it pt al beat life a0 a1 a2 b0 b1 n ks is k hc hp h1 h2 hT
     exact ⟨_, N, cxRl_ok _ hk, hN⟩
   · obtain ⟨N, hN⟩ := rlA_33 mtu ss sr rr mm ri rmin rmax it pt al beat life a0 a1 a2 b0 b1 b2 n ks is k hc hp h1 h2 hT
     exact ⟨_, N, cxRl9_ok hk, hN⟩
end Go.Ev
