/- Table: texts TdT1, TdS, TdW, TkD, TkT, TkS, SdD, ShT0, ShT1, ShT2, ShT3, ShT4, ShE0, ShE1, ShE4, one behind the other. No conditions. -/
import Derived.Test.YtnfajlpjpalhcaaTsC
import Derived.Test.YtnfajlpjpalhcaaEvD
set_option linter.unusedVariables false
set_option linter.unusedSimpArgs false
section
namespace Go.Ev
open Go Go.Proofs Go.Spec
theorem t_rput (n p f g v : Int) (m : Nat) (c0 c1 c2 c3 : List Int) (k : SV → St → Prop) : evCall cxD3 (ev cxD3 60) 9 [.one (.ptr 0 0 0), kA p f g, kint v] [rT n 1, rowC m c0 c1 c2 c3] k =
    (need (Spec.colsOk m c0 c1 c2 c3) (need (decide ((m ≤ 1000))) (branch (Spec.foundE (Spec.toE m c0 c1 c2 c3) p f g) (need (decide (((((Spec.lenE (Spec.dropE (Spec.toE m c0 c1 c2 c3) p f g)) + 1) * 16) ≤ 140737488355328))) (k (.tup []) [(obj 31 2 [(iv .i64 n), (SC.ref 2)]), (some (SO.own true MK.row 47 4 (Ct.tab m [(Col.ints .u32 c0), (Col.ints .u16 c1), (Col.ints .u16 c2), (Col.ints .i64 c3)]))), (some (SO.own true MK.row 47 4 (Ct.tab ((Spec.lenE (Spec.dropE (Spec.toE m c0 c1 c2 c3) p f g)) + 1) [(Col.ints .u32 ((fitL (0) (Spec.lenE (Spec.dropE (Spec.toE m c0 c1 c2 c3) p f g)) (Spec.eP (Spec.dropE (Spec.toE m c0 c1 c2 c3) p f g))) ++ [p])), (Col.ints .u16 ((fitL (0) (Spec.lenE (Spec.dropE (Spec.toE m c0 c1 c2 c3) p f g)) (Spec.eF (Spec.dropE (Spec.toE m c0 c1 c2 c3) p f g))) ++ [f])), (Col.ints .u16 ((fitL (0) (Spec.lenE (Spec.dropE (Spec.toE m c0 c1 c2 c3) p f g)) (Spec.eG (Spec.dropE (Spec.toE m c0 c1 c2 c3) p f g))) ++ [g])), (Col.ints .i64 ((fitL (0) (Spec.lenE (Spec.dropE (Spec.toE m c0 c1 c2 c3) p f g)) (Spec.eV (Spec.dropE (Spec.toE m c0 c1 c2 c3) p f g))) ++ [v]))])))])) (need (decide ((((m + 1) * 16) ≤ 140737488355328))) (k (.tup []) [(obj 31 2 [(iv .i64 n), (SC.ref 2)]), Option.none, (some (SO.own true MK.row 47 4 (Ct.tab (m + 1) [(Col.ints .u32 ((fitL (0) m c0) ++ [p])), (Col.ints .u16 ((fitL (0) m c1) ++ [f])), (Col.ints .u16 ((fitL (0) m c2) ++ [g])), (Col.ints .i64 ((fitL (0) m c3) ++ [v]))])))]))))) := by kernel_rfl
theorem t_reachE (w w2 : Bool) (n i : Int) (L m q : Nat) (c0 c1 c2 c3 : List Int) (es : List (Kx × Int)) (k : SV → St → Prop) : ev cxD1 (L + 57) 2 15 (codeAt Try.prog 15 [1, 1, 1]) (frm 57 [(0, .sa (.one (.ptr 0 0 0))), (3, .sa (.one (.ref 2))), (4, .sa (kint i)), (6, .sa (kint i)), (7, .sa (.one (.ptr 0 0 0))), (8, .sa (.one (.ptr 0 0 0))), (9, .sa (.one (.ptr 0 0 1))), (10, .sa (.one (.ref 1))), (11, .sa (kint (m : Int))), (12, .sa (.one (bv false)))]) [rTw w n 1, rowCw w2 m c0 c1 c2 c3, rowE es] (kRet Try.prog [(ResultVar.tmp 2)] 2 k) =
    (k (.sa (.one (SC.ref 2))) [(some (SO.mem w MK.whole 31 2 (Ct.lst [[(iv .i64 n), (SC.ref 1)]]))), (some (SO.own w2 MK.row 47 4 (Ct.tab m [(Col.ints .u32 c0), (Col.ints .u16 c1), (Col.ints .u16 c2), (Col.ints .i64 c3)]))), (some (SO.own true MK.row 47 4 (Ct.tab (Spec.lenE es) [(Col.ints .u32 (Spec.eP es)), (Col.ints .u16 (Spec.eF es)), (Col.ints .u16 (Spec.eG es)), (Col.ints .i64 (Spec.eV es))])))]) := by kernel_rfl
theorem t_reachL (w w2 : Bool) (n i : Int) (L m : Nat) (c0 c1 c2 c3 : List Int) (es : List (Kx × Int)) (k : Exit → Fr → St → Prop) : ev cxD1 (L + 55) 2 15 (codeAt Try.prog 15 [1, 1, 0, 1, 0]) (frm 57 [(0, .sa (.one (.ptr 0 0 0))), (3, .sa (.one (.ref 2))), (4, .sa (kint i))]) [rTw w n 1, rowCw w2 m c0 c1 c2 c3, rowE es] k =
    (Again (branch (decide ((i < ((m : Nat) : Int)))) (ev cxD1 (L + 48) 2 15 (codeAt Try.prog 15 [1, 1, 0, 1, 0, 0, 1, 0, 0, 1, 0, 0]) (frm 57 [(0, (.sa (.one (SC.ptr 0 0 0)))), (3, (.sa (.one (SC.ref 2)))), (4, (.sa (.one (iv .i64 i)))), (5, (.sa (.one (iv .i64 (0)))))]) [(some (SO.mem w MK.whole 31 2 (Ct.lst [[(iv .i64 n), (SC.ref 1)]]))), (some (SO.own w2 MK.row 47 4 (Ct.tab m [(Col.ints .u32 c0), (Col.ints .u16 c1), (Col.ints .u16 c2), (Col.ints .i64 c3)]))), (some (SO.own true MK.row 47 4 (Ct.tab (Spec.lenE es) [(Col.ints .u32 (Spec.eP es)), (Col.ints .u16 (Spec.eF es)), (Col.ints .u16 (Spec.eG es)), (Col.ints .i64 (Spec.eV es))])))] (kBlock 2 (kSeq (ev cxD1 (L + 49) 2 15 (codeAt Try.prog 15 [1, 1, 0, 1, 0, 0, 1, 0, 0, 1, 1])) (kBlock 1 (kSeq (ev cxD1 (L + 52) 2 15 (codeAt Try.prog 15 [1, 1, 0, 1, 0, 0, 1, 1])) (kSeq (ev cxD1 (L + 54) 2 15 (codeAt Try.prog 15 [1, 1, 0, 1, 0])) k)))))) (k (Exit.exit 0) (frm 57 [(0, (.sa (.one (SC.ptr 0 0 0)))), (3, (.sa (.one (SC.ref 2)))), (4, (.sa (.one (iv .i64 i)))), (6, (.sa (.one (iv .i64 i)))), (7, (.sa (.one (SC.ptr 0 0 0)))), (8, (.sa (.one (SC.ptr 0 0 0)))), (9, (.sa (.one (SC.ptr 0 0 1)))), (10, (.sa (.one (SC.ref 1)))), (11, (.sa (.one (iv .i64 ((m : Nat) : Int))))), (12, (.sa (.one (bv false))))]) [(some (SO.mem w MK.whole 31 2 (Ct.lst [[(iv .i64 n), (SC.ref 1)]]))), (some (SO.own w2 MK.row 47 4 (Ct.tab m [(Col.ints .u32 c0), (Col.ints .u16 c1), (Col.ints .u16 c2), (Col.ints .i64 c3)]))), (some (SO.own true MK.row 47 4 (Ct.tab (Spec.lenE es) [(Col.ints .u32 (Spec.eP es)), (Col.ints .u16 (Spec.eF es)), (Col.ints .u16 (Spec.eG es)), (Col.ints .i64 (Spec.eV es))])))]))) := by kernel_rfl
theorem t_reachI (w w2 : Bool) (n i a : Int) (L M m : Nat) (c0 c1 c2 c3 : List Int) (es : List (Kx × Int)) (k : Exit → Fr → St → Prop) : ev cxD1 (L + 48) 2 15 (codeAt Try.prog 15 [1, 1, 0, 1, 0, 0, 1, 0, 0, 1, 0, 0]) (frm 57 [(0, .sa (.one (.ptr 0 0 0))), (3, .sa (.one (.ref 2))), (4, .sa (kint i)), (5, .sa (kint a))]) [rTw w n 1, rowCw w2 m c0 c1 c2 c3, rowE es] (kBlock 2 (kSeq (ev cxD1 (M + 49) 2 15 (codeAt Try.prog 15 [1, 1, 0, 1, 0, 0, 1, 0, 0, 1, 1])) k)) =
    (Again (branch (decide ((a < (((Spec.lenE es) : Nat) : Int)))) (need (decide (((0) ≤ a))) (need (decide ((a < (((Spec.lenE es) : Nat) : Int)))) (need (decide (((0 + (Int.toNat a)) < (Spec.lenE es)))) (need (decide (((0) ≤ i))) (need (decide ((i < ((m : Nat) : Int)))) (need (decide (((0 + (Int.toNat i)) < m))) (need (Spec.byN n) (branch (Spec.aheadB n (List.getD (Spec.eP es) (0 + (Int.toNat a)) (0)) (List.getD (Spec.eF es) (0 + (Int.toNat a)) (0)) (List.getD (Spec.eG es) (0 + (Int.toNat a)) (0)) (List.getD c0 (0 + (Int.toNat i)) (0)) (List.getD c1 (0 + (Int.toNat i)) (0)) (List.getD c2 (0 + (Int.toNat i)) (0))) (ev cxD1 (L + 47) 2 15 (codeAt Try.prog 15 [1, 1, 0, 1, 0, 0, 1, 0, 0, 1, 0, 0]) (frm 57 [(0, (.sa (.one (SC.ptr 0 0 0)))), (3, (.sa (.one (SC.ref 2)))), (4, (.sa (.one (iv .i64 i)))), (5, (.sa (.one (iv .i64 (addK .i64 a (1))))))]) [(some (SO.mem w MK.whole 31 2 (Ct.lst [[(iv .i64 n), (SC.ref 1)]]))), (some (SO.own w2 MK.row 47 4 (Ct.tab m [(Col.ints .u32 c0), (Col.ints .u16 c1), (Col.ints .u16 c2), (Col.ints .i64 c3)]))), (some (SO.own true MK.row 47 4 (Ct.tab (Spec.lenE es) [(Col.ints .u32 (Spec.eP es)), (Col.ints .u16 (Spec.eF es)), (Col.ints .u16 (Spec.eG es)), (Col.ints .i64 (Spec.eV es))])))] (kBlock 2 (kSeq (ev cxD1 (M + 49) 2 15 (codeAt Try.prog 15 [1, 1, 0, 1, 0, 0, 1, 0, 0, 1, 1])) k))) (ev cxD1 (M + 49) 2 15 (codeAt Try.prog 15 [1, 1, 0, 1, 0, 0, 1, 0, 0, 1, 1]) (frm 57 [(0, (.sa (.one (SC.ptr 0 0 0)))), (3, (.sa (.one (SC.ref 2)))), (4, (.sa (.one (iv .i64 i)))), (5, (.sa (.one (iv .i64 a))))]) [(some (SO.mem w MK.whole 31 2 (Ct.lst [[(iv .i64 n), (SC.ref 1)]]))), (some (SO.own w2 MK.row 47 4 (Ct.tab m [(Col.ints .u32 c0), (Col.ints .u16 c1), (Col.ints .u16 c2), (Col.ints .i64 c3)]))), (some (SO.own true MK.row 47 4 (Ct.tab (Spec.lenE es) [(Col.ints .u32 (Spec.eP es)), (Col.ints .u16 (Spec.eF es)), (Col.ints .u16 (Spec.eG es)), (Col.ints .i64 (Spec.eV es))])))] k))))))))) (ev cxD1 (M + 49) 2 15 (codeAt Try.prog 15 [1, 1, 0, 1, 0, 0, 1, 0, 0, 1, 1]) (frm 57 [(0, (.sa (.one (SC.ptr 0 0 0)))), (3, (.sa (.one (SC.ref 2)))), (4, (.sa (.one (iv .i64 i)))), (5, (.sa (.one (iv .i64 a))))]) [(some (SO.mem w MK.whole 31 2 (Ct.lst [[(iv .i64 n), (SC.ref 1)]]))), (some (SO.own w2 MK.row 47 4 (Ct.tab m [(Col.ints .u32 c0), (Col.ints .u16 c1), (Col.ints .u16 c2), (Col.ints .i64 c3)]))), (some (SO.own true MK.row 47 4 (Ct.tab (Spec.lenE es) [(Col.ints .u32 (Spec.eP es)), (Col.ints .u16 (Spec.eF es)), (Col.ints .u16 (Spec.eG es)), (Col.ints .i64 (Spec.eV es))])))] k))) := by kernel_rfl
theorem t_reachA (w w2 : Bool) (n i a : Int) (L m : Nat) (c0 c1 c2 c3 : List Int) (es : List (Kx × Int)) (k : Exit → Fr → St → Prop) : ev cxD1 (L + 49) 2 15 (codeAt Try.prog 15 [1, 1, 0, 1, 0, 0, 1, 0, 0, 1, 1]) (frm 57 [(0, .sa (.one (.ptr 0 0 0))), (3, .sa (.one (.ref 2))), (4, .sa (kint i)), (5, .sa (kint a))]) [rTw w n 1, rowCw w2 m c0 c1 c2 c3, rowE es] (kBlock 1 (kSeq (ev cxD1 (L + 52) 2 15 (codeAt Try.prog 15 [1, 1, 0, 1, 0, 0, 1, 1])) (kSeq (ev cxD1 (L + 54) 2 15 (codeAt Try.prog 15 [1, 1, 0, 1, 0])) k))) =
    (Again (need (decide (((0 + (Spec.lenE es)) ≤ (Spec.lenE es)))) (need (decide (((0) ≤ a))) (need (decide ((a ≤ ((((Spec.lenE es) - 0) : Nat) : Int)))) (need (decide (((0 + ((Int.toNat a) - 0)) ≤ (Spec.lenE es)))) (branch (decide (((0 + ((Int.toNat a) - 0)) ≤ 0))) (need (decide ((((Int.toNat a) - 0) = 0))) (need (decide (((0) ≤ i))) (need (decide ((i < ((m : Nat) : Int)))) (need (decide (((0 + (Int.toNat i)) < m))) (need (decide (((0 + (Spec.lenE es)) ≤ (Spec.lenE es)))) (need (decide (((0) ≤ a))) (need (decide ((a ≤ (((Spec.lenE es) : Nat) : Int)))) (need (decide (((Int.toNat a) ≤ (Spec.lenE es)))) (need (decide ((((0 + (Int.toNat a)) + ((Spec.lenE es) - (Int.toNat a))) ≤ (Spec.lenE es)))) (need (decide ((((1 + ((Spec.lenE es) - (Int.toNat a))) * 16) ≤ 140737488355328))) (ev cxD1 (L + 54) 2 15 (codeAt Try.prog 15 [1, 1, 0, 1, 0]) (frm 57 [(0, (.sa (.one (SC.ptr 0 0 0)))), (3, (.sa (.one (SC.ref 2)))), (4, (.sa (.one (iv .i64 (addK .i64 i (1))))))]) [(some (SO.mem w MK.whole 31 2 (Ct.lst [[(iv .i64 n), (SC.ref 1)]]))), (some (SO.own w2 MK.row 47 4 (Ct.tab m [(Col.ints .u32 c0), (Col.ints .u16 c1), (Col.ints .u16 c2), (Col.ints .i64 c3)]))), (some (SO.own true MK.row 47 4 (Ct.tab (1 + ((Spec.lenE es) - (Int.toNat a))) [(Col.ints .u32 ([(List.getD c0 (0 + (Int.toNat i)) (0))] ++ (fitL (0) ((Spec.lenE es) - (Int.toNat a)) (List.drop (0 + (Int.toNat a)) (Spec.eP es))))), (Col.ints .u16 ([(List.getD c1 (0 + (Int.toNat i)) (0))] ++ (fitL (0) ((Spec.lenE es) - (Int.toNat a)) (List.drop (0 + (Int.toNat a)) (Spec.eF es))))), (Col.ints .u16 ([(List.getD c2 (0 + (Int.toNat i)) (0))] ++ (fitL (0) ((Spec.lenE es) - (Int.toNat a)) (List.drop (0 + (Int.toNat a)) (Spec.eG es))))), (Col.ints .i64 ([(List.getD c3 (0 + (Int.toNat i)) (0))] ++ (fitL (0) ((Spec.lenE es) - (Int.toNat a)) (List.drop (0 + (Int.toNat a)) (Spec.eV es)))))])))] k))))))))))) (need (decide ((((0 + ((Int.toNat a) - 0)) * 16) ≤ 140737488355328))) (need (decide (((0) ≤ i))) (need (decide ((i < ((m : Nat) : Int)))) (need (decide (((0 + (Int.toNat i)) < m))) (need (decide ((((((Int.toNat a) - 0) + 1) * 16) ≤ 140737488355328))) (need (decide (((0 + (Spec.lenE es)) ≤ (Spec.lenE es)))) (need (decide (((0) ≤ a))) (need (decide ((a ≤ (((Spec.lenE es) : Nat) : Int)))) (need (decide (((Int.toNat a) ≤ (Spec.lenE es)))) (need (decide ((((0 + (Int.toNat a)) + ((Spec.lenE es) - (Int.toNat a))) ≤ (Spec.lenE es)))) (need (decide (((((((Int.toNat a) - 0) + 1) + ((Spec.lenE es) - (Int.toNat a))) * 16) ≤ 140737488355328))) (ev cxD1 (L + 54) 2 15 (codeAt Try.prog 15 [1, 1, 0, 1, 0]) (frm 57 [(0, (.sa (.one (SC.ptr 0 0 0)))), (3, (.sa (.one (SC.ref 2)))), (4, (.sa (.one (iv .i64 (addK .i64 i (1))))))]) [(some (SO.mem w MK.whole 31 2 (Ct.lst [[(iv .i64 n), (SC.ref 1)]]))), (some (SO.own w2 MK.row 47 4 (Ct.tab m [(Col.ints .u32 c0), (Col.ints .u16 c1), (Col.ints .u16 c2), (Col.ints .i64 c3)]))), (some (SO.own true MK.row 47 4 (Ct.tab ((((Int.toNat a) - 0) + 1) + ((Spec.lenE es) - (Int.toNat a))) [(Col.ints .u32 ((fitL (0) (((Int.toNat a) - 0) + 1) ((fitL (0) ((Int.toNat a) - 0) (Spec.eP es)) ++ [(List.getD c0 (0 + (Int.toNat i)) (0))])) ++ (fitL (0) ((Spec.lenE es) - (Int.toNat a)) (List.drop (0 + (Int.toNat a)) (Spec.eP es))))), (Col.ints .u16 ((fitL (0) (((Int.toNat a) - 0) + 1) ((fitL (0) ((Int.toNat a) - 0) (Spec.eF es)) ++ [(List.getD c1 (0 + (Int.toNat i)) (0))])) ++ (fitL (0) ((Spec.lenE es) - (Int.toNat a)) (List.drop (0 + (Int.toNat a)) (Spec.eF es))))), (Col.ints .u16 ((fitL (0) (((Int.toNat a) - 0) + 1) ((fitL (0) ((Int.toNat a) - 0) (Spec.eG es)) ++ [(List.getD c2 (0 + (Int.toNat i)) (0))])) ++ (fitL (0) ((Spec.lenE es) - (Int.toNat a)) (List.drop (0 + (Int.toNat a)) (Spec.eG es))))), (Col.ints .i64 ((fitL (0) (((Int.toNat a) - 0) + 1) ((fitL (0) ((Int.toNat a) - 0) (Spec.eV es)) ++ [(List.getD c3 (0 + (Int.toNat i)) (0))])) ++ (fitL (0) ((Spec.lenE es) - (Int.toNat a)) (List.drop (0 + (Int.toNat a)) (Spec.eV es)))))])))] k)))))))))))))))))) := by kernel_rfl
end Go.Ev
end
section
namespace Go.Ev
open Go Go.Proofs Go.Spec
attribute [local irreducible] ev evCall branch need again shR aheadE
theorem byN_iff {n : Int} : byN n = true ↔ 1 ≤ n ∧ n ≤ 64 := by simp [byN]
theorem linBr {b : Bool} {F G : (SV → St → Prop) → Prop} (hF : Lin F) (hG : Lin G) : Lin (fun k => branch b (F k) (G k)) := fun k h => by
  rcases branch_or h with ⟨e, h⟩ | ⟨e, h⟩
  · obtain ⟨v, s, h1, h2⟩ := hF k h
    exact ⟨v, s, h1, fun k2 hk => branch_iff.2 (.inl ⟨e, h2 k2 hk⟩)⟩
  · obtain ⟨v, s, h1, h2⟩ := hG k h
    exact ⟨v, s, h1, fun k2 hk => branch_iff.2 (.inr ⟨e, h2 k2 hk⟩)⟩
theorem u64_small {n : Int} (h : 0 ≤ n ∧ n < 18446744073709551616) : IntKind.wrap .u64 n = n := by rw [IntKind.wrap_u64]; omega
theorem rshard_sum : SumOk Try.prog 19 sRShard := by
  refine sumOk_of cxT0_ok (fun args st => ?_) (fun args st k h => ⟨60, ?_⟩)
  · unfold sRShard
    split
    · split
      · exact linNeed (linNeed linRet)
      · exact fun _ h => h.elim
    · exact fun _ h => h.elim
  · unfold sRShard at h
    split at h
    · split at h
      · have h1 := of_decide_eq_true (need_iff.1 h).1
        have h2 := need_iff.1 (need_iff.1 h).2
        have h3 := byN_iff.1 h2.1
        obtain ⟨c1, c2⟩ := h1
        subst c1; subst c2
        refine Eq.mpr (t_rshard ..) (need_iff.2 ⟨?_, ?_⟩)
        · rw [u64_small (by omega), decide_eq_false (by omega)]; rfl
        · have := h2.2
          unfold shR at this
          exact this
      · exact h.elim
    · exact h.elim
theorem cxD0_ok : CxOk Try.prog cxD0 := mkCx_ok namesT mixedT (by
  intro y h
  simp only [List.mem_cons, List.not_mem_nil, or_false] at h
  rcases h with rfl
  exact rshard_sum)
theorem brn {x y : Int} {p q : Prop} (h1 : x ≠ y → p) (h2 : x = y → q) : branch (Bool.not (eqK x y)) p q := br (fun e => h1 fun e2 => by rw [eqK_t.2 e2] at e; cases e) (fun e => h2 (eqK_t.1 (by simpa using e)))
theorem rahead_sum : SumOk Try.prog 22 sRAhead := by
  refine sumOk_of cxD0_ok (fun args st => ?_) (fun args st k h => ⟨60, ?_⟩)
  · unfold sRAhead
    split
    · split
      · exact linNeed (linNeed linRet)
      · exact fun _ h => h.elim
    · exact fun _ h => h.elim
  · unfold sRAhead at h
    split at h
    · split at h
      · have h1 := of_decide_eq_true (need_iff.1 h).1
        have h2 := need_iff.1 (need_iff.1 h).2
        obtain ⟨c1, c2⟩ := h1
        subst c1; subst c2
        have hk := h2.2
        unfold aheadB aheadE at hk
        simp only at hk
        refine Eq.mpr (t_rahead ..) (need_iff.2 ⟨h2.1, need_iff.2 ⟨h2.1, brn (fun e => need_iff.2 ⟨h2.1, need_iff.2 ⟨h2.1, ?_⟩⟩) (fun e => brn (fun e2 => ?_) (fun e2 => brn (fun e3 => ?_) (fun e3 => ?_)))⟩⟩)
        · rw [if_pos e] at hk; exact hk
        · rw [if_neg (by simpa using e), if_pos e2] at hk; exact hk
        · rw [if_neg (by simpa using e), if_neg (by simpa using e2), if_pos e3] at hk; exact hk
        · rw [if_neg (by simpa using e), if_neg (by simpa using e2), if_neg (by simpa using e3)] at hk; exact hk
      · exact h.elim
    · exact h.elim
theorem cxD1_ok : CxOk Try.prog cxD1 := mkCx_ok namesT mixedT (by
  intro y h
  simp only [List.mem_cons, List.not_mem_nil, or_false] at h
  rcases h with rfl | rfl
  · exact rshard_sum
  · exact rahead_sum)
theorem eq3 {a b c p f g : Int} : (eqK a p && (eqK b f && (eqK c g && true))) = decide ((a, b, c) = (p, f, g)) := by
  have h : ∀ x y : Int, eqK x y = decide (x = y) := fun x y => by
    by_cases e : x = y
    · rw [eqK_t.2 e, decide_eq_true e]
    · rw [eqK_f.2 e, decide_eq_false e]
  rw [h, h, h]
  simp [Prod.mk.injEq]
theorem find_loop {w w2 : Bool} {n p f g : Int} {m M : Nat} {c0 c1 c2 c3 : List Int} {k : SV → St → Prop} (hm : m ≤ 1000) (hk : k (.sa (.one (iv .i64 (findE (toE m c0 c1 c2 c3) p f g)))) [rTw w n 1, rowCw w2 m c0 c1 c2 c3]) :
    ∀ (rem i : Nat), i + rem = m → (∀ j e, j < i → (toE m c0 c1 c2 c3)[j]? = some e → e.1 ≠ (p, f, g)) → ev cxD1 (rem + 56) 2 12 (codeAt Try.prog 12 [1, 0, 1, 0]) (frm 26 [(0, .sa (.one (.ptr 0 0 0))), (3, .sa (.one (.ptr 2 0 0))), (5, .sa (kint (i : Int)))]) [rTw w n 1, rowCw w2 m c0 c1 c2 c3, obj 41 3 [iv .u32 p, iv .u16 f, iv .u16 g]] (kBlock 0 (kSeq (ev cxD1 (M + 58) 2 12 (codeAt Try.prog 12 [1, 1])) (kRet (Cx.P cxD1) [(ResultVar.tmp 4)] 2 k))) := by
  intro rem
  induction rem with
  | zero =>
    intro i hi hno
    rw [t_rfindL (L := 0)]
    refine ⟨brf (by omega) ?_⟩
    rw [find_no (fun j e hj he => hno j e (by rw [toE_len] at hj; omega) he)] at hk
    exact hk
  | succ rem ih =>
    intro i hi hno
    have him : i < m := by omega
    rw [t_rfindL (L := rem + 1)]
    refine ⟨brt (by omega) (ndd (by omega) (ndd (by omega) (ndd (by omega) ?_)))⟩
    rw [show 0 + Int.toNat (i : Int) = i from by omega, eq3]
    refine brd (fun e => ?_) (fun e => ?_)
    · rw [find_at (i := i) (by rw [toE_len]; exact him) hno ⟨_, toE_get him, e⟩] at hk
      exact hk
    · rw [show addK .i64 (i : Int) 1 = ((i + 1 : Nat) : Int) from by rw [add64 (by omega)]; rfl]
      refine ih (i + 1) (by omega) fun j e' hj he' => ?_
      rcases Nat.lt_or_ge j i with h | h
      · exact hno j e' h he'
      · have : j = i := by omega
        subst this
        rw [toE_get him] at he'
        cases he'
        exact e
theorem rfind_sum : SumOk Try.prog 12 sRFind := by
  refine sumOk_of cxD1_ok (fun args st => ?_) (fun args st k h => ?_)
  · unfold sRFind
    split
    · split
      · exact linNeed (linNeed linRet)
      · exact fun _ h => h.elim
    · exact fun _ h => h.elim
  · unfold sRFind at h
    split at h
    · split at h
      · rename_i p f g _ w T n w2 T2 m c0 c1 c2 c3
        have h1 := of_decide_eq_true (need_iff.1 h).1
        have h2 := need_iff.1 (need_iff.1 h).2
        obtain ⟨e1, e2⟩ := h1
        subst e1; subst e2
        exact ⟨m + 60, Eq.mpr (t_rfind (L := m) ..) (find_loop (M := m) (of_decide_eq_true h2.1) h2.2 m 0 (by omega) (fun j e hj => by omega))⟩
      · exact h.elim
    · exact h.elim
theorem countP_take {l : Es} {q : Kx × Int → Bool} {i : Nat} {e : Kx × Int} (h : l[i]? = some e) : (l.take (i + 1)).countP q = (l.take i).countP q + if q e then 1 else 0 := by
  rw [List.take_add_one, h, List.countP_append]
  simp [List.countP_cons]
theorem count_loop {w w2 : Bool} {n s : Int} {m M : Nat} {c0 c1 c2 c3 : List Int} {k : SV → St → Prop} (hn : byN n = true) (hm : m ≤ 1000) (hk : k (.sa (.one (iv .i64 (cntE (toE m c0 c1 c2 c3) n s)))) [rTw w n 1, rowCw w2 m c0 c1 c2 c3]) :
    ∀ (rem i : Nat), i + rem = m → ev cxD1 (rem + 55) 2 21 (codeAt Try.prog 21 [1, 1, 0, 1, 0]) (frm 31 [(0, .sa (.one (.ptr 0 0 0))), (1, .sa (kint s)), (5, .sa (kint (cntE ((toE m c0 c1 c2 c3).take i) n s))), (6, .sa (kint (i : Int)))]) [rTw w n 1, rowCw w2 m c0 c1 c2 c3] (kBlock 0 (kSeq (ev cxD1 (M + 57) 2 21 (codeAt Try.prog 21 [1, 1, 1])) (kRet (Cx.P cxD1) [(ResultVar.tmp 4)] 2 k))) := by
  intro rem
  induction rem with
  | zero =>
    intro i hi
    rw [t_rcountL (L := 0)]
    refine ⟨brf (by omega) ?_⟩
    rw [List.take_of_length_le (by rw [toE_len]; omega)]
    exact hk
  | succ rem ih =>
    intro i hi
    have him : i < m := by omega
    have hc : cntE ((toE m c0 c1 c2 c3).take i) n s ≤ 1000 ∧ 0 ≤ cntE ((toE m c0 c1 c2 c3).take i) n s := by
      unfold cntE
      have := List.countP_le_length (p := fun e : Kx × Int => decide (shR n e.1.1 e.1.2.1 e.1.2.2 = s)) (l := (toE m c0 c1 c2 c3).take i)
      rw [List.length_take, toE_len] at this
      omega
    have hstep := countP_take (q := fun e : Kx × Int => decide (shR n e.1.1 e.1.2.1 e.1.2.2 = s)) (toE_get (c0 := c0) (c1 := c1) (c2 := c2) (c3 := c3) him)
    rw [t_rcountL (L := rem + 1)]
    refine ⟨brt (by omega) (ndd (by omega) (ndd (by omega) (ndd (by omega) (need_iff.2 ⟨hn, ?_⟩))))⟩
    rw [show 0 + Int.toNat (i : Int) = i from by omega]
    rw [show addK .i64 (i : Int) 1 = ((i + 1 : Nat) : Int) from by rw [add64 (by omega)]; rfl]
    have := ih (i + 1) (by omega)
    refine bre (fun e => ?_) (fun e => ?_)
    · have e2 : cntE ((toE m c0 c1 c2 c3).take (i + 1)) n s = addK .i64 (cntE ((toE m c0 c1 c2 c3).take i) n s) 1 := by
        rw [add64 (by omega)]
        unfold cntE
        rw [hstep, if_pos (by simpa [atE] using e)]
        omega
      rw [← e2]; exact this
    · have e2 : cntE ((toE m c0 c1 c2 c3).take (i + 1)) n s = cntE ((toE m c0 c1 c2 c3).take i) n s := by
        unfold cntE
        rw [hstep, if_neg (by simpa [atE] using e)]
        omega
      rw [← e2]; exact this
theorem rcount_sum : SumOk Try.prog 21 sRCount := by
  refine sumOk_of cxD1_ok (fun args st => ?_) (fun args st k h => ?_)
  · unfold sRCount
    split
    · split
      · exact linNeed (linNeed (linNeed linRet))
      · exact fun _ h => h.elim
    · exact fun _ h => h.elim
  · unfold sRCount at h
    split at h
    · split at h
      · rename_i s _ w T n w2 T2 m c0 c1 c2 c3
        have h1 := of_decide_eq_true (need_iff.1 h).1
        have h2 := need_iff.1 (need_iff.1 h).2
        have h3 := need_iff.1 h2.2
        obtain ⟨e1, e2⟩ := h1
        subst e1; subst e2
        exact ⟨m + 60, Eq.mpr (t_rcount (L := m) ..) (count_loop (M := m) h2.1 (of_decide_eq_true h3.1) h3.2 m 0 (by omega))⟩
      · exact h.elim
    · exact h.elim
theorem cxD2_ok : CxOk Try.prog cxD2 := mkCx_ok namesT mixedT (by
  intro y h
  simp only [List.mem_cons, List.not_mem_nil, or_false] at h
  rcases h with rfl
  exact rfind_sum)
theorem rowE_eq {es : Es} {m : Nat} {c0 c1 c2 c3 : List Int} (hm : m = es.length) (h0 : c0 = eP es) (h1 : c1 = eF es) (h2 : c2 = eG es) (h3 : c3 = eV es) : some (SO.own true MK.row 47 4 (Ct.tab m [Col.ints .u32 c0, Col.ints .u16 c1, Col.ints .u16 c2, Col.ints .i64 c3])) = rowE es := by
  subst hm; subst h0; subst h1; subst h2; subst h3; rfl
end Go.Ev
end
section
namespace Go.Ev
open Go Go.Proofs Go.Spec
attribute [local irreducible] ev evCall branch need again shR aheadE
theorem rdrop_sum : SumOk Try.prog 14 sRDrop := by
  refine sumOk_of cxD2_ok (fun args st => ?_) (fun args st k h => ⟨60, ?_⟩)
  · unfold sRDrop
    split
    · split
      · exact linNeed (linNeed (linNeed (linBr linRet linRet)))
      · exact fun _ h => h.elim
    · exact fun _ h => h.elim
  · unfold sRDrop at h
    split at h
    · split at h
      · rename_i p f g _ T n T2 m c0 c1 c2 c3
        have h1 := of_decide_eq_true (need_iff.1 h).1
        have h2 := need_iff.1 (need_iff.1 h).2
        have h3 := need_iff.1 h2.2
        obtain ⟨e1, e2⟩ := h1
        subst e1; subst e2
        have hm : m ≤ 1000 := of_decide_eq_true h3.1
        have hk := h3.2
        obtain ⟨es, em, e0, e1, e2, e3⟩ := colsOk_ex h2.1
        subst em; subst e0; subst e1; subst e2; subst e3
        rw [toE_same] at hk
        have hm : es.length ≤ 1000 := hm
        refine Eq.mpr (t_rdrop ..) (ndd hm ?_)
        rw [toE_same]
        obtain ⟨l0, l1, l2, l3⟩ := eP_len (a := es)
        have hle : lenE es = es.length := rfl
        rcases find_spec (es := es) (p := p) (f := f) (g := g) with ⟨g1, g2, g3⟩ | ⟨i, g1, g2, g3, _, _, g6⟩
        · rw [g2]
          rw [g1] at hk
          exact brt (by omega) ((branch_or hk).elim (fun x => by cases x.1) (fun x => x.2))
        · rw [g2]
          rw [g1] at hk
          have hk : k (.sa (.one (bv true))) [rT n 2, rowC (lenE es) (eP es) (eF es) (eG es) (eV es), rowE (dropE es p f g)] := (branch_or hk).elim (fun x => x.2) (fun x => by cases x.1)
          rw [show addK .i64 (i : Int) 1 = ((i + 1 : Nat) : Int) from by rw [add64 (by omega)]; rfl]
          rw [hle]
          simp only [Int.toNat_natCast, Nat.zero_add, Nat.sub_zero]
          have hcol : ∀ (c : Es → List Int), (∀ l : Es, (c l).length = l.length) → (∀ a b : Es, c (a ++ b) = c a ++ c b) → (∀ (a : Es) j, c (a.take j) = (c a).take j) → (∀ (a : Es) j, c (a.drop j) = (c a).drop j) → c (dropE es p f g) = (c es).take i ++ (c es).drop (i + 1) := fun c _ h2 h3 h4 => by
            rw [g6, h2, h3, h4]
          have a0 := hcol eP (fun l => eP_len.1) (fun a b => eP_append.1) (fun a j => eP_take.1) (fun a j => eP_drop.1)
          have a1 := hcol eF (fun l => eP_len.2.1) (fun a b => eP_append.2.1) (fun a j => eP_take.2.1) (fun a j => eP_drop.2.1)
          have a2 := hcol eG (fun l => eP_len.2.2.1) (fun a b => eP_append.2.2.1) (fun a j => eP_take.2.2.1) (fun a j => eP_drop.2.2.1)
          have a3 := hcol eV (fun l => eP_len.2.2.2) (fun a b => eP_append.2.2.2) (fun a j => eP_take.2.2.2) (fun a j => eP_drop.2.2.2)
          have hdl : (dropE es p f g).length = i + (es.length - (i + 1)) := by rw [g6]; simp; omega
          refine brf (by omega) (ndd (by omega) (ndd (by omega) (ndd (by omega) (ndd (by omega) ?_))))
          refine brd (fun hi0 => ?_) (fun hi0 => ?_)
          · have hi0 : i = 0 := by omega
            subst hi0
            refine ndd rfl (ndd (by omega) (ndd (by omega) (ndd (by omega) (ndd (by omega) (ndd (by omega) ?_)))))
            refine brd (fun hl => ?_) (fun hl => ?_)
            · refine ndd (by omega) ⟨?_⟩
              have hd : dropE es p f g = [] := List.eq_nil_of_length_eq_zero (by omega)
              rw [hd] at hk
              exact hk
            · refine ndd (by omega) ⟨?_⟩
              rw [rowE_eq (es := dropE es p f g) (m := es.length - (0 + 1)) (c0 := List.drop (0 + 1) (eP es)) (c1 := List.drop (0 + 1) (eF es)) (c2 := List.drop (0 + 1) (eG es)) (c3 := List.drop (0 + 1) (eV es)) (by omega) (by rw [a0]; simp) (by rw [a1]; simp) (by rw [a2]; simp) (by rw [a3]; simp)]
              exact hk
          · refine ndd (by omega) (ndd (by omega) (ndd (by omega) (ndd (by omega) (ndd (by omega) (ndd (by omega) (ndd (by omega) ⟨?_⟩))))))
            have hfit : ∀ c : List Int, c.length = es.length → fitL 0 i c ++ fitL 0 (es.length - (i + 1)) (c.drop (i + 1)) = c.take i ++ c.drop (i + 1) := fun c hc => by
              rw [fitL_take (by omega), fitL_same _ _ _ (by simp [hc])]
            rw [hfit _ l0, hfit _ l1, hfit _ l2, hfit _ l3]
            rw [rowE_eq (es := dropE es p f g) (m := i + (es.length - (i + 1))) (by omega) a0.symm a1.symm a2.symm a3.symm]
            exact hk
      · exact h.elim
    · exact h.elim
theorem cxD3_ok : CxOk Try.prog cxD3 := mkCx_ok namesT mixedT (by
  intro y h
  simp only [List.mem_cons, List.not_mem_nil, or_false] at h
  rcases h with rfl
  exact rdrop_sum)
theorem rowE_snoc {es : Es} {p f g v : Int} : some (SO.own true MK.row 47 4 (Ct.tab (lenE es + 1) [Col.ints .u32 (fitL 0 (lenE es) (eP es) ++ [p]), Col.ints .u16 (fitL 0 (lenE es) (eF es) ++ [f]), Col.ints .u16 (fitL 0 (lenE es) (eG es) ++ [g]), Col.ints .i64 (fitL 0 (lenE es) (eV es) ++ [v])])) = rowE (es ++ [((p, f, g), v)]) := by
  unfold lenE
  obtain ⟨l0, l1, l2, l3⟩ := eP_len (a := es)
  rw [fitL_same _ _ _ l0, fitL_same _ _ _ l1, fitL_same _ _ _ l2, fitL_same _ _ _ l3]
  refine rowE_eq (by simp) ?_ ?_ ?_ ?_ <;> simp [eP, eF, eG, eV]
theorem rput_sum : SumOk Try.prog 9 sRPut := by
  refine sumOk_of cxD3_ok (fun args st => ?_) (fun args st k h => ⟨60, ?_⟩)
  · unfold sRPut
    split
    · split
      · exact linNeed (linNeed (linNeed (linBr linRet linRet)))
      · exact fun _ h => h.elim
    · exact fun _ h => h.elim
  · unfold sRPut at h
    split at h
    · split at h
      · rename_i p f g v _ T n T2 m c0 c1 c2 c3
        have h1 := of_decide_eq_true (need_iff.1 h).1
        have h2 := need_iff.1 (need_iff.1 h).2
        have h3 := need_iff.1 h2.2
        obtain ⟨e1, e2⟩ := h1
        subst e1; subst e2
        have hm : m ≤ 1000 := of_decide_eq_true h3.1
        have hk := h3.2
        have hok := h2.1
        obtain ⟨es, em, e0, e1, e2, e3⟩ := colsOk_ex h2.1
        subst em; subst e0; subst e1; subst e2; subst e3
        rw [toE_same] at hk
        have hm : es.length ≤ 1000 := hm
        have hdl : (dropE es p f g).length ≤ es.length := List.eraseP_sublist.length_le
        refine Eq.mpr (t_rput ..) (need_iff.2 ⟨hok, ndd hm ?_⟩)
        rw [toE_same]
        rcases branch_or hk with ⟨e, hk⟩ | ⟨e, hk⟩
        · refine branch_iff.2 (.inl ⟨e, ndd (by show ((dropE es p f g).length + 1) * 16 ≤ _; omega) ?_⟩)
          rw [rowE_snoc]
          exact hk
        · refine branch_iff.2 (.inr ⟨e, ndd (by show (es.length + 1) * 16 ≤ _; omega) ?_⟩)
          rw [rowE_snoc]
          have : dropE es p f g = es := by
            rcases find_spec (es := es) (p := p) (f := f) (g := g) with ⟨_, _, g3⟩ | ⟨i, g1, _⟩
            · exact g3
            · rw [g1] at e; cases e
          unfold putE at hk
          rw [this] at hk
          exact hk
      · exact h.elim
    · exact h.elim
theorem eachE_snoc {n : Int} {es : Es} {i : Nat} {e : Kx × Int} (h : es[i]? = some e) : eachE n (es.take (i + 1)) = insE n e (eachE n (es.take i)) := by
  unfold eachE
  rw [List.take_add_one, h, List.foldl_append]
  rfl
theorem insE_len {n : Int} {x : Kx × Int} {l : Es} : (insE n x l).length = l.length + 1 := by
  unfold insE
  generalize (fun k => aheadE n k x.1) = lt
  induction l with
  | nil => rfl
  | cons y r ih =>
    unfold insBy
    split
    · simp [ih]
    · simp
theorem eachE_len {n : Int} : ∀ {es : Es}, (eachE n es).length = es.length := by
  intro es
  have : ∀ (l acc : Es), (l.foldl (fun out x => insE n x out) acc).length = l.length + acc.length := by
    intro l
    induction l with
    | nil => intro acc; simp
    | cons x r ih => intro acc; simp only [List.foldl_cons, ih, insE_len, List.length_cons]; omega
  unfold eachE
  rw [this]; simp
theorem each_ins {w w2 : Bool} {n : Int} {es out : Es} {i M F : Nat} {k : Exit → Fr → St → Prop} {e : Kx × Int} (hn : byN n = true) (hm : es.length ≤ 1000) (ho : out.length ≤ 1000) (he : es[i]? = some e)
    (hk : ∀ a : Nat, a ≤ out.length → insE n e out = out.take a ++ e :: out.drop a → ev cxD1 (M + 49) 2 15 (codeAt Try.prog 15 [1, 1, 0, 1, 0, 0, 1, 0, 0, 1, 1]) (frm 57 [(0, .sa (.one (.ptr 0 0 0))), (3, .sa (.one (.ref 2))), (4, .sa (kint (i : Int))), (5, .sa (kint (a : Int)))]) [rTw w n 1, rowCw w2 (lenE es) (eP es) (eF es) (eG es) (eV es), rowE out] k) :
    ∀ (rem a : Nat), a + rem = out.length → (∀ j x, j < a → out[j]? = some x → aheadE n x.1 e.1 = true) → ev cxD1 (rem + F + 48) 2 15 (codeAt Try.prog 15 [1, 1, 0, 1, 0, 0, 1, 0, 0, 1, 0, 0]) (frm 57 [(0, .sa (.one (.ptr 0 0 0))), (3, .sa (.one (.ref 2))), (4, .sa (kint (i : Int))), (5, .sa (kint (a : Int)))]) [rTw w n 1, rowCw w2 (lenE es) (eP es) (eF es) (eG es) (eV es), rowE out] (kBlock 2 (kSeq (ev cxD1 (M + 49) 2 15 (codeAt Try.prog 15 [1, 1, 0, 1, 0, 0, 1, 0, 0, 1, 1])) k)) := by
  have hi : i < es.length := (List.getElem?_eq_some_iff.1 he).1
  obtain ⟨q0, q1, q2, q3⟩ := eP_getD he
  have hlo : lenE out = out.length := rfl
  have hle : lenE es = es.length := rfl
  intro rem
  induction rem with
  | zero =>
    intro a ha hal
    rw [t_reachI (L := 0 + F) (M := M)]
    exact ⟨brf (by omega) (hk a (by omega) (insE_at (by omega) hal (fun h => by omega)))⟩
  | succ rem ih =>
    intro a ha hal
    have hao : a < out.length := by omega
    obtain ⟨r0, r1, r2, r3⟩ := eP_getD (List.getElem?_eq_getElem hao)
    rw [t_reachI (L := rem + 1 + F) (M := M)]
    refine ⟨brt (by omega) (ndd (by omega) (ndd (by omega) (ndd (by omega) (ndd (by omega) (ndd (by omega) (ndd (by omega) (need_iff.2 ⟨hn, ?_⟩)))))))⟩
    simp only [Int.toNat_natCast, Nat.zero_add]
    rw [r0, r1, r2, q0, q1, q2]
    have hab : aheadB n out[a].1.1 out[a].1.2.1 out[a].1.2.2 e.1.1 e.1.2.1 e.1.2.2 = aheadE n out[a].1 e.1 := rfl
    rw [hab]
    refine br (fun h => ?_) (fun h => ?_)
    · rw [show addK .i64 (a : Int) 1 = ((a + 1 : Nat) : Int) from by rw [add64 (by omega)]; rfl]
      rw [show rem + 1 + F + 47 = rem + F + 48 from by omega]
      refine ih (a + 1) (by omega) fun j x hj hx => ?_
      rcases Nat.lt_or_ge j a with h2 | h2
      · exact hal j x h2 hx
      · have : j = a := by omega
        subst this
        rw [List.getElem?_eq_getElem hao] at hx
        cases hx
        exact h
    · exact hk a (by omega) (insE_at (by omega) hal (fun _ => ⟨_, List.getElem?_eq_getElem hao, h⟩))
theorem each_loop {w w2 : Bool} {n : Int} {es : Es} {M : Nat} {k : SV → St → Prop} (hn : byN n = true) (hm : es.length ≤ 1000) (hk : k (.sa (.one (.ref 2))) [rTw w n 1, rowCw w2 (lenE es) (eP es) (eF es) (eG es) (eV es), rowE (eachE n es)]) :
    ∀ (rem i : Nat), i + rem = es.length → ev cxD1 (rem + 2000 + 55) 2 15 (codeAt Try.prog 15 [1, 1, 0, 1, 0]) (frm 57 [(0, .sa (.one (.ptr 0 0 0))), (3, .sa (.one (.ref 2))), (4, .sa (kint (i : Int)))]) [rTw w n 1, rowCw w2 (lenE es) (eP es) (eF es) (eG es) (eV es), rowE (eachE n (es.take i))] (kBlock 0 (kSeq (ev cxD1 (M + 57) 2 15 (codeAt Try.prog 15 [1, 1, 1])) (kRet (Cx.P cxD1) [(ResultVar.tmp 2)] 2 k))) := by
  have hle : lenE es = es.length := rfl
  intro rem
  induction rem with
  | zero =>
    intro i hi
    rw [t_reachL (L := 0 + 2000)]
    refine ⟨brf (by omega) (kBexit ?_)⟩
    rw [List.take_of_length_le (by omega)]
    exact Eq.mpr (t_reachE (q := 0) ..) hk
  | succ rem ih =>
    intro i hi
    have hil : i < es.length := by omega
    have he : es[i]? = some es[i] := List.getElem?_eq_getElem hil
    generalize hex : es[i] = e at he
    obtain ⟨q0, q1, q2, q3⟩ := eP_getD he
    have hol : (eachE n (es.take i)).length = i := by rw [eachE_len, List.length_take]; omega
    have hnext := ih (i + 1) (by omega)
    rw [eachE_snoc he] at hnext
    generalize eachE n (es.take i) = out at hol hnext
    rw [t_reachL (L := rem + 1 + 2000)]
    refine ⟨brt (by omega) ?_⟩
    have hins := each_ins (w := w) (w2 := w2) (n := n) (es := es) (out := out) (i := i) (M := rem + 1 + 2000) (F := rem + 1 + 2000 - out.length) (e := e) hn hm (by omega) he
      (k := kBlock 1 (kSeq (ev cxD1 (rem + 1 + 2000 + 52) 2 15 (codeAt Try.prog 15 [1, 1, 0, 1, 0, 0, 1, 1])) (kSeq (ev cxD1 (rem + 1 + 2000 + 54) 2 15 (codeAt Try.prog 15 [1, 1, 0, 1, 0])) (kBlock 0 (kSeq (ev cxD1 (M + 57) 2 15 (codeAt Try.prog 15 [1, 1, 1])) (kRet (Cx.P cxD1) [(ResultVar.tmp 2)] 2 k)))))) (fun a ha hia => ?_) out.length 0 (by omega) (fun j x hj => by omega)
    · rw [show out.length + (rem + 1 + 2000 - out.length) + 48 = rem + 1 + 2000 + 48 from by omega] at hins
      exact hins
    · have hlo : lenE out = out.length := rfl
      obtain ⟨l0, l1, l2, l3⟩ := eP_len (a := out)
      rw [hia] at hnext
      rw [t_reachA (L := rem + 1 + 2000)]
      rw [show addK .i64 (i : Int) 1 = ((i + 1 : Nat) : Int) from by rw [add64 (by omega)]; rfl]
      rw [show rem + 1 + 2000 + 54 = rem + 2000 + 55 from by omega]
      rw [hlo]
      simp only [Int.toNat_natCast, Nat.zero_add, Nat.sub_zero]
      rw [q0, q1, q2, q3]
      have hcol : ∀ (c : Es → List Int) (x : Int), (∀ l : Es, (c l).length = l.length) → (∀ a b : Es, c (a ++ b) = c a ++ c b) → (∀ (a : Es) j, c (a.take j) = (c a).take j) → (∀ (a : Es) j, c (a.drop j) = (c a).drop j) → (c [e] = [x]) → c (out.take a ++ e :: out.drop a) = (c out).take a ++ x :: (c out).drop a := fun c x _ h2 h3 h4 h5 => by
        rw [show out.take a ++ e :: out.drop a = out.take a ++ ([e] ++ out.drop a) from rfl, h2, h2, h3, h4, h5]; rfl
      have a0 := hcol eP e.1.1 (fun l => eP_len.1) (fun a b => eP_append.1) (fun a j => eP_take.1) (fun a j => eP_drop.1) rfl
      have a1 := hcol eF e.1.2.1 (fun l => eP_len.2.1) (fun a b => eP_append.2.1) (fun a j => eP_take.2.1) (fun a j => eP_drop.2.1) rfl
      have a2 := hcol eG e.1.2.2 (fun l => eP_len.2.2.1) (fun a b => eP_append.2.2.1) (fun a j => eP_take.2.2.1) (fun a j => eP_drop.2.2.1) rfl
      have a3 := hcol eV e.2 (fun l => eP_len.2.2.2) (fun a b => eP_append.2.2.2) (fun a j => eP_take.2.2.2) (fun a j => eP_drop.2.2.2) rfl
      have hfd : ∀ c : List Int, c.length = out.length → fitL 0 (out.length - a) (c.drop a) = c.drop a := fun c hc => fitL_same _ _ _ (by simp [hc])
      rw [hfd _ l0, hfd _ l1, hfd _ l2, hfd _ l3]
      refine ⟨ndd (by omega) (ndd (by omega) (ndd (by omega) (ndd (by omega) ?_)))⟩
      refine brd (fun h0 => ?_) (fun h0 => ?_)
      · have h0 : a = 0 := by omega
        subst h0
        refine ndd rfl (ndd (by omega) (ndd (by omega) (ndd (by omega) (ndd (by omega) (ndd (by omega) (ndd (by omega) (ndd (by omega) (ndd (by omega) (ndd (by omega) ?_)))))))))
        rw [rowE_eq (es := out.take 0 ++ e :: out.drop 0) (m := 1 + (out.length - 0)) (c0 := [e.1.1] ++ List.drop 0 (eP out)) (c1 := [e.1.2.1] ++ List.drop 0 (eF out)) (c2 := [e.1.2.2] ++ List.drop 0 (eG out)) (c3 := [e.2] ++ List.drop 0 (eV out)) (by simp; omega) (by rw [a0]; simp) (by rw [a1]; simp) (by rw [a2]; simp) (by rw [a3]; simp)]
        exact hnext
      · have hft : ∀ (c : List Int) (x : Int), c.length = out.length → fitL 0 (a + 1) (fitL 0 a c ++ [x]) ++ c.drop a = c.take a ++ x :: c.drop a := fun c x hc => by
          rw [fitL_take (l := c) (by omega), fitL_same 0 (a + 1) _ (by simp; omega)]; simp
        rw [hft _ _ l0, hft _ _ l1, hft _ _ l2, hft _ _ l3]
        refine ndd (by omega) (ndd (by omega) (ndd (by omega) (ndd (by omega) (ndd (by omega) (ndd (by omega) (ndd (by omega) (ndd (by omega) (ndd (by omega) (ndd (by omega) (ndd (by omega) ?_))))))))))
        rw [rowE_eq (es := out.take a ++ e :: out.drop a) (m := a + 1 + (out.length - a)) (by simp; omega) a0.symm a1.symm a2.symm a3.symm]
        exact hnext
theorem reach_sum : SumOk Try.prog 15 sREach := by
  refine sumOk_of cxD1_ok (fun args st => ?_) (fun args st k h => ?_)
  · unfold sREach
    split
    · split
      · exact linNeed (linNeed (linNeed (linNeed linRet)))
      · exact fun _ h => h.elim
    · exact fun _ h => h.elim
  · unfold sREach at h
    split at h
    · split at h
      · rename_i _ w T n w2 T2 m c0 c1 c2 c3
        have h1 := of_decide_eq_true (need_iff.1 h).1
        have h2 := need_iff.1 (need_iff.1 h).2
        have h3 := need_iff.1 h2.2
        have h4 := need_iff.1 h3.2
        obtain ⟨e1, e2⟩ := h1
        subst e1; subst e2
        obtain ⟨es, em, e0, e1, e2, e3⟩ := colsOk_ex h2.1
        subst em; subst e0; subst e1; subst e2; subst e3
        have hk := h4.2
        rw [toE_same] at hk
        have := each_loop (M := es.length + 2000) h3.1 (of_decide_eq_true h4.1) hk es.length 0 (by omega)
        exact ⟨es.length + 2000 + 60, Eq.mpr (t_reach (L := es.length + 2000) ..) this⟩
      · exact h.elim
    · exact h.elim
end Go.Ev
end
section
namespace Go.Ev
open Go Go.Proofs Go.Spec
noncomputable def sumsT : List (FuncId × SumT) := [(6, sTNew), (7, sTShards), (17, sTShard), (8, sTPut), (11, sTGet), (13, sTDrop), (18, sTLen), (20, sTCount),
  (19, sRShard), (12, sRFind), (21, sRCount), (14, sRDrop), (9, sRPut), (15, sREach)]
def handsT : List (FuncId × Nat × Hand) := [(23, 6, hR2), (23, 9, hR3)]
def sTrue : SumT := fun args st k => match args, st with
  | [], [] => k (.sa (.one (bv true))) []
  | _, _ => False
def wrT : List (FuncId × Nat) := [(8, 2), (13, 2), (9, 2), (14, 2), (5, 2)]
noncomputable def cxKn : Cx := { mkCx Try.prog sumsT [] wrT with hand := lookHand handsT }
end Go.Ev
end
section
namespace Go.Ev
open Go Go.Proofs Go.Spec
theorem t_kn (k : SV → St → Prop) : evCall cxKn (ev cxKn 100) 5 [] [] k =
    (k (.sa (.one (bv true))) []) := by kernel_rfl
end Go.Ev
end
section
namespace Go.Ev
open Go Go.Proofs Go.Spec
theorem sumsT_ok : ∀ x ∈ sumsT, SumOk Try.prog x.1 x.2 := by
  intro x h
  simp only [sumsT, List.mem_cons, List.not_mem_nil, or_false] at h
  rcases h with rfl | rfl | rfl | rfl | rfl | rfl | rfl | rfl | rfl | rfl | rfl | rfl | rfl | rfl
  · exact newT_sum
  · exact shardsT_sum
  · exact shardT_sum
  · exact putT_sum
  · exact getT_sum
  · exact dropT_sum
  · exact lenT_sum
  · exact countT_sum
  · exact rshard_sum
  · exact rfind_sum
  · exact rcount_sum
  · exact rdrop_sum
  · exact rput_sum
  · exact reach_sum
theorem handsT_ok : ∀ x ∈ handsT, HandOk Try.prog x.1 x.2.2 := by
  intro x h
  simp only [handsT, List.mem_cons, List.not_mem_nil, or_false] at h
  rcases h with rfl | rfl
  · exact hR2_ok
  · exact hR3_ok
theorem cxKn_ok : CxOk Try.prog cxKn := (mkCx_ok namesT mixedT sumsT_ok).withHand handsT_ok
theorem known_sum : SumOk Try.prog 5 sTrue := by
  refine sumOk_of cxKn_ok ?_ ?_
  · intro args st k h
    unfold sTrue at h ⊢
    split at h
    · exact Lin.ret _ _ k h
    · exact h.elim
  · intro args st k h
    unfold sTrue at h
    split at h
    · exact ⟨100, by rw [t_kn]; exact h⟩
    · exact h.elim
end Go.Ev
end
section
namespace Go.Spec
open Go Go.Ev
def addM (rs : List MapEntry) (p f g v : Int) (b : Nat) : List MapEntry := ⟨keyV [.u32, .u16, .u16] [p, f, g], .int .i64 v, b⟩ :: rs
def freshM (p f g : Int) (rs : List MapEntry) : Bool := (keysR rs).all fun k => !decide (k = (p, f, g))
end Go.Spec
namespace Go.Ev
open Go Go.Proofs Go.Spec
def sS : SumT := fun args st k => match args with
  | [.one (.ptr 0 0 0), .one (.ptr 2 0 0)] => (match st with
    | [some (.mem true .whole T1 1 (.lst [[.ref 1]])), some (.mp true [] 0), some (.mem true .whole T2 3 (.lst [[.raw (.int .u32 p), .raw (.int .u16 f), .raw (.int .u16 g)]]))] =>
      need (decide (T1 = 58 ∧ T2 = 36)) (k (.tup []) [boxM 1, some (.mv true [.u32, .u16, .u16] [⟨[p, f, g], some (.one (iv .i64 1)), 0⟩] [] 1 0), some (.mem true .whole 36 3 (.lst [[iv .u32 p, iv .u16 f, iv .u16 g]]))])
    | [some (.mem true .whole T1 1 (.lst [[.ref 1]])), some (.mv true [.u32, .u16, .u16] [⟨[p0, f0, g0], some (.one (.raw (.int .i64 v0))), b0⟩] rs cl h), some (.mem true .whole T2 3 (.lst [[.raw (.int .u32 p), .raw (.int .u16 f), .raw (.int .u16 g)]]))] =>
      need (decide (T1 = 58 ∧ T2 = 36)) (need (freshM p f g (addM rs p0 f0 g0 v0 b0)) (k (.tup []) [boxM 1, some (.mv true [.u32, .u16, .u16] [⟨[p, f, g], some (.one (iv .i64 1)), cl⟩] (addM rs p0 f0 g0 v0 b0) (cl + 1) 0), some (.mem true .whole 36 3 (.lst [[iv .u32 p, iv .u16 f, iv .u16 g]]))]))
    | _ => False)
  | _ => False
def hS : Hand := ⟨147, [17, 19], [0, 8, 9, 11, 17, 18, 19, 20, 21, 22], [], [1, 1, 1, 1, 1, 1, 1, 1, 1, 1, 1, 0, 1, 0, 1, 0, 1, 0, 0], sS⟩
def rowKs (m : Nat) (c0 c1 c2 : List Int) : Option SO := some (.own false .ext 0 3 (.tab m [.ints .u32 c0, .ints .u16 c1, .ints .u16 c2]))
noncomputable def cxSh : Cx := { mkCx Try.prog (sumsT ++ [(5, sTrue)])
  [(4, 10, [0, 3, 8, 9, 11, 51, 52, 53], []), (4, 16, [0, 8, 9, 11, 67, 68, 69], []), (4, 1000025, [0, 8, 9, 11, 17, 18], []),
   (4, 35, [8, 9, 17, 23, 126, 127], []),
   (23, 4, [1, 2, 3, 4, 11, 12], [⟨3, [], 57⟩, ⟨4, [0], 65⟩]),
   (23, 7, [1, 2, 3, 4, 5, 11, 12, 23, 24, 25], []),
   (23, 1000012, [2, 3, 4], []),
   (34, 1, [0, 5, 6, 7], [])]
  wrT with hand := lookHand (handsT ++ [(1000000 + 4, 29, hS)]) }
end Go.Ev
end
section
namespace Go.Ev
open Go Go.Proofs Go.Spec
theorem t_sh (a b : Int) (L m n : Nat) (c0 c1 c2 d0 d1 d2 : List Int) (k : SV → St → Prop) : evCall cxSh (ev cxSh (L + 100)) 4 [kint a, kint b, .one (.ref 0), .one (.ref 1)] [rowKs m c0 c1 c2, rowKs n d0 d1 d2] k =
    (branch (decide ((((m : Nat) : Int) > (500)))) (k (.sa (.one (bv true))) [(some (SO.own false MK.ext 0 3 (Ct.tab m [(Col.ints .u32 c0), (Col.ints .u16 c1), (Col.ints .u16 c2)]))), (some (SO.own false MK.ext 0 3 (Ct.tab n [(Col.ints .u32 d0), (Col.ints .u16 d1), (Col.ints .u16 d2)])))]) (branch (decide ((((n : Nat) : Int) > (500)))) (k (.sa (.one (bv true))) [(some (SO.own false MK.ext 0 3 (Ct.tab m [(Col.ints .u32 c0), (Col.ints .u16 c1), (Col.ints .u16 c2)]))), (some (SO.own false MK.ext 0 3 (Ct.tab n [(Col.ints .u32 d0), (Col.ints .u16 d1), (Col.ints .u16 d2)])))]) (branch (decide ((a < (1)))) (branch (decide ((b < (1)))) (k (.sa (.one (bv true))) [(some (SO.own false MK.ext 0 3 (Ct.tab m [(Col.ints .u32 c0), (Col.ints .u16 c1), (Col.ints .u16 c2)]))), (some (SO.own false MK.ext 0 3 (Ct.tab n [(Col.ints .u32 d0), (Col.ints .u16 d1), (Col.ints .u16 d2)])))]) (branch (decide (((64) < b))) (k (.sa (.one (bv true))) [(some (SO.own false MK.ext 0 3 (Ct.tab m [(Col.ints .u32 c0), (Col.ints .u16 c1), (Col.ints .u16 c2)]))), (some (SO.own false MK.ext 0 3 (Ct.tab n [(Col.ints .u32 d0), (Col.ints .u16 d1), (Col.ints .u16 d2)])))]) (k (.sa (.one (bv true))) [(some (SO.own false MK.ext 0 3 (Ct.tab m [(Col.ints .u32 c0), (Col.ints .u16 c1), (Col.ints .u16 c2)]))), (some (SO.own false MK.ext 0 3 (Ct.tab n [(Col.ints .u32 d0), (Col.ints .u16 d1), (Col.ints .u16 d2)])))]))) (branch (decide (((64) < a))) (branch (decide ((b < (1)))) (k (.sa (.one (bv true))) [(some (SO.own false MK.ext 0 3 (Ct.tab m [(Col.ints .u32 c0), (Col.ints .u16 c1), (Col.ints .u16 c2)]))), (some (SO.own false MK.ext 0 3 (Ct.tab n [(Col.ints .u32 d0), (Col.ints .u16 d1), (Col.ints .u16 d2)])))]) (branch (decide (((64) < b))) (k (.sa (.one (bv true))) [(some (SO.own false MK.ext 0 3 (Ct.tab m [(Col.ints .u32 c0), (Col.ints .u16 c1), (Col.ints .u16 c2)]))), (some (SO.own false MK.ext 0 3 (Ct.tab n [(Col.ints .u32 d0), (Col.ints .u16 d1), (Col.ints .u16 d2)])))]) (k (.sa (.one (bv true))) [(some (SO.own false MK.ext 0 3 (Ct.tab m [(Col.ints .u32 c0), (Col.ints .u16 c1), (Col.ints .u16 c2)]))), (some (SO.own false MK.ext 0 3 (Ct.tab n [(Col.ints .u32 d0), (Col.ints .u16 d1), (Col.ints .u16 d2)])))]))) (branch (decide ((b < (1)))) (k (.sa (.one (bv true))) [(some (SO.own false MK.ext 0 3 (Ct.tab m [(Col.ints .u32 c0), (Col.ints .u16 c1), (Col.ints .u16 c2)]))), (some (SO.own false MK.ext 0 3 (Ct.tab n [(Col.ints .u32 d0), (Col.ints .u16 d1), (Col.ints .u16 d2)])))]) (branch (decide (((64) < b))) (k (.sa (.one (bv true))) [(some (SO.own false MK.ext 0 3 (Ct.tab m [(Col.ints .u32 c0), (Col.ints .u16 c1), (Col.ints .u16 c2)]))), (some (SO.own false MK.ext 0 3 (Ct.tab n [(Col.ints .u32 d0), (Col.ints .u16 d1), (Col.ints .u16 d2)])))]) (ev cxSh (L + 91) 2 4 (codeAt Try.prog 4 [1, 1, 1, 1, 1, 1, 0, 1, 0]) (frm 147 [(0, (.sa (.one (iv .i64 a)))), (3, (.sa (.one (SC.ref 1)))), (8, (.sa (.one (SC.ptr 2 0 0)))), (9, (.sa (.one (SC.ptr 3 0 0)))), (11, (.sa (.one (SC.ptr 5 0 0)))), (51, (.sa (.one (SC.ref 0)))), (52, (.sa (.one (iv .i64 ((m : Nat) : Int))))), (53, (.sa (.one (iv .i64 (0)))))]) [(some (SO.own false MK.ext 0 3 (Ct.tab m [(Col.ints .u32 c0), (Col.ints .u16 c1), (Col.ints .u16 c2)]))), (some (SO.own false MK.ext 0 3 (Ct.tab n [(Col.ints .u32 d0), (Col.ints .u16 d1), (Col.ints .u16 d2)]))), (obj 4 1 [(bv false)]), (obj 24 1 [(SC.ref 4)]), (some (SO.abs true 0 (Spec.emptyT a))), (obj 24 1 [(SC.ref 6)]), (some (SO.abs true 0 (Spec.emptyT b)))] (kBlock 0 (kSeq (ev cxSh (L + 93) 2 4 (codeAt Try.prog 4 [1, 1, 1, 1, 1, 1, 1])) (kRet (Cx.P cxSh) [(ResultVar.cell 8 4)] 2 k)))))))))) := by kernel_rfl
end Go.Ev
end
section
namespace Go.Ev
open Go Go.Proofs Go.Spec
theorem t_shA (a i : Int) (L m n : Nat) (D D2 : TbD) (c0 c1 c2 d0 d1 d2 : List Int) (k : Exit → Fr → St → Prop) : ev cxSh (L + 91) 2 4 (codeAt Try.prog 4 [1, 1, 1, 1, 1, 1, 0, 1, 0]) (frm 147 [(0, .sa (kint a)), (3, (.sa (.one (.ref 1)))), (8, (.sa (.one (.ptr 2 0 0)))), (9, (.sa (.one (.ptr 3 0 0)))), (11, (.sa (.one (.ptr 5 0 0)))), (51, (.sa (.one (.ref 0)))), (52, .sa (kint (m : Int))), (53, .sa (kint i))]) [rowKs m c0 c1 c2, rowKs n d0 d1 d2, obj 4 1 [bv false], tbox 4, some (.abs true 0 D), tbox 6, some (.abs true 0 D2)] k =
    (Again (branch (decide ((i < ((m : Nat) : Int)))) (need (decide (((0) ≤ i))) (need (decide ((i < ((m : Nat) : Int)))) (need (decide (((0 + (Int.toNat i)) < m))) (ev cxSh (L + 90) 2 4 (codeAt Try.prog 4 [1, 1, 1, 1, 1, 1, 0, 1, 0]) (frm 147 [(0, (.sa (.one (iv .i64 a)))), (3, (.sa (.one (SC.ref 1)))), (8, (.sa (.one (SC.ptr 2 0 0)))), (9, (.sa (.one (SC.ptr 3 0 0)))), (11, (.sa (.one (SC.ptr 5 0 0)))), (51, (.sa (.one (SC.ref 0)))), (52, (.sa (.one (iv .i64 ((m : Nat) : Int))))), (53, (.sa (.one (iv .i64 (addK .i64 i (1))))))]) [(some (SO.own false MK.ext 0 3 (Ct.tab m [(Col.ints .u32 c0), (Col.ints .u16 c1), (Col.ints .u16 c2)]))), (some (SO.own false MK.ext 0 3 (Ct.tab n [(Col.ints .u32 d0), (Col.ints .u16 d1), (Col.ints .u16 d2)]))), (obj 4 1 [(bv false)]), (obj 24 1 [(SC.ref 4)]), (some (SO.abs true 0 (Spec.setT D ((List.getD c0 (0 + (Int.toNat i)) (0)), ((List.getD c1 (0 + (Int.toNat i)) (0)), (List.getD c2 (0 + (Int.toNat i)) (0)))) (some i)))), (obj 24 1 [(SC.ref 6)]), (some (SO.abs true 0 (Spec.setT D2 ((List.getD c0 (0 + (Int.toNat i)) (0)), ((List.getD c1 (0 + (Int.toNat i)) (0)), (List.getD c2 (0 + (Int.toNat i)) (0)))) (some i))))] k)))) (k (Exit.exit 0) (frm 147 [(0, (.sa (.one (iv .i64 a)))), (3, (.sa (.one (SC.ref 1)))), (8, (.sa (.one (SC.ptr 2 0 0)))), (9, (.sa (.one (SC.ptr 3 0 0)))), (11, (.sa (.one (SC.ptr 5 0 0)))), (51, (.sa (.one (SC.ref 0)))), (52, (.sa (.one (iv .i64 ((m : Nat) : Int))))), (53, (.sa (.one (iv .i64 i)))), (54, (.sa (.one (bv false))))]) [(some (SO.own false MK.ext 0 3 (Ct.tab m [(Col.ints .u32 c0), (Col.ints .u16 c1), (Col.ints .u16 c2)]))), (some (SO.own false MK.ext 0 3 (Ct.tab n [(Col.ints .u32 d0), (Col.ints .u16 d1), (Col.ints .u16 d2)]))), (obj 4 1 [(bv false)]), (obj 24 1 [(SC.ref 4)]), (some (SO.abs true 0 D)), (obj 24 1 [(SC.ref 6)]), (some (SO.abs true 0 D2))]))) := by kernel_rfl
end Go.Ev
end
section
namespace Go.Ev
open Go Go.Proofs Go.Spec
theorem t_shB (a i : Int) (L m n : Nat) (D D2 : TbD) (c0 c1 c2 d0 d1 d2 : List Int) (k : Exit → Fr → St → Prop) : ev cxSh (L + 93) 2 4 (codeAt Try.prog 4 [1, 1, 1, 1, 1, 1, 1]) (frm 147 [(0, .sa (kint a)), (3, (.sa (.one (.ref 1)))), (8, (.sa (.one (.ptr 2 0 0)))), (9, (.sa (.one (.ptr 3 0 0)))), (11, (.sa (.one (.ptr 5 0 0)))), (51, (.sa (.one (.ref 0)))), (52, .sa (kint (m : Int))), (53, .sa (kint i)), (54, (.sa (.one (bv false))))]) [rowKs m c0 c1 c2, rowKs n d0 d1 d2, obj 4 1 [bv false], tbox 4, some (.abs true 0 D), tbox 6, some (.abs true 0 D2)] k =
    (ev cxSh (L + 90) 2 4 (codeAt Try.prog 4 [1, 1, 1, 1, 1, 1, 1, 0, 1, 0]) (frm 147 [(0, (.sa (.one (iv .i64 a)))), (8, (.sa (.one (SC.ptr 2 0 0)))), (9, (.sa (.one (SC.ptr 3 0 0)))), (11, (.sa (.one (SC.ptr 5 0 0)))), (67, (.sa (.one (SC.ref 1)))), (68, (.sa (.one (iv .i64 ((n : Nat) : Int))))), (69, (.sa (.one (iv .i64 (0)))))]) [(some (SO.own false MK.ext 0 3 (Ct.tab m [(Col.ints .u32 c0), (Col.ints .u16 c1), (Col.ints .u16 c2)]))), (some (SO.own false MK.ext 0 3 (Ct.tab n [(Col.ints .u32 d0), (Col.ints .u16 d1), (Col.ints .u16 d2)]))), (obj 4 1 [(bv false)]), (obj 24 1 [(SC.ref 4)]), (some (SO.abs true 0 D)), (obj 24 1 [(SC.ref 6)]), (some (SO.abs true 0 D2))] (kBlock 2 (kSeq (ev cxSh (L + 92) 2 4 (codeAt Try.prog 4 [1, 1, 1, 1, 1, 1, 1, 1])) k))) := by kernel_rfl
end Go.Ev
end
section
namespace Go.Ev
open Go Go.Proofs Go.Spec
theorem t_shC (a i : Int) (L m n : Nat) (D D2 : TbD) (c0 c1 c2 d0 d1 d2 : List Int) (k : Exit → Fr → St → Prop) : ev cxSh (L + 90) 2 4 (codeAt Try.prog 4 [1, 1, 1, 1, 1, 1, 1, 0, 1, 0]) (frm 147 [(0, .sa (kint a)), (8, (.sa (.one (.ptr 2 0 0)))), (9, (.sa (.one (.ptr 3 0 0)))), (11, (.sa (.one (.ptr 5 0 0)))), (67, (.sa (.one (.ref 1)))), (68, .sa (kint (n : Int))), (69, .sa (kint i))]) [rowKs m c0 c1 c2, rowKs n d0 d1 d2, obj 4 1 [bv false], tbox 4, some (.abs true 0 D), tbox 6, some (.abs true 0 D2)] k =
    (Again (branch (decide ((i < ((n : Nat) : Int)))) (need (decide (((0) ≤ i))) (need (decide ((i < ((n : Nat) : Int)))) (need (decide (((0 + (Int.toNat i)) < n))) (branch (Bool.not ((Spec.getB D (List.getD d0 (0 + (Int.toNat i)) (0)) (List.getD d1 (0 + (Int.toNat i)) (0)) (List.getD d2 (0 + (Int.toNat i)) (0))) == (Spec.getB D2 (List.getD d0 (0 + (Int.toNat i)) (0)) (List.getD d1 (0 + (Int.toNat i)) (0)) (List.getD d2 (0 + (Int.toNat i)) (0))))) (k Exit.ret (frm 147 [(0, (.sa (.one (iv .i64 a)))), (8, (.sa (.one (SC.ptr 2 0 0)))), (9, (.sa (.one (SC.ptr 3 0 0)))), (11, (.sa (.one (SC.ptr 5 0 0)))), (16, (.sa (.one (SC.ptr 7 0 0)))), (67, (.sa (.one (SC.ref 1)))), (68, (.sa (.one (iv .i64 ((n : Nat) : Int))))), (69, (.sa (.one (iv .i64 i)))), (70, (.sa (.one (bv true)))), (71, (.sa (.one (SC.ptr 1 (0 + (Int.toNat i)) 0)))), (72, (.sa (.agg [(iv .u32 (List.getD d0 (0 + (Int.toNat i)) (0))), (iv .u16 (List.getD d1 (0 + (Int.toNat i)) (0))), (iv .u16 (List.getD d2 (0 + (Int.toNat i)) (0)))]))), (73, (.sa (.one (SC.ref 4)))), (74, (.sa (.agg [(iv .u32 (List.getD d0 (0 + (Int.toNat i)) (0))), (iv .u16 (List.getD d1 (0 + (Int.toNat i)) (0))), (iv .u16 (List.getD d2 (0 + (Int.toNat i)) (0)))]))), (75, (.sa (.one (bv (Spec.getB D (List.getD d0 (0 + (Int.toNat i)) (0)) (List.getD d1 (0 + (Int.toNat i)) (0)) (List.getD d2 (0 + (Int.toNat i)) (0))))))), (76, (.sa (.one (SC.ref 6)))), (77, (.sa (.agg [(iv .u32 (List.getD d0 (0 + (Int.toNat i)) (0))), (iv .u16 (List.getD d1 (0 + (Int.toNat i)) (0))), (iv .u16 (List.getD d2 (0 + (Int.toNat i)) (0)))]))), (78, (.sa (.one (bv (Spec.getB D2 (List.getD d0 (0 + (Int.toNat i)) (0)) (List.getD d1 (0 + (Int.toNat i)) (0)) (List.getD d2 (0 + (Int.toNat i)) (0))))))), (79, (.sa (.one (bv true))))]) [(some (SO.own false MK.ext 0 3 (Ct.tab m [(Col.ints .u32 c0), (Col.ints .u16 c1), (Col.ints .u16 c2)]))), (some (SO.own false MK.ext 0 3 (Ct.tab n [(Col.ints .u32 d0), (Col.ints .u16 d1), (Col.ints .u16 d2)]))), (obj 4 1 [(bv false)]), (obj 24 1 [(SC.ref 4)]), (some (SO.abs true 0 (Spec.setT D ((List.getD d0 (0 + (Int.toNat i)) (0)), ((List.getD d1 (0 + (Int.toNat i)) (0)), (List.getD d2 (0 + (Int.toNat i)) (0)))) Option.none))), (obj 24 1 [(SC.ref 6)]), (some (SO.abs true 0 (Spec.setT D2 ((List.getD d0 (0 + (Int.toNat i)) (0)), ((List.getD d1 (0 + (Int.toNat i)) (0)), (List.getD d2 (0 + (Int.toNat i)) (0)))) Option.none))), (obj 36 3 [(iv .u32 (List.getD d0 (0 + (Int.toNat i)) (0))), (iv .u16 (List.getD d1 (0 + (Int.toNat i)) (0))), (iv .u16 (List.getD d2 (0 + (Int.toNat i)) (0)))])]) (ev cxSh (L + 89) 2 4 (codeAt Try.prog 4 [1, 1, 1, 1, 1, 1, 1, 0, 1, 0]) (frm 147 [(0, (.sa (.one (iv .i64 a)))), (8, (.sa (.one (SC.ptr 2 0 0)))), (9, (.sa (.one (SC.ptr 3 0 0)))), (11, (.sa (.one (SC.ptr 5 0 0)))), (67, (.sa (.one (SC.ref 1)))), (68, (.sa (.one (iv .i64 ((n : Nat) : Int))))), (69, (.sa (.one (iv .i64 (addK .i64 i (1))))))]) [(some (SO.own false MK.ext 0 3 (Ct.tab m [(Col.ints .u32 c0), (Col.ints .u16 c1), (Col.ints .u16 c2)]))), (some (SO.own false MK.ext 0 3 (Ct.tab n [(Col.ints .u32 d0), (Col.ints .u16 d1), (Col.ints .u16 d2)]))), (obj 4 1 [(bv false)]), (obj 24 1 [(SC.ref 4)]), (some (SO.abs true 0 (Spec.setT D ((List.getD d0 (0 + (Int.toNat i)) (0)), ((List.getD d1 (0 + (Int.toNat i)) (0)), (List.getD d2 (0 + (Int.toNat i)) (0)))) Option.none))), (obj 24 1 [(SC.ref 6)]), (some (SO.abs true 0 (Spec.setT D2 ((List.getD d0 (0 + (Int.toNat i)) (0)), ((List.getD d1 (0 + (Int.toNat i)) (0)), (List.getD d2 (0 + (Int.toNat i)) (0)))) Option.none)))] k))))) (k (Exit.exit 2) (frm 147 [(0, (.sa (.one (iv .i64 a)))), (8, (.sa (.one (SC.ptr 2 0 0)))), (9, (.sa (.one (SC.ptr 3 0 0)))), (11, (.sa (.one (SC.ptr 5 0 0)))), (67, (.sa (.one (SC.ref 1)))), (68, (.sa (.one (iv .i64 ((n : Nat) : Int))))), (69, (.sa (.one (iv .i64 i)))), (70, (.sa (.one (bv false))))]) [(some (SO.own false MK.ext 0 3 (Ct.tab m [(Col.ints .u32 c0), (Col.ints .u16 c1), (Col.ints .u16 c2)]))), (some (SO.own false MK.ext 0 3 (Ct.tab n [(Col.ints .u32 d0), (Col.ints .u16 d1), (Col.ints .u16 d2)]))), (obj 4 1 [(bv false)]), (obj 24 1 [(SC.ref 4)]), (some (SO.abs true 0 D)), (obj 24 1 [(SC.ref 6)]), (some (SO.abs true 0 D2))]))) := by kernel_rfl
end Go.Ev
end
section
namespace Go.Ev
open Go Go.Proofs Go.Spec
theorem t_shD (a i : Int) (L m n : Nat) (D D2 : TbD) (c0 c1 c2 d0 d1 d2 : List Int) (k : Exit → Fr → St → Prop) : ev cxSh (L + 92) 2 4 (codeAt Try.prog 4 [1, 1, 1, 1, 1, 1, 1, 1]) (frm 147 [(0, .sa (kint a)), (8, (.sa (.one (.ptr 2 0 0)))), (9, (.sa (.one (.ptr 3 0 0)))), (11, (.sa (.one (.ptr 5 0 0)))), (67, (.sa (.one (.ref 1)))), (68, .sa (kint (n : Int))), (69, .sa (kint i)), (70, (.sa (.one (bv false))))]) [rowKs m c0 c1 c2, rowKs n d0 d1 d2, obj 4 1 [bv false], tbox 4, some (.abs true 0 D), tbox 6, some (.abs true 0 D2)] k =
    (need (decide (((Spec.nsh D) ≤ 64))) (need (decide (((Spec.nsh D2) ≤ 64))) (branch (Bool.not (eqK (Spec.lenT D) (Spec.lenT D2))) (k Exit.ret (frm 147 [(0, (.sa (.one (iv .i64 a)))), (8, (.sa (.one (SC.ptr 2 0 0)))), (9, (.sa (.one (SC.ptr 3 0 0)))), (11, (.sa (.one (SC.ptr 5 0 0)))), (67, (.sa (.one (SC.ref 1)))), (68, (.sa (.one (iv .i64 ((n : Nat) : Int))))), (69, (.sa (.one (iv .i64 i)))), (70, (.sa (.one (bv false)))), (81, (.sa (.one (SC.ref 4)))), (82, (.sa (.one (iv .i64 (Spec.lenT D))))), (83, (.sa (.one (SC.ref 6)))), (84, (.sa (.one (iv .i64 (Spec.lenT D2))))), (85, (.sa (.one (bv true))))]) [(some (SO.own false MK.ext 0 3 (Ct.tab m [(Col.ints .u32 c0), (Col.ints .u16 c1), (Col.ints .u16 c2)]))), (some (SO.own false MK.ext 0 3 (Ct.tab n [(Col.ints .u32 d0), (Col.ints .u16 d1), (Col.ints .u16 d2)]))), (obj 4 1 [(bv false)]), (obj 24 1 [(SC.ref 4)]), (some (SO.abs true 0 D)), (obj 24 1 [(SC.ref 6)]), (some (SO.abs true 0 D2))]) (ev cxSh (L + 87) 2 4 (codeAt Try.prog 4 [1, 1, 1, 1, 1, 1, 1, 1, 1, 1, 1, 0, 0]) (frm 147 [(0, (.sa (.one (iv .i64 a)))), (8, (.sa (.one (SC.ptr 2 0 0)))), (9, (.sa (.one (SC.ptr 3 0 0)))), (11, (.sa (.one (SC.ptr 5 0 0)))), (17, (.sa (.one (SC.ptr 7 0 0)))), (18, (.sa (.one (SC.ptr 9 0 0))))]) [(some (SO.own false MK.ext 0 3 (Ct.tab m [(Col.ints .u32 c0), (Col.ints .u16 c1), (Col.ints .u16 c2)]))), (some (SO.own false MK.ext 0 3 (Ct.tab n [(Col.ints .u32 d0), (Col.ints .u16 d1), (Col.ints .u16 d2)]))), (obj 4 1 [(bv false)]), (obj 24 1 [(SC.ref 4)]), (some (SO.abs true 0 D)), (obj 24 1 [(SC.ref 6)]), (some (SO.abs true 0 D2)), (obj 58 1 [(SC.ref 8)]), (some (SO.mp true [] 0)), (obj 3 1 [(iv .i64 (0))])] (kSeq (ev cxSh (L + 87) 2 4 (codeAt Try.prog 4 [1, 1, 1, 1, 1, 1, 1, 1, 1, 1, 1, 0, 1])) (kSeq (ev cxSh (L + 88) 2 4 (codeAt Try.prog 4 [1, 1, 1, 1, 1, 1, 1, 1, 1, 1, 1, 1])) k)))))) := by kernel_rfl
end Go.Ev
end
section
namespace Go.Ev
open Go Go.Proofs Go.Spec
theorem t_shE0 (a la : Int) (L m n : Nat) (D D2 : TbD) (c0 c1 c2 d0 d1 d2 : List Int) (k : Exit → Fr → St → Prop) : ev cxSh (L + 87) 2 4 (codeAt Try.prog 4 [1, 1, 1, 1, 1, 1, 1, 1, 1, 1, 1, 0, 0]) (frm 147 [(0, .sa (kint a)), (8, (.sa (.one (.ptr 2 0 0)))), (9, (.sa (.one (.ptr 3 0 0)))), (11, (.sa (.one (.ptr 5 0 0)))), (17, (.sa (.one (.ptr 7 0 0)))), (18, (.sa (.one (.ptr 9 0 0))))]) [rowKs m c0 c1 c2, rowKs n d0 d1 d2, obj 4 1 [bv false], tbox 4, some (.abs true 0 D), tbox 6, some (.abs true 0 D2), obj 58 1 [.ref 8], some (.mp true [] 0), obj 3 1 [iv .i64 la]] (kSeq (ev cxSh (L + 87) 2 4 (codeAt Try.prog 4 [1, 1, 1, 1, 1, 1, 1, 1, 1, 1, 1, 0, 1])) (kSeq (ev cxSh (L + 88) 2 4 (codeAt Try.prog 4 [1, 1, 1, 1, 1, 1, 1, 1, 1, 1, 1, 1])) k)) =
    (Again (ev cxSh (L + 79) 13 23 (codeAt Try.prog 23 [1, 1, 1, 0, 1, 0]) (frm 59 [(1, (.sa (.one (SC.ptr 11 0 0)))), (2, (.sa (.one (SC.ptr 13 0 0)))), (3, (.sa (.one (SC.ref 14)))), (4, (.sa (.one (SC.ptr 15 0 0)))), (11, (.sa (.one (iv .i64 (((List.length D.sh) : Nat) : Int))))), (12, (.sa (.one (iv .i64 (0)))))]) [(some (SO.own false MK.ext 0 3 (Ct.tab m [(Col.ints .u32 c0), (Col.ints .u16 c1), (Col.ints .u16 c2)]))), (some (SO.own false MK.ext 0 3 (Ct.tab n [(Col.ints .u32 d0), (Col.ints .u16 d1), (Col.ints .u16 d2)]))), (obj 4 1 [(bv false)]), (obj 24 1 [(SC.ref 4)]), (some (SO.abs true 0 D)), (obj 24 1 [(SC.ref 6)]), (some (SO.abs true 0 D2)), (obj 58 1 [(SC.ref 8)]), (some (SO.mp true [] 0)), (obj 3 1 [(iv .i64 la)]), (some (SO.clo (Fn.func 23) [] [(.one (SC.ptr 11 0 0))])), (obj 24 1 [(SC.ref 4)]), (some (SO.lp true 4 (frm 147 [(0, (.sa (.one (iv .i64 a)))), (8, (.sa (.one (SC.ptr 2 0 0)))), (9, (.sa (.one (SC.ptr 3 0 0)))), (11, (.sa (.one (SC.ptr 5 0 0)))), (17, (.sa (.one (SC.ptr 7 0 0)))), (18, (.sa (.one (SC.ptr 9 0 0)))), (87, (.sa (.one (SC.ref 4)))), (88, (.sa (.one (SC.ref 10))))]) [89, 90] (codeAt Try.prog 4 [1, 1, 1, 1, 1, 1, 1, 1, 1, 1, 1, 0, 1, 0, 0]) (codeAt Try.prog 4 [1, 1, 1, 1, 1, 1, 1, 1, 1, 1, 1, 0, 1, 0, 1]) 0 Option.none)), (obj 64 1 [(SC.ref 12)]), (some (SO.own true MK.row 36 3 (Ct.tab 0 [(Col.ints .u32 []), (Col.ints .u16 []), (Col.ints .u16 [])]))), (obj 65 1 [(SC.ref 16)]), (some (SO.own true MK.row 3 1 (Ct.ints .i64 [])))] (kBlock 0 (kSeq (ev cxSh (L + 81) 13 23 (codeAt Try.prog 23 [1, 1, 1, 1])) (kRet (Cx.P cxSh) [] 13 (kRange (ev cxSh (L + 85)) 2 4 12 (frm 147 [(0, (.sa (.one (iv .i64 a)))), (8, (.sa (.one (SC.ptr 2 0 0)))), (9, (.sa (.one (SC.ptr 3 0 0)))), (11, (.sa (.one (SC.ptr 5 0 0)))), (17, (.sa (.one (SC.ptr 7 0 0)))), (18, (.sa (.one (SC.ptr 9 0 0)))), (87, (.sa (.one (SC.ref 4)))), (88, (.sa (.one (SC.ref 10))))]) (kBlock 4 (kSeq (ev cxSh (L + 88) 2 4 (codeAt Try.prog 4 [1, 1, 1, 1, 1, 1, 1, 1, 1, 1, 1, 1])) k)))))))) := by kernel_rfl
end Go.Ev
end
section
namespace Go.Ev
open Go Go.Proofs Go.Spec
theorem t_shE1 (a la q nn : Int) (L M m n : Nat) (D D2 : TbD) (ks : List Kx) (us c0 c1 c2 d0 d1 d2 : List Int) (k : Exit → Fr → St → Prop) : ev cxSh (L + 61) 13 23 (codeAt Try.prog 23 [1, 1, 1, 0, 1, 0]) (frm 59 [(1, (.sa (.one (SC.ptr 11 0 0)))), (2, (.sa (.one (SC.ptr 13 0 0)))), (3, (.sa (.one (SC.ref 14)))), (4, (.sa (.one (SC.ptr 15 0 0)))), (11, .sa (kint nn)), (12, .sa (kint q))]) [rowKs m c0 c1 c2, rowKs n d0 d1 d2, obj 4 1 [bv false], tbox 4, some (.abs true 0 D), tbox 6, some (.abs true 0 D2), obj 58 1 [.ref 8], some (.mp true [] 0), obj 3 1 [iv .i64 la], some (.clo (.func 23) [] [.one (.ptr 11 0 0)]), tbox 4, some (.lp true 4 (frm 147 [(0, .sa (kint a)), (8, (.sa (.one (.ptr 2 0 0)))), (9, (.sa (.one (.ptr 3 0 0)))), (11, (.sa (.one (.ptr 5 0 0)))), (17, (.sa (.one (.ptr 7 0 0)))), (18, (.sa (.one (.ptr 9 0 0)))), (87, (.sa (.one (.ref 4)))), (88, (.sa (.one (.ref 10))))]) [89, 90] (codeAt Try.prog 4 [1, 1, 1, 1, 1, 1, 1, 1, 1, 1, 1, 0, 1, 0, 0]) (codeAt Try.prog 4 [1, 1, 1, 1, 1, 1, 1, 1, 1, 1, 1, 0, 1, 0, 1]) 0 none), obj 64 1 [.ref 12], rowX ks, obj 65 1 [.ref 16], some (.own true .row 3 1 (.ints .i64 us))] (kBlock 0 (kSeq (ev cxSh (M + 63) 13 23 (codeAt Try.prog 23 [1, 1, 1, 1])) k)) =
    (Again (branch (decide ((q < nn))) (here (Cx.P cxSh) 23 [1, 1, 1, 0, 1, 0, 0, 1, 1, 0, 0, 1, 0] (codeAt (Cx.P cxSh) 23 [1, 1, 1, 0, 1, 0, 0, 1, 1, 0, 0, 1, 0]) (need (decide (((0) ≤ q))) (need (decide ((q < (Spec.shT D)))) (need (decide ((((Spec.lenK (Spec.keysT D q)) * 8) ≤ 140737488355328))) (ev cxSh (L + 53) 13 23 (codeAt Try.prog 23 [1, 1, 1, 0, 1, 0, 0, 1, 1, 0, 0, 1, 1, 0]) (frm 59 [(1, (.sa (.one (SC.ptr 11 0 0)))), (2, (.sa (.one (SC.ptr 13 0 0)))), (3, (.sa (.one (SC.ref 14)))), (4, (.sa (.one (SC.ptr 15 0 0)))), (5, (.sa (.one (iv .i64 q)))), (11, (.sa (.one (iv .i64 nn)))), (12, (.sa (.one (iv .i64 q)))), (23, (.sa (.one (SC.ref 17)))), (24, (.sa (.one (iv .i64 (((Spec.lenK (Spec.keysT D q)) : Nat) : Int))))), (25, (.sa (.one (iv .i64 (0)))))]) [(some (SO.own false MK.ext 0 3 (Ct.tab m [(Col.ints .u32 c0), (Col.ints .u16 c1), (Col.ints .u16 c2)]))), (some (SO.own false MK.ext 0 3 (Ct.tab n [(Col.ints .u32 d0), (Col.ints .u16 d1), (Col.ints .u16 d2)]))), (obj 4 1 [(bv false)]), (obj 24 1 [(SC.ref 4)]), (some (SO.abs true 0 D)), (obj 24 1 [(SC.ref 6)]), (some (SO.abs true 0 D2)), (obj 58 1 [(SC.ref 8)]), (some (SO.mp true [] 0)), (obj 3 1 [(iv .i64 la)]), (some (SO.clo (Fn.func 23) [] [(.one (SC.ptr 11 0 0))])), (obj 24 1 [(SC.ref 4)]), (some (SO.lp true 4 (frm 147 [(0, (.sa (.one (iv .i64 a)))), (8, (.sa (.one (SC.ptr 2 0 0)))), (9, (.sa (.one (SC.ptr 3 0 0)))), (11, (.sa (.one (SC.ptr 5 0 0)))), (17, (.sa (.one (SC.ptr 7 0 0)))), (18, (.sa (.one (SC.ptr 9 0 0)))), (87, (.sa (.one (SC.ref 4)))), (88, (.sa (.one (SC.ref 10))))]) [89, 90] (codeAt Proofs.Try.prog 4 [1, 1, 1, 1, 1, 1, 1, 1, 1, 1, 1, 0, 1, 0, 0]) (codeAt Proofs.Try.prog 4 [1, 1, 1, 1, 1, 1, 1, 1, 1, 1, 1, 0, 1, 0, 1]) 0 Option.none)), (obj 64 1 [(SC.ref 12)]), (some (SO.own true MK.row 36 3 (Ct.tab (Spec.lenK ks) [(Col.ints .u32 (Spec.colP ks)), (Col.ints .u16 (Spec.colF ks)), (Col.ints .u16 (Spec.colG ks))]))), (obj 65 1 [(SC.ref 16)]), (some (SO.own true MK.row 3 1 (Ct.ints .i64 us))), (some (SO.own true MK.row 36 3 (Ct.tab (Spec.lenK (Spec.keysT D q)) [(Col.ints .u32 (Spec.colP (Spec.keysT D q))), (Col.ints .u16 (Spec.colF (Spec.keysT D q))), (Col.ints .u16 (Spec.colG (Spec.keysT D q)))])))] (kBlock 2 (kBlock 1 (kSeq (ev cxSh (L + 57) 13 23 (codeAt Try.prog 23 [1, 1, 1, 0, 1, 0, 0, 1, 1, 1])) (kSeq (ev cxSh (L + 60) 13 23 (codeAt Try.prog 23 [1, 1, 1, 0, 1, 0])) (kBlock 0 (kSeq (ev cxSh (M + 63) 13 23 (codeAt Try.prog 23 [1, 1, 1, 1])) k))))))))))) (ev cxSh (M + 62) 13 23 (codeAt Try.prog 23 [1, 1, 1, 1, 0]) (frm 59 [(2, (.sa (.one (SC.ptr 13 0 0)))), (3, (.sa (.one (SC.ref 14)))), (4, (.sa (.one (SC.ptr 15 0 0))))]) [(some (SO.own false MK.ext 0 3 (Ct.tab m [(Col.ints .u32 c0), (Col.ints .u16 c1), (Col.ints .u16 c2)]))), (some (SO.own false MK.ext 0 3 (Ct.tab n [(Col.ints .u32 d0), (Col.ints .u16 d1), (Col.ints .u16 d2)]))), (obj 4 1 [(bv false)]), (obj 24 1 [(SC.ref 4)]), (some (SO.abs true 0 D)), (obj 24 1 [(SC.ref 6)]), (some (SO.abs true 0 D2)), (obj 58 1 [(SC.ref 8)]), (some (SO.mp true [] 0)), (obj 3 1 [(iv .i64 la)]), (some (SO.clo (Fn.func 23) [] [(.one (SC.ptr 11 0 0))])), (obj 24 1 [(SC.ref 4)]), (some (SO.lp true 4 (frm 147 [(0, (.sa (.one (iv .i64 a)))), (8, (.sa (.one (SC.ptr 2 0 0)))), (9, (.sa (.one (SC.ptr 3 0 0)))), (11, (.sa (.one (SC.ptr 5 0 0)))), (17, (.sa (.one (SC.ptr 7 0 0)))), (18, (.sa (.one (SC.ptr 9 0 0)))), (87, (.sa (.one (SC.ref 4)))), (88, (.sa (.one (SC.ref 10))))]) [89, 90] (codeAt Proofs.Try.prog 4 [1, 1, 1, 1, 1, 1, 1, 1, 1, 1, 1, 0, 1, 0, 0]) (codeAt Proofs.Try.prog 4 [1, 1, 1, 1, 1, 1, 1, 1, 1, 1, 1, 0, 1, 0, 1]) 0 Option.none)), (obj 64 1 [(SC.ref 12)]), (some (SO.own true MK.row 36 3 (Ct.tab (Spec.lenK ks) [(Col.ints .u32 (Spec.colP ks)), (Col.ints .u16 (Spec.colF ks)), (Col.ints .u16 (Spec.colG ks))]))), (obj 65 1 [(SC.ref 16)]), (some (SO.own true MK.row 3 1 (Ct.ints .i64 us)))] (kSeq (ev cxSh (M + 62) 13 23 (codeAt Try.prog 23 [1, 1, 1, 1, 1])) k)))) := by kernel_rfl
theorem t_shE2 (a la q nn j : Int) (L M m n : Nat) (D D2 : TbD) (ks ts : List Kx) (us c0 c1 c2 d0 d1 d2 : List Int) (k : Exit → Fr → St → Prop) : ev cxSh (L + 53) 13 23 (codeAt Try.prog 23 [1, 1, 1, 0, 1, 0, 0, 1, 1, 0, 0, 1, 1, 0]) (frm 59 [(1, (.sa (.one (SC.ptr 11 0 0)))), (2, (.sa (.one (SC.ptr 13 0 0)))), (3, (.sa (.one (SC.ref 14)))), (4, (.sa (.one (SC.ptr 15 0 0)))), (5, .sa (kint q)), (11, .sa (kint nn)), (12, .sa (kint q)), (23, .sa (.one (.ref 17))), (24, .sa (kint ((lenK ts : Nat) : Int))), (25, .sa (kint j))]) [rowKs m c0 c1 c2, rowKs n d0 d1 d2, obj 4 1 [bv false], tbox 4, some (.abs true 0 D), tbox 6, some (.abs true 0 D2), obj 58 1 [.ref 8], some (.mp true [] 0), obj 3 1 [iv .i64 la], some (.clo (.func 23) [] [.one (.ptr 11 0 0)]), tbox 4, some (.lp true 4 (frm 147 [(0, .sa (kint a)), (8, (.sa (.one (.ptr 2 0 0)))), (9, (.sa (.one (.ptr 3 0 0)))), (11, (.sa (.one (.ptr 5 0 0)))), (17, (.sa (.one (.ptr 7 0 0)))), (18, (.sa (.one (.ptr 9 0 0)))), (87, (.sa (.one (.ref 4)))), (88, (.sa (.one (.ref 10))))]) [89, 90] (codeAt Try.prog 4 [1, 1, 1, 1, 1, 1, 1, 1, 1, 1, 1, 0, 1, 0, 0]) (codeAt Try.prog 4 [1, 1, 1, 1, 1, 1, 1, 1, 1, 1, 1, 0, 1, 0, 1]) 0 none), obj 64 1 [.ref 12], rowX ks, obj 65 1 [.ref 16], some (.own true .row 3 1 (.ints .i64 us)), rowX ts] (kBlock 2 (kBlock 1 (kSeq (ev cxSh (M + 57) 13 23 (codeAt Try.prog 23 [1, 1, 1, 0, 1, 0, 0, 1, 1, 1])) (kSeq (ev cxSh (M + 60) 13 23 (codeAt Try.prog 23 [1, 1, 1, 0, 1, 0])) k)))) =
    (Again (branch (decide ((j < (((Spec.lenK ts) : Nat) : Int)))) (need (decide (((0) ≤ j))) (need (decide ((j < (((Spec.lenK ts) : Nat) : Int)))) (need (decide (((0 + (Int.toNat j)) < (Spec.lenK ts)))) (here (Cx.P cxSh) 23 [1, 1, 1, 0, 1, 0, 0, 1, 1, 0, 0, 1, 1, 0, 0, 1, 1, 0, 0, 1] (codeAt (Cx.P cxSh) 23 [1, 1, 1, 0, 1, 0, 0, 1, 1, 0, 0, 1, 1, 0, 0, 1, 1, 0, 0, 1]) (need (decide (((0) ≤ q))) (need (decide ((q < (Spec.shT D)))) (need (decide (((((Spec.lenK ks) + 1) * 8) ≤ 140737488355328))) (need (decide (((((List.length us) + 1) * 8) ≤ 140737488355328))) (ev cxSh (L + 52) 13 23 (codeAt Try.prog 23 [1, 1, 1, 0, 1, 0, 0, 1, 1, 0, 0, 1, 1, 0]) (frm 59 [(1, (.sa (.one (SC.ptr 11 0 0)))), (2, (.sa (.one (SC.ptr 13 0 0)))), (3, (.sa (.one (SC.ref 14)))), (4, (.sa (.one (SC.ptr 15 0 0)))), (5, (.sa (.one (iv .i64 q)))), (11, (.sa (.one (iv .i64 nn)))), (12, (.sa (.one (iv .i64 q)))), (23, (.sa (.one (SC.ref 17)))), (24, (.sa (.one (iv .i64 (((Spec.lenK ts) : Nat) : Int))))), (25, (.sa (.one (iv .i64 (addK .i64 j (1))))))]) [(some (SO.own false MK.ext 0 3 (Ct.tab m [(Col.ints .u32 c0), (Col.ints .u16 c1), (Col.ints .u16 c2)]))), (some (SO.own false MK.ext 0 3 (Ct.tab n [(Col.ints .u32 d0), (Col.ints .u16 d1), (Col.ints .u16 d2)]))), (obj 4 1 [(bv false)]), (obj 24 1 [(SC.ref 4)]), (some (SO.abs true 0 D)), (obj 24 1 [(SC.ref 6)]), (some (SO.abs true 0 D2)), (obj 58 1 [(SC.ref 8)]), (some (SO.mp true [] 0)), (obj 3 1 [(iv .i64 la)]), (some (SO.clo (Fn.func 23) [] [(.one (SC.ptr 11 0 0))])), (obj 24 1 [(SC.ref 4)]), (some (SO.lp true 4 (frm 147 [(0, (.sa (.one (iv .i64 a)))), (8, (.sa (.one (SC.ptr 2 0 0)))), (9, (.sa (.one (SC.ptr 3 0 0)))), (11, (.sa (.one (SC.ptr 5 0 0)))), (17, (.sa (.one (SC.ptr 7 0 0)))), (18, (.sa (.one (SC.ptr 9 0 0)))), (87, (.sa (.one (SC.ref 4)))), (88, (.sa (.one (SC.ref 10))))]) [89, 90] (codeAt Proofs.Try.prog 4 [1, 1, 1, 1, 1, 1, 1, 1, 1, 1, 1, 0, 1, 0, 0]) (codeAt Proofs.Try.prog 4 [1, 1, 1, 1, 1, 1, 1, 1, 1, 1, 1, 0, 1, 0, 1]) 0 Option.none)), (obj 64 1 [(SC.ref 12)]), (some (SO.own true MK.row 36 3 (Ct.tab ((Spec.lenK ks) + 1) [(Col.ints .u32 ((fitL (0) (Spec.lenK ks) (Spec.colP ks)) ++ [(List.getD (Spec.colP ts) (0 + (Int.toNat j)) (0))])), (Col.ints .u16 ((fitL (0) (Spec.lenK ks) (Spec.colF ks)) ++ [(List.getD (Spec.colF ts) (0 + (Int.toNat j)) (0))])), (Col.ints .u16 ((fitL (0) (Spec.lenK ks) (Spec.colG ks)) ++ [(List.getD (Spec.colG ts) (0 + (Int.toNat j)) (0))]))]))), (obj 65 1 [(SC.ref 16)]), (some (SO.own true MK.row 3 1 (Ct.ints .i64 (us ++ [(Spec.valT D q (List.getD (Spec.colP ts) (0 + (Int.toNat j)) (0)) (List.getD (Spec.colF ts) (0 + (Int.toNat j)) (0)) (List.getD (Spec.colG ts) (0 + (Int.toNat j)) (0)))])))), (some (SO.own true MK.row 36 3 (Ct.tab (Spec.lenK ts) [(Col.ints .u32 (Spec.colP ts)), (Col.ints .u16 (Spec.colF ts)), (Col.ints .u16 (Spec.colG ts))])))] (kBlock 2 (kBlock 1 (kSeq (ev cxSh (M + 57) 13 23 (codeAt Try.prog 23 [1, 1, 1, 0, 1, 0, 0, 1, 1, 1])) (kSeq (ev cxSh (M + 60) 13 23 (codeAt Try.prog 23 [1, 1, 1, 0, 1, 0])) k))))))))))))) (ev cxSh (M + 60) 13 23 (codeAt Try.prog 23 [1, 1, 1, 0, 1, 0]) (frm 59 [(1, (.sa (.one (SC.ptr 11 0 0)))), (2, (.sa (.one (SC.ptr 13 0 0)))), (3, (.sa (.one (SC.ref 14)))), (4, (.sa (.one (SC.ptr 15 0 0)))), (11, (.sa (.one (iv .i64 nn)))), (12, (.sa (.one (iv .i64 (addK .i64 q (1))))))]) [(some (SO.own false MK.ext 0 3 (Ct.tab m [(Col.ints .u32 c0), (Col.ints .u16 c1), (Col.ints .u16 c2)]))), (some (SO.own false MK.ext 0 3 (Ct.tab n [(Col.ints .u32 d0), (Col.ints .u16 d1), (Col.ints .u16 d2)]))), (obj 4 1 [(bv false)]), (obj 24 1 [(SC.ref 4)]), (some (SO.abs true 0 D)), (obj 24 1 [(SC.ref 6)]), (some (SO.abs true 0 D2)), (obj 58 1 [(SC.ref 8)]), (some (SO.mp true [] 0)), (obj 3 1 [(iv .i64 la)]), (some (SO.clo (Fn.func 23) [] [(.one (SC.ptr 11 0 0))])), (obj 24 1 [(SC.ref 4)]), (some (SO.lp true 4 (frm 147 [(0, (.sa (.one (iv .i64 a)))), (8, (.sa (.one (SC.ptr 2 0 0)))), (9, (.sa (.one (SC.ptr 3 0 0)))), (11, (.sa (.one (SC.ptr 5 0 0)))), (17, (.sa (.one (SC.ptr 7 0 0)))), (18, (.sa (.one (SC.ptr 9 0 0)))), (87, (.sa (.one (SC.ref 4)))), (88, (.sa (.one (SC.ref 10))))]) [89, 90] (codeAt Proofs.Try.prog 4 [1, 1, 1, 1, 1, 1, 1, 1, 1, 1, 1, 0, 1, 0, 0]) (codeAt Proofs.Try.prog 4 [1, 1, 1, 1, 1, 1, 1, 1, 1, 1, 1, 0, 1, 0, 1]) 0 Option.none)), (obj 64 1 [(SC.ref 12)]), (some (SO.own true MK.row 36 3 (Ct.tab (Spec.lenK ks) [(Col.ints .u32 (Spec.colP ks)), (Col.ints .u16 (Spec.colF ks)), (Col.ints .u16 (Spec.colG ks))]))), (obj 65 1 [(SC.ref 16)]), (some (SO.own true MK.row 3 1 (Ct.ints .i64 us)))] k))) := by kernel_rfl
theorem t_shE3 (a la : Int) (L m n : Nat) (D D2 : TbD) (ks : List Kx) (us c0 c1 c2 d0 d1 d2 : List Int) (k : Exit → Fr → St → Prop) : ev cxSh (L + 62) 13 23 (codeAt Try.prog 23 [1, 1, 1, 1, 0]) (frm 59 [(2, (.sa (.one (SC.ptr 13 0 0)))), (3, (.sa (.one (SC.ref 14)))), (4, (.sa (.one (SC.ptr 15 0 0))))]) [rowKs m c0 c1 c2, rowKs n d0 d1 d2, obj 4 1 [bv false], tbox 4, some (.abs true 0 D), tbox 6, some (.abs true 0 D2), obj 58 1 [.ref 8], some (.mp true [] 0), obj 3 1 [iv .i64 la], some (.clo (.func 23) [] [.one (.ptr 11 0 0)]), tbox 4, some (.lp true 4 (frm 147 [(0, .sa (kint a)), (8, (.sa (.one (.ptr 2 0 0)))), (9, (.sa (.one (.ptr 3 0 0)))), (11, (.sa (.one (.ptr 5 0 0)))), (17, (.sa (.one (.ptr 7 0 0)))), (18, (.sa (.one (.ptr 9 0 0)))), (87, (.sa (.one (.ref 4)))), (88, (.sa (.one (.ref 10))))]) [89, 90] (codeAt Try.prog 4 [1, 1, 1, 1, 1, 1, 1, 1, 1, 1, 1, 0, 1, 0, 0]) (codeAt Try.prog 4 [1, 1, 1, 1, 1, 1, 1, 1, 1, 1, 1, 0, 1, 0, 1]) 0 none), obj 64 1 [.ref 12], rowX ks, obj 65 1 [.ref 16], some (.own true .row 3 1 (.ints .i64 us))] (kSeq (ev cxSh (L + 62) 13 23 (codeAt Try.prog 23 [1, 1, 1, 1, 1])) k) =
    (Again (ev cxSh (L + 58) 20 34 (codeAt Try.prog 34 [1, 0]) (frm 18 [(0, (.sa (.one (SC.ref 19)))), (5, (.sa (.one (SC.ref 14)))), (6, (.sa (.one (iv .i64 (((Spec.lenK ks) : Nat) : Int))))), (7, (.sa (.one (iv .i64 (0)))))]) [(some (SO.own false MK.ext 0 3 (Ct.tab m [(Col.ints .u32 c0), (Col.ints .u16 c1), (Col.ints .u16 c2)]))), (some (SO.own false MK.ext 0 3 (Ct.tab n [(Col.ints .u32 d0), (Col.ints .u16 d1), (Col.ints .u16 d2)]))), (obj 4 1 [(bv false)]), (obj 24 1 [(SC.ref 4)]), (some (SO.abs true 0 D)), (obj 24 1 [(SC.ref 6)]), (some (SO.abs true 0 D2)), (obj 58 1 [(SC.ref 8)]), (some (SO.mp true [] 0)), (obj 3 1 [(iv .i64 la)]), (some (SO.clo (Fn.func 23) [] [(.one (SC.ptr 11 0 0))])), (obj 24 1 [(SC.ref 4)]), (some (SO.lp true 4 (frm 147 [(0, (.sa (.one (iv .i64 a)))), (8, (.sa (.one (SC.ptr 2 0 0)))), (9, (.sa (.one (SC.ptr 3 0 0)))), (11, (.sa (.one (SC.ptr 5 0 0)))), (17, (.sa (.one (SC.ptr 7 0 0)))), (18, (.sa (.one (SC.ptr 9 0 0)))), (87, (.sa (.one (SC.ref 4)))), (88, (.sa (.one (SC.ref 10))))]) [89, 90] (codeAt Proofs.Try.prog 4 [1, 1, 1, 1, 1, 1, 1, 1, 1, 1, 1, 0, 1, 0, 0]) (codeAt Proofs.Try.prog 4 [1, 1, 1, 1, 1, 1, 1, 1, 1, 1, 1, 0, 1, 0, 1]) 0 Option.none)), (obj 64 1 [(SC.ref 12)]), (some (SO.own true MK.row 36 3 (Ct.tab (Spec.lenK ks) [(Col.ints .u32 (Spec.colP ks)), (Col.ints .u16 (Spec.colF ks)), (Col.ints .u16 (Spec.colG ks))]))), (obj 65 1 [(SC.ref 16)]), (some (SO.own true MK.row 3 1 (Ct.ints .i64 us))), (some (SO.clo (Fn.func 34) [] [(.one (SC.ptr 18 0 0))])), (obj 57 1 [(SC.ref 14)]), (some (SO.lp true 23 (frm 59 [(2, (.sa (.one (SC.ptr 13 0 0)))), (3, (.sa (.one (SC.ref 14)))), (4, (.sa (.one (SC.ptr 15 0 0)))), (47, (.sa (.one (SC.ref 14)))), (48, (.sa (.one (SC.ref 17))))]) [49, 50] (codeAt Try.prog 23 [1, 1, 1, 1, 1, 0, 0]) (codeAt Try.prog 23 [1, 1, 1, 1, 1, 0, 1]) 0 Option.none))] (kBlock 0 (kRet (Cx.P cxSh) [] 20 (kRange (ev cxSh (L + 60)) 13 23 19 (frm 59 [(2, (.sa (.one (SC.ptr 13 0 0)))), (3, (.sa (.one (SC.ref 14)))), (4, (.sa (.one (SC.ptr 15 0 0)))), (47, (.sa (.one (SC.ref 14)))), (48, (.sa (.one (SC.ref 17))))]) (kBlock 4 k)))))) := by kernel_rfl
end Go.Ev
end
section
namespace Go.Ev
open Go Go.Proofs Go.Spec
theorem t_shE4 (a la j : Int) (L M m n : Nat) (D D2 : TbD) (ks : List Kx) (us c0 c1 c2 d0 d1 d2 : List Int) (k : Exit → Fr → St → Prop) : ev cxSh (L + 58) 20 34 (codeAt Try.prog 34 [1, 0]) (frm 18 [(0, (.sa (.one (SC.ref 19)))), (5, (.sa (.one (SC.ref 14)))), (6, .sa (kint ((lenK ks : Nat) : Int))), (7, .sa (kint j))]) [rowKs m c0 c1 c2, rowKs n d0 d1 d2, obj 4 1 [bv false], tbox 4, some (.abs true 0 D), tbox 6, some (.abs true 0 D2), obj 58 1 [.ref 8], some (.mp true [] 0), obj 3 1 [iv .i64 la], some (.clo (.func 23) [] [.one (.ptr 11 0 0)]), tbox 4, some (.lp true 4 (frm 147 [(0, .sa (kint a)), (8, (.sa (.one (.ptr 2 0 0)))), (9, (.sa (.one (.ptr 3 0 0)))), (11, (.sa (.one (.ptr 5 0 0)))), (17, (.sa (.one (.ptr 7 0 0)))), (18, (.sa (.one (.ptr 9 0 0)))), (87, (.sa (.one (.ref 4)))), (88, (.sa (.one (.ref 10))))]) [89, 90] (codeAt Try.prog 4 [1, 1, 1, 1, 1, 1, 1, 1, 1, 1, 1, 0, 1, 0, 0]) (codeAt Try.prog 4 [1, 1, 1, 1, 1, 1, 1, 1, 1, 1, 1, 0, 1, 0, 1]) 0 none), obj 64 1 [.ref 12], rowX ks, obj 65 1 [.ref 16], some (.own true .row 3 1 (.ints .i64 us)), some (.clo (.func 34) [] [.one (.ptr 18 0 0)]), obj 57 1 [.ref 14], some (.lp true 23 (frm 59 [(2, (.sa (.one (SC.ptr 13 0 0)))), (3, (.sa (.one (SC.ref 14)))), (4, (.sa (.one (SC.ptr 15 0 0)))), (47, (.sa (.one (SC.ref 14)))), (48, (.sa (.one (SC.ref 17))))]) [49, 50] (codeAt Try.prog 23 [1, 1, 1, 1, 1, 0, 0]) (codeAt Try.prog 23 [1, 1, 1, 1, 1, 0, 1]) 0 none)] (kBlock 0 (kRet (Cx.P cxSh) [] 20 (kRange (ev cxSh (M + 60)) 13 23 19 (frm 59 [(2, (.sa (.one (SC.ptr 13 0 0)))), (3, (.sa (.one (SC.ref 14)))), (4, (.sa (.one (SC.ptr 15 0 0)))), (47, (.sa (.one (SC.ref 14)))), (48, (.sa (.one (SC.ref 17))))]) (kBlock 4 k)))) =
    (Again (branch (decide ((j < (((Spec.lenK ks) : Nat) : Int)))) (need (decide (((0) ≤ j))) (need (decide ((j < (((Spec.lenK ks) : Nat) : Int)))) (need (decide (((0 + (Int.toNat j)) < (Spec.lenK ks)))) (need (decide (((0) ≤ j))) (need (decide ((j < (((List.length us) : Nat) : Int)))) (need (decide (((0 + (Int.toNat j)) < (List.length us)))) (here (Cx.P cxSh) 4 [1, 1, 1, 1, 1, 1, 1, 1, 1, 1, 1, 0, 1, 0, 1, 0, 1, 0, 0] (codeAt (Cx.P cxSh) 4 [1, 1, 1, 1, 1, 1, 1, 1, 1, 1, 1, 0, 1, 0, 1, 0, 1, 0, 0]) (branch (Bool.not (Spec.getB D2 (List.getD (Spec.colP ks) (0 + (Int.toNat j)) (0)) (List.getD (Spec.colF ks) (0 + (Int.toNat j)) (0)) (List.getD (Spec.colG ks) (0 + (Int.toNat j)) (0)))) (k Exit.ret (frm 59 [(2, (.sa (.one (SC.ptr 13 0 0)))), (3, (.sa (.one (SC.ref 14)))), (4, (.sa (.one (SC.ptr 15 0 0)))), (47, (.sa (.one (SC.ref 14)))), (48, (.sa (.one (SC.ref 17))))]) [(some (SO.own false MK.ext 0 3 (Ct.tab m [(Col.ints .u32 c0), (Col.ints .u16 c1), (Col.ints .u16 c2)]))), (some (SO.own false MK.ext 0 3 (Ct.tab n [(Col.ints .u32 d0), (Col.ints .u16 d1), (Col.ints .u16 d2)]))), (obj 4 1 [(bv false)]), (obj 24 1 [(SC.ref 4)]), (some (SO.abs true 0 D)), (obj 24 1 [(SC.ref 6)]), (some (SO.abs true 0 D2)), (obj 58 1 [(SC.ref 8)]), (some (SO.mv true [.u32, .u16, .u16] [(VE.mk [(List.getD (Spec.colP ks) (0 + (Int.toNat j)) (0)), (List.getD (Spec.colF ks) (0 + (Int.toNat j)) (0)), (List.getD (Spec.colG ks) (0 + (Int.toNat j)) (0))] (some (.one (iv .i64 (1)))) 0)] [] 1 0)), (obj 3 1 [(iv .i64 la)]), (some (SO.clo (Fn.func 23) [] [(.one (SC.ptr 11 0 0))])), (obj 24 1 [(SC.ref 4)]), (some (SO.lp true 4 (frm 147 [(0, (.sa (.one (iv .i64 a)))), (8, (.sa (.one (SC.ptr 2 0 0)))), (9, (.sa (.one (SC.ptr 3 0 0)))), (11, (.sa (.one (SC.ptr 5 0 0)))), (17, (.sa (.one (SC.ptr 7 0 0)))), (18, (.sa (.one (SC.ptr 9 0 0)))), (87, (.sa (.one (SC.ref 4)))), (88, (.sa (.one (SC.ref 10))))]) [89, 90] (codeAt Proofs.Try.prog 4 [1, 1, 1, 1, 1, 1, 1, 1, 1, 1, 1, 0, 1, 0, 0]) (codeAt Proofs.Try.prog 4 [1, 1, 1, 1, 1, 1, 1, 1, 1, 1, 1, 0, 1, 0, 1]) 2 (some (codeAt Try.prog 4 [1, 0, 1, 0, 1])))), (obj 64 1 [(SC.ref 12)]), (some (SO.own true MK.row 36 3 (Ct.tab (Spec.lenK ks) [(Col.ints .u32 (Spec.colP ks)), (Col.ints .u16 (Spec.colF ks)), (Col.ints .u16 (Spec.colG ks))]))), (obj 65 1 [(SC.ref 16)]), (some (SO.own true MK.row 3 1 (Ct.ints .i64 us))), (some (SO.clo (Fn.func 34) [] [(.one (SC.ptr 18 0 0))])), (obj 57 1 [(SC.ref 14)]), (some (SO.lp true 23 (frm 59 [(2, (.sa (.one (SC.ptr 13 0 0)))), (3, (.sa (.one (SC.ref 14)))), (4, (.sa (.one (SC.ptr 15 0 0)))), (47, (.sa (.one (SC.ref 14)))), (48, (.sa (.one (SC.ref 17))))]) [49, 50] (codeAt Proofs.Try.prog 23 [1, 1, 1, 1, 1, 0, 0]) (codeAt Proofs.Try.prog 23 [1, 1, 1, 1, 1, 0, 1]) 3 (some (codeAt Try.prog 4 [1, 0, 1, 0, 1]))))]) (branch (Bool.not (eqK (List.getD us (0 + (Int.toNat j)) (0)) (Spec.getI D2 (List.getD (Spec.colP ks) (0 + (Int.toNat j)) (0)) (List.getD (Spec.colF ks) (0 + (Int.toNat j)) (0)) (List.getD (Spec.colG ks) (0 + (Int.toNat j)) (0))))) (k Exit.ret (frm 59 [(2, (.sa (.one (SC.ptr 13 0 0)))), (3, (.sa (.one (SC.ref 14)))), (4, (.sa (.one (SC.ptr 15 0 0)))), (47, (.sa (.one (SC.ref 14)))), (48, (.sa (.one (SC.ref 17))))]) [(some (SO.own false MK.ext 0 3 (Ct.tab m [(Col.ints .u32 c0), (Col.ints .u16 c1), (Col.ints .u16 c2)]))), (some (SO.own false MK.ext 0 3 (Ct.tab n [(Col.ints .u32 d0), (Col.ints .u16 d1), (Col.ints .u16 d2)]))), (obj 4 1 [(bv false)]), (obj 24 1 [(SC.ref 4)]), (some (SO.abs true 0 D)), (obj 24 1 [(SC.ref 6)]), (some (SO.abs true 0 D2)), (obj 58 1 [(SC.ref 8)]), (some (SO.mv true [.u32, .u16, .u16] [(VE.mk [(List.getD (Spec.colP ks) (0 + (Int.toNat j)) (0)), (List.getD (Spec.colF ks) (0 + (Int.toNat j)) (0)), (List.getD (Spec.colG ks) (0 + (Int.toNat j)) (0))] (some (.one (iv .i64 (1)))) 0)] [] 1 0)), (obj 3 1 [(iv .i64 la)]), (some (SO.clo (Fn.func 23) [] [(.one (SC.ptr 11 0 0))])), (obj 24 1 [(SC.ref 4)]), (some (SO.lp true 4 (frm 147 [(0, (.sa (.one (iv .i64 a)))), (8, (.sa (.one (SC.ptr 2 0 0)))), (9, (.sa (.one (SC.ptr 3 0 0)))), (11, (.sa (.one (SC.ptr 5 0 0)))), (17, (.sa (.one (SC.ptr 7 0 0)))), (18, (.sa (.one (SC.ptr 9 0 0)))), (87, (.sa (.one (SC.ref 4)))), (88, (.sa (.one (SC.ref 10))))]) [89, 90] (codeAt Proofs.Try.prog 4 [1, 1, 1, 1, 1, 1, 1, 1, 1, 1, 1, 0, 1, 0, 0]) (codeAt Proofs.Try.prog 4 [1, 1, 1, 1, 1, 1, 1, 1, 1, 1, 1, 0, 1, 0, 1]) 2 (some (codeAt Try.prog 4 [1, 0, 1, 0, 1])))), (obj 64 1 [(SC.ref 12)]), (some (SO.own true MK.row 36 3 (Ct.tab (Spec.lenK ks) [(Col.ints .u32 (Spec.colP ks)), (Col.ints .u16 (Spec.colF ks)), (Col.ints .u16 (Spec.colG ks))]))), (obj 65 1 [(SC.ref 16)]), (some (SO.own true MK.row 3 1 (Ct.ints .i64 us))), (some (SO.clo (Fn.func 34) [] [(.one (SC.ptr 18 0 0))])), (obj 57 1 [(SC.ref 14)]), (some (SO.lp true 23 (frm 59 [(2, (.sa (.one (SC.ptr 13 0 0)))), (3, (.sa (.one (SC.ref 14)))), (4, (.sa (.one (SC.ptr 15 0 0)))), (47, (.sa (.one (SC.ref 14)))), (48, (.sa (.one (SC.ref 17))))]) [49, 50] (codeAt Proofs.Try.prog 23 [1, 1, 1, 1, 1, 0, 0]) (codeAt Proofs.Try.prog 23 [1, 1, 1, 1, 1, 0, 1]) 3 (some (codeAt Try.prog 4 [1, 0, 1, 0, 1]))))]) (need ((eqK (List.getD (Spec.colP ks) (0 + (Int.toNat j)) (0)) (List.getD (Spec.colP ks) (0 + (Int.toNat j)) (0))) && ((eqK (List.getD (Spec.colF ks) (0 + (Int.toNat j)) (0)) (List.getD (Spec.colF ks) (0 + (Int.toNat j)) (0))) && (eqK (List.getD (Spec.colG ks) (0 + (Int.toNat j)) (0)) (List.getD (Spec.colG ks) (0 + (Int.toNat j)) (0))))) (branch (decide (((Spec.shI (List.length D.sh) (List.getD (Spec.colP ks) (0 + (Int.toNat j)) (0)) (List.getD (Spec.colF ks) (0 + (Int.toNat j)) (0)) (List.getD (Spec.colG ks) (0 + (Int.toNat j)) (0))) < la))) (k Exit.ret (frm 59 [(2, (.sa (.one (SC.ptr 13 0 0)))), (3, (.sa (.one (SC.ref 14)))), (4, (.sa (.one (SC.ptr 15 0 0)))), (47, (.sa (.one (SC.ref 14)))), (48, (.sa (.one (SC.ref 17))))]) [(some (SO.own false MK.ext 0 3 (Ct.tab m [(Col.ints .u32 c0), (Col.ints .u16 c1), (Col.ints .u16 c2)]))), (some (SO.own false MK.ext 0 3 (Ct.tab n [(Col.ints .u32 d0), (Col.ints .u16 d1), (Col.ints .u16 d2)]))), (obj 4 1 [(bv false)]), (obj 24 1 [(SC.ref 4)]), (some (SO.abs true 0 D)), (obj 24 1 [(SC.ref 6)]), (some (SO.abs true 0 D2)), (obj 58 1 [(SC.ref 8)]), (some (SO.mv true [.u32, .u16, .u16] [(VE.mk [(List.getD (Spec.colP ks) (0 + (Int.toNat j)) (0)), (List.getD (Spec.colF ks) (0 + (Int.toNat j)) (0)), (List.getD (Spec.colG ks) (0 + (Int.toNat j)) (0))] (some (.one (iv .i64 (1)))) 0)] [] 1 0)), (obj 3 1 [(iv .i64 la)]), (some (SO.clo (Fn.func 23) [] [(.one (SC.ptr 11 0 0))])), (obj 24 1 [(SC.ref 4)]), (some (SO.lp true 4 (frm 147 [(0, (.sa (.one (iv .i64 a)))), (8, (.sa (.one (SC.ptr 2 0 0)))), (9, (.sa (.one (SC.ptr 3 0 0)))), (11, (.sa (.one (SC.ptr 5 0 0)))), (17, (.sa (.one (SC.ptr 7 0 0)))), (18, (.sa (.one (SC.ptr 9 0 0)))), (87, (.sa (.one (SC.ref 4)))), (88, (.sa (.one (SC.ref 10))))]) [89, 90] (codeAt Proofs.Try.prog 4 [1, 1, 1, 1, 1, 1, 1, 1, 1, 1, 1, 0, 1, 0, 0]) (codeAt Proofs.Try.prog 4 [1, 1, 1, 1, 1, 1, 1, 1, 1, 1, 1, 0, 1, 0, 1]) 2 (some (codeAt Try.prog 4 [1, 0, 1, 0, 1])))), (obj 64 1 [(SC.ref 12)]), (some (SO.own true MK.row 36 3 (Ct.tab (Spec.lenK ks) [(Col.ints .u32 (Spec.colP ks)), (Col.ints .u16 (Spec.colF ks)), (Col.ints .u16 (Spec.colG ks))]))), (obj 65 1 [(SC.ref 16)]), (some (SO.own true MK.row 3 1 (Ct.ints .i64 us))), (some (SO.clo (Fn.func 34) [] [(.one (SC.ptr 18 0 0))])), (obj 57 1 [(SC.ref 14)]), (some (SO.lp true 23 (frm 59 [(2, (.sa (.one (SC.ptr 13 0 0)))), (3, (.sa (.one (SC.ref 14)))), (4, (.sa (.one (SC.ptr 15 0 0)))), (47, (.sa (.one (SC.ref 14)))), (48, (.sa (.one (SC.ref 17))))]) [49, 50] (codeAt Proofs.Try.prog 23 [1, 1, 1, 1, 1, 0, 0]) (codeAt Proofs.Try.prog 23 [1, 1, 1, 1, 1, 0, 1]) 3 (some (codeAt Try.prog 4 [1, 0, 1, 0, 1]))))]) (ev cxSh (L + 57) 20 34 (codeAt Try.prog 34 [1, 0]) (frm 18 [(0, (.sa (.one (SC.ref 19)))), (5, (.sa (.one (SC.ref 14)))), (6, (.sa (.one (iv .i64 (((Spec.lenK ks) : Nat) : Int))))), (7, (.sa (.one (iv .i64 (addK .i64 j (1))))))]) [(some (SO.own false MK.ext 0 3 (Ct.tab m [(Col.ints .u32 c0), (Col.ints .u16 c1), (Col.ints .u16 c2)]))), (some (SO.own false MK.ext 0 3 (Ct.tab n [(Col.ints .u32 d0), (Col.ints .u16 d1), (Col.ints .u16 d2)]))), (obj 4 1 [(bv false)]), (obj 24 1 [(SC.ref 4)]), (some (SO.abs true 0 D)), (obj 24 1 [(SC.ref 6)]), (some (SO.abs true 0 D2)), (obj 58 1 [(SC.ref 8)]), (some (SO.mv true [.u32, .u16, .u16] [(VE.mk [(List.getD (Spec.colP ks) (0 + (Int.toNat j)) (0)), (List.getD (Spec.colF ks) (0 + (Int.toNat j)) (0)), (List.getD (Spec.colG ks) (0 + (Int.toNat j)) (0))] (some (.one (iv .i64 (1)))) 0)] [] 1 0)), (obj 3 1 [(iv .i64 (Spec.shI (List.length D.sh) (List.getD (Spec.colP ks) (0 + (Int.toNat j)) (0)) (List.getD (Spec.colF ks) (0 + (Int.toNat j)) (0)) (List.getD (Spec.colG ks) (0 + (Int.toNat j)) (0))))]), (some (SO.clo (Fn.func 23) [] [(.one (SC.ptr 11 0 0))])), (obj 24 1 [(SC.ref 4)]), (some (SO.lp true 4 (frm 147 [(0, (.sa (.one (iv .i64 a)))), (8, (.sa (.one (SC.ptr 2 0 0)))), (9, (.sa (.one (SC.ptr 3 0 0)))), (11, (.sa (.one (SC.ptr 5 0 0)))), (17, (.sa (.one (SC.ptr 7 0 0)))), (18, (.sa (.one (SC.ptr 9 0 0)))), (87, (.sa (.one (SC.ref 4)))), (88, (.sa (.one (SC.ref 10))))]) [89, 90] (codeAt Proofs.Try.prog 4 [1, 1, 1, 1, 1, 1, 1, 1, 1, 1, 1, 0, 1, 0, 0]) (codeAt Proofs.Try.prog 4 [1, 1, 1, 1, 1, 1, 1, 1, 1, 1, 1, 0, 1, 0, 1]) 0 Option.none)), (obj 64 1 [(SC.ref 12)]), (some (SO.own true MK.row 36 3 (Ct.tab (Spec.lenK ks) [(Col.ints .u32 (Spec.colP ks)), (Col.ints .u16 (Spec.colF ks)), (Col.ints .u16 (Spec.colG ks))]))), (obj 65 1 [(SC.ref 16)]), (some (SO.own true MK.row 3 1 (Ct.ints .i64 us))), (some (SO.clo (Fn.func 34) [] [(.one (SC.ptr 18 0 0))])), (obj 57 1 [(SC.ref 14)]), (some (SO.lp true 23 (frm 59 [(2, (.sa (.one (SC.ptr 13 0 0)))), (3, (.sa (.one (SC.ref 14)))), (4, (.sa (.one (SC.ptr 15 0 0)))), (47, (.sa (.one (SC.ref 14)))), (48, (.sa (.one (SC.ref 17))))]) [49, 50] (codeAt Proofs.Try.prog 23 [1, 1, 1, 1, 1, 0, 0]) (codeAt Proofs.Try.prog 23 [1, 1, 1, 1, 1, 0, 1]) 0 Option.none))] (kBlock 0 (kRet (Cx.P cxSh) [] 20 (kRange (ev cxSh (M + 60)) 13 23 19 (frm 59 [(2, (.sa (.one (SC.ptr 13 0 0)))), (3, (.sa (.one (SC.ref 14)))), (4, (.sa (.one (SC.ptr 15 0 0)))), (47, (.sa (.one (SC.ref 14)))), (48, (.sa (.one (SC.ref 17))))]) (kBlock 4 k)))))))))))))))) (k Exit.normal (frm 59 [(2, (.sa (.one (SC.ptr 13 0 0)))), (3, (.sa (.one (SC.ref 14)))), (4, (.sa (.one (SC.ptr 15 0 0)))), (47, (.sa (.one (SC.ref 14)))), (48, (.sa (.one (SC.ref 17))))]) [(some (SO.own false MK.ext 0 3 (Ct.tab m [(Col.ints .u32 c0), (Col.ints .u16 c1), (Col.ints .u16 c2)]))), (some (SO.own false MK.ext 0 3 (Ct.tab n [(Col.ints .u32 d0), (Col.ints .u16 d1), (Col.ints .u16 d2)]))), (obj 4 1 [(bv false)]), (obj 24 1 [(SC.ref 4)]), (some (SO.abs true 0 D)), (obj 24 1 [(SC.ref 6)]), (some (SO.abs true 0 D2)), (obj 58 1 [(SC.ref 8)]), (some (SO.mp true [] 0)), (obj 3 1 [(iv .i64 la)]), (some (SO.clo (Fn.func 23) [] [(.one (SC.ptr 11 0 0))])), (obj 24 1 [(SC.ref 4)]), (some (SO.lp true 4 (frm 147 [(0, (.sa (.one (iv .i64 a)))), (8, (.sa (.one (SC.ptr 2 0 0)))), (9, (.sa (.one (SC.ptr 3 0 0)))), (11, (.sa (.one (SC.ptr 5 0 0)))), (17, (.sa (.one (SC.ptr 7 0 0)))), (18, (.sa (.one (SC.ptr 9 0 0)))), (87, (.sa (.one (SC.ref 4)))), (88, (.sa (.one (SC.ref 10))))]) [89, 90] (codeAt Proofs.Try.prog 4 [1, 1, 1, 1, 1, 1, 1, 1, 1, 1, 1, 0, 1, 0, 0]) (codeAt Proofs.Try.prog 4 [1, 1, 1, 1, 1, 1, 1, 1, 1, 1, 1, 0, 1, 0, 1]) 0 Option.none)), (obj 64 1 [(SC.ref 12)]), (some (SO.own true MK.row 36 3 (Ct.tab (Spec.lenK ks) [(Col.ints .u32 (Spec.colP ks)), (Col.ints .u16 (Spec.colF ks)), (Col.ints .u16 (Spec.colG ks))]))), (obj 65 1 [(SC.ref 16)]), (some (SO.own true MK.row 3 1 (Ct.ints .i64 us))), (some (SO.clo (Fn.func 34) [] [(.one (SC.ptr 18 0 0))])), (obj 57 1 [(SC.ref 14)]), (some (SO.lp true 23 (frm 59 [(2, (.sa (.one (SC.ptr 13 0 0)))), (3, (.sa (.one (SC.ref 14)))), (4, (.sa (.one (SC.ptr 15 0 0)))), (47, (.sa (.one (SC.ref 14)))), (48, (.sa (.one (SC.ref 17))))]) [49, 50] (codeAt Proofs.Try.prog 23 [1, 1, 1, 1, 1, 0, 0]) (codeAt Proofs.Try.prog 23 [1, 1, 1, 1, 1, 0, 1]) 3 Option.none))]))) := by kernel_rfl
end Go.Ev
end
