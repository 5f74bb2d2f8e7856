/- The law FragKeeps, run: whatever the pieces are. No conditions. -/
import Derived.Test.YtegiamjcdklijaaKpT0
import Derived.Test.YtegiamjcdklijaaKpT1
import Derived.Test.YtegiamjcdklijaaGrS
import Derived.Test.YtegiamjcdklijaaFkS
import Derived.Test.YtegiamjcdklijaaWkP
set_option linter.unusedVariables false
namespace Go.Ev
open Go Go.Proofs Go.Spec
attribute [local irreducible] ev evCall branch need again
theorem cxKp_ok : CxOk Try.prog cxKp := by
  have h := mkCx_ok (P := Try.prog) (sums := [(6, sTrue), (10, sGreat), (12, sPut)]) (live := [(5, 8, [3, 4, 5, 18, 19, 20], [])]) (wr := [(12, 2)]) namesG mixedG (by
    intro x h
    simp only [List.mem_cons, List.not_mem_nil, or_false] at h
    rcases h with rfl | rfl | rfl
    · exact known_sum
    · exact great_sum
    · exact put_sum)
  exact ⟨h.prog, h.names, h.mixed, h.sum, h.ovl⟩
theorem brnq {x y : Int} {a b : Prop} (h : x = y) (h1 : b) : branch (Bool.not (eqK x y)) a b := by rw [eqK_t.2 h]; exact br (fun h => by cases h) (fun _ => h1)
theorem brns {x y : ByteArray} {a b : Prop} (h : x = y) (h1 : b) : branch (Bool.not (strEq x y)) a b := by subst h; rw [show strEq x x = true by simp [strEq]]; exact br (fun h => by cases h) (fun _ => h1)
theorem wh_facts {L : List Pc} {p : Pc} (h : whB L p = true) : lenD (whL L p) + (whM L p).length = lenD L ∧ (whL L p).Sublist L := by
  unfold whB at h
  unfold whL whM
  cases hj : putJ L p with
  | none => rw [hj] at h; cases h
  | some r =>
    obtain ⟨a, l2, m⟩ := r
    simp only [Option.getD_some]
    unfold putJ at hj
    split at hj
    · cases hj
    · rename_i a' i hb
      split at hj
      · cases hj
      · rename_i b j hf
        simp only [Option.some.injEq, Prod.mk.injEq] at hj
        obtain ⟨_, e⟩ := hj
        have h1 := join_len b.t (i + j + 1) L a'.t []
        have h2 := join_sub b.t (i + j + 1) L a'.t []
        rw [e] at h1 h2
        exact ⟨by simpa using h1.1, h2⟩
theorem sum_take {ds : List (List Int)} {i : Nat} (h : i < ds.length) : ((ds.take (i + 1)).map List.length).sum = ((ds.take i).map List.length).sum + (ds.getD i []).length := by
  rw [List.take_add_one, List.getD_eq_getElem?_getD, List.getElem?_eq_getElem h, List.map_append, List.sum_append]
  simp
theorem sum_le {ds : List (List Int)} (i : Nat) : ((ds.take i).map List.length).sum ≤ (ds.map List.length).sum := by
  have := congrArg (fun l => (List.map List.length l).sum) (List.take_append_drop i ds)
  simp only [List.map_append, List.sum_append] at this
  omega
theorem kp_loop (n : Nat) (ts fs ss ns ps : List Int) (ds : List (List Int)) (c M : Nat) (k : SV → St → Prop) (hn : n ≤ 60) (hl : ds.length = n) (hts : ∀ i, 0 ≤ ts.getD i 0 ∧ ts.getD i 0 < 4294967296) (hsum : (ds.map List.length).sum ≤ 20000) (hT : ∀ st, k (.sa (.one (bv true))) st) :
    ∀ (rem i : Nat) (l : List Pc) (cl : Nat) (inn out held : Int), i + rem = n → l.length ≤ i → held = (lenD l : Nat) → inn = out + held → 0 ≤ out → inn ≤ (((ds.take i).map List.length).sum : Nat) → (keysP l).Nodup → (∀ x ∈ l, 0 ≤ x.t ∧ x.t < 4294967296) →
      ev cxKp (rem + c + 52) 1 5 (codeAt Try.prog 5 [1, 1, 1, 1, 1, 0, 1, 0]) (frm 75 [(3, (.sa (.one (SC.ptr 1 0 0)))), (4, (.sa (.one (iv .i64 inn)))), (5, (.sa (.one (iv .i64 out)))), (18, (.sa (.one (SC.ref 0)))), (19, (.sa (.one (iv .i64 ((n : Nat) : Int))))), (20, (.sa (.one (iv .i64 (i : Int)))))]) [lP n ts fs ss ns ps ds, obj 56 2 [.ref 2, iv .i64 held], keptL l cl] (kBlock 0 (kSeq (ev cxKp (M + 54) 1 5 (codeAt Try.prog 5 [1, 1, 1, 1, 1, 1])) (kRet (Cx.P cxKp) [(ResultVar.tmp 2)] 1 k))) := by
  intro rem
  induction rem with
  | zero =>
    intro i l cl inn out held h1 h2 h3 h4 h5 h6 h7 h8
    rw [t_kpS]
    exact Again.mk (brf (by omega) (hT _))
  | succ rem ih =>
    intro i l cl inn out held h1 h2 h3 h4 h5 h6 h7 h8
    rw [show rem + 1 + c + 52 = (rem + 1 + c) + 52 from rfl, t_kpS]
    have e1 : 0 + ((i : Nat) : Int).toNat = i := by omega
    have hi : i < ds.length := by omega
    have hst := sum_take hi
    have hsl := sum_le (ds := ds) i
    have hsl2 := sum_le (ds := ds) (i + 1)
    have ht := hts i
    simp only [toP_map, take_all, e1]
    generalize hx : ds.getD i [] = x at hst ⊢
    generalize ts.getD i 0 = t at ht ⊢
    generalize fs.getD i 0 = f
    generalize ss.getD i 0 = s
    generalize ns.getD i 0 = nn
    generalize ps.getD i 0 = pp
    have ok : okP l t x = true := decide_eq_true ⟨by omega, by omega, h8, ht.1, ht.2, h7⟩
    have a1 : addK .i64 inn ((x.length : Nat) : Int) = inn + x.length := add64 (by omega)
    have a2 : addK .i64 held ((x.length : Nat) : Int) = held + x.length := add64 (by omega)
    have a3 : addK .i64 (i : Int) 1 = ((i + 1 : Nat) : Int) := by rw [add64 (by omega)]; omega
    have a4 : addK .i64 (((l.map Pc.t).length : Nat) : Int) 1 = (l.length : Int) + 1 := by rw [List.length_map, add64 (by omega)]
    have nextA := ih (i + 1) l cl inn out held (by omega) (by omega) h3 h4 h5 (by omega) h7 h8
    have ndC : putNo l t = false → (keysP (l ++ [⟨t, f, s, nn, pp, (cl : Int), x⟩])).Nodup := fun e => by
      unfold keysP
      rw [List.map_append, List.nodup_append]
      refine ⟨h7, by simp, ?_⟩
      intro a ha b hb e2
      simp only [List.map_cons, List.map_nil, List.mem_cons, List.not_mem_nil, or_false] at hb
      subst hb
      subst e2
      have := of_decide_eq_false e
      exact this (by rw [show l.length = (keysP l).length from by unfold keysP; rw [List.length_map]]; exact idxI_mem.2 ha)
    have rgC : ∀ y ∈ l ++ [(⟨t, f, s, nn, pp, (cl : Int), x⟩ : Pc)], 0 ≤ y.t ∧ y.t < 4294967296 := by
      intro y hy
      rcases List.mem_append.1 hy with hy | hy
      · exact h8 y hy
      · simp only [List.mem_cons, List.not_mem_nil, or_false] at hy
        subst hy
        exact ht
    have nextC := fun e : putNo l t = false => ih (i + 1) (l ++ [⟨t, f, s, nn, pp, (cl : Int), x⟩]) (cl + 1) (inn + x.length) out (held + x.length) (by omega) (by simp; omega) (by rw [lenD_append]; simp [lenD] at h3 ⊢; omega) (by omega) h5 (by omega) (ndC e) rgC
    have hsr : ∀ q : List Int, q.length = 0 → strOf [] = strOf q := fun q hq => by rw [List.eq_nil_of_length_eq_zero hq]
    rw [a3]
    refine Again.mk (brt (by omega) (ndd (by omega) (ndd (by omega) (ndd (by omega) (ndd (by omega) (brd (fun g => ?_) (fun g => ?_)))))))
    all_goals
      refine ndd (by omega) (nd (Bool.and_eq_true_iff.2 ⟨decide_eq_true (by simp), ok⟩) (br (fun e => ?_) (fun e => br (fun e2 => ?_) (fun e2 => ?_))))
      · repeat' refine ndd (by omega) ?_
        refine brns (by first | exact hsr x (by omega) | rfl) (brf (by omega) (brnq (by rw [add64 (by omega)]; omega) (brf (by rw [a4, List.length_map]; omega) ?_)))
        exact evFuelG nextA (by omega)
      · obtain ⟨w1, w2⟩ := wh_facts e2
        have w3 := w2.length_le
        rw [lenD_append] at w1
        simp only [lenD, List.map_cons, List.map_nil, List.sum_cons, List.sum_nil, List.length_append, List.length_cons, List.length_nil] at w1 w3
        simp only [lenD] at h3
        repeat' refine ndd (by omega) ?_
        refine brns (by first | exact hsr x (by omega) | rfl) (brnq ?_ (brf ?_ ?_))
        · rw [a1, a2, sub64 (by omega), add64 (a := out) (by omega), add64 (by omega)]; omega
        · rw [a4, List.length_map]; omega
        · refine evFuelG (ih (i + 1) _ (cl + 1) _ _ _ (by omega) ?_ ?_ ?_ ?_ ?_ ?_ ?_) (by omega)
          · omega
          · rw [a2, sub64 (by omega)]; simp only [lenD]; omega
          · rw [a1, a2, sub64 (by omega), add64 (by omega)]; omega
          · rw [add64 (by omega)]; omega
          · rw [a1]; omega
          · refine List.Nodup.sublist (w2.map Pc.t) ?_
            exact ndC e
          · intro y hy
            exact rgC y (w2.subset hy)
      · repeat' refine ndd (by omega) ?_
        refine brns (by first | exact hsr x (by omega) | rfl) (brt (by rw [List.length_map, List.length_append, List.length_map]; simp; omega) (brnq (by rw [a1, a2, add64 (by omega)]; omega) (brf (by rw [a4, List.length_map, List.length_append]; simp) ?_)))
        rw [a1, a2]
        exact evFuelG (nextC e) (by omega)
theorem kp_run (n : Nat) (ts fs ss ns ps : List Int) (ds : List (List Int)) (k : SV → St → Prop) (hn : n ≤ 140737488355328) (hl : ds.length = n) (hts : ∀ i, 0 ≤ ts.getD i 0 ∧ ts.getD i 0 < 4294967296) (hds : ∀ x ∈ ds, x.length ≤ 140737488355328) (hT : ∀ st, k (.sa (.one (bv true))) st) :
    ∃ N, evCall cxKp (ev cxKp N) 5 [.one (.ref 0)] [lP n ts fs ss ns ps ds] k := by
  refine ⟨n + 60, ?_⟩
  rw [t_kp]
  refine ndd ⟨hn, hl, hds⟩ (br (fun _ => hT _) (fun h => ?_))
  obtain ⟨g1, g2⟩ := great_false h
  exact kp_loop n ts fs ss ns ps ds 0 n k g1 hl hts g2 hT n 0 [] 0 0 0 0 (by omega) (by simp) (by simp [lenD]) (by omega) (by omega) (by simp) (by simp [keysP]) (by simp)
end Go.Ev
