/- The pieces of a message: frag.Cut comes to the function cutO. No conditions. -/
import Derived.Test.YtipmphkcbhjinaaFcT
import Derived.Test.YtipmphkcbhjinaaFcT2
import Derived.Test.YtipmphkcbhjinaaFcTA
import Derived.Test.YtipmphkcbhjinaaCl8S
import Derived.Test.YtipmphkcbhjinaaEvD
set_option linter.unusedVariables false
set_option linter.unusedSimpArgs false
namespace Go.Ev
open Go Go.Proofs Go.Spec
attribute [local irreducible] ev evCall branch need again

theorem namesC : namesB Try.prog = true := by kernel_rfl
theorem mixedC : Try.prog.follows .mixedOrders = true := by kernel_rfl
theorem cxC_ok : CxOk Try.prog cxC := by
  have h := mkCx_ok (P := Try.prog) (sums := [(34, sClone8)]) (live := [(43, 1, [0, 1, 2, 4], []), (32, 1000004, [1, 2, 6], [])]) (wr := []) namesC mixedC (by
    intro x h
    simp only [List.mem_cons, List.not_mem_nil, or_false] at h
    subst h
    exact clone8_sum)
  exact ⟨h.prog, h.names, h.mixed, h.sum, h.ovl⟩

theorem partsL_succ (s n : Nat) (xs : List Int) : partsL s (n + 1) xs = partsL s n xs ++ [(xs.drop (n * s)).take s] := by
  simp [partsL, List.range_succ]
theorem partsL_len (s n : Nat) (xs : List Int) : (partsL s n xs).length = n := by simp [partsL]
theorem cutN_eq {s len n : Nat} (h1 : 1 ≤ n) (h2 : (n - 1) * s < len) (h3 : len ≤ n * s) (hs : 1 ≤ s) : cutN s len = n := by
  unfold cutN
  have : (n - 1) * s + s = n * s := by
    obtain ⟨m, rfl⟩ : ∃ m, n = m + 1 := ⟨n - 1, by omega⟩
    rw [Nat.add_sub_cancel, Nat.succ_mul]
  refine Nat.div_eq_of_lt_le (by omega) ?_
  rw [Nat.succ_mul]
  omega
def baseF (uno : Bool) : Int := if uno = true then 4 else 0
theorem flags_set (uno : Bool) {n : Nat} (h : 1 ≤ n) :
    ((List.replicate n (baseF uno)).set 0 (orK .u8 ((List.replicate n (baseF uno)).getD 0 0) 2)).set (n - 1) (orK .u8 (((List.replicate n (baseF uno)).set 0 (orK .u8 ((List.replicate n (baseF uno)).getD 0 0) 2)).getD (n - 1) 0) 1) = cutF uno n := by
  have e0 : (List.replicate n (baseF uno)).getD 0 0 = baseF uno := by
    rw [List.getD_eq_getElem?_getD, List.getElem?_eq_getElem (by rw [List.length_replicate]; omega), List.getElem_replicate]; rfl
  rw [e0]
  refine List.ext_getElem (by simp [cutF]) fun i h1 h2 => ?_
  simp only [List.length_set, List.length_replicate] at h1
  simp only [cutF, List.getElem_map, List.getElem_range, List.getElem_set, List.getElem_replicate, cutF1]
  have e1 : ((List.replicate n (baseF uno)).set 0 (orK .u8 (baseF uno) 2)).getD (n - 1) 0 = if n = 1 then orK .u8 (baseF uno) 2 else baseF uno := by
    rw [List.getD_eq_getElem?_getD, List.getElem?_eq_getElem (by simp; omega), List.getElem_set, List.getElem_replicate]
    by_cases hn : n = 1
    · subst hn; rfl
    · rw [if_neg (by omega), if_neg hn]; rfl
  rw [e1]
  by_cases hi : n - 1 = i
  · rw [if_pos hi, if_pos (show i + 1 = n by omega)]
    by_cases hn : n = 1
    · rw [if_pos hn, if_pos (show i = 0 by omega)]; cases uno <;> decide
    · rw [if_neg hn, if_neg (show ¬ i = 0 by omega)]; cases uno <;> decide
  · rw [if_neg hi, if_neg (show ¬ i + 1 = n by omega)]
    by_cases hz : 0 = i
    · rw [if_pos hz, if_pos hz.symm]; cases uno <;> decide
    · rw [if_neg hz, if_neg (show ¬ i = 0 by omega)]; cases uno <;> decide
theorem repl_snoc (n : Nat) (x : Int) : List.replicate n x ++ [x] = List.replicate (n + 1) x := by rw [List.replicate_succ']
theorem evFr {c : Cx} {N m f : Nat} {co : Code} {fr fr' : Fr} {st st' : St} {k : Exit → Fr → St → Prop} (h : ev c N m f co fr st k) (e1 : fr = fr') (e2 : st = st') : ev c N m f co fr' st' k := e1 ▸ e2 ▸ h

theorem cut_exit (sid ppid size : Int) (uno : Bool) (xs : List Int) (b : Nat) (L M n : Nat) (k : SV → St → Prop) (hb : 1 ≤ b) (hl : xs.length ≤ 5000000000) (hbl : b ≤ xs.length) (hs : b = cutS size xs.length)
    (hT : k (.tup [.one (.ref 1), .one (iv .i64 0)]) [some (.own false .ext 0 1 (.ints .u8 xs)), cutO (cutN (cutS size xs.length) xs.length) sid ppid size uno xs])
    (h1 : 1 ≤ n) (h2 : (n - 1) * b < xs.length) (h3 : xs.length ≤ n * b) :
      ev cxC (L + 50) 7 43 (codeAt Try.prog 43 [1, 0]) (frm 31 [(0, (.sa (.one (SC.ref 6)))), (1, (.sa (.one (SC.ptr 4 0 0)))), (2, (.sa (.one (SC.ptr 5 0 0)))), (4, (.sa (.one (iv .i64 ((n * b : Nat) : Int)))))]) [(some (SO.own false MK.ext 0 1 (Ct.ints .u8 xs))), (obj 35 4 [(iv .u16 sid), (bv uno), (iv .u32 ppid), (SC.ref 0)]), (obj 53 1 [(SC.ref 7)]), (some (SO.clo (Fn.func 43) [] [(.one (SC.ptr 4 0 0)), (.one (SC.ptr 5 0 0))])), (obj 33 1 [(SC.ref 0)]), (obj 3 1 [(iv .i64 ((b : Nat) : Int))]), (some (SO.lp true 32 (frm 58 [(1, (.sa (.one (iv .i64 size)))), (2, (.sa (.one (SC.ptr 1 0 0)))), (6, (.sa (.one (SC.ptr 2 0 0)))), (17, (.sa (.one (SC.ptr 1 0 3)))), (18, (.sa (.one (SC.ref 0)))), (19, (.sa (.one (iv .i64 size)))), (20, (.sa (.one (SC.ptr 1 0 3)))), (21, (.sa (.one (SC.ref 0)))), (22, (.sa (.one (iv .i64 (((List.length xs) : Nat) : Int))))), (23, (.sa (.one (iv .i64 ((b : Nat) : Int))))), (24, (.sa (.one (SC.ref 3))))]) [25] (codeAt Try.prog 32 [1, 1, 1, 0, 1, 0, 0]) (codeAt Try.prog 32 [1, 1, 1, 0, 1, 0, 1]) 0 Option.none)), (piecesO n (List.replicate n 0) (List.replicate n (baseF uno)) (List.replicate n sid) (List.replicate n 0) (List.replicate n ppid) (partsL b n xs))] (kBlock 0 (kRet (Cx.P cxC) [] 7 (kRange (ev cxC (M + 53)) 1 32 6 (frm 58 [(1, (.sa (.one (iv .i64 size)))), (2, (.sa (.one (SC.ptr 1 0 0)))), (6, (.sa (.one (SC.ptr 2 0 0)))), (17, (.sa (.one (SC.ptr 1 0 3)))), (18, (.sa (.one (SC.ref 0)))), (19, (.sa (.one (iv .i64 size)))), (20, (.sa (.one (SC.ptr 1 0 3)))), (21, (.sa (.one (SC.ref 0)))), (22, (.sa (.one (iv .i64 (((List.length xs) : Nat) : Int))))), (23, (.sa (.one (iv .i64 ((b : Nat) : Int))))), (24, (.sa (.one (SC.ref 3))))]) (kBlock 0 (kSeq (ev cxC (M + 56) 1 32 (codeAt Try.prog 32 [1, 1, 1, 1])) (kRet (Cx.P cxC) [(ResultVar.tmp 4), (ResultVar.tmp 5)] 1 k)))))) := by
  unfold piecesO
  rw [t_cutB]
  refine Again.mk (brf (by omega) ?_)
  have hn : n - 1 < xs.length := Nat.lt_of_le_of_lt (Nat.le_mul_of_pos_right (n - 1) (by omega)) h2
  rw [sub64 (by omega)]
  have e1 : 0 + (((n : Nat) : Int) - 1).toNat = n - 1 := by omega
  rw [e1]
  repeat' refine ndd (by omega) ?_
  have hN : cutN (cutS size xs.length) xs.length = n := by rw [← hs]; exact cutN_eq h1 h2 h3 hb
  rw [hN] at hT
  have r1 : ∀ x : Int, (List.replicate n x).set 0 ((List.replicate n x).getD 0 0) = List.replicate n x := fun x => set_getD_same 0 _ 0
  have r2 : ∀ x : Int, (List.replicate n x).set (n - 1) ((List.replicate n x).getD (n - 1) 0) = List.replicate n x := fun x => set_getD_same 0 _ (n - 1)
  simp only [fitL_same (0 : Int) n _ (List.length_replicate), fitL_same [] n _ (partsL_len b n xs), set_getD_same, fitL_same (0 : Int) n ((List.replicate n (baseF uno)).set 0 _) (by simp)]
  rw [flags_set uno h1]
  have hN2 : cutN b xs.length = n := by rw [hs]; exact hN
  simpa only [cutO, cutD, piecesO, hN, ← hs, hN2] using hT
theorem cut_loop (sid ppid size : Int) (uno : Bool) (xs : List Int) (b : Nat) (M : Nat) (k : SV → St → Prop) (hb : 1 ≤ b) (hl : xs.length ≤ 5000000000) (hbl : b ≤ xs.length) (hs : b = cutS size xs.length)
    (hT : k (.tup [.one (.ref 1), .one (iv .i64 0)]) [some (.own false .ext 0 1 (.ints .u8 xs)), cutO (cutN (cutS size xs.length) xs.length) sid ppid size uno xs]) :
    ∀ (rem n : Nat), 1 ≤ n → (n - 1) * b < xs.length → xs.length ≤ n * b + rem →
      ev cxC (rem + 50) 7 43 (codeAt Try.prog 43 [1, 0]) (frm 31 [(0, (.sa (.one (SC.ref 6)))), (1, (.sa (.one (SC.ptr 4 0 0)))), (2, (.sa (.one (SC.ptr 5 0 0)))), (4, (.sa (.one (iv .i64 ((n * b : Nat) : Int)))))]) [(some (SO.own false MK.ext 0 1 (Ct.ints .u8 xs))), (obj 35 4 [(iv .u16 sid), (bv uno), (iv .u32 ppid), (SC.ref 0)]), (obj 53 1 [(SC.ref 7)]), (some (SO.clo (Fn.func 43) [] [(.one (SC.ptr 4 0 0)), (.one (SC.ptr 5 0 0))])), (obj 33 1 [(SC.ref 0)]), (obj 3 1 [(iv .i64 ((b : Nat) : Int))]), (some (SO.lp true 32 (frm 58 [(1, (.sa (.one (iv .i64 size)))), (2, (.sa (.one (SC.ptr 1 0 0)))), (6, (.sa (.one (SC.ptr 2 0 0)))), (17, (.sa (.one (SC.ptr 1 0 3)))), (18, (.sa (.one (SC.ref 0)))), (19, (.sa (.one (iv .i64 size)))), (20, (.sa (.one (SC.ptr 1 0 3)))), (21, (.sa (.one (SC.ref 0)))), (22, (.sa (.one (iv .i64 (((List.length xs) : Nat) : Int))))), (23, (.sa (.one (iv .i64 ((b : Nat) : Int))))), (24, (.sa (.one (SC.ref 3))))]) [25] (codeAt Try.prog 32 [1, 1, 1, 0, 1, 0, 0]) (codeAt Try.prog 32 [1, 1, 1, 0, 1, 0, 1]) 0 Option.none)), (piecesO n (List.replicate n 0) (List.replicate n (baseF uno)) (List.replicate n sid) (List.replicate n 0) (List.replicate n ppid) (partsL b n xs))] (kBlock 0 (kRet (Cx.P cxC) [] 7 (kRange (ev cxC (M + 53)) 1 32 6 (frm 58 [(1, (.sa (.one (iv .i64 size)))), (2, (.sa (.one (SC.ptr 1 0 0)))), (6, (.sa (.one (SC.ptr 2 0 0)))), (17, (.sa (.one (SC.ptr 1 0 3)))), (18, (.sa (.one (SC.ref 0)))), (19, (.sa (.one (iv .i64 size)))), (20, (.sa (.one (SC.ptr 1 0 3)))), (21, (.sa (.one (SC.ref 0)))), (22, (.sa (.one (iv .i64 (((List.length xs) : Nat) : Int))))), (23, (.sa (.one (iv .i64 ((b : Nat) : Int))))), (24, (.sa (.one (SC.ref 3))))]) (kBlock 0 (kSeq (ev cxC (M + 56) 1 32 (codeAt Try.prog 32 [1, 1, 1, 1])) (kRet (Cx.P cxC) [(ResultVar.tmp 4), (ResultVar.tmp 5)] 1 k)))))) := by
  intro rem
  induction rem with
  | zero =>
    intro n h1 h2 h3
    exact cut_exit sid ppid size uno xs b _ M n k hb hl hbl hs hT h1 h2 (by omega)
  | succ rem ih =>
    intro n h1 h2 h3
    by_cases h4 : xs.length ≤ n * b
    · exact cut_exit sid ppid size uno xs b _ M n k hb hl hbl hs hT h1 h2 (by omega)
    · have hL : rem + 1 + 50 = (rem + 1) + 50 := rfl
      unfold piecesO
      rw [t_cutB]
      refine Again.mk ?_
      have e2 : n * b + b = (n + 1) * b := by rw [Nat.succ_mul]
      have hi : ((n * b : Nat) : Int) ≤ 5000000000 := by omega
      simp only [ite_min, Int.toNat_natCast, Nat.zero_add]
      rw [add64 (by omega), add64 (a := ((n * b : Nat) : Int)) (b := (b : Int)) (by omega)]
      generalize hm : min (xs.length - n * b) b = m
      have e3 : (((n * b : Nat) : Int) + (m : Int)).toNat = n * b + m := by omega
      rw [e3]
      refine brt (by omega) ?_
      repeat' refine ndd (by omega) ?_
      refine brf (by omega) ?_
      rw [show n * b + m - n * b = m by omega]
      have e4 : (List.drop (n * b) xs).take m = (List.drop (n * b) xs).take b := by rw [← hm, Nat.min_comm, ← List.length_drop, take_min_length]
      rw [e4]
      have e5 : ((List.drop (n * b) xs).take b).length ≤ 5000000000 := by rw [List.length_take, List.length_drop]; omega
      repeat' refine ndd (by omega) ?_
      have e6 : List.take ((List.drop (n * b) xs).take b).length ((List.drop (n * b) xs).take b) = (List.drop (n * b) xs).take b := List.take_of_length_le (Nat.le_refl _)
      have e7 : ((n * b : Nat) : Int) + (b : Int) = (((n + 1) * b : Nat) : Int) := by rw [← e2]; omega
      rw [e6, e7]
      have hnn : n ≤ n * b := Nat.le_mul_of_pos_right n (by omega)
      have g := ih (n + 1) (by omega) (by rw [Nat.add_sub_cancel]; omega) (by rw [← e2]; omega)
      cases uno with
      | true =>
        refine br (fun _ => ?_) (fun h => by cases h)
        repeat' refine ndd (by omega) ?_
        refine evFr g rfl ?_
        simp only [show baseF true = 4 from rfl, piecesO, fitL_same (0 : Int) n _ (List.length_replicate), fitL_same [] n _ (partsL_len b n xs), repl_snoc, partsL_succ]
      | false =>
        refine br (fun h => by cases h) (fun _ => ?_)
        repeat' refine ndd (by omega) ?_
        refine evFr g rfl ?_
        simp only [show baseF false = 0 from rfl, piecesO, fitL_same (0 : Int) n _ (List.length_replicate), fitL_same [] n _ (partsL_len b n xs), repl_snoc, partsL_succ]
theorem evFuel {c : Cx} {N N' m f : Nat} {co : Code} {fr : Fr} {st : St} {k : Exit → Fr → St → Prop} (h : ev c N m f co fr st k) (e : N = N') : ev c N' m f co fr st k := e ▸ h
theorem cut_run (sid ppid size : Int) (uno : Bool) (xs : List Int) (k : SV → St → Prop) (hl : xs.length ≤ 5000000000) (hz : size ≤ 9223372036854775807) (h0 : xs.length ≠ 0) (h1 : 1 ≤ size)
    (hT : k (.tup [.one (.ref 1), .one (iv .i64 0)]) [some (.own false .ext 0 1 (.ints .u8 xs)), cutO (cutN (cutS size xs.length) xs.length) sid ppid size uno xs]) :
    evCall cxC (ev cxC (xs.length + 60)) 32 [.agg [iv .u16 sid, bv uno, iv .u32 ppid, .ref 0], .one (iv .i64 size)] [some (.own false .ext 0 1 (.ints .u8 xs))] k := by
  rw [t_cut]
  refine bref (by omega) (brf (by omega) ?_)
  rw [t_cutA]
  refine Again.mk ?_
  obtain ⟨z, rfl⟩ : ∃ z : Nat, size = (z : Int) := ⟨size.toNat, by omega⟩
  rw [ite_min]
  obtain ⟨b, hb⟩ : ∃ b, b = cutS (z : Int) xs.length := ⟨_, rfl⟩
  have hb2 : min xs.length z = b := by rw [hb]; unfold cutS; omega
  rw [hb2]
  refine brf (by omega) ?_
  rw [t_cutB0]
  refine Again.mk ?_
  simp only [ite_min, Int.toNat_zero, Nat.sub_zero, show ((0 : Int)).toNat = 0 from rfl]
  rw [show min xs.length b = b by omega, add64 (by omega)]
  have e3 : ((0 : Int) + (b : Int)).toNat = b := by omega
  rw [e3]
  refine brt (by omega) ?_
  repeat' refine ndd (by omega) ?_
  refine brf (by omega) ?_
  simp only [Nat.sub_zero, Nat.zero_add, List.drop_zero]
  have e5 : (xs.take b).length ≤ 5000000000 := by rw [List.length_take]; omega
  have e6 : List.take (xs.take b).length (xs.take b) = xs.take b := List.take_of_length_le (Nat.le_refl _)
  repeat' refine ndd (by omega) ?_
  obtain ⟨len1, hlen1⟩ : ∃ q, xs.length = q + 1 := ⟨xs.length - 1, by omega⟩
  have g := cut_loop sid ppid (z : Int) uno xs b xs.length k (by omega) hl (by omega) hb hT xs.length 1 (by omega) (by simp; omega) (by omega)
  rw [e6]
  cases uno with
  | true =>
    refine br (fun _ => ?_) (fun h => by cases h)
    repeat' refine ndd (by omega) ?_
    refine evFuel (evFr g ?_ ?_) (by omega)
    · simp
    · simp [piecesO, partsL, baseF]
  | false =>
    refine br (fun h => by cases h) (fun _ => ?_)
    repeat' refine ndd (by omega) ?_
    refine evFuel (evFr g ?_ ?_) (by omega)
    · simp
    · simp [piecesO, partsL, baseF]
theorem sCut_lin (args : List SA) (st : St) : Lin (sCut args st) := by
  intro k h
  unfold sCut at h ⊢
  split at h
  · obtain ⟨h1, h⟩ := need_iff.1 h
    rcases branch_or h with ⟨e, h⟩ | ⟨e, h⟩
    · exact ⟨_, _, h, fun k2 hk => need_iff.2 ⟨h1, br (fun _ => hk) (fun h2 => by rw [e] at h2; cases h2)⟩⟩
    · exact ⟨_, _, h, fun k2 hk => need_iff.2 ⟨h1, br (fun h2 => by rw [e] at h2; cases h2) (fun _ => hk)⟩⟩
  · exact h.elim
theorem cut_sum : SumOk Try.prog 32 sCut := by
  refine sumOk_of cxC_ok sCut_lin fun args st k h => ?_
  unfold sCut at h
  split at h
  · rename_i sid uno ppid size xs
    obtain ⟨h1, h⟩ := need_iff.1 h
    have h1 := of_decide_eq_true h1
    refine ⟨xs.length + 60, ?_⟩
    rcases branch_or h with ⟨e, h⟩ | ⟨e, h⟩
    · have e := of_decide_eq_true e
      rw [show (SC.raw (.int .u16 sid)) = iv .u16 sid from rfl, show (SC.raw (.bool uno)) = bv uno from rfl, show (SC.raw (.int .u32 ppid)) = iv .u32 ppid from rfl, show (SC.raw (.int .i64 size)) = iv .i64 size from rfl, t_cut]
      refine bre (fun _ => h) (fun e2 => brt (by omega) h)
    · have e := of_decide_eq_false e
      exact cut_run sid ppid size uno xs k h1.1 (by omega) (fun e2 => e (.inl e2)) (by omega) h
  · exact h.elim
end Go.Ev
