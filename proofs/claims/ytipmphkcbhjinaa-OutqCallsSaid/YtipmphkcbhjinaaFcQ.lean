/- The pieces of a message: the document's Cut comes to the function cutO, too. No conditions. -/
import Derived.Test.YtipmphkcbhjinaaFcP
import Derived.Test.YtipmphkcbhjinaaFcT3
import Derived.Test.YtipmphkcbhjinaaFcT4
set_option linter.unusedVariables false
namespace Go.Ev
open Go Go.Proofs Go.Spec
attribute [local irreducible] ev evCall branch need again

theorem ref_inner (sid ppid fl : Int) (uno : Bool) (xs : List Int) (n z x J c O M : Nat) (ts fs ss ns ps : List Int) (ds : List (List Int)) (k : SV → St → Prop) (hl : xs.length ≤ 5000000000) (hn : n ≤ 5000000000) (hz : z ≤ 9223372036854775807) (hx : x < xs.length) (hJ : J = min z (xs.length - x))
    (hN : ev cxR (O + 53) 1 37 (codeAt Try.prog 37 [1, 1, 1, 0, 1, 0]) (frm 75 [(1, (.sa (.one (iv .i64 (z : Int))))), (2, (.sa (.one (SC.ptr 1 0 0)))), (6, (.sa (.one (SC.ref 2)))), (7, (.sa (.one (iv .i64 ((x + J : Nat) : Int)))))]) [(some (SO.own false MK.ext 0 1 (Ct.ints .u8 xs))), (obj 35 4 [(iv .u16 sid), (bv uno), (iv .u32 ppid), (SC.ref 0)]), (some (SO.own true MK.row 41 6 (Ct.tab (n + 1) [(Col.ints .u32 ((fitL (0) n ts) ++ [(0)])), (Col.ints .u8 ((fitL (0) n fs) ++ [(if x + J = xs.length then addK .u8 fl 1 else fl)])), (Col.ints .u16 ((fitL (0) n ss) ++ [sid])), (Col.ints .u16 ((fitL (0) n ns) ++ [(0)])), (Col.ints .u32 ((fitL (0) n ps) ++ [ppid])), (Col.data .u8 ((fitL [] n ds) ++ [(xs.drop x).take J]))])))] (kBlock 0 (kSeq (ev cxR (M + 56) 1 37 (codeAt Try.prog 37 [1, 1, 1, 1])) (kRet (Cx.P cxR) [(ResultVar.tmp 4), (ResultVar.tmp 5)] 1 k)))) : ∀ (rem j : Nat), j + rem = J →
      ev cxR (rem + c + 45) 1 37 (codeAt Try.prog 37 [1, 1, 1, 0, 1, 0, 0, 1, 0, 1, 1, 1, 0, 1, 0]) (frm 75 [(1, (.sa (.one (iv .i64 (z : Int))))), (2, (.sa (.one (SC.ptr 1 0 0)))), (6, (.sa (.one (SC.ref 2)))), (7, (.sa (.one (iv .i64 ((x + j : Nat) : Int))))), (8, (.sa (.one (SC.ptr 3 0 0)))), (9, (.sa (.one (iv .i64 (j : Int)))))]) [(some (SO.own false MK.ext 0 1 (Ct.ints .u8 xs))), (obj 35 4 [(iv .u16 sid), (bv uno), (iv .u32 ppid), (SC.ref 0)]), (some (SO.own true MK.row 41 6 (Ct.tab n [(Col.ints .u32 ts), (Col.ints .u8 fs), (Col.ints .u16 ss), (Col.ints .u16 ns), (Col.ints .u32 ps), (Col.data .u8 ds)]))), (obj 41 6 [(iv .u32 (0)), (iv .u8 fl), (iv .u16 sid), (iv .u16 (0)), (iv .u32 ppid), (SC.ref 4)]), (some (SO.own true MK.row 5 1 (Ct.ints .u8 ((xs.drop x).take j))))] (kBlock 2 (kSeq (ev cxR (O + 47) 1 37 (codeAt Try.prog 37 [1, 1, 1, 0, 1, 0, 0, 1, 0, 1, 1, 1, 1])) (kBlock 1 (kSeq (ev cxR (O + 53) 1 37 (codeAt Try.prog 37 [1, 1, 1, 0, 1, 0])) (kBlock 0 (kSeq (ev cxR (M + 56) 1 37 (codeAt Try.prog 37 [1, 1, 1, 1])) (kRet (Cx.P cxR) [(ResultVar.tmp 4), (ResultVar.tmp 5)] 1 k))))))) := by
  intro rem
  induction rem with
  | zero =>
    intro j h
    have e : j = J := by omega
    subst e
    rw [t_refI]
    refine Again.mk ?_
    have e1 : List.take (List.take j (List.drop x xs)).length (List.take j (List.drop x xs)) = List.take j (List.drop x xs) := List.take_of_length_le (Nat.le_refl _)
    rw [e1]
    have fin : branch (eqK ((x + j : Nat) : Int) ((xs.length : Nat) : Int)) (need (decide (0 + (List.take j (List.drop x xs)).length ≤ (List.take j (List.drop x xs)).length)) (need (decide ((n + 1) * 40 ≤ 140737488355328)) (ev cxR (O + 53) 1 37 (codeAt Try.prog 37 [1, 1, 1, 0, 1, 0]) (frm 75 [(1, (.sa (.one (iv .i64 (z : Int))))), (2, (.sa (.one (SC.ptr 1 0 0)))), (6, (.sa (.one (SC.ref 2)))), (7, (.sa (.one (iv .i64 ((x + j : Nat) : Int)))))]) [(some (SO.own false MK.ext 0 1 (Ct.ints .u8 xs))), (obj 35 4 [(iv .u16 sid), (bv uno), (iv .u32 ppid), (SC.ref 0)]), (some (SO.own true MK.row 41 6 (Ct.tab (n + 1) [(Col.ints .u32 ((fitL (0) n ts) ++ [(0)])), (Col.ints .u8 ((fitL (0) n fs) ++ [(addK .u8 fl 1)])), (Col.ints .u16 ((fitL (0) n ss) ++ [sid])), (Col.ints .u16 ((fitL (0) n ns) ++ [(0)])), (Col.ints .u32 ((fitL (0) n ps) ++ [ppid])), (Col.data .u8 ((fitL [] n ds) ++ [(xs.drop x).take j]))])))] (kBlock 0 (kSeq (ev cxR (M + 56) 1 37 (codeAt Try.prog 37 [1, 1, 1, 1])) (kRet (Cx.P cxR) [(ResultVar.tmp 4), (ResultVar.tmp 5)] 1 k))))))
      (need (decide (0 + (List.take j (List.drop x xs)).length ≤ (List.take j (List.drop x xs)).length)) (need (decide ((n + 1) * 40 ≤ 140737488355328)) (ev cxR (O + 53) 1 37 (codeAt Try.prog 37 [1, 1, 1, 0, 1, 0]) (frm 75 [(1, (.sa (.one (iv .i64 (z : Int))))), (2, (.sa (.one (SC.ptr 1 0 0)))), (6, (.sa (.one (SC.ref 2)))), (7, (.sa (.one (iv .i64 ((x + j : Nat) : Int)))))]) [(some (SO.own false MK.ext 0 1 (Ct.ints .u8 xs))), (obj 35 4 [(iv .u16 sid), (bv uno), (iv .u32 ppid), (SC.ref 0)]), (some (SO.own true MK.row 41 6 (Ct.tab (n + 1) [(Col.ints .u32 ((fitL (0) n ts) ++ [(0)])), (Col.ints .u8 ((fitL (0) n fs) ++ [fl])), (Col.ints .u16 ((fitL (0) n ss) ++ [sid])), (Col.ints .u16 ((fitL (0) n ns) ++ [(0)])), (Col.ints .u32 ((fitL (0) n ps) ++ [ppid])), (Col.data .u8 ((fitL [] n ds) ++ [(xs.drop x).take j]))])))] (kBlock 0 (kSeq (ev cxR (M + 56) 1 37 (codeAt Try.prog 37 [1, 1, 1, 1])) (kRet (Cx.P cxR) [(ResultVar.tmp 4), (ResultVar.tmp 5)] 1 k)))))) := by
      by_cases h2 : x + j = xs.length
      · rw [if_pos h2] at hN
        exact bret (by omega) (ndd (by omega) (ndd (by omega) hN))
      · rw [if_neg h2] at hN
        exact bref (by omega) (ndd (by omega) (ndd (by omega) hN))
    exact brd (fun _ => brf (by omega) fin) (fun _ => fin)
  | succ rem ih =>
    intro j h
    rw [show rem + 1 + c + 45 = (rem + 1 + c) + 45 from rfl, t_refI]
    refine Again.mk (brt (by omega) (brt (by omega) ?_))
    have e0 : 0 + (((x + j : Nat) : Int)).toNat = x + j := by omega
    rw [e0, add64 (by omega), add64 (by omega)]
    have hc : (List.take j (List.drop x xs)).length ≤ 5000000000 := by rw [List.length_take, List.length_drop]; omega
    repeat' refine ndd (by omega) ?_
    refine evFuel (evFr (ih (j + 1) (by omega)) ?_ ?_) (by omega)
    · simp only [show ((x + (j + 1) : Nat) : Int) = ((x + j : Nat) : Int) + 1 by omega, show ((j + 1 : Nat) : Int) = (j : Int) + 1 by omega]
    · have e2 : List.take j (List.drop x xs) ++ [xs.getD (x + j) 0] = List.take (j + 1) (List.drop x xs) := by
        rw [List.take_add_one, List.getElem?_drop, List.getD_eq_getElem?_getD, List.getElem?_eq_getElem (by omega)]; rfl
      rw [e2]

theorem ref_loop (sid ppid : Int) (uno : Bool) (xs : List Int) (z b N c M : Nat) (k : SV → St → Prop) (hl : xs.length ≤ 5000000000) (hl1 : 1 ≤ xs.length) (hz : z ≤ 9223372036854775807) (hz1 : 1 ≤ z) (hb : b = min z xs.length) (hc : xs.length ≤ c)
    (hN1 : (N - 1) * b < xs.length) (hN2 : xs.length ≤ N * b) (hN3 : 1 ≤ N) (hT : k (.tup [.one (.ref 1), .one (iv .i64 0)]) [some (.own false .ext 0 1 (.ints .u8 xs)), (piecesO N (List.replicate N 0) ((List.range N).map (cutF1 uno N)) (List.replicate N sid) (List.replicate N 0) (List.replicate N ppid) (partsL b N xs))]) :
    ∀ (rem n : Nat), n + rem = N → ev cxR (rem + c + 54) 1 37 (codeAt Try.prog 37 [1, 1, 1, 0, 1, 0]) (frm 75 [(1, (.sa (.one (iv .i64 (z : Int))))), (2, (.sa (.one (SC.ptr 1 0 0)))), (6, (.sa (.one (SC.ref 2)))), (7, (.sa (.one (iv .i64 ((min (n * b) xs.length : Nat) : Int)))))]) [(some (SO.own false MK.ext 0 1 (Ct.ints .u8 xs))), (obj 35 4 [(iv .u16 sid), (bv uno), (iv .u32 ppid), (SC.ref 0)]), (piecesO n (List.replicate n 0) ((List.range n).map (cutF1 uno N)) (List.replicate n sid) (List.replicate n 0) (List.replicate n ppid) (partsL b n xs))] (kBlock 0 (kSeq (ev cxR (M + 56) 1 37 (codeAt Try.prog 37 [1, 1, 1, 1])) (kRet (Cx.P cxR) [(ResultVar.tmp 4), (ResultVar.tmp 5)] 1 k))) := by
  have hNl : N ≤ 5000000000 := by
    have : N - 1 ≤ (N - 1) * b := Nat.le_mul_of_pos_right _ (by omega)
    omega
  intro rem
  induction rem with
  | zero =>
    intro n h
    have e : n = N := by omega
    subst e
    unfold piecesO
    rw [t_refO]
    have e1 : min (n * b) xs.length = xs.length := by omega
    rw [e1]
    exact Again.mk (brf (by omega) hT)
  | succ rem ih =>
    intro n h
    have hnb : n * b < xs.length := Nat.lt_of_le_of_lt (Nat.mul_le_mul_right b (show n ≤ N - 1 by omega)) hN1
    have e1 : min (n * b) xs.length = n * b := by omega
    have hs : (n + 1) * b = n * b + b := by rw [Nat.succ_mul]
    have hlast : n + 1 = N ↔ xs.length ≤ (n + 1) * b := by
      constructor
      · intro e; rw [e]; exact hN2
      · intro e
        by_cases h2 : n + 1 = N
        · exact h2
        · have : (n + 1) * b ≤ (N - 1) * b := Nat.mul_le_mul_right b (by omega)
          omega
    have hJ : min z (xs.length - n * b) = min b (List.drop (n * b) xs).length := by rw [List.length_drop]; omega
    have htk : List.take (min z (xs.length - n * b)) (List.drop (n * b) xs) = List.take b (List.drop (n * b) xs) := by rw [hJ, take_min_length]
    have hnx : n * b + min z (xs.length - n * b) = min ((n + 1) * b) xs.length := by rw [hs]; omega
    have hfl : (n * b + min z (xs.length - n * b) = xs.length) ↔ n + 1 = N := by rw [hlast, hs]; omega
    have hn0 : ((n * b : Nat) : Int) = 0 ↔ n = 0 := by
      constructor
      · intro e
        have e : n * b = 0 := by omega
        rcases Nat.mul_eq_zero.1 e with h3 | h3
        · exact h3
        · omega
      · intro e; subst e; simp
    have g := ih (n + 1) (by omega)
    have key : ∀ fl : Int, (if n + 1 = N then addK .u8 fl 1 else fl) = cutF1 uno N n → ev cxR (rem + 1 + c + 45) 1 37 (codeAt Try.prog 37 [1, 1, 1, 0, 1, 0, 0, 1, 0, 1, 1, 1, 0, 1, 0]) (frm 75 [(1, (.sa (.one (iv .i64 (z : Int))))), (2, (.sa (.one (SC.ptr 1 0 0)))), (6, (.sa (.one (SC.ref 2)))), (7, (.sa (.one (iv .i64 ((n * b : Nat) : Int))))), (8, (.sa (.one (SC.ptr 3 0 0)))), (9, (.sa (.one (iv .i64 0))))]) [(some (SO.own false MK.ext 0 1 (Ct.ints .u8 xs))), (obj 35 4 [(iv .u16 sid), (bv uno), (iv .u32 ppid), (SC.ref 0)]), (piecesO n (List.replicate n 0) ((List.range n).map (cutF1 uno N)) (List.replicate n sid) (List.replicate n 0) (List.replicate n ppid) (partsL b n xs)), (obj 41 6 [(iv .u32 (0)), (iv .u8 fl), (iv .u16 sid), (iv .u16 (0)), (iv .u32 ppid), (SC.ref 4)]), (some (SO.own true MK.row 5 1 (Ct.ints .u8 ([]))))] (kBlock 2 (kSeq (ev cxR (rem + 1 + c + 47) 1 37 (codeAt Try.prog 37 [1, 1, 1, 0, 1, 0, 0, 1, 0, 1, 1, 1, 1])) (kBlock 1 (kSeq (ev cxR (rem + 1 + c + 53) 1 37 (codeAt Try.prog 37 [1, 1, 1, 0, 1, 0])) (kBlock 0 (kSeq (ev cxR (M + 56) 1 37 (codeAt Try.prog 37 [1, 1, 1, 1])) (kRet (Cx.P cxR) [(ResultVar.tmp 4), (ResultVar.tmp 5)] 1 k))))))) := by
      intro fl hfl2
      have hi := ref_inner sid ppid fl uno xs n z (n * b) (min z (xs.length - n * b)) (rem + 1 + c - min z (xs.length - n * b)) (rem + 1 + c) M (List.replicate n 0) ((List.range n).map (cutF1 uno N)) (List.replicate n sid) (List.replicate n 0) (List.replicate n ppid) (partsL b n xs) k hl (by omega) hz hnb rfl (by
        refine evFuel (evFr g ?_ ?_) (by omega)
        · rw [hnx]
        · simp only [piecesO, fitL_same (0 : Int) n _ (List.length_replicate), fitL_same (0 : Int) n ((List.range n).map (cutF1 uno N)) (by simp), fitL_same [] n _ (partsL_len b n xs), repl_snoc, partsL_succ, htk]
          rw [List.range_succ, List.map_append]
          simp only [hfl, hfl2, List.map_cons, List.map_nil]) (min z (xs.length - n * b)) 0 (by omega)
      unfold piecesO
      refine evFuel (evFr hi ?_ ?_) (by omega)
      · simp
      · simp
    unfold piecesO at key ⊢
    rw [t_refO, e1]
    refine Again.mk (brt (by omega) ?_)
    cases uno with
    | true =>
      refine br (fun _ => ?_) (fun h => by cases h)
      refine bre (fun h0 => key 6 ?_) (fun h0 => key 4 ?_)
      · rw [cutF1, if_pos rfl, if_pos (hn0.1 h0)]; split <;> decide
      · rw [cutF1, if_pos rfl, if_neg (fun e => h0 (hn0.2 e))]; split <;> decide
    | false =>
      refine br (fun h => by cases h) (fun _ => ?_)
      refine bre (fun h0 => key 2 ?_) (fun h0 => key 0 ?_)
      · rw [cutF1, if_neg (show ¬ (false = true) by decide), if_pos (hn0.1 h0)]; split <;> decide
      · rw [cutF1, if_neg (show ¬ (false = true) by decide), if_neg (fun e => h0 (hn0.2 e))]; split <;> decide

theorem cxR_ok : CxOk Try.prog cxR := by
  have h := mkCx_ok (P := Try.prog) (sums := []) (live := [(37, 5, [1, 2, 6, 7], [⟨6, [], 53⟩]), (37, 12, [1, 2, 6, 7, 8, 9], [⟨8, [5], 33⟩])]) (wr := []) namesC mixedC (by simp)
  exact ⟨h.prog, h.names, h.mixed, h.sum, h.ovl⟩
theorem cutN_ge {s len : Nat} (hs : 1 ≤ s) (h : 1 ≤ len) : 1 ≤ cutN s len ∧ (cutN s len - 1) * s < len ∧ len ≤ cutN s len * s := by
  unfold cutN
  have h1 := Nat.div_add_mod (len + s - 1) s
  have h2 := Nat.mod_lt (len + s - 1) (show 0 < s by omega)
  generalize (len + s - 1) / s = q at *
  generalize (len + s - 1) % s = r at *
  rw [Nat.mul_comm] at h1
  have hq : 1 ≤ q := by
    rcases Nat.eq_zero_or_pos q with e | e
    · subst e; simp at h1; omega
    · exact e
  obtain ⟨p, rfl⟩ : ∃ p, q = p + 1 := ⟨q - 1, by omega⟩
  rw [Nat.succ_mul] at h1
  refine ⟨hq, ?_, ?_⟩
  · rw [Nat.add_sub_cancel]; omega
  · rw [Nat.succ_mul]; omega
theorem ref_sum : SumOk Try.prog 37 sCut := by
  refine sumOk_of cxR_ok sCut_lin fun args st k h => ?_
  unfold sCut at h
  split at h
  · rename_i sid uno ppid size xs
    obtain ⟨h1, h⟩ := need_iff.1 h
    have h1 := of_decide_eq_true h1
    rcases branch_or h with ⟨e, h⟩ | ⟨e, h⟩
    · have e := of_decide_eq_true e
      refine ⟨0 + 60, ?_⟩
      rw [show (SC.raw (.int .u16 sid)) = iv .u16 sid from rfl, show (SC.raw (.bool uno)) = bv uno from rfl, show (SC.raw (.int .u32 ppid)) = iv .u32 ppid from rfl, show (SC.raw (.int .i64 size)) = iv .i64 size from rfl, t_ref]
      exact brd (fun _ => h) (fun e2 => brt (by omega) h)
    · have e := of_decide_eq_false e
      obtain ⟨z, rfl⟩ : ∃ z : Nat, size = (z : Int) := ⟨size.toNat, by omega⟩
      have hl1 : 1 ≤ xs.length := by omega
      obtain ⟨b, hb⟩ : ∃ b, b = cutS (z : Int) xs.length := ⟨_, rfl⟩
      have hb2 : b = min z xs.length := by rw [hb]; unfold cutS; omega
      have hq := cutN_ge (s := b) (len := xs.length) (by omega) hl1
      refine ⟨cutN b xs.length + xs.length + 60, ?_⟩
      rw [show (SC.raw (.int .u16 sid)) = iv .u16 sid from rfl, show (SC.raw (.bool uno)) = bv uno from rfl, show (SC.raw (.int .u32 ppid)) = iv .u32 ppid from rfl, show (SC.raw (.int .i64 (z : Int))) = iv .i64 (z : Int) from rfl, t_ref]
      refine brf (by omega) (brf (by omega) ?_)
      have g := ref_loop sid ppid uno xs z b (cutN b xs.length) xs.length (cutN b xs.length + xs.length) k h1.1 hl1 (by omega) (by omega) hb2 (Nat.le_refl _) hq.2.1 hq.2.2 hq.1 (by rw [hb]; exact h) (cutN b xs.length) 0 (by omega)
      refine evFr g ?_ ?_
      · simp
      · simp [piecesO, partsL]
  · exact h.elim
end Go.Ev
