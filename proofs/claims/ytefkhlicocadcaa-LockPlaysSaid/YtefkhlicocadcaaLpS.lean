/- lanyardref24: what the functions that only look come to. No conditions. -/
import Derived.Test.YtefkhlicocadcaaLpT
import Derived.Test.YtefkhlicocadcaaLpZ
import Derived.Test.YtefkhlicocadcaaLkS
import Derived.Test.YtefkhlicocadcaaEvD
set_option linter.unusedVariables false
set_option linter.unusedSimpArgs false
set_option maxHeartbeats 1000000
namespace Go.Ev
open Go Go.Proofs Go.Spec
attribute [local irreducible] ev evCall branch need again
theorem cxFi_ok : CxOk Try.prog cxFi := mkCx_ok namesL mixedL (by simp)
theorem bF4 {b : Bool} {p q : Prop} (h : b = false) (h1 : q) : branch b p q := by subst h; unfold branch; exact h1
theorem bT4 {b : Bool} {p q : Prop} (h : b = true) (h1 : p) : branch b p q := by subst h; unfold branch; exact h1
theorem isL_t {a b c n : Int} : (eqK a c && (eqK b n && true)) = true ↔ a = c ∧ b = n := by simp [Bool.and_eq_true, eqK_t]
theorem isL_f {a b c n : Int} : (eqK a c && (eqK b n && true)) = false ↔ ¬ (a = c ∧ b = n) := by rw [← isL_t, Bool.not_eq_true]
theorem nxt {α : Type} {pre r : List α} {x : α} : ((pre.length : Nat) : Int) + 1 = (((pre ++ [x]).length : Nat) : Int) := by simp
theorem fi_loop (w v : Bool) (L : List Cm) (ck c n : Int) (hm : L.length ≤ 1000000) (k : SV → St → Prop) (M q : Nat) :
    ∀ (suf pre : List Cm), L = pre ++ suf → k (.sa (.one (.raw (.int .i64 (fstI suf ((pre.length : Nat) : Int) c n))))) [rfO w ck, rfR v (L).length (qT (L)) (qC (L)) (qN (L)) (qS (L))] → ev cxFi (suf.length + q + 60) 2 31 (codeAt Try.prog 31 [1, 0, 1, 0]) (frm 26 [(0, (.sa (.one (SC.ptr 0 0 0)))), (3, (.sa (.one (SC.ptr 2 0 0)))), (5, (.sa (.one (iv .i64 ((pre.length : Nat) : Int)))))]) [rfO w ck, rfR v (L).length (qT (L)) (qC (L)) (qN (L)) (qS (L)), obj 38 2 [iv .u8 c, iv .i64 n]] (kBlock 0 (kSeq (ev cxFi (M + 58) 2 31 (codeAt Try.prog 31 [1, 1])) (kRet (Cx.P cxFi) [(ResultVar.tmp 4)] 2 k))) := by
  intro suf
  induction suf with
  | nil =>
    intro pre e hk
    rw [show ([] : List Cm).length + q + 60 = q + 60 by simp, t_lp1]
    have : L.length = pre.length := by rw [e]; simp
    exact Again.mk (brf (by omega) hk)
  | cons x r ih =>
    intro pre e hk
    rw [show (x :: r).length + q + 60 = (r.length + 1 + q) + 60 by simp only [List.length_cons], t_lp1]
    have hl : L.length = pre.length + (r.length + 1) := by rw [e]; simp
    have e1 : 0 + ((pre.length : Nat) : Int).toNat = pre.length := by omega
    have e2 : addK .i64 ((pre.length : Nat) : Int) 1 = (((pre ++ [x]).length : Nat) : Int) := by rw [add64 (by omega)]; simp
    have g1 : (qC L).getD pre.length 0 = x.c := by rw [e]; exact atC
    have g2 : (qN L).getD pre.length 0 = x.n := by rw [e]; exact atN
    rw [e1, e2, g1, g2]
    refine Again.mk (brt (by omega) (ndd (by omega) (ndd (by omega) (ndd (by omega) (br (fun h => ?_) (fun h => ?_))))))
    · unfold fstI at hk; rw [if_pos (isL_t.1 h)] at hk; exact hk
    · unfold fstI at hk; rw [if_neg (isL_f.1 h), nxt (r := r) (x := x)] at hk
      have := ih (pre ++ [x]) (by rw [e]; simp) hk
      rw [show r.length + q + 60 = r.length + 1 + q + 59 by omega] at this
      exact this
theorem fi_sum : SumOk Try.prog 31 sFi := by
  refine sumOk_of cxFi_ok ?_ ?_
  · intro args st k h
    unfold sFi at h ⊢
    split at h
    · exact (Lin.need (Lin.ret _ _)) k h
    · exact h.elim
  · intro args st k h
    unfold sFi at h
    split at h
    · rename_i c n w ck v m ts cs ns ss
      obtain ⟨he, hk⟩ := need_iff.1 h
      obtain ⟨L, rfl, rfl, rfl, rfl, rfl, hm⟩ := even_ex he
      rw [zip_q] at hk
      refine ⟨L.length + 4 + 60, ?_⟩
      show evCall cxFi (ev cxFi (L.length + 4 + 60)) 31 [.one (.ptr 0 0 0), .agg [.raw (.int .u8 c), .raw (.int .i64 n)]] [rfO w ck, rfR v (L).length (qT (L)) (qC (L)) (qN (L)) (qS (L))] k
      rw [t_lp0, show L.length + 4 + 56 = L.length + 0 + 60 by omega]
      exact fi_loop w v L ck c n hm k (L.length + 4) 0 L [] rfl hk
    · exact h.elim
theorem cxHl_ok : CxOk Try.prog cxHl := mkCx_ok namesL mixedL (by
  intro x h
  rcases List.mem_singleton.1 h with rfl
  exact fi_sum)
theorem hol_sum : SumOk Try.prog 15 sHol := by
  refine sumOk_of cxHl_ok ?_ ?_
  · intro args st k h
    unfold sHol at h ⊢
    split at h
    · exact (Lin.need (Lin.ret _ _)) k h
    · exact h.elim
  · intro args st k h
    unfold sHol at h
    split at h
    · rename_i c n w ck v m ts cs ns ss
      obtain ⟨he, hk⟩ := need_iff.1 h
      obtain ⟨L, rfl, rfl, rfl, rfl, rfl, hm⟩ := even_ex he
      rw [zip_q] at hk
      refine ⟨4 + 60, ?_⟩
      show evCall cxHl (ev cxHl (4 + 60)) 15 [.one (.ptr 0 0 0), .agg [.raw (.int .u8 c), .raw (.int .i64 n)]] [rfO w ck, rfR v (L).length (qT (L)) (qC (L)) (qN (L)) (qS (L))] k
      rw [t_lp2, zip_q]
      have hr := firstI_range L c n
      refine nd he (br (fun h => ?_) (fun h => ?_))
      · have h := of_decide_eq_true h
        unfold holV holB at hk
        rw [if_pos h, decide_eq_false (by omega)] at hk
        exact hk
      · have h := of_decide_eq_false h
        unfold holV holB at hk
        rw [if_neg h, decide_eq_true h] at hk
        refine ndd (by omega) (ndd (by omega) (ndd (by omega) ?_))
        rw [Nat.zero_add, qT_at]
        exact hk
    · exact h.elim
theorem wa_loop (w v : Bool) (L : List Cm) (ck t : Int) (hm : L.length ≤ 1000000) (k : SV → St → Prop) (M q : Nat) :
    ∀ (suf pre : List Cm), L = pre ++ suf → k (.tup [.agg [.raw (.int .u8 (match wtI L suf ((pre.length : Nat) : Int) t with | some x => x.c | none => 0)), .raw (.int .i64 (match wtI L suf ((pre.length : Nat) : Int) t with | some x => x.n | none => 0))], .one (.raw (.bool (wtI L suf ((pre.length : Nat) : Int) t).isSome))]) [rfO w ck, rfR v (L).length (qT (L)) (qC (L)) (qN (L)) (qS (L))] → ev cxHl (suf.length + q + 60) 2 17 (codeAt Try.prog 17 [1, 0, 1, 0]) (frm 49 [(0, (.sa (.one (SC.ptr 0 0 0)))), (1, (.sa (.one (iv .i64 t)))), (4, (.sa (.one (SC.ptr 2 0 0)))), (6, (.sa (.one (iv .i64 ((pre.length : Nat) : Int)))))]) [rfO w ck, rfR v (L).length (qT (L)) (qC (L)) (qN (L)) (qS (L)), obj 38 2 [iv .u8 0, iv .i64 0]] (kBlock 0 (kSeq (ev cxHl (M + 58) 2 17 (codeAt Try.prog 17 [1, 1])) (kRet (Cx.P cxHl) [(ResultVar.cell 4 38), (ResultVar.tmp 5)] 2 k))) := by
  have he := even_q hm
  intro suf
  induction suf with
  | nil =>
    intro pre e hk
    rw [show ([] : List Cm).length + q + 60 = q + 60 by simp, t_lp6]
    have : L.length = pre.length := by rw [e]; simp
    exact Again.mk (brf (by omega) hk)
  | cons x r ih =>
    intro pre e hk
    rw [show (x :: r).length + q + 60 = (r.length + 1 + q) + 60 by simp only [List.length_cons], t_lp6]
    have hl : L.length = pre.length + (r.length + 1) := by rw [e]; simp
    have e1 : 0 + ((pre.length : Nat) : Int).toNat = pre.length := by omega
    have e2 : addK .i64 ((pre.length : Nat) : Int) 1 = (((pre ++ [x]).length : Nat) : Int) := by rw [add64 (by omega)]; simp
    have g0 : (qT L).getD pre.length 0 = x.t := by rw [e]; exact atT
    have g1 : (qC L).getD pre.length 0 = x.c := by rw [e]; exact atC
    have g2 : (qN L).getD pre.length 0 = x.n := by rw [e]; exact atN
    rw [zip_q, e1, e2, g0, g1, g2]
    have nxtc : ¬ (x.t = t ∧ firstI L x.c x.n ≠ ((pre.length : Nat) : Int)) → ev cxHl (r.length + 1 + q + 59) 2 17 (codeAt Try.prog 17 [1, 0, 1, 0]) (frm 49 [(0, (.sa (.one (SC.ptr 0 0 0)))), (1, (.sa (.one (iv .i64 t)))), (4, (.sa (.one (SC.ptr 2 0 0)))), (6, (.sa (.one (iv .i64 (((pre ++ [x]).length : Nat) : Int)))))]) [rfO w ck, rfR v (L).length (qT (L)) (qC (L)) (qN (L)) (qS (L)), obj 38 2 [iv .u8 0, iv .i64 0]] (kBlock 0 (kSeq (ev cxHl (M + 58) 2 17 (codeAt Try.prog 17 [1, 1])) (kRet (Cx.P cxHl) [(ResultVar.cell 4 38), (ResultVar.tmp 5)] 2 k))) := fun hn => by
      unfold wtI at hk; rw [if_neg hn, nxt (r := r) (x := x)] at hk
      have := ih (pre ++ [x]) (by rw [e]; simp) hk
      rw [show r.length + q + 60 = r.length + 1 + q + 59 by omega] at this
      exact this
    refine Again.mk (brt (by omega) (ndd (by omega) (ndd (by omega) (ndd (by omega) (br (fun h => ?_) (fun h => ?_))))))
    · rw [eqK_t] at h
      refine ndd (by omega) (ndd (by omega) (ndd (by omega) (nd he (br (fun h1 => ?_) (fun h1 => ?_)))))
      · rw [Bool.not_eq_true', eqK_f] at h1
        unfold wtI at hk; rw [if_pos ⟨h, h1⟩] at hk
        exact ndd (by omega) (ndd (by omega) (ndd (by omega) hk))
      · rw [Bool.not_eq_false', eqK_t] at h1
        exact nxtc (fun hh => hh.2 h1)
    · rw [eqK_f] at h
      exact nxtc (fun hh => h hh.1)
theorem wai_sum : SumOk Try.prog 17 sWai := by
  refine sumOk_of cxHl_ok ?_ ?_
  · intro args st k h
    unfold sWai at h ⊢
    split at h
    · exact (Lin.need (Lin.ret _ _)) k h
    · exact h.elim
  · intro args st k h
    unfold sWai at h
    split at h
    · rename_i t w ck v m ts cs ns ss
      obtain ⟨he, hk⟩ := need_iff.1 h
      obtain ⟨L, rfl, rfl, rfl, rfl, rfl, hm⟩ := even_ex he
      rw [zip_q] at hk
      refine ⟨L.length + 4 + 60, ?_⟩
      show evCall cxHl (ev cxHl (L.length + 4 + 60)) 17 [.one (.ptr 0 0 0), .one (.raw (.int .i64 t))] [rfO w ck, rfR v (L).length (qT (L)) (qC (L)) (qN (L)) (qS (L))] k
      rw [t_lp3, show L.length + 4 + 56 = L.length + 0 + 60 by omega]
      exact wa_loop w v L ck t hm k (L.length + 4) 0 L [] rfl hk
    · exact h.elim
theorem qu_loop (w v : Bool) (L : List Cm) (ck c n : Int) (hm : L.length ≤ 1000000) (k : SV → St → Prop) (M q : Nat) :
    ∀ (suf pre : List Cm) (xs : List Int), L = pre ++ suf → xs.length ≤ pre.length → k (.sa (.one (.ref 2))) [rfO w ck, rfR v (L).length (qT (L)) (qC (L)) (qN (L)) (qS (L)), irow true (xs ++ quI L suf ((pre.length : Nat) : Int) c n)] → ev cxHl (suf.length + q + 60) 2 20 (codeAt Try.prog 20 [1, 1, 0, 1, 0]) (frm 45 [(0, (.sa (.one (SC.ptr 0 0 0)))), (3, (.sa (.one (SC.ptr 2 0 0)))), (5, (.sa (.one (SC.ref 3)))), (6, (.sa (.one (iv .i64 ((pre.length : Nat) : Int)))))]) [rfO w ck, rfR v (L).length (qT (L)) (qC (L)) (qN (L)) (qS (L)), obj 38 2 [iv .u8 c, iv .i64 n], irow true xs] (kBlock 0 (kSeq (ev cxHl (M + 58) 2 20 (codeAt Try.prog 20 [1, 1, 1])) (kRet (Cx.P cxHl) [(ResultVar.tmp 4)] 2 k))) := by
  have he := even_q hm
  intro suf
  induction suf with
  | nil =>
    intro pre xs e hx hk
    rw [show ([] : List Cm).length + q + 60 = q + 60 by simp, t_lp7]
    have : L.length = pre.length := by rw [e]; simp
    rw [show quI L [] ((pre.length : Nat) : Int) c n = [] from rfl, List.append_nil] at hk
    exact Again.mk (brf (by omega) hk)
  | cons x r ih =>
    intro pre xs e hx hk
    rw [show (x :: r).length + q + 60 = (r.length + 1 + q) + 60 by simp only [List.length_cons], t_lp7]
    have hl : L.length = pre.length + (r.length + 1) := by rw [e]; simp
    have e1 : 0 + ((pre.length : Nat) : Int).toNat = pre.length := by omega
    have e2 : addK .i64 ((pre.length : Nat) : Int) 1 = (((pre ++ [x]).length : Nat) : Int) := by rw [add64 (by omega)]; simp
    have g0 : (qT L).getD pre.length 0 = x.t := by rw [e]; exact atT
    have g1 : (qC L).getD pre.length 0 = x.c := by rw [e]; exact atC
    have g2 : (qN L).getD pre.length 0 = x.n := by rw [e]; exact atN
    rw [zip_q, e1, e2, g0, g1, g2]
    have nxtc : ¬ ((x.c = c ∧ x.n = n) ∧ firstI L c n ≠ ((pre.length : Nat) : Int)) → ev cxHl (r.length + 1 + q + 59) 2 20 (codeAt Try.prog 20 [1, 1, 0, 1, 0]) (frm 45 [(0, (.sa (.one (SC.ptr 0 0 0)))), (3, (.sa (.one (SC.ptr 2 0 0)))), (5, (.sa (.one (SC.ref 3)))), (6, (.sa (.one (iv .i64 (((pre ++ [x]).length : Nat) : Int)))))]) [rfO w ck, rfR v (L).length (qT (L)) (qC (L)) (qN (L)) (qS (L)), obj 38 2 [iv .u8 c, iv .i64 n], irow true xs] (kBlock 0 (kSeq (ev cxHl (M + 58) 2 20 (codeAt Try.prog 20 [1, 1, 1])) (kRet (Cx.P cxHl) [(ResultVar.tmp 4)] 2 k))) := fun hn => by
      unfold quI at hk; rw [if_neg hn, nxt (r := r) (x := x)] at hk
      have := ih (pre ++ [x]) xs (by rw [e]; simp) (by simp; omega) hk
      rw [show r.length + q + 60 = r.length + 1 + q + 59 by omega] at this
      exact this
    refine Again.mk (brt (by omega) (ndd (by omega) (ndd (by omega) (ndd (by omega) (br (fun h => ?_) (fun h => ?_))))))
    · have h := isL_t.1 h
      refine nd he (br (fun h1 => ?_) (fun h1 => ?_))
      · rw [Bool.not_eq_true', eqK_f] at h1
        unfold quI at hk; rw [if_pos ⟨h, h1⟩, nxt (r := r) (x := x)] at hk
        have := ih (pre ++ [x]) (xs ++ [x.t]) (by rw [e]; simp) (by simp; omega) (by rw [List.append_assoc]; exact hk)
        rw [show r.length + q + 60 = r.length + 1 + q + 59 by omega] at this
        exact ndd (by omega) (ndd (by omega) (ndd (by omega) (ndd (by omega) this)))
      · rw [Bool.not_eq_false', eqK_t] at h1
        exact nxtc (fun hh => hh.2 h1)
    · exact nxtc (fun hh => isL_f.1 h hh.1)
theorem que_sum : SumOk Try.prog 20 sQue := by
  refine sumOk_of cxHl_ok ?_ ?_
  · intro args st k h
    unfold sQue at h ⊢
    split at h
    · exact (Lin.need (Lin.ret _ _)) k h
    · exact h.elim
  · intro args st k h
    unfold sQue at h
    split at h
    · rename_i c n w ck v m ts cs ns ss
      obtain ⟨he, hk⟩ := need_iff.1 h
      obtain ⟨L, rfl, rfl, rfl, rfl, rfl, hm⟩ := even_ex he
      rw [zip_q] at hk
      refine ⟨L.length + 5 + 60, ?_⟩
      show evCall cxHl (ev cxHl (L.length + 5 + 60)) 20 [.one (.ptr 0 0 0), .agg [.raw (.int .u8 c), .raw (.int .i64 n)]] [rfO w ck, rfR v (L).length (qT (L)) (qC (L)) (qN (L)) (qS (L))] k
      rw [t_lp4, show L.length + 5 + 55 = L.length + 0 + 60 by omega]
      exact qu_loop w v L ck c n hm k (L.length + 4) 0 L [] [] rfl (by simp) hk
    · exact h.elim
theorem ho_in (w v : Bool) (L : List Cm) (ck t a : Int) (hm : L.length ≤ 1000000) (K : Exit → Fr → St → Prop) (q : Nat) :
    ∀ (suf pre : List Cm) (xs : List Lk), L = pre ++ suf → (xs ++ hoA suf t a).length ≤ 1000000 → K (Exit.exit 2) (frm 59 [(0, (.sa (.one (SC.ptr 0 0 0)))), (1, (.sa (.one (iv .i64 t)))), (5, (.sa (.one (SC.ref 2)))), (6, (.sa (.one (iv .i64 a)))), (7, (.sa (.one (iv .i64 ((L.length : Nat) : Int))))), (16, (.sa (.one (iv .i64 ((L.length : Nat) : Int))))), (17, (.sa (.one (SC.ptr 0 0 0)))), (18, (.sa (.one (SC.ptr 0 0 0)))), (19, (.sa (.one (SC.ptr 0 0 0)))), (20, (.sa (.one (SC.ref 1)))), (21, (.sa (.one (iv .i64 ((L.length : Nat) : Int))))), (22, (.sa (.one (bv false))))]) [rfO w ck, rfR v (L).length (qT (L)) (qC (L)) (qN (L)) (qS (L)), hrow (xs ++ hoA suf t a)] → ev cxHl (suf.length + q + 60) 2 23 (codeAt Try.prog 23 [1, 1, 0, 1, 0, 0, 1, 0, 0, 1, 0]) (frm 59 [(0, (.sa (.one (SC.ptr 0 0 0)))), (1, (.sa (.one (iv .i64 t)))), (5, (.sa (.one (SC.ref 2)))), (6, (.sa (.one (iv .i64 a)))), (7, (.sa (.one (iv .i64 ((pre.length : Nat) : Int)))))]) [rfO w ck, rfR v (L).length (qT (L)) (qC (L)) (qN (L)) (qS (L)), hrow (xs)] K := by
  intro suf
  induction suf with
  | nil =>
    intro pre xs e hx hk
    rw [show ([] : List Cm).length + q + 60 = q + 60 by simp]
    unfold hrow
    rw [t_lp9]
    have : L.length = pre.length := by rw [e]; simp
    rw [show hoA [] t a = [] from rfl, List.append_nil] at hk
    rw [← this]
    exact Again.mk (brf (by omega) hk)
  | cons x r ih =>
    intro pre xs e hx hk
    rw [show (x :: r).length + q + 60 = (r.length + 1 + q) + 60 by simp only [List.length_cons]]
    unfold hrow
    rw [t_lp9]
    have hl : L.length = pre.length + (r.length + 1) := by rw [e]; simp
    have e1 : 0 + ((pre.length : Nat) : Int).toNat = pre.length := by omega
    have e2 : addK .i64 ((pre.length : Nat) : Int) 1 = (((pre ++ [x]).length : Nat) : Int) := by rw [add64 (by omega)]; simp
    have g0 : (qT L).getD pre.length 0 = x.t := by rw [e]; exact atT
    have g1 : (qC L).getD pre.length 0 = x.c := by rw [e]; exact atC
    have g2 : (qN L).getD pre.length 0 = x.n := by rw [e]; exact atN
    have g3 : (qS L).getD pre.length 0 = x.s := by rw [e]; exact atS
    rw [e1, e2, g0, g1, g2, g3]
    have hno : ¬ (x.t = t ∧ x.s = a) → hoA (x :: r) t a = hoA r t a := fun hn => by unfold hoA; rw [List.filter_cons, if_neg (by simpa using hn)]
    have hyes : (x.t = t ∧ x.s = a) → hoA (x :: r) t a = x.l :: hoA r t a := fun hn => by unfold hoA; rw [List.filter_cons, if_pos (by simpa using hn)]; rfl
    have nxtc : ¬ (x.t = t ∧ x.s = a) → ev cxHl (r.length + 1 + q + 59) 2 23 (codeAt Try.prog 23 [1, 1, 0, 1, 0, 0, 1, 0, 0, 1, 0]) (frm 59 [(0, (.sa (.one (SC.ptr 0 0 0)))), (1, (.sa (.one (iv .i64 t)))), (5, (.sa (.one (SC.ref 2)))), (6, (.sa (.one (iv .i64 a)))), (7, (.sa (.one (iv .i64 (((pre ++ [x]).length : Nat) : Int)))))]) [rfO w ck, rfR v (L).length (qT (L)) (qC (L)) (qN (L)) (qS (L)), hrow (xs)] K := fun hn => by
      rw [hno hn] at hk hx
      have := ih (pre ++ [x]) xs (by rw [e]; simp) hx hk
      rw [show r.length + q + 60 = r.length + 1 + q + 59 by omega] at this
      exact this
    refine Again.mk (brt (by omega) (ndd (by omega) (ndd (by omega) (ndd (by omega) (br (fun h => ?_) (fun h => ?_))))))
    · rw [eqK_t] at h
      refine ndd (by omega) (ndd (by omega) (ndd (by omega) (br (fun h1 => ?_) (fun h1 => ?_))))
      · rw [eqK_t] at h1
        rw [hyes ⟨h, h1⟩] at hk hx
        have hx' := hx
        simp only [List.length_append, List.length_cons] at hx'
        have := ih (pre ++ [x]) (xs ++ [x.l]) (by rw [e]; simp) (by rw [List.append_assoc]; exact hx) (by rw [List.append_assoc]; exact hk)
        rw [show r.length + q + 60 = r.length + 1 + q + 59 by omega] at this
        have f1 : fitL 0 xs.length (fstL xs) = fstL xs := fitL_same 0 _ _ (by simp [fstL])
        have f2 : fitL 0 xs.length (sndL xs) = sndL xs := fitL_same 0 _ _ (by simp [sndL])
        rw [f1, f2]
        unfold hrow at this
        rw [show fstL (xs ++ [x.l]) = fstL xs ++ [x.c] by simp [fstL, Cm.l], show sndL (xs ++ [x.l]) = sndL xs ++ [x.n] by simp [sndL, Cm.l], show (xs ++ [x.l]).length = xs.length + 1 by simp] at this
        exact ndd (by omega) (ndd (by omega) (ndd (by omega) (ndd (by omega) this)))
      · rw [eqK_f] at h1
        exact nxtc (fun hh => h1 hh.2)
    · rw [eqK_f] at h
      exact nxtc (fun hh => h hh.1)
theorem ko2b {X : Fr → St → (Exit → Fr → St → Prop) → Prop} {K : Exit → Fr → St → Prop} {fr : Fr} {st : St} (h : X fr st K) : kBlock 2 (kBlock 1 (kSeq X K)) (Exit.exit 2) fr st := h
theorem ho_loop (w v : Bool) (L : List Cm) (ck t : Int) (hm : L.length ≤ 1000000) (hc : 0 ≤ ck ∧ ck ≤ 1000000) (hh : (holI L t ck).length ≤ 1000000) (k : SV → St → Prop) (M q : Nat) (hk : k (.sa (.one (.ref 2))) [rfO w ck, rfR v (L).length (qT (L)) (qC (L)) (qN (L)) (qS (L)), hrow (holI L t ck)]) :
    ∀ (rem a : Nat), a + rem = ck.toNat → ev cxHl (rem + L.length + 20 + 60) 2 23 (codeAt Try.prog 23 [1, 1, 0, 1, 0]) (frm 59 [(0, (.sa (.one (SC.ptr 0 0 0)))), (1, (.sa (.one (iv .i64 t)))), (5, (.sa (.one (SC.ref 2)))), (6, (.sa (.one (iv .i64 ((a + 1 : Nat) : Int)))))]) [rfO w ck, rfR v (L).length (qT (L)) (qC (L)) (qN (L)) (qS (L)), hrow (hoI L t a)] (kBlock 0 (kSeq (ev cxHl (M + 58) 2 23 (codeAt Try.prog 23 [1, 1, 1])) (kRet (Cx.P cxHl) [(ResultVar.tmp 4)] 2 k))) := by
  have mono : ∀ b a, (hoI L t a).length ≤ (hoI L t (a + b)).length := by
    intro b
    induction b with
    | zero => intro a; exact Nat.le_refl _
    | succ b ih => intro a; refine Nat.le_trans (ih a) ?_; show _ ≤ (hoI L t (a + b) ++ _).length; simp
  intro rem
  induction rem with
  | zero =>
    intro a ha
    rw [show 0 + L.length + 20 + 60 = (L.length + 20) + 60 by omega]
    unfold hrow
    rw [t_lp8]
    obtain rfl : a = ck.toNat := by omega
    exact Again.mk (brf (by omega) hk)
  | succ rem ih =>
    intro a ha
    rw [show rem + 1 + L.length + 20 + 60 = (rem + L.length + 21) + 60 by omega]
    unfold hrow
    rw [t_lp8]
    have e2 : addK .i64 ((a + 1 : Nat) : Int) 1 = ((a + 1 + 1 : Nat) : Int) := by rw [add64 (by omega)]; omega
    refine Again.mk (brt (by omega) ?_)
    rw [show rem + L.length + 21 + 54 = L.length + (rem + 15) + 60 by omega]
    have hle : (hoI L t a ++ hoA L t ((a + 1 : Nat) : Int)).length ≤ 1000000 := by
      refine Nat.le_trans (mono rem (a + 1)) ?_
      rw [show a + 1 + rem = ck.toNat by omega]; exact hh
    refine ho_in w v L ck t ((a + 1 : Nat) : Int) hm _ (rem + 15) L [] (hoI L t a) rfl hle (ko2b ?_)
    unfold hrow
    rw [show rem + L.length + 21 + 57 = (rem + L.length + 18) + 60 by omega, t_lpa, e2]
    have := ih (a + 1) (by omega)
    rw [show rem + L.length + 20 + 60 = rem + L.length + 21 + 59 by omega] at this
    exact this
theorem hos_sum : SumOk Try.prog 23 sHol2 := by
  refine sumOk_of cxHl_ok ?_ ?_
  · intro args st k h
    unfold sHol2 at h ⊢
    split at h
    · exact (Lin.need (Lin.ret _ _)) k h
    · exact h.elim
  · intro args st k h
    unfold sHol2 at h
    split at h
    · rename_i t w ck v m ts cs ns ss
      obtain ⟨h1, hk⟩ := need_iff.1 h
      obtain ⟨he, ho⟩ := Bool.and_eq_true_iff.1 h1
      obtain ⟨L, rfl, rfl, rfl, rfl, rfl, hm⟩ := even_ex he
      rw [zip_q] at hk ho
      obtain ⟨c1, c2, hh⟩ := of_decide_eq_true ho
      refine ⟨ck.toNat + L.length + 25 + 60, ?_⟩
      show evCall cxHl (ev cxHl (ck.toNat + L.length + 25 + 60)) 23 [.one (.ptr 0 0 0), .one (.raw (.int .i64 t))] [rfO w ck, rfR v (L).length (qT (L)) (qC (L)) (qN (L)) (qS (L))] k
      rw [t_lp5, show ck.toNat + L.length + 25 + 55 = ck.toNat + L.length + 20 + 60 by omega]
      exact ho_loop w v L ck t hm ⟨c1, c2⟩ hh k (ck.toNat + L.length + 24) 0 hk ck.toNat 0 (by omega)
    · exact h.elim
end Go.Ev
