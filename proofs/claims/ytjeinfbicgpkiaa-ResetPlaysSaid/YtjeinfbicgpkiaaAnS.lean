/- What a side does with an answer. No conditions. -/
import Derived.Test.YtjeinfbicgpkiaaAnT
import Derived.Test.YtjeinfbicgpkiaaDsS
set_option linter.unusedVariables false
set_option linter.unusedSimpArgs false
namespace Go.Ev
open Go Go.Proofs Go.Spec
attribute [local irreducible] ev evCall branch need again
theorem cxAn_ok : CxOk Try.prog cxAn := mkCx_ok namesR mixedR (by
  intro y h
  simp only [List.mem_cons, List.not_mem_nil, or_false] at h
  subst h
  exact all_sum)
theorem an_loopA (s : Sr) (n kd mo : Int) (ss : List Int) (c M : Nat) (hl : ss.length ≤ 1000000) (hx : ∀ x ∈ ss, 0 ≤ x ∧ x < (s.os.length : Int)) (k : SV → St → Prop) :
    ∀ (rem i : Nat) (os : List Int), i + rem = ss.length → os.length = s.os.length → k (.sa (.one (iv .i64 0))) (sideY 1 2 (own16 (resetL (ss.drop i) os)) (own16 s.ps) nilP s (n, kd, ss, mo) []) →
      ev cxAn (rem + c + 51) (11 + nQ s.kp) 20 (codeAt Try.prog 20 [1, 1, 1, 1, 1, 1, 0, 1, 0]) (frm 85 [(0, (.sa (.one (SC.ptr 0 0 0)))), (72, (.sa (.one (SC.ref 8)))), (73, (.sa (.one (iv .i64 ((ss.length : Nat) : Int))))), (74, (.sa (.one (iv .i64 (i : Int)))))]) (sideY 1 2 (own16 os) (own16 s.ps) nilP s (n, kd, ss, mo) []) (kBlock 0 (kSeq (ev cxAn (M + 53) (11 + nQ s.kp) 20 (codeAt Try.prog 20 [1, 1, 1, 1, 1, 1, 1])) (kRet (Cx.P cxAn) [(ResultVar.tmp 4)] (11 + nQ s.kp) k))) := by
  intro rem
  induction rem with
  | zero =>
    intro i os h1 h2 hk
    refine Eq.mpr (t_anA s ..) ?_
    rw [List.drop_of_length_le (by omega)] at hk
    exact Again.mk (brf (by omega) hk)
  | succ rem ih =>
    intro i os h1 h2 hk
    rw [show rem + 1 + c + 51 = (rem + 1 + c) + 51 from rfl]
    refine Eq.mpr (t_anA s ..) ?_
    have e1 : 0 + ((i : Nat) : Int).toNat = i := by omega
    have e2 : addK .i64 (i : Int) 1 = ((i + 1 : Nat) : Int) := by rw [add64 (by omega)]; omega
    have hm := hx (ss.getD i 0) (by rw [List.getD_eq_getElem?_getD, List.getElem?_eq_getElem (by omega)]; exact List.getElem_mem _)
    rw [e1, e2]
    rw [drop_getD (by omega), resetL] at hk
    generalize ss.getD i 0 = x at hm hk ⊢
    have e3 : 0 + x.toNat = x.toNat := by omega
    rw [e3]
    refine Again.mk (brt (by omega) (ndd (by omega) (ndd (by omega) (ndd (by omega) (ndd (by omega) (ndd (by omega) (ndd (by omega) ?_)))))))
    exact evFuelR (ih (i + 1) (os.set x.toNat 0) (by omega) (by rw [List.length_set]; exact h2) hk) (by omega)
theorem an_loopB (s : Sr) (n kd mo : Int) (ss ys : List Int) (c M : Nat) (hl : ys.length ≤ 1000000) (hx : ∀ x ∈ ys, 0 ≤ x ∧ x < (s.os.length : Int)) (k : SV → St → Prop) :
    ∀ (rem i : Nat) (os : List Int), i + rem = ys.length → os.length = s.os.length → k (.sa (.one (iv .i64 0))) (sideY 1 2 (own16 (resetL (ys.drop i) os)) (own16 s.ps) nilP s (n, kd, ss, mo) []) →
      ev cxAn (rem + c + 51) (11 + nQ s.kp) 20 (codeAt Try.prog 20 [1, 1, 1, 1, 1, 1, 0, 1, 0]) (frm 85 [(0, (.sa (.one (SC.ptr 0 0 0)))), (72, (.sa (.one (SC.ref (11 + nQ s.kp))))), (73, (.sa (.one (iv .i64 ((ys.length : Nat) : Int))))), (74, (.sa (.one (iv .i64 (i : Int)))))]) (sideY 1 2 (own16 os) (own16 s.ps) nilP s (n, kd, ss, mo) [own16 ys]) (kBlock 0 (kSeq (ev cxAn (M + 53) (11 + nQ s.kp) 20 (codeAt Try.prog 20 [1, 1, 1, 1, 1, 1, 1])) (kRet (Cx.P cxAn) [(ResultVar.tmp 4)] (11 + nQ s.kp) k))) := by
  intro rem
  induction rem with
  | zero =>
    intro i os h1 h2 hk
    refine Eq.mpr (t_anB s ..) ?_
    rw [List.drop_of_length_le (by omega)] at hk
    exact Again.mk (brf (by omega) hk)
  | succ rem ih =>
    intro i os h1 h2 hk
    rw [show rem + 1 + c + 51 = (rem + 1 + c) + 51 from rfl]
    refine Eq.mpr (t_anB s ..) ?_
    have e1 : 0 + ((i : Nat) : Int).toNat = i := by omega
    have e2 : addK .i64 (i : Int) 1 = ((i + 1 : Nat) : Int) := by rw [add64 (by omega)]; omega
    have hm := hx (ys.getD i 0) (by rw [List.getD_eq_getElem?_getD, List.getElem?_eq_getElem (by omega)]; exact List.getElem_mem _)
    rw [e1, e2]
    rw [drop_getD (by omega), resetL] at hk
    generalize ys.getD i 0 = x at hm hk ⊢
    have e3 : 0 + x.toNat = x.toNat := by omega
    rw [e3]
    refine Again.mk (brt (by omega) (ndd (by omega) (ndd (by omega) (ndd (by omega) (ndd (by omega) (ndd (by omega) (ndd (by omega) ?_)))))))
    exact evFuelR (ih (i + 1) (os.set x.toNat 0) (by omega) (by rw [List.length_set]; exact h2) hk) (by omega)
theorem ansK_lin (rn ra : Int) (s : Sr) : Lin (ansK rn ra s) := by
  intro k h
  unfold ansK at h ⊢
  split at h
  · exact Lin.ret _ _ k h
  · exact (Lin.need (Lin.branch (Lin.ret _ _) (Lin.branch (Lin.branch (Lin.branch (Lin.ret _ _) (Lin.ret _ _)) (Lin.ret _ _)) (Lin.ret _ _)))) k h
theorem sAns_lin (args : List SA) (st : St) : Lin (sAns args st) := by
  intro k h
  unfold sAns at h ⊢
  split at h
  · exact lin0 (F := fun s r k => lastW r (ansK _ _ s k)) (fun s r => lin_last (ansK_lin _ _ s)) k h
  · exact h.elim
theorem ans_sum : SumOk Try.prog 20 sAns := by
  refine sumOk_of cxAn_ok sAns_lin fun args st k h => ?_
  unfold sAns at h
  split at h
  · rename_i rn ra
    obtain ⟨s, r, rfl, h'⟩ := rdSd_spec h
    clear h
    cases r with
    | cons x r => exact h'.elim
    | nil =>
    have h : ansK rn ra s k := h'
    clear h'
    rcases s with ⟨os, ps, qs, cum, zs, bs, cl, nx, ex, o, kp⟩
    cases o with
    | none => exact ⟨60, Eq.mpr (t_an0 ⟨os, ps, qs, cum, zs, bs, cl, nx, ex, none, kp⟩ rn ra 0 k) h⟩
    | some c =>
      obtain ⟨n, kd, ss, mo⟩ := c
      unfold ansK at h
      dsimp only at h
      obtain ⟨h1, hK⟩ := need_iff.1 h
      clear h
      rw [Bool.and_eq_true_iff] at h1
      obtain ⟨h1, hu⟩ := h1
      obtain ⟨g1, g2, g3, g4, g5⟩ := of_decide_eq_true h1
      have hall : ∀ x ∈ ss, 0 ≤ x ∧ x < (os.length : Int) := fun x hx => of_decide_eq_true (List.all_eq_true.1 hu x hx)
      refine ⟨(ss.length + 20) + 60, ?_⟩
      refine Eq.mpr (t_an1 ⟨os, ps, qs, cum, zs, bs, cl, nx, ex, some (n, kd, ss, mo), kp⟩ rn ra n kd mo ss (ss.length + 20) k) ?_
      have htk : (List.replicate mo.toNat (0 : Int)).take mo.toNat = List.replicate mo.toNat 0 := List.take_of_length_le (by simp)
      rw [htk]
      refine br (fun e1 => br (fun e2 => ?_) (fun e2 => ?_)) (fun e1 => ?_)
      · rw [Bool.not_eq_true'] at e1
        have hb : befQ n rn = true := by unfold befQ; rw [e1]; exact e2
        rcases branch_or hK with ⟨_, h⟩ | ⟨e', _⟩
        · exact h
        · rw [hb] at e'; cases e'
      all_goals
        have hb : befQ n rn = false := by
          unfold befQ
          first
            | (rw [Bool.not_eq_true'] at e1; rw [e1]; exact e2)
            | (rw [Bool.not_eq_false'] at e1; rw [e1])
        rcases branch_or hK with ⟨e', _⟩ | ⟨_, h⟩
        · rw [hb] at e'; cases e'
        refine br (fun e3 => ?_) (fun e3 => ?_)
        · rw [Bool.not_eq_true'] at e3
          rcases branch_or h with ⟨e', _⟩ | ⟨_, h⟩
          · rw [e3] at e'; cases e'
          · exact h
        rw [Bool.not_eq_false'] at e3
        rcases branch_or h with ⟨_, h⟩ | ⟨e', _⟩
        rotate_left
        · rw [e3] at e'; cases e'
        refine br (fun e4 => ?_) (fun e4 => ?_)
        · rw [Bool.not_eq_true'] at e4
          rcases branch_or h with ⟨e', _⟩ | ⟨_, h⟩
          · rw [e4] at e'; cases e'
          · exact h
        rw [Bool.not_eq_false'] at e4
        rcases branch_or h with ⟨_, h⟩ | ⟨e', _⟩
        rotate_left
        · rw [e4] at e'; cases e'
        refine br (fun e5 => ?_) (fun e5 => ?_)
        · rcases branch_or h with ⟨_, h⟩ | ⟨e', _⟩
          · simp only [List.length_replicate]
            exact ndd (by omega) (ndd (by omega) (ndd (by omega) (ndd (by omega) (ndd (by omega) (ndd (by omega) (ndd (by omega) (ndd (by omega) h)))))))
          · rw [e5] at e'; cases e'
        · rcases branch_or h with ⟨e', _⟩ | ⟨_, h⟩
          · rw [e5] at e'; cases e'
          · dsimp only
            refine ndd (by omega) (brd (fun h4 => ?_) (fun h4 => ?_))
            · unfold allOf at h
              rw [decide_eq_true h4] at h
              exact evFuelR (an_loopA ⟨os, ps, qs, cum, zs, bs, cl, nx, ex, some (n, kd, ss, mo), kp⟩ n kd mo ss 20 (ss.length + 20) g5 hall k ss.length 0 os (by omega) rfl h) (by omega)
            · unfold allOf at h
              rw [decide_eq_false h4] at h
              have e5 : ((os.length : Nat) : Int).toNat = os.length := by omega
              rw [e5]
              have hlen := upI_len os.length 0
              have := an_loopB ⟨os, ps, qs, cum, zs, bs, cl, nx, ex, some (n, kd, ss, mo), kp⟩ n kd mo ss (upI 0 os.length) (20 - os.length + ss.length) (ss.length + 20) (by omega) (fun x hx => by have := upI_mem hx; dsimp only; omega) k os.length 0 os (by omega) rfl h
              exact evFuelR this (by omega)
  · exact h.elim
end Go.Ev
