/- What a side does when it is asked. No conditions. -/
import Derived.Test.YtjeinfbicgpkiaaDsT
import Derived.Test.YtjeinfbicgpkiaaGpS
set_option linter.unusedVariables false
set_option linter.unusedSimpArgs false
namespace Go.Ev
open Go Go.Proofs Go.Spec
attribute [local irreducible] ev evCall branch need again
theorem cxDs_ok : CxOk Try.prog cxDs := mkCx_ok namesR mixedR (by
  intro y h
  simp only [List.mem_cons, List.not_mem_nil, or_false] at h
  rcases h with rfl | rfl
  · exact there_sum
  · exact all_sum)
theorem idxGe_no {m : Int} : ∀ {xs : List Int} {i : Int}, 0 ≤ i → ¬ idxGe m xs i ≥ 0 → ∀ x ∈ xs, x < m
  | [], _, _, _, x, hx => by simp at hx
  | y :: r, i, h0, h, x, hx => by
    unfold idxGe at h
    split at h
    · exact absurd h0 h
    · rename_i e
      have e := of_decide_eq_false e
      rcases List.mem_cons.1 hx with rfl | hx
      · omega
      · exact idxGe_no (by omega) h x hx
theorem there_lt {m : Int} {xs : List Int} (h : thereB m xs = true) : ∀ x ∈ xs, x < m := by
  unfold thereB at h
  refine idxGe_no (i := 0) (by omega) fun h2 => ?_
  rw [decide_eq_true h2] at h
  cases h
theorem upI_mem : ∀ {c : Nat} {i x : Int}, x ∈ upI i c → i ≤ x ∧ x < i + c
  | 0, i, x, h => by simp [upI] at h
  | c + 1, i, x, h => by
    simp only [upI, List.mem_cons] at h
    rcases h with rfl | h
    · omega
    · have := upI_mem h; omega
theorem ds_loopA (s : Sr) (xs : List Int) (c M : Nat) (hl : xs.length ≤ 1000000) (hx : ∀ x ∈ xs, 0 ≤ x ∧ x < (s.qs.length : Int)) (k : SV → St → Prop) :
    ∀ (rem i : Nat) (qs : List Int), i + rem = xs.length → qs.length = s.qs.length → k (.sa (.one (iv .u8 1))) (sideW 0 { s with qs := resetL (xs.drop i) qs } [rd16 xs]) →
      ev cxDs (rem + c + 52) (nW s + 1) 33 (codeAt Try.prog 33 [1, 0, 0, 1, 0, 0, 1, 0]) (frm 67 [(0, (.sa (.one (SC.ptr 0 0 0)))), (28, (.sa (.one (SC.ref (nW s))))), (29, (.sa (.one (iv .i64 ((xs.length : Nat) : Int))))), (30, (.sa (.one (iv .i64 (i : Int)))))]) (sideW 0 { s with qs := qs } [rd16 xs]) (kBlock 1 (kSeq (ev cxDs (M + 54) (nW s + 1) 33 (codeAt Try.prog 33 [1, 0, 0, 1, 0, 1])) (kBlock 0 (kSeq (ev cxDs (M + 58) (nW s + 1) 33 (codeAt Try.prog 33 [1, 1])) (kRet (Cx.P cxDs) [(ResultVar.tmp 4)] (nW s + 1) k))))) := by
  intro rem
  induction rem with
  | zero =>
    intro i qs h1 h2 hk
    refine Eq.mpr (t_dsA { s with qs := qs } ..) ?_
    rw [List.drop_of_length_le (by omega)] at hk
    exact Again.mk (brf (by omega) hk)
  | succ rem ih =>
    intro i qs h1 h2 hk
    rw [show rem + 1 + c + 52 = (rem + 1 + c) + 52 from rfl]
    refine Eq.mpr (t_dsA { s with qs := qs } ..) ?_
    have e1 : 0 + ((i : Nat) : Int).toNat = i := by omega
    have e2 : addK .i64 (i : Int) 1 = ((i + 1 : Nat) : Int) := by rw [add64 (by omega)]; omega
    have hm := hx (xs.getD i 0) (by rw [List.getD_eq_getElem?_getD, List.getElem?_eq_getElem (by omega)]; exact List.getElem_mem _)
    rw [e1, e2]
    rw [drop_getD (by omega), resetL] at hk
    generalize xs.getD i 0 = x at hm hk ⊢
    have e3 : 0 + x.toNat = x.toNat := by omega
    rw [e3]
    refine Again.mk (brt (by omega) (ndd (by omega) (ndd (by omega) (ndd (by omega) (ndd (by omega) (ndd (by dsimp only; omega) (ndd (by dsimp only; omega) ?_)))))))
    exact evFuelR (ih (i + 1) (qs.set x.toNat 0) (by omega) (by rw [List.length_set]; exact h2) hk) (by omega)
theorem ds_loopB (s : Sr) (xs ys : List Int) (c M : Nat) (hl : ys.length ≤ 1000000) (hx : ∀ x ∈ ys, 0 ≤ x ∧ x < (s.qs.length : Int)) (k : SV → St → Prop) :
    ∀ (rem i : Nat) (qs : List Int), i + rem = ys.length → qs.length = s.qs.length → k (.sa (.one (iv .u8 1))) (sideW 0 { s with qs := resetL (ys.drop i) qs } [rd16 xs]) →
      ev cxDs (rem + c + 52) (nW s + 1) 33 (codeAt Try.prog 33 [1, 0, 0, 1, 0, 0, 1, 0]) (frm 67 [(0, (.sa (.one (SC.ptr 0 0 0)))), (28, (.sa (.one (SC.ref (nW s + 1))))), (29, (.sa (.one (iv .i64 ((ys.length : Nat) : Int))))), (30, (.sa (.one (iv .i64 (i : Int)))))]) (sideW 0 { s with qs := qs } [rd16 xs, own16 ys]) (kBlock 1 (kSeq (ev cxDs (M + 54) (nW s + 1) 33 (codeAt Try.prog 33 [1, 0, 0, 1, 0, 1])) (kBlock 0 (kSeq (ev cxDs (M + 58) (nW s + 1) 33 (codeAt Try.prog 33 [1, 1])) (kRet (Cx.P cxDs) [(ResultVar.tmp 4)] (nW s + 1) k))))) := by
  intro rem
  induction rem with
  | zero =>
    intro i qs h1 h2 hk
    refine Eq.mpr (t_dsB { s with qs := qs } ..) ?_
    rw [List.drop_of_length_le (by omega)] at hk
    exact Again.mk (brf (by omega) hk)
  | succ rem ih =>
    intro i qs h1 h2 hk
    rw [show rem + 1 + c + 52 = (rem + 1 + c) + 52 from rfl]
    refine Eq.mpr (t_dsB { s with qs := qs } ..) ?_
    have e1 : 0 + ((i : Nat) : Int).toNat = i := by omega
    have e2 : addK .i64 (i : Int) 1 = ((i + 1 : Nat) : Int) := by rw [add64 (by omega)]; omega
    have hm := hx (ys.getD i 0) (by rw [List.getD_eq_getElem?_getD, List.getElem?_eq_getElem (by omega)]; exact List.getElem_mem _)
    rw [e1, e2]
    rw [drop_getD (by omega), resetL] at hk
    generalize ys.getD i 0 = x at hm hk ⊢
    have e3 : 0 + x.toNat = x.toNat := by omega
    rw [e3]
    refine Again.mk (brt (by omega) (ndd (by omega) (ndd (by omega) (ndd (by omega) (ndd (by omega) (ndd (by dsimp only; omega) (ndd (by dsimp only; omega) ?_)))))))
    exact evFuelR (ih (i + 1) (qs.set x.toNat 0) (by omega) (by rw [List.length_set]; exact h2) hk) (by omega)
theorem sDoes_lin (args : List SA) (st : St) : Lin (sDoes args st) := by
  intro k h
  unfold sDoes at h ⊢
  split at h
  · refine lin0 (F := fun s r => dsK _ _ _ s r) (fun s r => ?_) k h
    intro k h
    unfold dsK at h ⊢
    split at h
    · exact (Lin.need (Lin.branch (Lin.ret _ _) (Lin.branch (Lin.ret _ _) (Lin.ret _ _)))) k h
    · exact h.elim
  · exact h.elim
theorem u16_all {xs : List Int} (h : okU16 xs = true) : ∀ x ∈ xs, 0 ≤ x ∧ x ≤ 65535 := fun x hx => of_decide_eq_true (List.all_eq_true.1 h x hx)
theorem upI_len : ∀ (c : Nat) (i : Int), (upI i c).length = c
  | 0, _ => rfl
  | c + 1, i => by rw [upI, List.length_cons, upI_len c]
theorem does_sum : SumOk Try.prog 33 sDoes := by
  refine sumOk_of cxDs_ok sDoes_lin fun args st k h => ?_
  unfold sDoes at h
  split at h
  · rename_i kd j more
    obtain ⟨s, r, rfl, h'⟩ := rdSd_spec h
    clear h
    have h := h'
    clear h'
    unfold dsK at h
    split at h
    · rename_i xs
      obtain ⟨h1, hK⟩ := need_iff.1 h
      clear h
      rw [Bool.and_eq_true_iff] at h1
      obtain ⟨h1, hu⟩ := h1
      obtain ⟨g1, g2, g3, g4, g5⟩ := of_decide_eq_true h1
      subst g1
      refine ⟨(xs.length + 20) + 60, ?_⟩
      have htk : xs.take xs.length = xs := List.take_of_length_le (Nat.le_refl _)
      refine Eq.mpr (t_ds s kd more xs (xs.length + 20) k) ?_
      rw [htk]
      have wm : IntKind.wrap .i64 more = more := Go.IntWalk.i64_in _ (by omega)
      have am : addK .i64 ((s.qs.length : Nat) : Int) (IntKind.wrap .i64 more) = (s.qs.length : Int) + more := by rw [wm, add64 (by omega)]
      rw [am]
      have fin : ∀ e : doB kd (s.qs.length : Int) xs = false, branch (eqK kd 2) (branch (decide ((s.qs.length : Int) + more ≤ 16)) (need (decide (0 ≤ more)) (need (decide (more < 9223372036854775808)) (need (decide (more * 2 ≤ 281474976710656)) (need (decide ((s.qs.length + (List.replicate more.toNat (0 : Int)).length) * 2 ≤ 140737488355328)) (k (.sa (.one (iv .u8 1))) (sideX 0 s 1 2 (nW s + 1) (own16 s.os) (own16 s.ps) none [rd16 xs, own16 (s.qs ++ List.replicate more.toNat 0)])))))) (k (.sa (.one (iv .u8 2))) (sideW 0 s [rd16 xs]))) (k (.sa (.one (iv .u8 2))) (sideW 0 s [rd16 xs])) := fun e => by
        have h : branch (moB kd ((s.qs.length : Nat) : Int) more) (k (.sa (.one (iv .u8 1))) (sideX 0 s 1 2 (nW s + 1) (own16 s.os) (own16 s.ps) none [rd16 xs, own16 (s.qs ++ List.replicate more.toNat 0)])) (k (.sa (.one (iv .u8 2))) (sideW 0 s [rd16 xs])) := by
          rcases branch_or hK with ⟨e', _⟩ | ⟨_, h⟩
          · rw [e] at e'; cases e'
          · exact h
        refine bre (fun h2 => brd (fun h3 => ?_) (fun h3 => ?_)) (fun h2 => ?_)
        · have hm : moB kd (s.qs.length : Int) more = true := by unfold moB; rw [eqK_t.2 h2, decide_eq_true h3]; rfl
          rcases branch_or h with ⟨_, h⟩ | ⟨e', _⟩
          · simp only [List.length_replicate]
            exact ndd (by omega) (ndd (by omega) (ndd (by omega) (ndd (by omega) h)))
          · rw [hm] at e'; cases e'
        · have hm : moB kd (s.qs.length : Int) more = false := by unfold moB; rw [decide_eq_false h3, Bool.and_false]
          rcases branch_or h with ⟨e', _⟩ | ⟨_, h⟩
          · rw [hm] at e'; cases e'
          · exact h
        · have hm : moB kd (s.qs.length : Int) more = false := by unfold moB; rw [eqK_f.2 h2]; rfl
          rcases branch_or h with ⟨e', _⟩ | ⟨_, h⟩
          · rw [hm] at e'; cases e'
          · exact h
      refine bre (fun h2 => ndd (by omega) (nd (Bool.and_eq_true_iff.2 ⟨decide_eq_true (by omega), hu⟩) (br (fun h3 => ?_) (fun h3 => ?_)))) (fun h2 => ?_)
      · have hd : doB kd (s.qs.length : Int) xs = true := by unfold doB; rw [eqK_t.2 h2, h3]; rfl
        rcases branch_or hK with ⟨_, h⟩ | ⟨e', _⟩
        · have hlt := there_lt h3
          have hall : ∀ x ∈ xs, 0 ≤ x ∧ x < (s.qs.length : Int) := fun x hx => ⟨(u16_all hu x hx).1, hlt x hx⟩
          refine ndd (by omega) (brd (fun h4 => ?_) (fun h4 => ?_))
          · unfold allOf at h
            rw [decide_eq_true h4] at h
            exact evFuelR (ds_loopA s xs 20 (xs.length + 20) g5 hall k xs.length 0 s.qs (by omega) rfl h) (by omega)
          · unfold allOf at h
            rw [decide_eq_false h4] at h
            have e5 : ((s.qs.length : Nat) : Int).toNat = s.qs.length := by omega
            rw [e5]
            have hlen := upI_len s.qs.length 0
            have := ds_loopB s xs (upI 0 s.qs.length) (20 - s.qs.length + xs.length) (xs.length + 20) (by omega) (fun x hx => by have := upI_mem hx; omega) k s.qs.length 0 s.qs (by omega) rfl h
            exact evFuelR this (by omega)
        · rw [hd] at e'; cases e'
      · exact fin (by unfold doB; rw [h3, Bool.and_false])
      · exact fin (by unfold doB; rw [eqK_f.2 h2]; rfl)
    · exact h.elim
  · exact h.elim
end Go.Ev
