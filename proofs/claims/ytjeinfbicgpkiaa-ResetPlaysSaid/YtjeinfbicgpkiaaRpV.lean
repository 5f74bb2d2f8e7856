/- ResetPlays: how heavy a script is. No conditions. -/
import Derived.Test.YtjeinfbicgpkiaaRpT0
import Derived.Test.YtjeinfbicgpkiaaRpT2
import Derived.Test.YtjeinfbicgpkiaaRpP
set_option linter.unusedVariables false
set_option linter.unusedSimpArgs false
namespace Go.Ev
open Go Go.Proofs Go.Spec
attribute [local irreducible] ev evCall branch need again
theorem cxHv_ok : CxOk Try.prog cxHv := mkCx_ok namesR mixedR (by intro x h; cases h)
theorem okWs_at {wss : List (List Int)} (h : okWs wss = true) (i : Nat) : (wss.getD i []).length ≤ 140737488355328 := by
  by_cases hi : i < wss.length
  · rw [List.getD_eq_getElem?_getD, List.getElem?_eq_getElem hi]
    exact of_decide_eq_true (List.all_eq_true.1 h _ (List.getElem_mem hi))
  · rw [List.getD_eq_getElem?_getD, List.getElem?_eq_none (by omega)]; simp
theorem hv_loop (n : Nat) (kds sids ssns tsns bys wks wms rs : List Int) (wss : List (List Int)) (c M : Nat) (k : SV → St → Prop) (hl : wss.length = n) (hn : n ≤ 140737488355328) (hw : okWs wss = true) (hk : k (.sa (.one (bv (heavyR 0 wss)))) [lsO ⟨n, kds, sids, ssns, tsns, bys, wks, wss, wms, rs⟩]) :
    ∀ (rem i : Nat) (s : Int), i + rem = n → 0 ≤ s → s ≤ 500 → heavyR s (wss.drop i) = heavyR 0 wss → ev cxHv (rem + c + 55) 1 9 (codeAt Try.prog 9 [1, 1, 0, 1, 0]) (frm 22 [(3, (.sa (.one (iv .i64 s)))), (6, (.sa (.one (SC.ref 0)))), (7, (.sa (.one (iv .i64 ((n : Nat) : Int))))), (8, (.sa (.one (iv .i64 (i : Int)))))]) [lsO ⟨n, kds, sids, ssns, tsns, bys, wks, wss, wms, rs⟩] (kBlock 0 (kSeq (ev cxHv (M + 57) 1 9 (codeAt Try.prog 9 [1, 1, 1])) (kRet (Cx.P cxHv) [(ResultVar.tmp 2)] 1 k))) := by
  have out : ∀ b : Bool, b = heavyR 0 wss → k (.sa (.one (bv b))) [lsO ⟨n, kds, sids, ssns, tsns, bys, wks, wss, wms, rs⟩] := fun b e => e ▸ hk
  intro rem
  induction rem with
  | zero =>
    intro i s h1 h2 h3 h4
    refine Eq.mpr (t_hvS ..) (Again.mk (brf (by omega) (out _ ?_)))
    rw [← h4, List.drop_of_length_le (by omega)]
    rfl
  | succ rem ih =>
    intro i s h1 h2 h3 h4
    rw [show rem + 1 + c + 55 = (rem + 1 + c) + 55 from rfl]
    refine Eq.mpr (t_hvS ..) ?_
    have e0 : 0 + ((i : Nat) : Int).toNat = i := by omega
    have e6 : addK .i64 ((i : Nat) : Int) 1 = ((i + 1 : Nat) : Int) := by rw [add64 (by omega)]; omega
    have hd : wss.drop i = wss.getD i [] :: wss.drop (i + 1) := by
      rw [List.drop_eq_getElem_cons (by omega), List.getD_eq_getElem?_getD, List.getElem?_eq_getElem (by omega)]; rfl
    have hb := okWs_at hw i
    rw [hd, heavyR] at h4
    rw [e0, e6]
    generalize (wss.getD i []).length = m at h4 hb ⊢
    rw [add64 (a := 1) (b := ((m : Nat) : Int)) (by omega), add64 (by omega)]
    refine Again.mk (brt (by omega) (ndd (by omega) (ndd (by omega) (ndd (by omega) ?_))))
    refine brd (fun e => out _ ?_) (fun e => ?_)
    · rw [decide_eq_true e] at h4; exact h4
    · rw [decide_eq_false e] at h4
      exact evFuelR (ih (i + 1) (s + (1 + m)) (by omega) (by omega) (by omega) h4) (by omega)
theorem sHeavyR_lin (args : List SA) (st : St) : Lin (sHeavyR args st) := by
  intro k h
  unfold sHeavyR at h ⊢
  split at h
  · exact (Lin.need (Lin.ret _ _)) k h
  · exact h.elim
theorem heavy_sum : SumOk Try.prog 9 sHeavyR := by
  refine sumOk_of cxHv_ok sHeavyR_lin fun args st k h => ?_
  unfold sHeavyR at h
  split at h
  · rename_i n kds sids ssns tsns bys wks wss wms rs
    obtain ⟨h1, hk⟩ := need_iff.1 h
    rw [Bool.and_eq_true_iff] at h1
    obtain ⟨h1, hw⟩ := h1
    have h1 := of_decide_eq_true h1
    refine ⟨n + 60, Eq.mpr (t_hv ..) ?_⟩
    exact hv_loop n kds sids ssns tsns bys wks wms rs wss 0 n k h1.1 h1.2 hw hk n 0 0 (by omega) (by omega) (by omega) rfl
  · exact h.elim
theorem light : ∀ {wss : List (List Int)} {s : Int}, 0 ≤ s → s ≤ 500 → heavyR s wss = false → s + wss.length ≤ 500 ∧ ∀ xs ∈ wss, xs.length ≤ 500
  | [], s, h0, h1, _ => ⟨by simp; omega, by simp⟩
  | x :: r, s, h0, h1, h => by
    rw [heavyR] at h
    by_cases e : s + (1 + ((x.length : Nat) : Int)) > 500
    · rw [decide_eq_true e] at h; cases h
    · rw [decide_eq_false e] at h
      obtain ⟨a, b⟩ := light (by omega) (by omega) h
      refine ⟨by rw [List.length_cons]; omega, fun y hy => ?_⟩
      rcases List.mem_cons.1 hy with rfl | hy
      · omega
      · exact b y hy
end Go.Ev
