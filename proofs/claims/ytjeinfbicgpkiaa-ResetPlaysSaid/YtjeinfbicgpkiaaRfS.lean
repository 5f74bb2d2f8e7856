/- What the document's functions do. No conditions. -/
import Derived.Test.YtjeinfbicgpkiaaRfT0
import Derived.Test.YtjeinfbicgpkiaaRfT1
import Derived.Test.YtjeinfbicgpkiaaAnS
import Derived.Test.YtjeinfbicgpkiaaGpS
set_option linter.unusedVariables false
set_option linter.unusedSimpArgs false
namespace Go.Ev
open Go Go.Proofs Go.Spec
attribute [local irreducible] ev evCall branch need again
theorem brT {p q : Prop} (h : p) : branch true p q := br (fun _ => h) (fun e => by cases e)
theorem brF {p q : Prop} (h : q) : branch false p q := br (fun e => by cases e) (fun _ => h)
theorem cxIn_ok : CxOk Try.prog cxIn := mkCx_ok namesR mixedR (by intro x h; cases h)
theorem cxTr_ok : CxOk Try.prog cxTr := mkCx_ok namesR mixedR (by intro x h; cases h)
theorem cxCa_ok : CxOk Try.prog cxCa := mkCx_ok namesR mixedR (by intro x h; cases h)
theorem wrap16 {x : Int} (h : 0 ≤ x ∧ x ≤ 65535) : IntKind.wrap .i64 x = x := Go.IntWalk.i64_in _ (by omega)
theorem in_loop (xs : List Int) (v : Int) (c M : Nat) (hl : xs.length ≤ 1000000) (hu : okU16 xs = true) (k : SV → St → Prop) (hk : k (.sa (.one (bv (inB xs v)))) [rd16 xs]) :
    ∀ (rem i : Nat), i + rem = xs.length → inR v (xs.drop i) = inR v xs → ev cxIn (rem + c + 56) 1 35 (codeAt Try.prog 35 [1, 0, 1, 0]) (frm 22 [(0, (.sa (.one (SC.ref 0)))), (1, (.sa (.one (iv .i64 v)))), (5, (.sa (.one (iv .i64 (i : Int)))))]) [rd16 xs] (kBlock 0 (kSeq (ev cxIn (M + 58) 1 35 (codeAt Try.prog 35 [1, 1])) (kRet (Cx.P cxIn) [(ResultVar.tmp 4)] 1 k))) := by
  have out : ∀ r : Bool, r = inB xs v → k (.sa (.one (bv r))) [rd16 xs] := fun r e => e ▸ hk
  intro rem
  induction rem with
  | zero =>
    intro i h1 h2
    refine Eq.mpr (t_inS ..) (Again.mk (brf (by omega) (out _ ?_)))
    rw [List.drop_of_length_le (by omega)] at h2
    unfold inB
    rw [← h2]
    rfl
  | succ rem ih =>
    intro i h1 h2
    rw [show rem + 1 + c + 56 = (rem + 1 + c) + 56 from rfl]
    refine Eq.mpr (t_inS ..) ?_
    have e1 : 0 + ((i : Nat) : Int).toNat = i := by omega
    have e2 : addK .i64 (i : Int) 1 = ((i + 1 : Nat) : Int) := by rw [add64 (by omega)]; omega
    have hw := wrap16 (u16_at hu i)
    rw [e1, e2, hw]
    rw [drop_getD (by omega), inR] at h2
    refine Again.mk (brt (by omega) (ndd (by omega) (ndd (by omega) (ndd (by omega) (br (fun e => out _ ?_) (fun e => ?_))))))
    · rw [e] at h2
      unfold inB
      rw [← h2]
    · rw [e] at h2
      exact evFuelR (ih (i + 1) (by omega) h2) (by omega)
theorem fIn_lin (vas : List VA) : Lin (fIn vas) := by
  intro k h
  unfold fIn at h ⊢
  split at h
  · exact (Lin.need (Lin.ret _ _)) k h
  · exact h.elim
theorem in_sum : SumOk Try.prog 35 sIn := by
  refine pureSum_ok cxIn_ok fIn_lin fun vas K h => ?_
  unfold fIn at h
  split at h
  · rename_i xs v
    obtain ⟨h1, hK⟩ := need_iff.1 h
    rw [Bool.and_eq_true_iff] at h1
    obtain ⟨h1, hu⟩ := h1
    have h1 := of_decide_eq_true h1
    refine ⟨xs.length + 4 + 60, Eq.mpr (t_in xs v (xs.length + 4) (pureK 1 K)) ?_⟩
    exact in_loop xs v 4 (xs.length + 4) h1 hu (pureK 1 K) hK xs.length 0 (by omega) rfl
  · exact h.elim
theorem tr_loop (xs : List Int) (v : Int) (c M : Nat) (hl : xs.length ≤ 1000000) (hu : okU16 xs = true) (k : SV → St → Prop) (hk : k (.sa (.one (bv (thereB v xs)))) [rd16 xs]) :
    ∀ (rem i : Nat), i + rem = xs.length → idxGe v (xs.drop i) i = idxGe v xs 0 → ev cxTr (rem + c + 56) 1 42 (codeAt Try.prog 42 [1, 0, 1, 0]) (frm 19 [(0, (.sa (.one (SC.ref 0)))), (1, (.sa (.one (iv .i64 v)))), (5, (.sa (.one (iv .i64 (i : Int)))))]) [rd16 xs] (kBlock 0 (kSeq (ev cxTr (M + 58) 1 42 (codeAt Try.prog 42 [1, 1])) (kRet (Cx.P cxTr) [(ResultVar.tmp 4)] 1 k))) := by
  have out : ∀ r : Bool, r = thereB v xs → k (.sa (.one (bv r))) [rd16 xs] := fun r e => e ▸ hk
  intro rem
  induction rem with
  | zero =>
    intro i h1 h2
    refine Eq.mpr (t_trS ..) (Again.mk (brf (by omega) (out _ ?_)))
    rw [List.drop_of_length_le (by omega)] at h2
    unfold thereB
    rw [← h2]
    rfl
  | succ rem ih =>
    intro i h1 h2
    rw [show rem + 1 + c + 56 = (rem + 1 + c) + 56 from rfl]
    refine Eq.mpr (t_trS ..) ?_
    have e1 : 0 + ((i : Nat) : Int).toNat = i := by omega
    have e2 : addK .i64 (i : Int) 1 = ((i + 1 : Nat) : Int) := by rw [add64 (by omega)]; omega
    have hw := wrap16 (u16_at hu i)
    rw [e1, e2, hw]
    rw [drop_getD (by omega), idxGe] at h2
    refine Again.mk (brt (by omega) (ndd (by omega) (ndd (by omega) (ndd (by omega) (br (fun e => out _ ?_) (fun e => ?_))))))
    · rw [e] at h2
      unfold thereB
      rw [← h2]
      have : ((i : Nat) : Int) ≥ 0 := by omega
      rw [decide_eq_true this]
      rfl
    · rw [e] at h2
      exact evFuelR (ih (i + 1) (by omega) h2) (by omega)
theorem fThR_lin (vas : List VA) : Lin (fThR vas) := by
  intro k h
  unfold fThR at h ⊢
  split at h
  · exact (Lin.need (Lin.ret _ _)) k h
  · exact h.elim
theorem thR_sum : SumOk Try.prog 42 sThR := by
  refine pureSum_ok cxTr_ok fThR_lin fun vas K h => ?_
  unfold fThR at h
  split at h
  · rename_i xs v
    obtain ⟨h1, hK⟩ := need_iff.1 h
    rw [Bool.and_eq_true_iff] at h1
    obtain ⟨h1, hu⟩ := h1
    have h1 := of_decide_eq_true h1
    refine ⟨xs.length + 4 + 60, Eq.mpr (t_tr xs v (xs.length + 4) (pureK 1 K)) ?_⟩
    exact tr_loop xs v 4 (xs.length + 4) h1 hu (pureK 1 K) hK xs.length 0 (by omega) rfl
  · exact h.elim
theorem rdDr_spec {st : St} {f : Dr → St → Prop} (h : rdDr 0 st f) : ∃ d r, st = drW 0 d r ∧ f d r := by
  unfold rdDr at h
  split at h
  · split at h
    · split at h
      · split at h
        · rename_i hb
          simp only [Bool.and_eq_true] at hb
          obtain ⟨h1, h2, h3, h4, h5⟩ := hb
          have h1 := beq_eq h1
          have h2 := beq_eq h2
          have h3 := beq_eq h3
          have h4 := beq_eq h4
          have h5 := beq_eq h5
          subst h1 h2 h3 h4 h5
          exact ⟨⟨_, _, _, _, _, _, _, _, _, _, _, _⟩, _, rfl, h⟩
        · exact h.elim
      · exact h.elim
    · exact h.elim
  · exact h.elim
theorem rdDr_mk {d : Dr} {r : St} {f : Dr → St → Prop} : rdDr 0 (drW 0 d r) f = f d r := rfl
theorem linD {st : St} {F : Dr → St → (SV → St → Prop) → Prop} (hF : ∀ d r, Lin (F d r)) : Lin (fun k => rdDr 0 st fun d r => F d r k) := by
  intro k h
  obtain ⟨d, r, rfl, h'⟩ := rdDr_spec h
  obtain ⟨v, st', h1, h2⟩ := hF d r k h'
  refine ⟨v, st', h1, fun k2 hk => ?_⟩
  show rdDr 0 (drW 0 d r) fun d r => F d r k2
  rw [rdDr_mk]; exact h2 k2 hk
theorem ca_loop (d : Dr) (tsn cum : Int) (c M : Nat) (hl : d.cs.length ≤ 1000000) (hc : decide (subK .u32 cum tsn < 2147483648) = false) (k : SV → St → Prop) (hk : k (.sa (.one (bv (cameB d.cs tsn cum)))) (drW 0 d [])) :
    ∀ (rem i : Nat), i + rem = d.cs.length → inR tsn (d.cs.drop i) = inR tsn d.cs → ev cxCa (rem + c + 55) 6 38 (codeAt Try.prog 38 [1, 1, 0, 1, 0]) (frm 30 [(0, (.sa (.one (SC.ptr 0 0 0)))), (1, (.sa (.one (iv .u32 tsn)))), (2, (.sa (.one (iv .u32 cum)))), (7, (.sa (.one (iv .i64 (i : Int)))))]) (drW 0 d []) (kBlock 0 (kSeq (ev cxCa (M + 57) 6 38 (codeAt Try.prog 38 [1, 1, 1])) (kRet (Cx.P cxCa) [(ResultVar.tmp 6)] 6 k))) := by
  have out : ∀ r : Bool, r = cameB d.cs tsn cum → k (.sa (.one (bv r))) (drW 0 d []) := fun r e => e ▸ hk
  intro rem
  induction rem with
  | zero =>
    intro i h1 h2
    refine Eq.mpr (t_caS d.os d.ps d.qs d.cs d.ss d.is d.kd d.mo d.nu d.nx d.ex d.kp ..) (Again.mk (brf (by omega) (out _ ?_)))
    rw [List.drop_of_length_le (by omega)] at h2
    unfold cameB
    rw [hc, ← h2]
    rfl
  | succ rem ih =>
    intro i h1 h2
    rw [show rem + 1 + c + 55 = (rem + 1 + c) + 55 from rfl]
    refine Eq.mpr (t_caS d.os d.ps d.qs d.cs d.ss d.is d.kd d.mo d.nu d.nx d.ex d.kp ..) ?_
    have e1 : 0 + ((i : Nat) : Int).toNat = i := by omega
    have e2 : addK .i64 (i : Int) 1 = ((i + 1 : Nat) : Int) := by rw [add64 (by omega)]; omega
    rw [e1, e2]
    rw [drop_getD (by omega), inR] at h2
    refine Again.mk (brt (by omega) (ndd (by omega) (ndd (by omega) (ndd (by omega) (br (fun e => out _ ?_) (fun e => ?_))))))
    · rw [e] at h2
      unfold cameB
      rw [hc, ← h2]
    · rw [e] at h2
      exact evFuelR (ih (i + 1) (by omega) h2) (by omega)
theorem sCame_lin (args : List SA) (st : St) : Lin (sCame args st) := by
  intro k h
  unfold sCame at h ⊢
  split at h
  · rename_i tsn cum
    exact linD (F := fun d r k => need (decide (d.cs.length ≤ 1000000)) (lastW r (k (.sa (.one (bv (cameB d.cs tsn cum)))) (drW 0 d [])))) (fun d r => Lin.need (lin_last (Lin.ret _ _))) k h
  · exact h.elim
theorem came_sum : SumOk Try.prog 38 sCame := by
  refine sumOk_of cxCa_ok sCame_lin fun args st k h => ?_
  unfold sCame at h
  split at h
  · rename_i tsn cum
    obtain ⟨d, r, rfl, h'⟩ := rdDr_spec h
    clear h
    obtain ⟨h1, hK⟩ := need_iff.1 h'
    cases r with
    | cons x r => exact hK.elim
    | nil =>
    have hK : k (.sa (.one (bv (cameB d.cs tsn cum)))) (drW 0 d []) := hK
    have h1 := of_decide_eq_true h1
    refine ⟨d.cs.length + 60, Eq.mpr (t_ca d.os d.ps d.qs d.cs d.ss d.is d.kd d.mo d.nu d.nx d.ex d.kp tsn cum d.cs.length k) ?_⟩
    refine br (fun e => ?_) (fun e => ?_)
    · unfold cameB at hK
      rw [e] at hK
      exact hK
    · exact ca_loop d tsn cum 0 d.cs.length h1 e k hK d.cs.length 0 (by omega) rfl
  · exact h.elim
theorem cxMy_ok : CxOk Try.prog cxMy := mkCx_ok namesR mixedR (by
  intro y h
  simp only [List.mem_cons, List.not_mem_nil, or_false] at h
  rcases h with rfl | rfl
  · exact in_sum
  · exact thR_sum)
theorem cxDo_ok : CxOk Try.prog cxDo := mkCx_ok namesR mixedR (by
  intro y h
  simp only [List.mem_cons, List.not_mem_nil, or_false] at h
  rcases h with rfl | rfl
  · exact in_sum
  · exact thR_sum)
theorem cxBk_ok : CxOk Try.prog cxBk := mkCx_ok namesR mixedR (by
  intro y h
  simp only [List.mem_cons, List.not_mem_nil, or_false] at h
  subst h
  exact in_sum)
def myV (d : Dr) (b : Bool) : Int := match b with
  | true => 6
  | false => match d.is with
    | true => 6
    | false => 0
theorem my_loop (d : Dr) (wk wm : Int) (xs : List Int) (c M : Nat) (hl : xs.length ≤ 1000000) (hu : okU16 xs = true) (hp : d.os.length = d.ps.length) (hb : d.os.length ≤ 16) (k : SV → St → Prop) (hk : k (.sa (.one (iv .i64 (myV d (eqK wk 1 && opR xs d.ps d.os.length 0))))) (drW 0 d [rd16 xs])) :
    ∀ (rem i : Nat), i + rem = d.os.length → opR xs d.ps rem i = opR xs d.ps d.os.length 0 → ev cxMy (rem + c + 53) 7 16 (codeAt Try.prog 16 [1, 1, 1, 1, 0, 1, 0]) (frm 91 [(0, (.sa (.one (SC.ptr 0 0 0)))), (3, (.sa (.one (SC.ptr 7 0 0)))), (5, (.sa (.one (iv .i64 (i : Int)))))]) (drW 0 d [rd16 xs, obj 35 3 [iv .u8 wk, .ref 6, iv .u16 wm]]) (kBlock 0 (kSeq (ev cxMy (M + 55) 7 16 (codeAt Try.prog 16 [1, 1, 1, 1, 1])) (kRet (Cx.P cxMy) [(ResultVar.tmp 4)] 7 k))) := by
  have out : ∀ b : Bool, b = (eqK wk 1 && opR xs d.ps d.os.length 0) → k (.sa (.one (iv .i64 (myV d b)))) (drW 0 d [rd16 xs]) := fun r e => e ▸ hk
  have htk : xs.take xs.length = xs := List.take_of_length_le (Nat.le_refl _)
  intro rem
  induction rem with
  | zero =>
    intro i h1 h2
    refine Eq.mpr (t_myS d.os d.ps d.qs d.cs d.ss xs d.is d.kd d.mo d.nu d.nx d.ex d.kp wk wm i (0 + c) M k) (Again.mk (brf (by omega) ?_))
    have hf := out false (by rw [← h2]; simp [opR])
    unfold myV at hf
    refine br (fun e => ?_) (fun e => ?_)
    · rw [e] at hf; exact hf
    · rw [e] at hf; exact hf
  | succ rem ih =>
    intro i h1 h2
    rw [show rem + 1 + c + 53 = (rem + 1 + c) + 53 from rfl]
    refine Eq.mpr (t_myS d.os d.ps d.qs d.cs d.ss xs d.is d.kd d.mo d.nu d.nx d.ex d.kp wk wm i (rem + 1 + c) M k) ?_
    have e1 : 0 + ((i : Nat) : Int).toNat = i := by omega
    have e2 : addK .i64 (i : Int) 1 = ((i + 1 : Nat) : Int) := by rw [add64 (by omega)]; omega
    rw [e1, e2, htk]
    have go : opR xs d.ps rem (i + 1) = opR xs d.ps d.os.length 0 → _ := fun e => ih (i + 1) (by omega) e
    refine Again.mk (brt (by omega) (br (fun w => ?_) (fun w => ?_)))
    · refine ndd (by omega) (nd (Bool.and_eq_true_iff.2 ⟨decide_eq_true hl, hu⟩) (br (fun e => ?_) (fun e => ?_)))
      · refine ndd (by omega) (ndd (by omega) (ndd (by omega) (br (fun g => ?_) (fun g => ?_))))
        · have hf := out true (by rw [← h2, w, opR, e, g]; rfl)
          exact hf
        · rw [opR, e, g] at h2
          exact evFuelR (ih (i + 1) (by omega) h2) (by omega)
      · rw [opR, e] at h2
        exact evFuelR (ih (i + 1) (by omega) h2) (by omega)
    · have hf := out false (by rw [w]; rfl)
      have gen : ∀ (rem i : Nat), i + rem = d.os.length → ev cxMy (rem + c + 53) 7 16 (codeAt Try.prog 16 [1, 1, 1, 1, 0, 1, 0]) (frm 91 [(0, (.sa (.one (SC.ptr 0 0 0)))), (3, (.sa (.one (SC.ptr 7 0 0)))), (5, (.sa (.one (iv .i64 (i : Int)))))]) (drW 0 d [rd16 xs, obj 35 3 [iv .u8 wk, .ref 6, iv .u16 wm]]) (kBlock 0 (kSeq (ev cxMy (M + 55) 7 16 (codeAt Try.prog 16 [1, 1, 1, 1, 1])) (kRet (Cx.P cxMy) [(ResultVar.tmp 4)] 7 k))) := by
        unfold myV at hf
        intro rem
        induction rem with
        | zero =>
          intro i h1
          refine Eq.mpr (t_myS d.os d.ps d.qs d.cs d.ss xs d.is d.kd d.mo d.nu d.nx d.ex d.kp wk wm i (0 + c) M k) (Again.mk (brf (by omega) ?_))
          refine br (fun e => ?_) (fun e => ?_)
          · rw [e] at hf; exact hf
          · rw [e] at hf; exact hf
        | succ rem ih =>
          intro i h1
          rw [show rem + 1 + c + 53 = (rem + 1 + c) + 53 from rfl]
          refine Eq.mpr (t_myS d.os d.ps d.qs d.cs d.ss xs d.is d.kd d.mo d.nu d.nx d.ex d.kp wk wm i (rem + 1 + c) M k) ?_
          have e2 : addK .i64 (i : Int) 1 = ((i + 1 : Nat) : Int) := by rw [add64 (by omega)]; omega
          rw [e2]
          refine Again.mk (brt (by omega) (br (fun w' => by rw [w] at w'; cases w') (fun _ => evFuelR (ih (i + 1) (by omega)) (by omega))))
      exact evFuelR (gen rem (i + 1) (by omega)) (by omega)
theorem myK_lin (wk : Int) (j : Nat) (wm : Int) (d : Dr) (r : St) : Lin (myK wk j wm d r) := by
  intro k h
  unfold myK at h ⊢
  split at h
  · exact Lin.need (Lin.ret _ _) k h
  · exact h.elim
theorem sMayD_lin (args : List SA) (st : St) : Lin (sMayD args st) := by
  intro k h
  unfold sMayD at h ⊢
  split at h
  · rename_i wk j wm
    exact linD (F := fun d r => myK wk j wm d r) (fun d r => myK_lin wk j wm d r) k h
  · exact h.elim
theorem mayD_sum : SumOk Try.prog 16 sMayD := by
  refine sumOk_of cxMy_ok sMayD_lin fun args st k h => ?_
  unfold sMayD at h
  split at h
  · rename_i wk j wm
    obtain ⟨d, r, rfl, h'⟩ := rdDr_spec h
    clear h
    unfold myK at h'
    split at h'
    · rename_i xs
      obtain ⟨h1, hK⟩ := need_iff.1 h'
      clear h'
      rw [Bool.and_eq_true_iff] at h1
      obtain ⟨h1, hu⟩ := h1
      obtain ⟨g1, g2, g3, g4, g5, g6⟩ := of_decide_eq_true h1
      subst g1
      refine ⟨d.os.length + 10 + 60, Eq.mpr (t_my d.os d.ps d.qs d.cs d.ss xs d.is d.kd d.mo d.nu d.nx d.ex d.kp wk wm (d.os.length + 10) k) ?_⟩
      have htk : xs.take xs.length = xs := List.take_of_length_le (Nat.le_refl _)
      have wm' : IntKind.wrap .i64 wm = wm := wrap16 ⟨g2, g3⟩
      have am : addK .i64 ((d.os.length : Nat) : Int) wm = (d.os.length : Int) + wm := by rw [add64 (by omega)]
      rw [htk, wm', am]
      have two : argB wk wm xs.length = true → k (.sa (.one (iv .i64 2))) (drW 0 d [rd16 xs]) := fun e => by
        unfold mayD at hK; rw [e] at hK; exact hK
      have main : argB wk wm xs.length = false → branch (decide ((d.os.length : Int) + wm > 16)) (k (.sa (.one (iv .i64 7))) (drW 0 d [rd16 xs])) (need (decide (0 + xs.length ≤ xs.length)) (need (decide (xs.length ≤ 1000000) && okU16 xs) (branch (Bool.not (thereB ((d.os.length : Nat) : Int) xs)) (k (.sa (.one (iv .i64 4))) (drW 0 d [rd16 xs])) (ev cxMy (d.os.length + 10 + 53) 7 16 (codeAt Try.prog 16 [1, 1, 1, 1, 0, 1, 0]) (frm 91 [(0, (.sa (.one (SC.ptr 0 0 0)))), (3, (.sa (.one (SC.ptr 7 0 0)))), (5, (.sa (.one (iv .i64 0))))]) (drW 0 d [rd16 xs, obj 35 3 [iv .u8 wk, .ref 6, iv .u16 wm]]) (kBlock 0 (kSeq (ev cxMy (d.os.length + 10 + 55) 7 16 (codeAt Try.prog 16 [1, 1, 1, 1, 1])) (kRet (Cx.P cxMy) [(ResultVar.tmp 4)] 7 k))))))) := fun e => by
        unfold mayD at hK
        rw [e] at hK
        refine br (fun e2 => ?_) (fun e2 => ?_)
        · rw [e2] at hK; exact hK
        rw [e2] at hK
        refine ndd (by omega) (nd (Bool.and_eq_true_iff.2 ⟨decide_eq_true g4, hu⟩) (br (fun e3 => ?_) (fun e3 => ?_)))
        · rw [Bool.not_eq_true'] at e3
          rw [e3] at hK; exact hK
        · rw [Bool.not_eq_false'] at e3
          rw [e3] at hK
          exact my_loop d wk wm xs 10 (d.os.length + 10) g4 hu g6 g5 k hK d.os.length 0 (by omega) rfl
      unfold argB at two main
      cases h1 : eqK wk 1 <;> cases h2 : eqK wk 2
      · rw [h1, h2] at two
        exact brT (brT (two rfl))
      · rw [h1, h2] at two main
        refine brT (brF (brF (brT ?_)))
        cases h3 : eqK wm 0
        · rw [h3] at two main
          refine brF (br (fun e => two e) (fun e => main e))
        · rw [h3] at two
          exact brT (two rfl)
      · rw [h1] at two main
        refine brF (brT (br (fun e => two e) (fun e => brF (main e))))
      · rw [eqK_t] at h1 h2
        omega
    · exact h'.elim
  · exact h.elim
theorem repl_step (qs : List Int) (m : Nat) : (qs ++ [0]) ++ List.replicate m (0 : Int) = qs ++ List.replicate (m + 1) 0 := by simp [List.replicate_succ]
theorem do_loopA (d : Dr) (wk wm : Int) (xs : List Int) (c M : Nat) (hl : xs.length ≤ 1000000) (hu : okU16 xs = true) (hb : d.qs.length ≤ 16) (k : SV → St → Prop) :
    ∀ (rem i : Nat) (qs : List Int), i + rem = d.qs.length → qs.length = d.qs.length → k (.sa (.one (iv .u8 1))) (drW 0 { d with qs := clrR xs rem i qs } [rd16 xs]) → ev cxDo (rem + c + 53) 7 19 (codeAt Try.prog 19 [1, 0, 1, 0, 0, 1, 0]) (frm 70 [(0, (.sa (.one (SC.ptr 0 0 0)))), (3, (.sa (.one (SC.ptr 7 0 0)))), (5, (.sa (.one (iv .i64 (i : Int)))))]) (drW 0 { d with qs := qs } [rd16 xs, obj 35 3 [iv .u8 wk, .ref 6, iv .u16 wm]]) (kBlock 0 (kSeq (ev cxDo (M + 55) 7 19 (codeAt Try.prog 19 [1, 0, 1, 0, 1])) (kSeq (ev cxDo (M + 58) 7 19 (codeAt Try.prog 19 [1, 1])) (kRet (Cx.P cxDo) [(ResultVar.tmp 4)] 7 k)))) := by
  have htk : xs.take xs.length = xs := List.take_of_length_le (Nat.le_refl _)
  intro rem
  induction rem with
  | zero =>
    intro i qs h1 h2 hk
    exact Eq.mpr (t_doA d.os d.ps qs d.cs d.ss xs d.is d.kd d.mo d.nu d.nx d.ex d.kp wk wm i (0 + c) M k) (Again.mk (brf (by omega) hk))
  | succ rem ih =>
    intro i qs h1 h2 hk
    rw [show rem + 1 + c + 53 = (rem + 1 + c) + 53 from rfl]
    refine Eq.mpr (t_doA d.os d.ps qs d.cs d.ss xs d.is d.kd d.mo d.nu d.nx d.ex d.kp wk wm i (rem + 1 + c) M k) ?_
    have e1 : 0 + ((i : Nat) : Int).toNat = i := by omega
    have e2 : addK .i64 (i : Int) 1 = ((i + 1 : Nat) : Int) := by rw [add64 (by omega)]; omega
    rw [e1, e2, htk]
    rw [clrR] at hk
    refine Again.mk (brt (by omega) (ndd (by omega) (nd (Bool.and_eq_true_iff.2 ⟨decide_eq_true hl, hu⟩) (br (fun e => ?_) (fun e => ?_)))))
    · rw [e] at hk
      refine ndd (by omega) (ndd (by omega) (ndd (by omega) ?_))
      exact evFuelR (ih (i + 1) (qs.set i 0) (by omega) (by rw [List.length_set]; exact h2) hk) (by omega)
    · rw [e] at hk
      exact evFuelR (ih (i + 1) qs (by omega) h2 hk) (by omega)
theorem do_loopC (d : Dr) (wk wm : Int) (xs : List Int) (c M : Nat) (hw : 0 ≤ wm ∧ wm ≤ 65535) (k : SV → St → Prop) :
    ∀ (rem i : Nat) (qs : List Int), i + rem = wm.toNat → qs.length + rem ≤ 16 → k (.sa (.one (iv .u8 1))) (drX 1 2 7 d (own16 d.os) (own16 d.ps) none [rd16 xs, own16 (qs ++ List.replicate rem 0)]) → ev cxDo (rem + c + 52) 7 19 (codeAt Try.prog 19 [1, 1, 0, 1, 0, 0, 1, 0]) (frm 70 [(0, (.sa (.one (SC.ptr 0 0 0)))), (3, (.sa (.one (SC.ptr 7 0 0)))), (6, (.sa (.one (iv .i64 (i : Int)))))]) (drX 1 2 8 d (own16 d.os) (own16 d.ps) none [rd16 xs, obj 35 3 [iv .u8 wk, .ref 6, iv .u16 wm], own16 qs]) (kBlock 2 (kSeq (ev cxDo (M + 54) 7 19 (codeAt Try.prog 19 [1, 1, 0, 1, 0, 1])) (kSeq (ev cxDo (M + 57) 7 19 (codeAt Try.prog 19 [1, 1, 1])) (kRet (Cx.P cxDo) [(ResultVar.tmp 4)] 7 k)))) := by
  intro rem
  induction rem with
  | zero =>
    intro i qs h1 h2 hk
    refine Eq.mpr (t_doC d.os d.ps qs d.cs d.ss xs d.is d.kd d.mo d.nu d.nx d.ex d.kp wk wm i (0 + c) M k) ?_
    rw [wrap16 hw]
    rw [List.replicate_zero, List.append_nil] at hk
    exact Again.mk (brf (by omega) hk)
  | succ rem ih =>
    intro i qs h1 h2 hk
    rw [show rem + 1 + c + 52 = (rem + 1 + c) + 52 from rfl]
    refine Eq.mpr (t_doC d.os d.ps qs d.cs d.ss xs d.is d.kd d.mo d.nu d.nx d.ex d.kp wk wm i (rem + 1 + c) M k) ?_
    have e2 : addK .i64 (i : Int) 1 = ((i + 1 : Nat) : Int) := by rw [add64 (by omega)]; omega
    rw [e2, wrap16 hw]
    rw [← repl_step] at hk
    refine Again.mk (brt (by omega) (ndd (by omega) ?_))
    exact evFuelR (ih (i + 1) (qs ++ [0]) (by omega) (by rw [List.length_append]; simp only [List.length_cons, List.length_nil]; omega) hk) (by omega)
theorem doK_lin (wk : Int) (j : Nat) (wm : Int) (d : Dr) (r : St) : Lin (doK wk j wm d r) := by
  intro k h
  unfold doK at h ⊢
  split at h
  · exact (Lin.need (Lin.branch (Lin.ret _ _) (Lin.branch (Lin.branch (Lin.ret _ _) (Lin.ret _ _)) (Lin.ret _ _)))) k h
  · exact h.elim
theorem sDoD_lin (args : List SA) (st : St) : Lin (sDoD args st) := by
  intro k h
  unfold sDoD at h ⊢
  split at h
  · rename_i wk j wm
    exact linD (F := fun d r => doK wk j wm d r) (fun d r => doK_lin wk j wm d r) k h
  · exact h.elim
theorem doD_sum : SumOk Try.prog 19 sDoD := by
  refine sumOk_of cxDo_ok sDoD_lin fun args st k h => ?_
  unfold sDoD at h
  split at h
  · rename_i wk j wm
    obtain ⟨d, r, rfl, h'⟩ := rdDr_spec h
    clear h
    unfold doK at h'
    split at h'
    · rename_i xs
      obtain ⟨h1, hK⟩ := need_iff.1 h'
      clear h'
      rw [Bool.and_eq_true_iff] at h1
      obtain ⟨h1, hu⟩ := h1
      obtain ⟨g1, g2, g3, g4, g5⟩ := of_decide_eq_true h1
      subst g1
      refine ⟨30 + 60, Eq.mpr (t_do d.os d.ps d.qs d.cs d.ss xs d.is d.kd d.mo d.nu d.nx d.ex d.kp wk wm 30 k) ?_⟩
      have htk : xs.take xs.length = xs := List.take_of_length_le (Nat.le_refl _)
      have wm' : IntKind.wrap .i64 wm = wm := wrap16 ⟨g2, g3⟩
      have am : addK .i64 ((d.qs.length : Nat) : Int) wm = (d.qs.length : Int) + wm := by rw [add64 (by omega)]
      rw [htk, wm', am]
      have fin : doB wk (d.qs.length : Int) xs = false → branch (eqK wk 2) (branch (decide ((d.qs.length : Int) + wm ≤ 16)) (ev cxDo (30 + 52) 7 19 (codeAt Try.prog 19 [1, 1, 0, 1, 0, 0, 1, 0]) (frm 70 [(0, (.sa (.one (SC.ptr 0 0 0)))), (3, (.sa (.one (SC.ptr 7 0 0)))), (6, (.sa (.one (iv .i64 0))))]) (drW 0 d [rd16 xs, obj 35 3 [iv .u8 wk, .ref 6, iv .u16 wm]]) (kBlock 2 (kSeq (ev cxDo (30 + 54) 7 19 (codeAt Try.prog 19 [1, 1, 0, 1, 0, 1])) (kSeq (ev cxDo (30 + 57) 7 19 (codeAt Try.prog 19 [1, 1, 1])) (kRet (Cx.P cxDo) [(ResultVar.tmp 4)] 7 k))))) (k (.sa (.one (iv .u8 2))) (drW 0 d [rd16 xs]))) (k (.sa (.one (iv .u8 2))) (drW 0 d [rd16 xs])) := fun e => by
        rcases branch_or hK with ⟨e', _⟩ | ⟨_, h⟩
        · rw [e] at e'; cases e'
        clear hK
        refine bre (fun h2 => brd (fun h3 => ?_) (fun h3 => ?_)) (fun h2 => ?_)
        · have hm : moB wk (d.qs.length : Int) wm = true := by unfold moB; rw [eqK_t.2 h2, decide_eq_true h3]; rfl
          rcases branch_or h with ⟨_, h⟩ | ⟨e', _⟩
          rotate_left
          · rw [hm] at e'; cases e'
          rw [show 30 + 52 = 30 + 52 from rfl]
          refine Eq.mpr (t_doB d.os d.ps d.qs d.cs d.ss xs d.is d.kd d.mo d.nu d.nx d.ex d.kp wk wm 0 30 30 k) ?_
          rw [wrap16 ⟨g2, g3⟩]
          by_cases hp : 0 < wm
          · rw [decide_eq_true hp] at h
            rcases branch_or h with ⟨_, h⟩ | ⟨e', _⟩
            rotate_left
            · cases e'
            refine Again.mk (brt (by omega) (ndd (by omega) ?_))
            obtain ⟨m, hm⟩ : ∃ m, wm.toNat = m + 1 := ⟨wm.toNat - 1, by omega⟩
            rw [hm, ← repl_step] at h
            have := do_loopC d wk wm xs (29 - m) 30 ⟨g2, g3⟩ k m 1 (d.qs ++ [0]) (by omega) (by rw [List.length_append]; simp only [List.length_cons, List.length_nil]; omega) h
            exact evFuelR this (by omega)
          · rw [decide_eq_false hp] at h
            rcases branch_or h with ⟨e', _⟩ | ⟨_, h⟩
            · cases e'
            exact Again.mk (brf (by omega) h)
        · have hm : moB wk (d.qs.length : Int) wm = false := by unfold moB; rw [decide_eq_false h3, Bool.and_false]
          rcases branch_or h with ⟨e', _⟩ | ⟨_, h⟩
          · rw [hm] at e'; cases e'
          · exact h
        · have hm : moB wk (d.qs.length : Int) wm = false := by unfold moB; rw [eqK_f.2 h2]; rfl
          rcases branch_or h with ⟨e', _⟩ | ⟨_, h⟩
          · rw [hm] at e'; cases e'
          · exact h
      refine bre (fun h2 => ndd (by omega) (nd (Bool.and_eq_true_iff.2 ⟨decide_eq_true (by omega), hu⟩) (br (fun h3 => ?_) (fun h3 => ?_)))) (fun h2 => ?_)
      · have hd : doB wk (d.qs.length : Int) xs = true := by unfold doB; rw [eqK_t.2 h2, h3]; rfl
        rcases branch_or hK with ⟨_, h⟩ | ⟨e', _⟩
        · have := do_loopA d wk wm xs (30 - d.qs.length) 30 g4 hu g5 k d.qs.length 0 d.qs (by omega) rfl h
          exact evFuelR this (by omega)
        · rw [hd] at e'; cases e'
      · exact fin (by unfold doB; rw [h3, Bool.and_false])
      · exact fin (by unfold doB; rw [eqK_f.2 h2]; rfl)
    · exact h'.elim
  · exact h.elim
theorem bk_loopB (d : Dr) (c : Nat) (hl : d.ss.length ≤ 1000000) (hu : okU16 d.ss = true) (hb : d.os.length ≤ 16) (k : SV → St → Prop) :
    ∀ (rem i : Nat) (os : List Int), i + rem = d.os.length → os.length = d.os.length → k (.tup []) (drW 0 { d with os := clrR d.ss rem i os } []) → ev cxBk (rem + c + 55) 6 21 (codeAt Try.prog 21 [1, 1, 1, 1, 0]) (frm 67 [(0, (.sa (.one (SC.ptr 0 0 0)))), (5, (.sa (.one (iv .i64 (i : Int)))))]) (drW 0 { d with os := os } []) (kBlock 2 (kRet (Cx.P cxBk) [] 6 k)) := by
  have htk : d.ss.take d.ss.length = d.ss := List.take_of_length_le (Nat.le_refl _)
  intro rem
  induction rem with
  | zero =>
    intro i os h1 h2 hk
    exact Eq.mpr (t_bkB os d.ps d.qs d.cs d.ss d.is d.kd d.mo d.nu d.nx d.ex d.kp i (0 + c) k) (Again.mk (brf (by omega) hk))
  | succ rem ih =>
    intro i os h1 h2 hk
    rw [show rem + 1 + c + 55 = (rem + 1 + c) + 55 from rfl]
    refine Eq.mpr (t_bkB os d.ps d.qs d.cs d.ss d.is d.kd d.mo d.nu d.nx d.ex d.kp i (rem + 1 + c) k) ?_
    have e1 : 0 + ((i : Nat) : Int).toNat = i := by omega
    have e2 : addK .i64 (i : Int) 1 = ((i + 1 : Nat) : Int) := by rw [add64 (by omega)]; omega
    rw [e1, e2, htk]
    rw [clrR] at hk
    refine Again.mk (brt (by omega) (ndd (by omega) (nd (Bool.and_eq_true_iff.2 ⟨decide_eq_true hl, hu⟩) (br (fun e => ?_) (fun e => ?_)))))
    · rw [e] at hk
      refine ndd (by omega) (ndd (by omega) (ndd (by omega) ?_))
      exact evFuelR (ih (i + 1) (os.set i 0) (by omega) (by rw [List.length_set]; exact h2) hk) (by omega)
    · rw [e] at hk
      exact evFuelR (ih (i + 1) os (by omega) h2 hk) (by omega)
theorem bk_loopC (d : Dr) (c M : Nat) (hw : 0 ≤ d.mo ∧ d.mo ≤ 65535) (k : SV → St → Prop) :
    ∀ (rem i : Nat) (os ps : List Int), i + rem = d.mo.toNat → os.length + rem ≤ 100000 → ps.length + rem ≤ 100000 → k (.tup []) (drX 6 7 3 d none none (own16 d.qs) [own16 (os ++ List.replicate rem 0), own16 (ps ++ List.replicate rem 0)]) → ev cxBk (rem + c + 52) 6 21 (codeAt Try.prog 21 [1, 1, 0, 1, 0, 0, 1, 0]) (frm 67 [(0, (.sa (.one (SC.ptr 0 0 0)))), (4, (.sa (.one (iv .i64 (i : Int)))))]) (drX 6 7 3 d none none (own16 d.qs) [own16 os, own16 ps]) (kBlock 0 (kSeq (ev cxBk (M + 54) 6 21 (codeAt Try.prog 35 [1, 0, 1, 0, 0, 1, 0, 0, 1, 0, 1])) (kSeq (ev cxBk (M + 57) 6 21 (codeAt Try.prog 21 [1, 1, 1])) (kRet (Cx.P cxBk) [] 6 k)))) := by
  intro rem
  induction rem with
  | zero =>
    intro i os ps h1 h2 h3 hk
    refine Eq.mpr (t_bkC os ps d.qs d.cs d.ss d.is d.kd d.mo d.nu d.nx d.ex d.kp i (0 + c) M k) ?_
    rw [wrap16 hw]
    rw [List.replicate_zero, List.append_nil, List.append_nil] at hk
    exact Again.mk (brf (by omega) hk)
  | succ rem ih =>
    intro i os ps h1 h2 h3 hk
    rw [show rem + 1 + c + 52 = (rem + 1 + c) + 52 from rfl]
    refine Eq.mpr (t_bkC os ps d.qs d.cs d.ss d.is d.kd d.mo d.nu d.nx d.ex d.kp i (rem + 1 + c) M k) ?_
    have e2 : addK .i64 (i : Int) 1 = ((i + 1 : Nat) : Int) := by rw [add64 (by omega)]; omega
    rw [e2, wrap16 hw]
    rw [← repl_step, ← repl_step] at hk
    refine Again.mk (brt (by omega) (ndd (by omega) (ndd (by omega) ?_)))
    exact evFuelR (ih (i + 1) (os ++ [0]) (ps ++ [0]) (by omega) (by rw [List.length_append]; simp only [List.length_cons, List.length_nil]; omega) (by rw [List.length_append]; simp only [List.length_cons, List.length_nil]; omega) hk) (by omega)
theorem bkK_lin (a : Int) (d : Dr) : Lin (bkK a d) := by
  intro k h
  unfold bkK at h ⊢
  exact (Lin.need (Lin.branch (Lin.branch (Lin.ret _ _) (Lin.ret _ _)) (Lin.ret _ _))) k h
theorem sBack_lin (args : List SA) (st : St) : Lin (sBack args st) := by
  intro k h
  unfold sBack at h ⊢
  split at h
  · rename_i a
    exact linD (F := fun d r k => lastW r (bkK a d k)) (fun d r => lin_last (bkK_lin a d)) k h
  · exact h.elim
theorem back_sum : SumOk Try.prog 21 sBack := by
  refine sumOk_of cxBk_ok sBack_lin fun args st k h => ?_
  unfold sBack at h
  split at h
  · rename_i a
    obtain ⟨d, r, rfl, h'⟩ := rdDr_spec h
    clear h
    cases r with
    | cons x r => exact h'.elim
    | nil =>
    have h : bkK a d k := h'
    clear h'
    unfold bkK at h
    obtain ⟨h1, hK⟩ := need_iff.1 h
    clear h
    rw [Bool.and_eq_true_iff, Bool.and_eq_true_iff] at h1
    obtain ⟨h1, hu, hm⟩ := h1
    obtain ⟨g1, g2, g3, g4, g5⟩ := of_decide_eq_true h1
    refine ⟨d.mo.toNat + 30 + 60, Eq.mpr (t_bk d.os d.ps d.qs d.cs d.ss d.is d.kd d.mo d.nu d.nx d.ex d.kp a (d.mo.toNat + 30) k) ?_⟩
    refine br (fun e => ?_) (fun e => ?_)
    · rw [Bool.not_eq_true'] at e
      rcases branch_or hK with ⟨e', _⟩ | ⟨_, h⟩
      · rw [e] at e'; cases e'
      · exact h
    rw [Bool.not_eq_false'] at e
    rcases branch_or hK with ⟨_, h⟩ | ⟨e', _⟩
    rotate_left
    · rw [e] at e'; cases e'
    refine br (fun e2 => ?_) (fun e2 => ?_)
    · rcases branch_or h with ⟨_, h⟩ | ⟨e', _⟩
      rotate_left
      · rw [e2] at e'; cases e'
      unfold moreOk at hm
      rw [e2] at hm
      have hm := of_decide_eq_true hm
      refine Eq.mpr (t_bkA d.os d.ps d.qs d.cs d.ss false d.kd d.mo d.nu d.nx d.ex d.kp 0 (d.mo.toNat + 30) (d.mo.toNat + 30) k) ?_
      rw [wrap16 ⟨g1, g2⟩]
      obtain ⟨m, hm'⟩ : ∃ m, d.mo.toNat = m + 1 := ⟨d.mo.toNat - 1, by omega⟩
      have h : k (.tup []) (drX 6 7 3 { d with is := false } none none (own16 d.qs) [own16 ((d.os ++ [0]) ++ List.replicate m 0), own16 ((d.ps ++ [0]) ++ List.replicate m 0)]) := by
        rw [hm'] at h
        rw [repl_step, repl_step]; exact h
      refine Again.mk (brt (by omega) (ndd (by omega) (ndd (by omega) ?_)))
      have := bk_loopC { d with is := false } (30) (d.mo.toNat + 30) ⟨g1, g2⟩ k m 1 (d.os ++ [0]) (d.ps ++ [0]) (by dsimp only; omega) (by rw [List.length_append]; simp only [List.length_cons, List.length_nil]; omega) (by rw [List.length_append]; simp only [List.length_cons, List.length_nil]; omega) h
      exact evFuelR this (by omega)
    · rcases branch_or h with ⟨e', _⟩ | ⟨_, h⟩
      · rw [e2] at e'; cases e'
      have := bk_loopB { d with is := false } (d.mo.toNat + 30 - d.os.length) g3 hu g4 k d.os.length 0 d.os (by dsimp only; omega) rfl h
      exact evFuelR this (by omega)
  · exact h.elim
end Go.Ev
