/- Texts of this claim, merged. No conditions. -/
import Derived.Test.YtjeinfbicgpkiaaGpT
import Derived.Test.YtjeinfbicgpkiaaEvD
set_option linter.unusedVariables false
set_option linter.unusedSimpArgs false
namespace Go.Ev
open Go Go.Proofs Go.Spec
attribute [local irreducible] ev evCall branch need again
theorem evFuelR {c : Cx} {N N' m f : Nat} {co : Code} {fr : Fr} {st : St} {k : Exit → Fr → St → Prop} (h : ev c N m f co fr st k) (e : N = N') : ev c N' m f co fr st k := e ▸ h
theorem drop_getD {xs : List Int} {i : Nat} (h : i < xs.length) : xs.drop i = xs.getD i 0 :: xs.drop (i + 1) := by
  rw [List.drop_eq_getElem_cons h, List.getD_eq_getElem?_getD, List.getElem?_eq_getElem h]
  rfl
theorem u16_at {xs : List Int} (h : okU16 xs = true) (i : Nat) : 0 ≤ xs.getD i 0 ∧ xs.getD i 0 ≤ 65535 := by
  by_cases hi : i < xs.length
  · rw [List.getD_eq_getElem?_getD, List.getElem?_eq_getElem hi]
    exact of_decide_eq_true (List.all_eq_true.1 h _ (List.getElem_mem hi))
  · rw [List.getD_eq_getElem?_getD, List.getElem?_eq_none (by omega)]
    simp only [Option.getD_none]; omega
theorem cxIf_ok : CxOk Try.prog cxIf := mkCx_ok (by kernel_rfl) (by kernel_rfl) (by simp)
theorem if_loop (m : Int) (xs : List Int) (c M : Nat) (hl : xs.length ≤ 1000000) (hu : okU16 xs = true) (k : SV → St → Prop) (hk : k (.sa (.one (iv .i64 (idxGe m xs 0)))) [rd16 xs, some (.clo (.func 55) [] [.one (.ptr 2 0 0)]), obj 3 1 [iv .i64 m]]) :
    ∀ (rem i : Nat), i + rem = xs.length → idxGe m (xs.drop i) i = idxGe m xs 0 → ev cxIf (rem + c + 56) 3 57 (codeAt Try.prog 57 [1, 0, 1, 0]) (frm 19 [(0, (.sa (.one (SC.ref 0)))), (1, (.sa (.one (SC.ref 1)))), (7, (.sa (.one (iv .i64 ((xs.length : Nat) : Int))))), (8, (.sa (.one (iv .i64 (i : Int)))))]) [some (.own false .ext 0 1 (.ints .u16 xs)), some (.clo (.func 55) [] [.one (.ptr 2 0 0)]), obj 3 1 [iv .i64 m]] (kBlock 0 (kSeq (ev cxIf (M + 58) 3 57 (codeAt Try.prog 57 [1, 1])) (kRet (Cx.P cxIf) [(ResultVar.tmp 4)] 3 k))) := by
  have out : ∀ r : Int, r = idxGe m xs 0 → k (.sa (.one (iv .i64 r))) [rd16 xs, some (.clo (.func 55) [] [.one (.ptr 2 0 0)]), obj 3 1 [iv .i64 m]] := fun r e => e ▸ hk
  intro rem
  induction rem with
  | zero =>
    intro i h1 h2
    rw [t_ifS]
    refine Again.mk (brf (by omega) (out _ ?_))
    rw [← h2, List.drop_of_length_le (by omega)]
    rfl
  | succ rem ih =>
    intro i h1 h2
    rw [show rem + 1 + c + 56 = (rem + 1 + c) + 56 from rfl, t_ifS]
    have e1 : 0 + ((i : Nat) : Int).toNat = i := by omega
    have e2 : addK .i64 (i : Int) 1 = ((i + 1 : Nat) : Int) := by rw [add64 (by omega)]; omega
    have hx := u16_at hu i
    rw [e1, e2, Go.IntWalk.i64_in _ (by omega)]
    rw [drop_getD (by omega), idxGe] at h2
    refine Again.mk (brt (by omega) (ndd (by omega) (ndd (by omega) (ndd (by omega) (brd (fun g => out _ ?_) (fun g => ?_))))))
    · rw [decide_eq_true g] at h2
      exact h2
    · rw [decide_eq_false g] at h2
      exact evFuelR (ih (i + 1) (by omega) h2) (by omega)
theorem sIdxF_lin (args : List SA) (st : St) : Lin (sIdxF args st) := by
  intro k h
  unfold sIdxF at h ⊢
  split at h
  · exact (Lin.need (Lin.ret _ _)) k h
  · exact h.elim
theorem idxF_sum : SumOk Try.prog 57 sIdxF := by
  refine sumOk_of cxIf_ok sIdxF_lin fun args st k h => ?_
  unfold sIdxF at h
  split at h
  · rename_i xs m
    obtain ⟨h1, hK⟩ := need_iff.1 h
    rw [Bool.and_eq_true_iff] at h1
    refine ⟨xs.length + 60, ?_⟩
    show evCall cxIf (ev cxIf (xs.length + 60)) 57 [.one (.ref 0), .one (.ref 1)] [rd16 xs, some (.clo (.func 55) [] [.one (.ptr 2 0 0)]), obj 3 1 [iv .i64 m]] k
    rw [t_if]
    exact if_loop m xs 0 xs.length (of_decide_eq_true h1.1) h1.2 k hK xs.length 0 (by omega) rfl
  · exact h.elim
theorem cxCf_ok : CxOk Try.prog cxCf := mkCx_ok (by kernel_rfl) (by kernel_rfl) (by
  intro y h
  simp only [List.mem_cons, List.not_mem_nil, or_false] at h
  subst h
  exact idxF_sum)
theorem sConF_lin (args : List SA) (st : St) : Lin (sConF args st) := by
  intro k h
  unfold sConF at h ⊢
  split at h
  · exact (Lin.need (Lin.ret _ _)) k h
  · exact h.elim
theorem conF_sum : SumOk Try.prog 53 sConF := by
  refine sumOk_of cxCf_ok sConF_lin fun args st k h => ?_
  unfold sConF at h
  split at h
  · rename_i xs m
    obtain ⟨h1, hK⟩ := need_iff.1 h
    refine ⟨30, ?_⟩
    show evCall cxCf (ev cxCf 30) 53 [.one (.ref 0), .one (.ref 1)] [rd16 xs, some (.clo (.func 55) [] [.one (.ptr 2 0 0)]), obj 3 1 [iv .i64 m]] k
    rw [t_cf]
    exact nd h1 hK
  · exact h.elim
theorem cxTh_ok : CxOk Try.prog cxTh := mkCx_ok (by kernel_rfl) (by kernel_rfl) (by
  intro y h
  simp only [List.mem_cons, List.not_mem_nil, or_false] at h
  subst h
  exact conF_sum)
theorem fThere_lin (vas : List VA) : Lin (fThere vas) := by
  intro k h
  unfold fThere at h ⊢
  split at h
  · exact (Lin.need (Lin.ret _ _)) k h
  · exact h.elim
theorem there_sum : SumOk Try.prog 49 sThere := by
  refine pureSum_ok cxTh_ok fThere_lin fun vas K h => ?_
  unfold fThere at h
  split at h
  · rename_i xs m
    obtain ⟨h1, hK⟩ := need_iff.1 h
    refine ⟨30, ?_⟩
    show evCall cxTh (ev cxTh 30) 49 [.one (.ref 0), .one (iv .i64 m)] [rd16 xs] (pureK 1 K)
    rw [t_th]
    exact nd h1 hK
  · exact h.elim
end Go.Ev
namespace Go.Ev
open Go Go.Proofs Go.Spec
attribute [local irreducible] ev evCall branch need again
theorem cxAl_ok : CxOk Try.prog cxAl := mkCx_ok (by kernel_rfl) (by kernel_rfl) (by simp)
theorem upI_succ : ∀ (c : Nat) (i : Int), upI i (c + 1) = upI i c ++ [i + c]
  | 0, i => by simp [upI]
  | c + 1, i => by
    rw [upI, upI_succ c (i + 1), upI]
    simp only [List.cons_append, List.cons.injEq, true_and]
    congr 2
    omega
theorem al_loop (w : Bool) (kk : MK) (T : TypeId) (xs : List Int) (n c M : Nat) (hn : n ≤ 65535) (k : SV → St → Prop) (hk : k (.sa (.one (.ref 1))) [some (.own w kk T 1 (.ints .u16 xs)), own16 (upI 0 n)]) :
    ∀ (rem i : Nat), i + rem = n → ev cxAl (rem + c + 54) 1 46 (codeAt Try.prog 46 [1, 1, 1, 0, 1, 0]) (frm 22 [(5, (.sa (.one (SC.ref 1)))), (12, (.sa (.one (iv .u16 (n : Int))))), (13, (.sa (.one (iv .u16 (i : Int)))))]) [some (.own w kk T 1 (.ints .u16 xs)), own16 (upI 0 i)] (kBlock 0 (kSeq (ev cxAl (M + 56) 1 46 (codeAt Try.prog 46 [1, 1, 1, 1])) (kRet (Cx.P cxAl) [(ResultVar.tmp 4)] 1 k))) := by
  have hlen : ∀ i : Nat, ∀ j : Int, (upI j i).length = i := by
    intro i
    induction i with
    | zero => intro j; rfl
    | succ i ih => intro j; rw [upI, List.length_cons, ih]
  intro rem
  induction rem with
  | zero =>
    intro i h1
    have h1 : i = n := by omega
    subst h1
    rw [t_alS]
    exact Again.mk (brf (by omega) hk)
  | succ rem ih =>
    intro i h1
    rw [show rem + 1 + c + 54 = (rem + 1 + c) + 54 from rfl, t_alS]
    have e2 : addK .u16 (i : Int) 1 = ((i + 1 : Nat) : Int) := by rw [addK_eq, IntKind.wrap_u16]; omega
    have hl := hlen i 0
    have e3 : upI 0 i ++ [(i : Int)] = upI 0 (i + 1) := by rw [upI_succ, Int.zero_add]
    rw [e2]
    have H := ih (i + 1) (by omega)
    rw [← e3] at H
    exact Again.mk (brt (by omega) (by
      repeat' first
        | refine ndd (by omega) ?_
      exact evFuelR H (by omega)))
theorem sAll_lin (args : List SA) (st : St) : Lin (sAll args st) := by
  intro k h
  unfold sAll at h ⊢
  split at h
  · exact (Lin.need (Lin.branch (Lin.ret _ _) (Lin.ret _ _))) k h
  · exact h.elim
theorem all_sum : SumOk Try.prog 46 sAll := by
  refine sumOk_of cxAl_ok sAll_lin fun args st k h => ?_
  unfold sAll at h
  split at h
  · rename_i m w kk T xs
    obtain ⟨h1, hK⟩ := need_iff.1 h
    have h1 := of_decide_eq_true h1
    refine ⟨m.toNat + 60, ?_⟩
    show evCall cxAl (ev cxAl (m.toNat + 60)) 46 [.one (.ref 0), .one (iv .i64 m)] [some (.own w kk T 1 (.ints .u16 xs))] k
    rw [t_al]
    refine brd (fun g => ?_) (fun g => ?_)
    · rcases branch_or hK with ⟨_, h⟩ | ⟨e, _⟩
      · exact h
      · have := of_decide_eq_false e; omega
    · rcases branch_or hK with ⟨e, _⟩ | ⟨_, h⟩
      · have := of_decide_eq_true e; omega
      · have e : IntKind.wrap .u16 m = ((m.toNat : Nat) : Int) := by rw [IntKind.wrap_u16]; omega
        rw [e]
        exact al_loop w kk T xs m.toNat 0 m.toNat (by omega) k h m.toNat 0 (by omega)
  · exact h.elim
end Go.Ev
namespace Go.Ev
open Go Go.Proofs Go.Spec
attribute [local irreducible] ev evCall branch need again
theorem namesR : namesB Try.prog = true := by kernel_rfl
theorem mixedR : Try.prog.follows .mixedOrders = true := by kernel_rfl
theorem cxGh_ok : CxOk Try.prog cxGh := mkCx_ok namesR mixedR (by intro x h; cases h)
theorem hasG_sum : SumOk Try.prog 36 sHasG := by
  refine sumOk_of cxGh_ok ?_ fun args st k h => ?_
  · intro args st k h
    unfold sHasG at h ⊢
    split at h
    · exact Lin.ret _ _ k h
    · exact h.elim
  · unfold sHasG at h
    split at h
    · rename_i tsn w cum w2 xs bs cl
      refine ⟨60, Eq.mpr (t_hasG w w2 cum tsn cl xs bs 0 k) ?_⟩
      unfold hasB at h
      refine br (fun e => ?_) (fun e => ?_)
      · rw [e] at h; exact h
      rw [e] at h
      refine br (fun e2 => ?_) (fun e2 => ?_)
      · rw [e2] at h; exact h
      rw [e2] at h
      refine br (fun e3 => ?_) (fun e3 => ?_)
      · rw [Bool.not_eq_true'] at e3; rw [e3] at h; exact h
      · rw [Bool.not_eq_false'] at e3; rw [e3] at h; exact h
    · exact h.elim
theorem cxGa_ok : CxOk Try.prog cxGa := mkCx_ok namesR mixedR (by
  intro x h
  simp only [List.mem_cons, List.not_mem_nil, or_false] at h
  subst h
  exact hasG_sum)
theorem adv_loop {k : SV → St → Prop} {cl : Nat} : ∀ (m : Nat) (cum : Int) (xs bs : List Int) (L : Nat), xs.length ≤ m → m ≤ L → k (.sa (.one (iv .u8 0))) [setO (adv m cum xs bs).1 1, mapS (adv m cum xs bs).2.1 (adv m cum xs bs).2.2 cl] →
    ev cxGa (L + 54) 2 37 (codeAt Try.prog 37 [1, 1, 1, 1, 1, 0]) (frm 71 [(0, (.sa (.one (SC.ptr 0 0 0))))]) [setO cum 1, mapS xs bs cl] (kBlock 0 (kRet (Cx.P cxGa) [(ResultVar.tmp 4)] 2 k)) := by
  intro m
  induction m with
  | zero =>
    intro cum xs bs L hm hL hk
    refine Eq.mpr (t_addS ..) (Again.mk (brf (by omega) ?_))
    exact hk
  | succ m ih =>
    intro cum xs bs L hm hL hk
    obtain ⟨L, rfl⟩ : ∃ L', L = L' + 1 := ⟨L - 1, by omega⟩
    unfold adv at hk
    refine Eq.mpr (t_addS ..) (Again.mk (brd (fun e => ?_) (fun e => ?_)))
    · rw [decide_eq_true e] at hk
      repeat' refine brt e ?_
      exact ih _ _ _ L (by rw [List.length_eraseIdx]; split <;> omega) (by omega) hk
    · rw [decide_eq_false e] at hk
      exact hk
theorem addG_sum : SumOk Try.prog 37 sAddG := by
  refine sumOk_of cxGa_ok ?_ fun args st k h => ?_
  · intro args st k h
    unfold sAddG at h ⊢
    split at h
    · exact (Lin.need (Lin.ret _ _)) k h
    · exact h.elim
  · unfold sAddG at h
    split at h
    · rename_i tsn cum xs bs cl
      obtain ⟨h1, h⟩ := need_iff.1 h
      obtain ⟨h1, h2⟩ := Bool.and_eq_true_iff.1 h1
      obtain ⟨h2, h3⟩ := of_decide_eq_true h2
      rw [Bool.not_eq_true'] at h1
      refine ⟨xs.length + 1 + 60, Eq.mpr (t_addG ..) ?_⟩
      refine br (fun e => by rw [h1] at e; cases e) fun _ => ?_
      refine brf (by omega) ?_
      have hx : ¬ idxI tsn xs < xs.length := fun e => by unfold hasB at h1; rw [decide_eq_true e] at h1; cases h1
      refine brf hx ?_
      exact adv_loop (xs.length + 1) cum (xs ++ [tsn]) (bs ++ [(cl : Int)]) (xs.length + 1) (by simp) (by omega) h
    · exact h.elim
end Go.Ev
namespace Go.Ev
open Go Go.Proofs Go.Spec
attribute [local irreducible] ev evCall branch need again
theorem beq_eq {a b : Nat} (h : Nat.beq a b = true) : a = b := Nat.eq_of_beq_eq_true h
theorem rdDo_spec {b d : Nat} {st : St} {f : Int → Option (Int × Int) → St → Prop} (h : rdDo b d st f) : ∃ ex kp r, st = doW b d ex kp r ∧ f ex kp r := by
  unfold rdDo at h
  split at h
  · split at h
    · rename_i hb
      obtain ⟨h1, h2⟩ := Bool.and_eq_true_iff.1 hb
      have h1 := beq_eq h1
      have h2 := beq_eq h2
      subst h1 h2
      split at h
      · exact ⟨_, none, _, rfl, h⟩
      · split at h
        · rename_i hd
          have hd := beq_eq hd
          subst hd
          exact ⟨_, some (_, _), _, rfl, h⟩
        · exact h.elim
      · exact h.elim
    · exact h.elim
  · exact h.elim
theorem rdQu_spec {b : Nat} {st : St} {f : Int → Option (Int × Int × List Int × Int) → Int → Option (Int × Int) → St → Prop} (h : rdQu b st f) : ∃ nx o ex kp r, st = askW b nx o :: quW b o (doW b (b + 7 + 2 * nQ o) ex kp r) ∧ f nx o ex kp r := by
  unfold rdQu at h
  split at h
  · split at h
    · obtain ⟨ex, kp, r, rfl, h'⟩ := rdDo_spec h
      exact ⟨_, none, _, _, _, rfl, h'⟩
    · split at h
      · rename_i hp
        have hp := beq_eq hp
        subst hp
        split at h
        · rename_i hj
          have hj := beq_eq hj
          subst hj
          obtain ⟨ex, kp, r, rfl, h'⟩ := rdDo_spec h
          exact ⟨_, some (_, _, _, _), _, _, _, rfl, h'⟩
        · exact h.elim
      · exact h.elim
    · exact h.elim
  · exact h.elim
theorem rdSd_spec {b : Nat} {st : St} {f : Sr → St → Prop} (h : rdSd b st f) : ∃ s r, st = sideW b s r ∧ f s r := by
  unfold rdSd at h
  split at h
  · split at h
    · split at h
      · split at h
        · rename_i hb
          simp only [Bool.and_eq_true] at hb
          obtain ⟨h1, h2, h3, h4, h6, h5⟩ := hb
          have h1 := beq_eq h1
          have h2 := beq_eq h2
          have h3 := beq_eq h3
          have h4 := beq_eq h4
          have h5 := beq_eq h5
          have h6 := beq_eq h6
          subst h1 h2 h3 h4 h5 h6
          obtain ⟨nx, o, ex, kp, r, rfl, h'⟩ := rdQu_spec h
          split at h'
          · rename_i h7
            have h7 := beq_eq h7
            subst h7
            exact ⟨⟨_, _, _, _, _, _, _, nx, ex, o, kp⟩, r, rfl, h'⟩
          · exact h'.elim
        · exact h.elim
      · exact h.elim
    · exact h.elim
  · exact h.elim
theorem rdSd_mk3 {s : Sr} {r : St} {f : Sr → St → Prop} : rdSd 3 (sideW 3 s r) f = f s r := by
  rcases s with ⟨os, ps, qs, cum, zs, bs, cl, nx, ex, _ | ⟨n, kd, ss, mo⟩, _ | ⟨rn, ra⟩⟩ <;> rfl
theorem rdSd_mk0 {s : Sr} {r : St} {f : Sr → St → Prop} : rdSd 0 (sideW 0 s r) f = f s r := by
  rcases s with ⟨os, ps, qs, cum, zs, bs, cl, nx, ex, _ | ⟨n, kd, ss, mo⟩, _ | ⟨rn, ra⟩⟩ <;> rfl
theorem lin_last {r : St} {f : (SV → St → Prop) → Prop} (hf : Lin f) : Lin (fun k => lastW r (f k)) := by
  intro k h
  cases r with
  | nil => exact hf k h
  | cons x r => exact h.elim
theorem lin3 {st : St} {F : Sr → St → (SV → St → Prop) → Prop} (hF : ∀ s r, Lin (F s r)) : Lin (fun k => rdSd 3 st fun s r => F s r k) := by
  intro k h
  obtain ⟨s, r, rfl, h'⟩ := rdSd_spec h
  obtain ⟨v, st', h1, h2⟩ := hF s r k h'
  refine ⟨v, st', h1, fun k2 hk => ?_⟩
  show rdSd 3 (sideW 3 s r) fun s r => F s r k2
  rw [rdSd_mk3]; exact h2 k2 hk
theorem lin0 {st : St} {F : Sr → St → (SV → St → Prop) → Prop} (hF : ∀ s r, Lin (F s r)) : Lin (fun k => rdSd 0 st fun s r => F s r k) := by
  intro k h
  obtain ⟨s, r, rfl, h'⟩ := rdSd_spec h
  obtain ⟨v, st', h1, h2⟩ := hF s r k h'
  refine ⟨v, st', h1, fun k2 hk => ?_⟩
  show rdSd 0 (sideW 0 s r) fun s r => F s r k2
  rw [rdSd_mk0]; exact h2 k2 hk
theorem allLt_at {n : Nat} {xs : List Int} (h : allLt n xs = true) {i : Nat} (hi : i < xs.length) : 0 ≤ xs.getD i 0 ∧ xs.getD i 0 < n := by
  rw [List.getD_eq_getElem?_getD, List.getElem?_eq_getElem hi]
  exact of_decide_eq_true (List.all_eq_true.1 h _ (List.getElem_mem hi))
theorem cxIm_ok : CxOk Try.prog cxIm := mkCx_ok namesR mixedR (by intro x h; cases h)
theorem im_loop {s : Sr} {w : Bool} {kk : MK} {T : TypeId} {xs : List Int} {M : Nat} (hl : xs.length ≤ 1000000) (hp : s.ps.length ≤ 1000000) (hu : allLt s.ps.length xs = true) {k : SV → St → Prop} (hk : k (.sa (.one (iv .i64 (idxOp s.ps xs 0)))) (mayS w kk T xs s)) :
    ∀ (rem i L : Nat), i + rem = xs.length → rem ≤ L → idxOp s.ps (xs.drop i) i = idxOp s.ps xs 0 → ev cxIm (L + 56) (3 + nW s) 57 (codeAt Try.prog 57 [1, 0, 1, 0]) (frm 19 [(0, (.sa (.one (SC.ref 0)))), (1, (.sa (.one (SC.ref 1)))), (7, (.sa (.one (iv .i64 ((xs.length : Nat) : Int))))), (8, (.sa (.one (iv .i64 (i : Int)))))]) (mayS w kk T xs s) (kBlock 0 (kSeq (ev cxIm (M + 58) (3 + nW s) 57 (codeAt Try.prog 57 [1, 1])) (kRet (Cx.P cxIm) [(ResultVar.tmp 4)] (3 + nW s) k))) := by
  have out : ∀ r : Int, r = idxOp s.ps xs 0 → k (.sa (.one (iv .i64 r))) (mayS w kk T xs s) := fun r e => e ▸ hk
  intro rem
  induction rem with
  | zero =>
    intro i L h1 hL h2
    refine Eq.mpr (t_imS ..) (Again.mk (brf (by omega) (out _ ?_)))
    rw [← h2, List.drop_of_length_le (by omega)]
    rfl
  | succ rem ih =>
    intro i L h1 hL h2
    obtain ⟨L, rfl⟩ : ∃ L', L = L' + 1 := ⟨L - 1, by omega⟩
    refine Eq.mpr (t_imS ..) (Again.mk ?_)
    have e1 : 0 + ((i : Nat) : Int).toNat = i := by omega
    have e2 : addK .i64 (i : Int) 1 = ((i + 1 : Nat) : Int) := by rw [add64 (by omega)]; omega
    have hx := allLt_at hu (i := i) (by omega)
    rw [e1, e2]
    rw [drop_getD (by omega), idxOp] at h2
    generalize xs.getD i 0 = x at hx h2 ⊢
    have e3 : 0 + x.toNat = x.toNat := by omega
    rw [e3]
    refine brt (by omega) (ndd (by omega) (ndd (by omega) (ndd (by omega) (ndd (by omega) (ndd (by omega) (ndd (by omega) (brd (fun g => out _ ?_) (fun g => ?_))))))))
    · rw [decide_eq_true g] at h2
      exact h2
    · rw [decide_eq_false g] at h2
      exact ih (i + 1) L (by omega) (by omega) h2
theorem sIfM_lin (args : List SA) (st : St) : Lin (sIfM args st) := by
  intro k h
  unfold sIfM at h ⊢
  split at h
  · exact lin3 (fun s r => Lin.need (lin_last (Lin.ret _ _))) k h
  · exact h.elim
theorem ifM_sum : SumOk Try.prog 57 sIfM := by
  refine sumOk_of cxIm_ok sIfM_lin fun args st k h => ?_
  unfold sIfM at h
  split at h
  · rename_i w kk T xs rest
    obtain ⟨s, r, rfl, h'⟩ := rdSd_spec h
    cases r with
    | cons x r => exact (need_iff.1 h').2.elim
    | nil =>
    obtain ⟨h1, hK⟩ := need_iff.1 h'
    rw [Bool.and_eq_true_iff] at h1
    have h2 := of_decide_eq_true h1.1
    refine ⟨xs.length + 60, Eq.mpr (t_im s w kk T xs xs.length k) ?_⟩
    exact im_loop h2.2 h2.1 h1.2 hK xs.length 0 xs.length (by omega) (Nat.le_refl _) rfl
  · exact h.elim
theorem cxCm_ok : CxOk Try.prog cxCm := mkCx_ok namesR mixedR (by
  intro y h
  simp only [List.mem_cons, List.not_mem_nil, or_false] at h
  subst h
  exact ifM_sum)
theorem sCoM_lin (args : List SA) (st : St) : Lin (sCoM args st) := by
  intro k h
  unfold sCoM at h ⊢
  split at h
  · exact lin3 (fun s r => Lin.need (lin_last (Lin.ret _ _))) k h
  · exact h.elim
theorem coM_sum : SumOk Try.prog 53 sCoM := by
  refine sumOk_of cxCm_ok sCoM_lin fun args st k h => ?_
  unfold sCoM at h
  split at h
  · rename_i w kk T xs rest
    obtain ⟨s, r, rfl, h'⟩ := rdSd_spec h
    cases r with
    | cons x r => exact (need_iff.1 h').2.elim
    | nil =>
    obtain ⟨h1, hK⟩ := need_iff.1 h'
    exact ⟨30, Eq.mpr (t_cm s w kk T xs k) (nd h1 hK)⟩
  · exact h.elim
end Go.Ev
namespace Go.Ev
open Go Go.Proofs Go.Spec
attribute [local irreducible] ev evCall branch need again
theorem take_getD {xs : List Int} {i : Nat} (h : i < xs.length) : xs.take (i + 1) = xs.take i ++ [xs.getD i 0] := by
  rw [List.take_add_one, List.getD_eq_getElem?_getD, List.getElem?_eq_getElem h]
  rfl
theorem cxIx_ok : CxOk Try.prog cxIx := mkCx_ok (by kernel_rfl) (by kernel_rfl) (by simp)
theorem idx_loop (xs : List Int) (x : Int) (c M : Nat) (hl : xs.length ≤ 1000000) (k : SV → St → Prop) (hk : k (.sa (.one (iv .i64 (idxL x xs 0)))) [rd16 xs]) :
    ∀ (rem i : Nat), i + rem = xs.length → idxL x (xs.drop i) i = idxL x xs 0 → ev cxIx (rem + c + 36) 1 56 (codeAt Try.prog 56 [1, 0, 1, 0]) (frm 19 [(0, (.sa (.one (SC.ref 0)))), (1, (.sa (.one (iv .u16 x)))), (7, (.sa (.one (iv .i64 ((xs.length : Nat) : Int))))), (8, (.sa (.one (iv .i64 (i : Int)))))]) [some (.own false .ext 0 1 (.ints .u16 xs))] (kBlock 0 (kSeq (ev cxIx (M + 38) 1 56 (codeAt Try.prog 56 [1, 1])) (kRet (Cx.P cxIx) [(ResultVar.tmp 4)] 1 k))) := by
  have out : ∀ r : Int, r = idxL x xs 0 → k (.sa (.one (iv .i64 r))) [rd16 xs] := fun r e => e ▸ hk
  intro rem
  induction rem with
  | zero =>
    intro i h1 h2
    rw [t_idxS]
    refine Again.mk (brf (by omega) (out _ ?_))
    rw [← h2, List.drop_of_length_le (by omega)]
    rfl
  | succ rem ih =>
    intro i h1 h2
    rw [show rem + 1 + c + 36 = (rem + 1 + c) + 36 from rfl, t_idxS]
    have e1 : 0 + ((i : Nat) : Int).toNat = i := by omega
    have e2 : addK .i64 (i : Int) 1 = ((i + 1 : Nat) : Int) := by rw [add64 (by omega)]; omega
    rw [e1, e2]
    rw [drop_getD (by omega), idxL] at h2
    refine Again.mk (brt (by omega) (ndd (by omega) (ndd (by omega) (ndd (by omega) (br (fun e => out _ ?_) (fun e => ?_))))))
    · rw [e] at h2; exact h2
    · rw [e] at h2
      exact evFuelR (ih (i + 1) (by omega) (by simpa using h2)) (by omega)
theorem fIdx_lin (vas : List VA) : Lin (fIdx vas) := by
  intro k h
  unfold fIdx at h ⊢
  split at h
  · exact (Lin.need (Lin.ret _ _)) k h
  · exact h.elim
theorem idx_sum : SumOk Try.prog 56 sIdx := by
  refine pureSum_ok cxIx_ok fIdx_lin fun vas K h => ?_
  unfold fIdx at h
  split at h
  · rename_i xs x
    obtain ⟨h1, hK⟩ := need_iff.1 h
    have h1 := of_decide_eq_true h1
    refine ⟨xs.length + 40, ?_⟩
    show evCall cxIx (ev cxIx (xs.length + 40)) 56 [.one (.ref 0), .one (iv .u16 x)] [rd16 xs] (pureK 1 K)
    rw [t_idx]
    exact idx_loop xs x 0 xs.length h1 (pureK 1 K) hK xs.length 0 (by omega) rfl
  · exact h.elim
theorem idxL_pos (x : Int) : ∀ (l : List Int) (i : Int), 0 ≤ i → (idxL x l i ≥ 0 ↔ x ∈ l)
  | [], i, _ => by simp [idxL]
  | a :: r, i, h => by
    rw [idxL]
    cases e : eqK x a with
    | true => rw [eqK_t] at e; simp [e]; exact h
    | false =>
      rw [eqK_f] at e
      simp only [List.mem_cons, e, false_or]
      exact idxL_pos x r (i + 1) (by omega)
theorem has_idx (xs : List Int) (x : Int) : decide (idxL x xs 0 ≥ 0) = hasL xs x := by
  unfold hasL
  rw [Bool.eq_iff_iff, decide_eq_true_iff, idxL_pos x xs 0 (by omega), List.contains_iff_mem]
theorem cxHa_ok : CxOk Try.prog cxHa := mkCx_ok (by kernel_rfl) (by kernel_rfl) (by
  intro y h
  simp only [List.mem_cons, List.not_mem_nil, or_false] at h
  subst h
  exact idx_sum)
theorem fHas_lin (vas : List VA) : Lin (fHas vas) := by
  intro k h
  unfold fHas at h ⊢
  split at h
  · exact (Lin.need (Lin.ret _ _)) k h
  · exact h.elim
theorem has_sum : SumOk Try.prog 50 sHas := by
  refine pureSum_ok cxHa_ok fHas_lin fun vas K h => ?_
  unfold fHas at h
  split at h
  · rename_i xs x
    obtain ⟨h1, hK⟩ := need_iff.1 h
    have h1 := of_decide_eq_true h1
    refine ⟨20, ?_⟩
    show evCall cxHa (ev cxHa 20) 50 [.one (.ref 0), .one (iv .u16 x)] [rd16 xs] (pureK 1 K)
    rw [t_has xs x 0, List.take_length, has_idx]
    exact ndd (by omega) (ndd (by omega) hK)
  · exact h.elim
end Go.Ev
namespace Go.Ev
open Go Go.Proofs Go.Spec
attribute [local irreducible] ev evCall branch need again
theorem getD_take_eq {xs ys : List Int} (hl : xs.length = ys.length) {i : Nat} (h : i < xs.length) (ht : xs.take i = ys.take i) (he : xs.getD i 0 = ys.getD i 0) : xs.take (i + 1) = ys.take (i + 1) := by
  rw [take_getD h, take_getD (by omega), ht, he]
theorem ne_of_getD {xs ys : List Int} {i : Nat} (he : xs.getD i 0 ≠ ys.getD i 0) : xs ≠ ys := fun e => he (by rw [e])
theorem cxEq_ok : CxOk Try.prog cxEq := mkCx_ok (by kernel_rfl) (by kernel_rfl) (by simp)
theorem eq_loop (xs ys : List Int) (c M : Nat) (hl : xs.length ≤ 1000000) (hxy : xs.length = ys.length) (k : SV → St → Prop) (hk : k (.sa (.one (bv (eqLL xs ys)))) [rd16 xs, rd16 ys]) :
    ∀ (rem i : Nat), i + rem = xs.length → xs.take i = ys.take i → ev cxEq (rem + c + 35) 2 22 (codeAt Try.prog 22 [1, 1, 0, 1, 0]) (frm 26 [(0, (.sa (.one (SC.ref 0)))), (1, (.sa (.one (SC.ref 1)))), (12, (.sa (.one (iv .i64 ((xs.length : Nat) : Int))))), (13, (.sa (.one (iv .i64 (i : Int)))))]) [some (.own false .ext 0 1 (.ints .u16 xs)), some (.own false .ext 0 1 (.ints .u16 ys))] (kBlock 0 (kSeq (ev cxEq (M + 37) 2 22 (codeAt Try.prog 22 [1, 1, 1])) (kRet (Cx.P cxEq) [(ResultVar.tmp 4)] 2 k))) := by
  have out : ∀ r : Bool, r = eqLL xs ys → k (.sa (.one (bv r))) [rd16 xs, rd16 ys] := fun r e => e ▸ hk
  intro rem
  induction rem with
  | zero =>
    intro i h1 h2
    rw [t_eqS]
    refine Again.mk (brf (by omega) (out _ ?_))
    rw [List.take_of_length_le (by omega), List.take_of_length_le (by omega)] at h2
    exact (decide_eq_true h2).symm
  | succ rem ih =>
    intro i h1 h2
    rw [show rem + 1 + c + 35 = (rem + 1 + c) + 35 from rfl, t_eqS]
    have e1 : 0 + ((i : Nat) : Int).toNat = i := by omega
    have e2 : addK .i64 (i : Int) 1 = ((i + 1 : Nat) : Int) := by rw [add64 (by omega)]; omega
    rw [e1, e2]
    refine Again.mk (brt (by omega) (ndd (by omega) (ndd (by omega) (ndd (by omega) (ndd (by omega) (ndd (by omega) (ndd (by omega) (br (fun e => out _ ?_) (fun e => ?_)))))))))
    · rw [Bool.not_eq_true', eqK_f] at e
      exact (decide_eq_false (ne_of_getD e)).symm
    · rw [Bool.not_eq_false', eqK_t] at e
      exact evFuelR (ih (i + 1) (by omega) (getD_take_eq hxy (by omega) h2 e)) (by omega)
theorem fEql_lin (vas : List VA) : Lin (fEql vas) := by
  intro k h
  unfold fEql at h ⊢
  split at h
  · exact (Lin.need (Lin.ret _ _)) k h
  · exact h.elim
theorem eql_sum : SumOk Try.prog 22 sEql := by
  refine pureSum_ok cxEq_ok fEql_lin fun vas K h => ?_
  unfold fEql at h
  split at h
  · rename_i xs ys
    obtain ⟨h1, hK⟩ := need_iff.1 h
    have h1 := of_decide_eq_true h1
    refine ⟨xs.length + 40, ?_⟩
    show evCall cxEq (ev cxEq (xs.length + 40)) 22 [.one (.ref 0), .one (.ref 1)] [rd16 xs, rd16 ys] (pureK 2 K)
    rw [t_eq]
    refine br (fun e => ?_) (fun e => ?_)
    · rw [Bool.not_eq_true', eqK_f] at e
      have : eqLL xs ys = false := decide_eq_false fun h => e (by rw [h])
      rw [this] at hK
      exact hK
    · rw [Bool.not_eq_false', eqK_t] at e
      exact eq_loop xs ys 0 xs.length h1.1 (by omega) (pureK 2 K) hK xs.length 0 (by omega) rfl
  · exact h.elim
end Go.Ev
namespace Go.Ev
open Go Go.Proofs
attribute [local irreducible] ev evCall branch need again
theorem cxCl16_ok : CxOk Try.prog cxCl16 := mkCx_ok (by kernel_rfl) (by kernel_rfl) (by simp)
theorem fClone16_lin (vas : List VA) : Lin (fClone16 vas) := by
  intro k h
  unfold fClone16 at h ⊢
  split at h
  · obtain ⟨h1, h⟩ := need_iff.1 h
    exact ⟨_, _, h, fun k2 hk => need_iff.2 ⟨h1, hk⟩⟩
  · exact h.elim
theorem clone16_sum : SumOk Try.prog 40 sClone16 := by
  refine pureSum_okN cxCl16_ok 32 fClone16_lin ?_ ?_ ?_
  · intro vas K h
    unfold fClone16 at h
    split at h
    · exact ⟨_, rfl⟩
    · exact h.elim
  · intro a c K h
    refine ⟨40, ?_⟩
    obtain ⟨_, h⟩ := need_iff.1 h
    cases a with
    | none => rw [t_clone16n]; exact h
    | some a => rw [t_clone16e]; exact h
  · intro x xs K h
    refine ⟨40, ?_⟩
    rw [t_clone16]
    obtain ⟨h1, h⟩ := need_iff.1 h
    have h1 := of_decide_eq_true h1
    rw [List.take_of_length_le (Nat.le_refl _)]
    exact ndd (by omega) (ndd (by omega) h)
end Go.Ev
