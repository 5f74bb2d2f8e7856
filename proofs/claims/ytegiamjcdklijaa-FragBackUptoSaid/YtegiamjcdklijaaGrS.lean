/- Are pieces more than are gone through? What the function does. No conditions. -/
import Derived.Test.YtegiamjcdklijaaGrT0
import Derived.Test.YtegiamjcdklijaaGrT1
import Derived.Test.YtegiamjcdklijaaEvD
set_option linter.unusedVariables false
namespace Go.Ev
open Go Go.Proofs Go.Spec
attribute [local irreducible] ev evCall branch need again
theorem namesG : namesB Try.prog = true := by kernel_rfl
theorem mixedG : Try.prog.follows .mixedOrders = true := by kernel_rfl
theorem cxGr_ok : CxOk Try.prog cxGr := mkCx_ok namesG mixedG (by simp)
theorem evFuelG {c : Cx} {N N' m f : Nat} {co : Code} {fr : Fr} {st : St} {k : Exit → Fr → St → Prop} (h : ev c N m f co fr st k) (e : N = N') : ev c N' m f co fr st k := e ▸ h
theorem drop_getD' {α : Type} {d : α} {xs : List α} {i : Nat} (h : i < xs.length) : xs.drop i = xs.getD i d :: xs.drop (i + 1) := by
  rw [List.drop_eq_getElem_cons h, List.getD_eq_getElem?_getD, List.getElem?_eq_getElem h]
  rfl
theorem gr_loop (w : Bool) (kk : MK) (T n : Nat) (ts fs ss ns ps : List Int) (ds : List (List Int)) (c M : Nat) (k : SV → St → Prop) (hn : n ≤ 140737488355328) (hl : ds.length = n) (hd : ∀ x ∈ ds, x.length ≤ 140737488355328)
    (hk : k (.sa (.one (bv (greatB n ds)))) [some (.own w kk T 6 (.tab n [.ints .u32 ts, .ints .u8 fs, .ints .u16 ss, .ints .u16 ns, .ints .u32 ps, .data .u8 ds]))]) :
    ∀ (rem i a : Nat), i + rem = n → a ≤ 20000 → greatL n (ds.drop i) a = greatB n ds → ev cxGr (rem + c + 55) 1 10 (codeAt Try.prog 10 [1, 1, 0, 1, 0]) (frm 24 [(0, (.sa (.one (SC.ref 0)))), (3, (.sa (.one (iv .i64 (a : Int))))), (4, (.sa (.one (iv .i64 (i : Int)))))]) [(some (SO.own w kk T 6 (Ct.tab n [(Col.ints .u32 ts), (Col.ints .u8 fs), (Col.ints .u16 ss), (Col.ints .u16 ns), (Col.ints .u32 ps), (Col.data .u8 ds)])))] (kBlock 0 (kSeq (ev cxGr (M + 57) 1 10 (codeAt Try.prog 10 [1, 1, 1])) (kRet (Cx.P cxGr) [(ResultVar.tmp 2)] 1 k))) := by
  intro rem
  induction rem with
  | zero =>
    intro i a h1 h2 h3
    have : i = n := by omega
    subst this
    rw [t_greatS]
    refine Again.mk (brf (by omega) ?_)
    rw [List.drop_of_length_le (by omega)] at h3
    unfold greatL at h3
    rw [← h3] at hk
    have e : decide (((i : Nat) : Int) > 60) = decide (i > 60) := by
      by_cases h : i > 60
      · rw [decide_eq_true h, decide_eq_true (by omega)]
      · rw [decide_eq_false h, decide_eq_false (by omega)]
    rw [e]
    exact hk
  | succ rem ih =>
    intro i a h1 h2 h3
    rw [show rem + 1 + c + 55 = (rem + 1 + c) + 55 from rfl, t_greatS]
    have e1 : 0 + ((i : Nat) : Int).toNat = i := by omega
    rw [e1]
    have hi : i < ds.length := by omega
    have hx := hd _ (List.getElem_mem hi)
    rw [drop_getD' (d := []) hi, greatL] at h3
    have hx : (ds.getD i []).length ≤ 140737488355328 := by rw [List.getD_eq_getElem?_getD, List.getElem?_eq_getElem hi]; exact hx
    generalize ds.getD i [] = x at hx h3 ⊢
    have e2 : addK .i64 (a : Int) ((x.length : Nat) : Int) = ((a + x.length : Nat) : Int) := by rw [add64 (by omega)]; omega
    have e3 : addK .i64 (i : Int) 1 = ((i + 1 : Nat) : Int) := by rw [add64 (by omega)]; omega
    rw [e2, e3]
    refine Again.mk (brt (by omega) (ndd (by omega) (ndd (by omega) (ndd (by omega) (brd (fun g => ?_) (fun g => ?_))))))
    · rw [decide_eq_true (by omega)] at h3
      dsimp only at h3
      rw [← h3] at hk
      exact hk
    · rw [decide_eq_false (by omega)] at h3
      exact evFuelG (ih (i + 1) (a + x.length) (by omega) (by omega) h3) (by omega)
theorem sGreat_lin (args : List SA) (st : St) : Lin (sGreat args st) := by
  intro k h
  unfold sGreat at h ⊢
  split at h
  · exact (Lin.need (Lin.ret _ _)) k h
  · exact h.elim
theorem great_sum : SumOk Try.prog 10 sGreat := by
  refine sumOk_of cxGr_ok sGreat_lin fun args st k h => ?_
  unfold sGreat at h
  split at h
  · rename_i w kk T n ts fs ss ns ps ds
    obtain ⟨h1, hK⟩ := need_iff.1 h
    obtain ⟨h1, h2, h3⟩ := of_decide_eq_true h1
    refine ⟨n + 60, ?_⟩
    rw [t_great]
    exact gr_loop w kk T n ts fs ss ns ps ds 0 n k h1 h2 h3 hK n 0 0 (by omega) (by omega) rfl
  · exact h.elim
theorem great_no {n : Nat} : ∀ {ds : List (List Int)} {a : Nat}, greatL n ds a = false → n ≤ 60 ∧ a + (ds.map List.length).sum ≤ 20000 ∨ ds = [] ∧ n ≤ 60
  | [], a, h => .inr ⟨rfl, by unfold greatL at h; have := of_decide_eq_false h; omega⟩
  | x :: r, a, h => by
    unfold greatL at h
    split at h
    · cases h
    · rename_i hg
      have hg := of_decide_eq_false hg
      rcases great_no h with ⟨h1, h2⟩ | ⟨rfl, h1⟩
      · exact .inl ⟨h1, by simp only [List.map_cons, List.sum_cons]; omega⟩
      · exact .inl ⟨h1, by simp; omega⟩
theorem great_false {n : Nat} {ds : List (List Int)} (h : greatB n ds = false) : n ≤ 60 ∧ (ds.map List.length).sum ≤ 20000 := by
  rcases great_no h with ⟨h1, h2⟩ | ⟨rfl, h1⟩
  · exact ⟨h1, by omega⟩
  · exact ⟨h1, by simp⟩
end Go.Ev
