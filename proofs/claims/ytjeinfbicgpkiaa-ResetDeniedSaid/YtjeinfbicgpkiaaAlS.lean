/- A wish's streams: of none all. What the function does. No conditions. -/
import Derived.Test.YtjeinfbicgpkiaaAlT0
import Derived.Test.YtjeinfbicgpkiaaAlT1
import Derived.Test.YtjeinfbicgpkiaaThS
set_option linter.unusedVariables false
set_option linter.unusedSimpArgs false
namespace Go.Ev
open Go Go.Proofs Go.Spec
attribute [local irreducible] ev evCall branch need again
theorem cxAl_ok : CxOk Try.prog cxAl := mkCx_ok (by kernel_rfl) (by kernel_rfl) (by simp)
theorem upI_succ : ∀ (c : Nat) (i : Int), upI i (c + 1) = upI i c ++ [i + c]
  | 0, i => by simp [upI]
  | c + 1, i => by
    rw [upI, upI_succ c (i + 1), upI]
    simp only [List.cons_append, List.cons.injEq, true_and]
    congr 2
    omega
theorem al_loop (w : Bool) (kk : MK) (T : TypeId) (xs : List Int) (n c M : Nat) (hn : n ≤ 65535) (k : SV → St → Prop) (hk : k (.sa (.one (.ref 1))) [some (.own w kk T 1 (.ints .u16 xs)), own16 (upI 0 n)]) :
    ∀ (rem i : Nat), i + rem = n → ev cxAl (rem + c + 54) 1 46 (codeAt Try.prog 46 [1, 1, 1, 0, 1, 0]) (frm 22 [(5, (.sa (.one (SC.ref 1)))), (12, (.sa (.one (iv .u16 (n : Int))))), (13, (.sa (.one (iv .u16 (i : Int)))))]) [some (.own w kk T 1 (.ints .u16 xs)), own16 (upI 0 i)] (kBlock 0 (kSeq (ev cxAl (M + 56) 1 46 (codeAt Try.prog 46 [1, 1, 1, 1])) (kRet (Cx.P cxAl) [(ResultVar.tmp 4)] 1 k))) := by
  have hlen : ∀ i : Nat, ∀ j : Int, (upI j i).length = i := by
    intro i
    induction i with
    | zero => intro j; rfl
    | succ i ih => intro j; rw [upI, List.length_cons, ih]
  intro rem
  induction rem with
  | zero =>
    intro i h1
    have h1 : i = n := by omega
    subst h1
    rw [t_alS]
    exact Again.mk (brf (by omega) hk)
  | succ rem ih =>
    intro i h1
    rw [show rem + 1 + c + 54 = (rem + 1 + c) + 54 from rfl, t_alS]
    have e2 : addK .u16 (i : Int) 1 = ((i + 1 : Nat) : Int) := by rw [addK_eq, IntKind.wrap_u16]; omega
    have hl := hlen i 0
    have e3 : upI 0 i ++ [(i : Int)] = upI 0 (i + 1) := by rw [upI_succ, Int.zero_add]
    rw [e2]
    have H := ih (i + 1) (by omega)
    rw [← e3] at H
    exact Again.mk (brt (by omega) (by
      repeat' first
        | refine ndd (by omega) ?_
      exact evFuelR H (by omega)))
theorem sAll_lin (args : List SA) (st : St) : Lin (sAll args st) := by
  intro k h
  unfold sAll at h ⊢
  split at h
  · exact (Lin.need (Lin.branch (Lin.ret _ _) (Lin.ret _ _))) k h
  · exact h.elim
theorem all_sum : SumOk Try.prog 46 sAll := by
  refine sumOk_of cxAl_ok sAll_lin fun args st k h => ?_
  unfold sAll at h
  split at h
  · rename_i m w kk T xs
    obtain ⟨h1, hK⟩ := need_iff.1 h
    have h1 := of_decide_eq_true h1
    refine ⟨m.toNat + 60, ?_⟩
    show evCall cxAl (ev cxAl (m.toNat + 60)) 46 [.one (.ref 0), .one (iv .i64 m)] [some (.own w kk T 1 (.ints .u16 xs))] k
    rw [t_al]
    refine brd (fun g => ?_) (fun g => ?_)
    · rcases branch_or hK with ⟨_, h⟩ | ⟨e, _⟩
      · exact h
      · have := of_decide_eq_false e; omega
    · rcases branch_or hK with ⟨e, _⟩ | ⟨_, h⟩
      · have := of_decide_eq_true e; omega
      · have e : IntKind.wrap .u16 m = ((m.toNat : Nat) : Int) := by rw [IntKind.wrap_u16]; omega
        rw [e]
        exact al_loop w kk T xs m.toNat 0 m.toNat (by omega) k h m.toNat 0 (by omega)
  · exact h.elim
end Go.Ev
