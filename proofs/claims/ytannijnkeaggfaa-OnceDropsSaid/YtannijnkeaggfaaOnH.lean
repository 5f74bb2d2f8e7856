/- The law OnceDrops: the context's summaries hold. No conditions. -/
import Derived.Test.YtannijnkeaggfaaOnG
import Derived.Test.YtannijnkeaggfaaWkO
namespace Go.Ev
open Go Go.Proofs Go.Spec
theorem true_sum : SumOk Try.prog 6 sTrue := by
  refine sumOk_of cxK_ok ?_ ?_
  · intro args st k h
    unfold sTrue at h ⊢
    split at h
    · exact Lin.ret _ _ k h
    · exact h.elim
  · intro args st k h
    unfold sTrue at h
    split at h
    · exact ⟨3000, by rw [t_works]; exact h⟩
    · exact h.elim
theorem cxP_ok : CxOk Try.prog cxP := mkCx_ok namesS mixedS (by
  intro x h
  simp only [List.mem_cons, List.not_mem_nil, or_false] at h
  rcases h with rfl | rfl | rfl | rfl
  · exact true_sum
  · exact woQ_sum
  · exact woR_sum
  · exact bef_sum)
theorem getD_wf {l : List Int} {lo hi : Int} (h0 : lo ≤ 0 ∧ 0 ≤ hi) (h : ∀ x ∈ l, lo ≤ x ∧ x ≤ hi) (j : Nat) : lo ≤ l.getD j 0 ∧ l.getD j 0 ≤ hi := by
  rw [List.getD_eq_getElem?_getD]
  by_cases hj : j < l.length
  · rw [List.getElem?_eq_getElem hj]; exact h _ (List.getElem_mem hj)
  · rw [List.getElem?_eq_none (by omega)]; exact h0
theorem wfI {k : IntKind} {x lo hi : Int} (h : (Lit.int k x).wf = true) (h1 : k.min = lo) (h2 : k.max = hi) : lo ≤ x ∧ x ≤ hi := by
  simp only [Lit.wf, Bool.and_eq_true, decide_eq_true_eq] at h
  rw [h1, h2] at h
  exact h
attribute [local irreducible] ev evCall
theorem drop_ex (n0 : Int) (n : Nat) (ks ns qs : List Int) (hn0 : (Lit.int .u32 n0).wf = true) (hk : ∀ x ∈ ks, (Lit.int .u8 x).wf = true) (hn : ∀ x ∈ ns, (Lit.int .u16 x).wf = true)
    (k : SV → St → Prop) (hK : ∀ st, k (.sa (.one (bv true))) st) : ∃ N, evCall cxP (ev cxP N) 5 [.one (iv .u32 n0), .one (.ref 0)] [some (.own false .ext 0 3 (.tab n [.ints .u8 ks, .ints .u16 ns, .ints .u32 qs]))] k := by
  have h1 : ∀ j, 0 ≤ ks.getD j 0 ∧ ks.getD j 0 ≤ 255 := getD_wf (by omega) (fun y hy => wfI (hk y hy) rfl rfl)
  have h2 : ∀ j, 0 ≤ ns.getD j 0 ∧ ns.getD j 0 ≤ 65535 := getD_wf (by omega) (fun y hy => wfI (hn y hy) rfl rfl)
  exact ⟨_, drop_run (wfI hn0 rfl rfl) (fun j => (h1 j).1) h2 (hK _) 0⟩
end Go.Ev
