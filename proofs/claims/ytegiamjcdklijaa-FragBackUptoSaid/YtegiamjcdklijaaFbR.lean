/- The law FragBack, run whole. No conditions. -/
import Derived.Test.YtegiamjcdklijaaFbE
set_option linter.unusedVariables false
namespace Go.Ev
open Go Go.Proofs Go.Spec
attribute [local irreducible] ev evCall branch need again
theorem fb_run (x : Inp) (tu : List Int) (k : SV → St → Prop) (ht : 0 ≤ x.tsn ∧ x.tsn ≤ 4294967295) (hb : ∀ i, (x.ds.getD i []).length ≤ 4294967296) (hzm : ∀ i, x.zs.getD i 0 ≤ 9223372036854775807) (htu : ∀ i, 0 ≤ tu.getD i 0 ∧ tu.getD i 0 ≤ 65535) (hT : ∀ st, k (.sa (.one (bv true))) st) :
    ∃ N, evCall cxFb (ev cxFb N) 4 [.one (.ref 0), .one (iv .u32 x.tsn), .one (.ref 1)] [seO x.n x.ss x.us x.ps x.ds x.ns x.zs, tuO tu] k := by
  refine ⟨x.n + 5000000000 + 60, ?_⟩
  rw [t_fb]
  refine brd (fun _ => hT _) (fun h1 => brd (fun _ => hT _) (fun h2 => ?_))
  have e : tsnA x (x.st 0) = x.tsn := by
    show (x.tsn + ((0 : Nat) : Int)) % 4294967296 = x.tsn
    omega
  have h := fb_loop1 x tu (x.n + 5000000000) k (by omega) hb hzm hT (fun a b c => by
    have h3 := fb_loop3 x tu (x.n + 5000000000) k a htu (by omega) (fun l hl => by
      have h4 := fb_loop4 x tu (x.n + 5000000000) k a b c (by omega) hT l hl (x.st x.n) 0 [] 0 (x.n + 5000000000 - x.st x.n) (by omega) (kp_nil.congr fun y => ⟨False.elim, fun h => by have := h.1; simp at this⟩) (by simp) (by simp [lenD])
      rw [List.take_zero, lvT_nil] at h4
      unfold fb4 at h4 ⊢
      exact evFuel h4 (by omega)) tu.length 0 (List.range (x.st x.n)) (x.n + 5000000000 - tu.length) (by omega) (List.Perm.refl _)
    unfold fb3 at h3 ⊢
    exact evFuel h3 (by omega)) x.n 0 5000000000 (by omega) (by omega) (by show (0 : Nat) ≤ 60; omega) (fun g hg => absurd hg (Nat.not_lt_zero _)) (fun j hj => by omega)
  unfold fb1 sAll sInp at h
  rw [e] at h
  exact h
end Go.Ev
