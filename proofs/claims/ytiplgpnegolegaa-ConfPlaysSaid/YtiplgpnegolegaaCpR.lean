/- ConfPlays: the run. No conditions. -/
import Derived.Test.YtiplgpnegolegaaCpS
set_option linter.unusedVariables false
set_option linter.unusedSimpArgs false
set_option maxHeartbeats 4000000
set_option maxRecDepth 100000
namespace Go.Ev
open Go Go.Proofs Go.Spec
attribute [local irreducible] ev evCall branch need again eqK addK subK doE doA doL hasL sameB okUs mayB mayR
theorem bnf {a b : Prop} (ha : a) : branch (Bool.not false) a b := br (fun _ => ha) (fun e => by cases e)
theorem cp_run (f g : Int) (n : Nat) (xs ys ks cs ds bs zs : List Int) (hu1 : okUs xs = true) (hu2 : okUs ys = true) (hks : ∀ j, 0 ≤ ks.getD j 0) (hcs : ∀ j, 0 ≤ cs.getD j 0) (hds : ∀ j, 0 ≤ ds.getD j 0) (hbs : ∀ j, 0 ≤ bs.getD j 0 ∧ bs.getD j 0 < 4294967296)
    (k : SV → St → Prop) (hT : ∀ st, k (.sa (.one (bv true))) st) :
    evCall cxCp (ev cxCp (n + 60)) 5 [.agg [iv .u32 f, .ref 0], .agg [iv .u32 g, .ref 1], .one (.ref 2)] [rd32 xs, rd32 ys, lsO n ks cs ds bs zs] k := by
  rw [t_cp0]
  simp only [List.take_length]
  refine brd (fun _ => hT _) (fun g1 => brd (fun _ => hT _) (fun g2 => brd (fun _ => hT _) (fun g3 => ?_)))
  have r1 := mayR_eq (f := f) hu1
  have r2 := mayR_eq (f := g) hu2
  rw [r1, r2]
  cases h1 : mayB f xs <;> cases h2 : mayB g ys
  all_goals
    (repeat' first
      | exact hT _
      | refine ndd (by omega) ?_
      | refine bnt rfl ?_
      | refine bnf ?_)
  exact (heads 0 (by omega) hks hcs hds hbs hT n 0 (by omega)).h00 f g 5 9 0 0 0 xs ys ⟨hu1, hu2, by omega, by omega, by omega, by omega, by omega, by omega, by omega, fun e => by cases e⟩
theorem cp_ex (f g : Int) (n : Nat) (xs ys ks cs ds bs zs : List Int) (hu1 : okUs xs = true) (hu2 : okUs ys = true) (hks : ∀ j, 0 ≤ ks.getD j 0) (hcs : ∀ j, 0 ≤ cs.getD j 0) (hds : ∀ j, 0 ≤ ds.getD j 0) (hbs : ∀ j, 0 ≤ bs.getD j 0 ∧ bs.getD j 0 < 4294967296)
    (k : SV → St → Prop) (hT : ∀ st, k (.sa (.one (bv true))) st) :
    ∃ N, evCall cxCp (ev cxCp N) 5 [.agg [iv .u32 f, .ref 0], .agg [iv .u32 g, .ref 1], .one (.ref 2)] [rd32 xs, rd32 ys, lsO n ks cs ds bs zs] k := ⟨_, cp_run f g n xs ys ks cs ds bs zs hu1 hu2 hks hcs hds hbs k hT⟩
end Go.Ev
