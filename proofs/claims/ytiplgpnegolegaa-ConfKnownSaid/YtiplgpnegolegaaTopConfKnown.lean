/- Proved: the given statement ConfKnownSaid: the law ConfKnown answers true, whatever the world is. No conditions. -/
import Derived.Test.YtiplgpnegolegaaRows
import Derived.Test.YtiplgpnegolegaaEvD
import Derived.Test.YtiplgpnegolegaaDoS
import Derived.WalkKit
import Derived.ProofKit
import Derived.OpenShut
import Derived.ShutString
import Derived.ChangeOld
namespace Go.Proofs.Ytiplgpnegolegaa.confKnown
open Go.ChangeShapes Go.WideShapes Go.ChangeAt Go.RowKit

theorem own : ownKnob Try.prog.godebug = none := by kernel_rfl
theorem names : Go.Ev.namesB Try.prog = true := by kernel_rfl
theorem mixed : Try.prog.follows .mixedOrders = true := by kernel_rfl

def wr : FuncId → Nat := fun f => match Go.Ev.hasN f [3,4,5,6,7,9,17,18,19,21,26,31,32,36,37,38,40,46,50,51] with | true => 2 | false => 0
open Go.Ev in
noncomputable def cxK : Cx := mkCxF Try.prog [(9, Go.Ev.sDo)] wr
open Go.Ev in
theorem cxK_ok : CxOk Try.prog cxK := mkCxF_ok names mixed (by
  intro x h
  simp only [List.mem_cons, List.not_mem_nil, or_false] at h
  subst h
  exact Go.Ev.do_sum)
open Go.Ev in
/-- The whole run, by the kernel. -/
theorem run : evCall (cxK) (ev (cxK) 3000) 4 [] [] (fun v _ => v = .sa (.one (.raw (.bool true)))) = (SV.sa (.one (.raw (.bool true))) = SV.sa (.one (.raw (.bool true)))) := by kernel_rfl

theorem walk (w : World) : Calls Try.prog 4 #[] w fun e w' => e = .returned (.bool true) ∧ Below w.heap.size w w' :=
  Go.Ev.closed_cx cxK_ok run w

set_option maxRecDepth 100000 in
theorem lifted (os : Os) (started : os.Started) (H : Type) (enc : TypeId × Value → H) :
    ReturnsInHanded {} Try.checked os 4 .any (Rows.confKnownSpec.pre6 enc Try.prog Try.f4 Rows.confKnownRow.domain false) (Rows.confKnownSpec.post enc Try.prog Try.f4 false true false false) := by
  refine returnsInHanded_of_change (C := Try.checked) own started (by kernel_rfl) Try.func4
    (ChangeSpec.witness6 (enc := enc) (C := Try.checked) false ⟨#[], #[], []⟩ 8 (by kernel_rfl) (by kernel_rfl) (by kernel_rfl) (by kernel_rfl)) ?_
  intro W base args ds gs before hval0 hW hcnd _
  have hW' := hW
  obtain ⟨p, q, hA0, hV, rfl, hfz, hnd⟩ := hW
  have hA : DataW.TrodAll enc Try.prog W 0 (fun _ => true) true Try.f4.params.toList args.toList ds p := hA0
  rw [Try.params4] at hA
  obtain ⟨rfl, rfl, rfl⟩ := trodAll_none hA
  obtain ⟨rfl, rfl⟩ := trodVars_none hV
  clear hA0 hval0
  simp only [List.append_nil] at hW'
  refine (walk W).mono fun e W' ⟨he, bel⟩ => ?_
  subst he
  exact ⟨_, rfl, _, _, _, [], _, [], hW', trodAll_mk1 (shut_bool Try.underlying4 _), rfl, rfl, bel.frame _, fun h => by cases h⟩

theorem over : Rows.confKnownRow.holds Try.pinned (OpenSpec.ofChange Rows.confKnownSpec) :=
  OpenClaim.holds_of_wide 4 Try.f4 rfl rfl rfl rfl rfl rfl rfl ⟨rfl, rfl, rfl, rfl, rfl⟩ rfl rfl rfl rfl rfl (by kernel_rfl) Try.func4 (by kernel_rfl)
    (of_decide_eq_true (by kernel_rfl)) (by unfold Func.isWrapper; first | (rw [if_pos (by decide +kernel)]; kernel_rfl) | (rw [if_neg (by decide +kernel)]; exact ⟨rfl, rfl⟩))
    (fun os started H enc _ => lifted os started H enc)

theorem proved : Rows.ConfKnownSaid := over
#print axioms proved
end Go.Proofs.Ytiplgpnegolegaa.confKnown
