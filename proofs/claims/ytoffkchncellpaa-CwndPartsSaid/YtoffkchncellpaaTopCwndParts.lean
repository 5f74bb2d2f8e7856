/- Proved: the given statement CwndPartsSaid: the law CwndParts answers true for every input, and the input reads as it did. No conditions. -/
import Derived.Test.YtoffkchncellpaaRows
import Derived.Test.YtoffkchncellpaaEvB
import Derived.Test.YtoffkchncellpaaCwG
import Derived.WalkKit
import Derived.ProofKit
import Derived.OpenShut
import Derived.ShutString
import Derived.ChangeOld
namespace Go.Proofs.Ytoffkchncellpaa.cwndParts
open Go.ChangeShapes Go.WideShapes Go.ChangeAt Go.RowKit
open Go.ChangeMaps (open_string shut_string)

theorem own : ownKnob Try.prog.godebug = none := by kernel_rfl
theorem laidOut : laidOutB Try.prog = true := by kernel_rfl

/-- What came in as a slice of numbers. -/
def Came (W : World) (v : Value) : Prop :=
  (∃ o, v = .slice o 0 0) ∨ ∃ (d0 : Go.Ev.Den) (len cap : Nat) (cols : List Go.Ev.Col), v = .slice (some ⟨d0.blk, d0.off, none⟩) len cap ∧ len ≤ cap ∧ cap ≤ maxLen ∧ Go.Ev.ColsOk len [some .u16] cols ∧ d0.val = .nilFunc ∧
      ∀ α, Go.Ev.Good α W d0 (.mem false .ext 37 1 (.tab len cols))

open Go.Ev in
theorem walk (a0 : Int) (v1 : Value) (W : World) (_ : (Lit.int .i64 a0).wf = true) (h : Came W v1) : Calls Try.prog 4 #[.int .i64 a0, v1] W fun e w' => e = .returned (.bool true) ∧ Below W.heap.size W w' := by
  rcases h with ⟨o, rfl⟩ | ⟨d0, len, cap, cols, rfl, hl, hm, hc, hv, hg⟩
  · obtain ⟨n, hn⟩ := lawPartsNil a0 o
    exact call_top cx2_ok (R.empty W) (args := [.one (iv .i64 a0), .one (.raw (.slice o 0 0))]) (vals := [.int .i64 a0, .slice o 0 0]) ⟨rfl, rfl, trivial⟩ (noWr noWr_nil) hn (fun _ _ h => h)
  · match cols, hc with
    | [_], ⟨⟨A, rfl, _, hA⟩, _⟩ =>
      obtain ⟨hR, hw⟩ := R.ext (R.empty W) noWr_nil hv hg
      obtain ⟨n, hn⟩ := lawParts a0 len cap A (fun x hx => by
        have := hA x hx
        simp [Lit.wf, IntKind.min, IntKind.max, IntKind.bits, IntKind.signed] at this
        omega)
      exact call_top cx2_ok hR (args := [.one (iv .i64 a0), .one (.sl 0 0 len (some cap))]) (vals := [.int .i64 a0, .slice (some ⟨d0.blk, d0.off, none⟩) len cap]) ⟨rfl, by simp [SA.rep, SC.val?, Al.add], trivial⟩ (noWr hw) hn (fun _ _ h => h)

set_option maxRecDepth 100000 in
theorem lifted (os : Os) (started : os.Started) (H : Type) (enc : TypeId × Value → H) :
    ReturnsInHanded {} Try.checked os 4 .any (Rows.cwndPartsSpec.pre6 enc Try.prog Try.f4 Rows.cwndPartsRow.domain false) (Rows.cwndPartsSpec.post enc Try.prog Try.f4 false true false false) := by
  refine returnsInHanded_of_change (C := Try.checked) own started (by kernel_rfl) Try.func4
    (ChangeSpec.witness6 (enc := enc) (C := Try.checked) false ⟨#[], #[.int .i64 0, .slice none 0 0], []⟩ 8 (by kernel_rfl) (by kernel_rfl) (by kernel_rfl) (by kernel_rfl)) ?_
  intro W base args ds gs before hval0 hW hcnd _
  have hval : ∀ (j : Nat) t v, Try.f4.params[j]? = some t → args[j]? = some v → Value.okWide Try.prog W .any base t v := hval0
  have hW' := hW
  obtain ⟨p, q, hA0, hV, rfl, hfz, hnd⟩ := hW
  have hA : DataW.TrodAll enc Try.prog W 0 (fun _ => true) true Try.f4.params.toList args.toList ds p := hA0
  rw [Try.params4] at hA hval
  obtain ⟨v0, vs0, d0, ds0, p0, q0, hargs, rfl, rfl, h0, r0⟩ := trodAll_cons hA
  obtain ⟨v1, vs1, d1, ds1, p1, q1, rfl, rfl, rfl, h1, r1⟩ := trodAll_cons r0
  obtain ⟨rfl, rfl, rfl⟩ := trodAll_nil r1
  obtain rfl : args = #[v0, v1] := by cases args; simp_all
  obtain ⟨rfl, rfl⟩ := trodVars_none hV
  obtain ⟨a0, rfl, rfl, rfl, w0⟩ := open_int Try.underlying3 (hval 0 3 v0 rfl rfl) h0
  have k1 := h1
  have lt1 : ∀ x ∈ p1, x.block < W.heap.size := by obtain ⟨m, hm⟩ := k1; exact DataW.trod_lt m _ _ _ hm
  have o1 := Go.Ev.open_rows Try.underlying35 (by kernel_rfl : Go.Ev.flatKinds Try.prog 37 = some [some .u16]) (by decide) (okWide_slice Try.underlying35 (hval 1 35 v1 rfl rfl)) h1
  clear hA0 hval0
  refine (walk a0 v1 W w0 o1).mono fun e W' ⟨he, bel⟩ => ?_
  subst he
  exact ⟨_, rfl, _, _, _, [], _, [], hW', trodAll_mk1 (shut_bool Try.underlying4 _), (trodAll_cons_mk (shut_int Try.underlying3 w0) (trodAll_cons_mk (Below.trod laidOut (by kernel_rfl) (of_decide_eq_true (by kernel_rfl)) k1 bel lt1) trodAll_mk0)), rfl, bel.frame _, fun h => by cases h⟩

theorem over : Rows.cwndPartsRow.holds Try.pinned (OpenSpec.ofChange Rows.cwndPartsSpec) :=
  OpenClaim.holds_of_wide 4 Try.f4 rfl rfl rfl rfl rfl rfl rfl ⟨rfl, rfl, rfl, rfl, rfl⟩ rfl rfl rfl rfl rfl (by kernel_rfl) Try.func4 (by kernel_rfl)
    (of_decide_eq_true (by kernel_rfl)) (by unfold Func.isWrapper; first | (rw [if_pos (by decide +kernel)]; kernel_rfl) | (rw [if_neg (by decide +kernel)]; exact ⟨rfl, rfl⟩))
    (fun os started H enc _ => lifted os started H enc)

theorem proved : Rows.CwndPartsSaid := over
#print axioms proved
end Go.Proofs.Ytoffkchncellpaa.cwndParts

