/- Proved: the given statement SipPartsSaid: the law SipParts answers true for every input, and the input reads as it did. No conditions. -/
import Derived.Test.YtofgnjmoncafoaaRows
import Derived.Test.YtofgnjmoncafoaaEvC
import Derived.Test.YtofgnjmoncafoaaSpE
import Derived.WalkKit
import Derived.ProofKit
import Derived.OpenShut
import Derived.ShutString
import Derived.ChangeOld
import Derived.SizedLaws
namespace Go.Proofs.Ytofgnjmoncafoaa.sipParts
open Go.ChangeShapes Go.WideShapes Go.ChangeAt Go.RowKit
open Go.ChangeMaps (open_string shut_string)

theorem own : ownKnob Try.prog.godebug = none := by kernel_rfl
theorem laidOut : laidOutB Try.prog = true := by kernel_rfl

/-- What came in as an argument of a layout. -/
def Came (W : World) (K : Go.Ev.AK) (v : Value) : Prop := ∃ va, Go.Ev.VOk W va v ∧ Go.Ev.VaOk (w := W) K va

open Go.Ev in
theorem walk (v0 v1 v2 : Value) (W : World) (h0 : Came W (.agg [.int .u8, .int .u8, .int .u8, .int .u8, .int .u8, .int .u8, .int .u8, .int .u8, .int .u8, .int .u8, .int .u8, .int .u8, .int .u8, .int .u8, .int .u8, .int .u8]) v0) (h1 : Came W (.one (.data .u8)) v1) (h2 : Came W (.one (.data .u16)) v2) :
    Calls Try.prog 4 #[v0, v1, v2] W fun e w' => e = .returned (.bool true) ∧ Below W.heap.size W w' := by
  obtain ⟨va0, o0, s0⟩ := h0
  obtain ⟨va1, o1, s1⟩ := h1
  obtain ⟨va2, o2, s2⟩ := h2
  match va0, s0 with
  | .a (.agg [_, _, _, _, _, _, _, _, _, _, _, _, _, _, _, _]), ⟨⟨k0, rfl, w0⟩, ⟨k1, rfl, w1⟩, ⟨k2, rfl, w2⟩, ⟨k3, rfl, w3⟩, ⟨k4, rfl, w4⟩, ⟨k5, rfl, w5⟩, ⟨k6, rfl, w6⟩, ⟨k7, rfl, w7⟩, ⟨k8, rfl, w8⟩, ⟨k9, rfl, w9⟩, ⟨ka, rfl, wa⟩, ⟨kb, rfl, wb⟩, ⟨kc, rfl, wc⟩, ⟨kd, rfl, wd⟩, ⟨ke, rfl, we⟩, ⟨kf, rfl, wf⟩, _⟩ =>
    match va1, s1 with
    | .a (.one _), ⟨xs, rfl, _, hb⟩ =>
      match va2, s2 with
      | .a (.one _), ⟨cs, rfl, _, hc⟩ =>
        obtain ⟨N, hN⟩ := parts_run k0 k1 k2 k3 k4 k5 k6 k7 k8 k9 ka kb kc kd ke kf (key_bytes (by simp [w0, w1, w2, w3, w4, w5, w6, w7, w8, w9, wa, wb, wc, wd, we, wf])) xs cs (bytes_of hb) (fun c h => by have := hc c h; simpa [Lit.wf, IntKind.min, IntKind.max, IntKind.signed, IntKind.bits] using this) (fun v _ => v = .sa (.one (.raw (.bool true)))) (fun _ => rfl)
        exact args_top cxS_ok (vas := [_, _, _]) (vals := [v0, v1, v2]) ⟨o0, o1, o2, trivial⟩ hN (fun _ _ h => h)

set_option maxRecDepth 100000 in
theorem lifted (os : Os) (started : os.Started) (H : Type) (enc : TypeId × Value → H) :
    ReturnsInHanded {} Try.checked os 4 .any (Rows.sipPartsSpec.pre6 enc Try.prog Try.f4 Rows.sipPartsRow.domain false) (Rows.sipPartsSpec.post enc Try.prog Try.f4 false true false false) := by
  refine returnsInHanded_of_change_sized (C := Try.checked) own started (by kernel_rfl) Try.func4
    (ChangeSpec.witness6 (enc := enc) (C := Try.checked) false ⟨#[], #[.agg #[.int .u8 0, .int .u8 0, .int .u8 0, .int .u8 0, .int .u8 0, .int .u8 0, .int .u8 0, .int .u8 0, .int .u8 0, .int .u8 0, .int .u8 0, .int .u8 0, .int .u8 0, .int .u8 0, .int .u8 0, .int .u8 0], .slice none 0 0, .slice none 0 0], []⟩ 8 (by kernel_rfl) (by kernel_rfl) (by kernel_rfl) (by kernel_rfl)) ?_
  intro W base args ds gs before hval0 hW hcnd hz _
  have hval : ∀ (j : Nat) t v, Try.f4.params[j]? = some t → args[j]? = some v → Value.okWide Try.prog W .any base t v := hval0
  have hW' := hW
  obtain ⟨p, q, hA0, hV, rfl, hfz, hnd⟩ := hW
  have hA : DataW.TrodAll enc Try.prog W 0 (fun _ => true) true Try.f4.params.toList args.toList ds p := hA0
  rw [Try.params4] at hA hval hz
  obtain ⟨v0, vs0, d0, ds0, p0, q0, hargs, rfl, rfl, h0, r0⟩ := trodAll_cons hA
  obtain ⟨v1, vs1, d1, ds1, p1, q1, rfl, rfl, rfl, h1, r1⟩ := trodAll_cons r0
  obtain ⟨v2, vs2, d2, ds2, p2, q2, rfl, rfl, rfl, h2, r2⟩ := trodAll_cons r1
  obtain ⟨rfl, rfl, rfl⟩ := trodAll_nil r2
  obtain rfl : args = #[v0, v1, v2] := by cases args; simp_all
  obtain ⟨rfl, rfl⟩ := trodVars_none hV
  have k0 := h0
  have lt0 : ∀ x ∈ p0, x.block < W.heap.size := by obtain ⟨m, hm⟩ := k0; exact DataW.trod_lt m _ _ _ hm
  have z0 : Go.Ev.Sz Try.prog 23 d0 := fun n hn => Nat.le_trans (of_decide_eq_true (List.all_eq_true.1 hz n (DataW.weights_mem_each (j := 0) rfl rfl n hn))) (by decide)
  have o0 := Go.Ev.open_arg (K := (Go.Ev.AK.agg [(Go.Ev.CK.int .u8), (Go.Ev.CK.int .u8), (Go.Ev.CK.int .u8), (Go.Ev.CK.int .u8), (Go.Ev.CK.int .u8), (Go.Ev.CK.int .u8), (Go.Ev.CK.int .u8), (Go.Ev.CK.int .u8), (Go.Ev.CK.int .u8), (Go.Ev.CK.int .u8), (Go.Ev.CK.int .u8), (Go.Ev.CK.int .u8), (Go.Ev.CK.int .u8), (Go.Ev.CK.int .u8), (Go.Ev.CK.int .u8), (Go.Ev.CK.int .u8)])) (by kernel_rfl) (hval 0 23 v0 rfl rfl) h0 z0
  have k1 := h1
  have lt1 : ∀ x ∈ p1, x.block < W.heap.size := by obtain ⟨m, hm⟩ := k1; exact DataW.trod_lt m _ _ _ hm
  have z1 : Go.Ev.Sz Try.prog 26 d1 := fun n hn => Nat.le_trans (of_decide_eq_true (List.all_eq_true.1 hz n (DataW.weights_mem_each (j := 1) rfl rfl n hn))) (by decide)
  have o1 := Go.Ev.open_arg (K := (Go.Ev.AK.one (Go.Ev.CK.data .u8))) (by kernel_rfl) (hval 1 26 v1 rfl rfl) h1 z1
  have k2 := h2
  have lt2 : ∀ x ∈ p2, x.block < W.heap.size := by obtain ⟨m, hm⟩ := k2; exact DataW.trod_lt m _ _ _ hm
  have z2 : Go.Ev.Sz Try.prog 31 d2 := fun n hn => Nat.le_trans (of_decide_eq_true (List.all_eq_true.1 hz n (DataW.weights_mem_each (j := 2) rfl rfl n hn))) (by decide)
  have o2 := Go.Ev.open_arg (K := (Go.Ev.AK.one (Go.Ev.CK.data .u16))) (by kernel_rfl) (hval 2 31 v2 rfl rfl) h2 z2
  clear hA0 hval0 hz
  refine (walk v0 v1 v2 W o0 o1 o2).mono fun e W' ⟨he, bel⟩ => ?_
  subst he
  exact ⟨_, rfl, _, _, _, [], _, [], hW', trodAll_mk1 (shut_bool Try.underlying4 _), (trodAll_cons_mk (Below.trod laidOut (by kernel_rfl) (of_decide_eq_true (by kernel_rfl)) k0 bel lt0) (trodAll_cons_mk (Below.trod laidOut (by kernel_rfl) (of_decide_eq_true (by kernel_rfl)) k1 bel lt1) (trodAll_cons_mk (Below.trod laidOut (by kernel_rfl) (of_decide_eq_true (by kernel_rfl)) k2 bel lt2) trodAll_mk0))), rfl, bel.frame _, fun h => by cases h⟩

theorem over : Rows.sipPartsRow.holds Try.pinned (OpenSpec.ofChange Rows.sipPartsSpec) :=
  OpenClaim.holds_of_wide 4 Try.f4 rfl rfl rfl rfl rfl rfl rfl ⟨rfl, rfl, rfl, rfl, rfl⟩ rfl rfl rfl rfl rfl (by kernel_rfl) Try.func4 (by kernel_rfl)
    (of_decide_eq_true (by kernel_rfl)) (by unfold Func.isWrapper; first | (rw [if_pos (by decide +kernel)]; kernel_rfl) | (rw [if_neg (by decide +kernel)]; exact ⟨rfl, rfl⟩))
    (fun os started H enc _ => lifted os started H enc)

theorem proved : Rows.SipPartsSaid := over
#print axioms proved
end Go.Proofs.Ytofgnjmoncafoaa.sipParts

