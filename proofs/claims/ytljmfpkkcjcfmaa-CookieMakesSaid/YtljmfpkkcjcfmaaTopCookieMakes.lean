/- Proved: the given statement CookieMakesSaid: the law CookieMakes answers true for every input, and the input reads as it did. No conditions. -/
import Derived.Test.YtljmfpkkcjcfmaaRows
import Derived.Test.YtljmfpkkcjcfmaaEvC
import Derived.Test.YtljmfpkkcjcfmaaLkC
import Derived.WalkKit
import Derived.ProofKit
import Derived.OpenShut
import Derived.ShutString
import Derived.ChangeOld
import Derived.SizedLaws
namespace Go.Proofs.Ytljmfpkkcjcfmaa.cookieMakes
open Go.ChangeShapes Go.WideShapes Go.ChangeAt Go.RowKit
open Go.ChangeMaps (open_string shut_string)

theorem own : ownKnob Try.prog.godebug = none := by kernel_rfl
theorem laidOut : laidOutB Try.prog = true := by kernel_rfl

/-- What came in as an argument of a layout. -/
def Came (W : World) (K : Go.Ev.AK) (v : Value) : Prop := ∃ va, Go.Ev.VOk W va v ∧ Go.Ev.VaOk (w := W) K va

theorem wf_32 {x : Int} (h : (Lit.int .u32 x).wf = true) : 0 ≤ x ∧ x ≤ 4294967295 := by simpa [Lit.wf, IntKind.min, IntKind.max, IntKind.signed, IntKind.bits] using h
theorem wf_16 {x : Int} (h : (Lit.int .u16 x).wf = true) : 0 ≤ x ∧ x ≤ 65535 := by simpa [Lit.wf, IntKind.min, IntKind.max, IntKind.signed, IntKind.bits] using h
theorem wf_64 {x : Int} (h : (Lit.int .u64 x).wf = true) : 0 ≤ x ∧ x ≤ 18446744073709551615 := by simpa [Lit.wf, IntKind.min, IntKind.max, IntKind.signed, IntKind.bits] using h
theorem wf_32l {l : List Int} (h : ∀ x ∈ l, (Lit.int .u32 x).wf = true) : ∀ x ∈ l, 0 ≤ x ∧ x ≤ 4294967295 := fun x hx => wf_32 (h x hx)
theorem wf_8l {l : List Int} (h : ∀ x ∈ l, (Lit.int .u8 x).wf = true) : Go.Spec.Bytes l := fun x hx => by
  have := h x hx
  simpa [Lit.wf, IntKind.min, IntKind.max, IntKind.signed, IntKind.bits] using this
open Go.Ev in
theorem walk (v0 v1 v2 : Value) (W : World) (h0 : Came W (.agg [.int .u8, .int .u8, .int .u8, .int .u8, .int .u8, .int .u8, .int .u8, .int .u8, .int .u8, .int .u8, .int .u8, .int .u8, .int .u8, .int .u8, .int .u8, .int .u8]) v0) (h1 : Came W (.agg [.int .u32, .int .u32, .int .u32, .int .u32, .int .u32, .int .u16, .int .u16, .data .u32, .int .u32, .int .u32, .int .u64]) v1) (h2 : Came W (.agg [.int .u32, .int .u32, .int .u32, .int .u32, .int .u32, .int .u16, .int .u16, .data .u32, .int .u32, .int .u32, .int .u64]) v2) :
    Calls Try.prog 4 #[v0, v1, v2] W fun e w' => e = .returned (.bool true) ∧ Below W.heap.size W w' := by
  obtain ⟨va0, o0, s0⟩ := h0
  obtain ⟨va1, o1, s1⟩ := h1
  obtain ⟨va2, o2, s2⟩ := h2
  match va0, s0 with
  | .a (.agg [_, _, _, _, _, _, _, _, _, _, _, _, _, _, _, _]), ⟨⟨k0, rfl, wk0⟩, ⟨k1, rfl, wk1⟩, ⟨k2, rfl, wk2⟩, ⟨k3, rfl, wk3⟩, ⟨k4, rfl, wk4⟩, ⟨k5, rfl, wk5⟩, ⟨k6, rfl, wk6⟩, ⟨k7, rfl, wk7⟩, ⟨k8, rfl, wk8⟩, ⟨k9, rfl, wk9⟩, ⟨ka, rfl, wka⟩, ⟨kb, rfl, wkb⟩, ⟨kc, rfl, wkc⟩, ⟨kd, rfl, wkd⟩, ⟨ke, rfl, wke⟩, ⟨kf, rfl, wkf⟩, _⟩ =>
    match va1, s1 with
    | .a (.agg [_, _, _, _, _, _, _, _, _, _, _]), ⟨⟨a0, rfl, wa0⟩, ⟨a1, rfl, wa1⟩, ⟨a2, rfl, wa2⟩, ⟨a3, rfl, wa3⟩, ⟨a4, rfl, wa4⟩, ⟨a5, rfl, wa5⟩, ⟨a6, rfl, wa6⟩, ⟨xs, rfl, lxs, wxs⟩, ⟨a8, rfl, wa8⟩, ⟨a9, rfl, wa9⟩, ⟨a10, rfl, wa10⟩, _⟩ =>
      match va2, s2 with
      | .a (.agg [_, _, _, _, _, _, _, _, _, _, _]), ⟨⟨b0, rfl, wb0⟩, ⟨b1, rfl, wb1⟩, ⟨b2, rfl, wb2⟩, ⟨b3, rfl, wb3⟩, ⟨b4, rfl, wb4⟩, ⟨b5, rfl, wb5⟩, ⟨b6, rfl, wb6⟩, ⟨ys, rfl, lys, wys⟩, ⟨b8, rfl, wb8⟩, ⟨b9, rfl, wb9⟩, ⟨b10, rfl, wb10⟩, _⟩ =>
        obtain ⟨N, hN⟩ := makes_run k0 k1 k2 k3 k4 k5 k6 k7 k8 k9 ka kb kc kd ke kf (wf_8l (by simp [wk0, wk1, wk2, wk3, wk4, wk5, wk6, wk7, wk8, wk9, wka, wkb, wkc, wkd, wke, wkf])) a0 a1 a2 a3 a4 a5 a6 a8 a9 a10 xs b0 b1 b2 b3 b4 b5 b6 b8 b9 b10 ys ⟨wf_32 wa0, wf_32 wa1, wf_32 wa2, wf_32 wa3, wf_32 wa4, wf_16 wa5, wf_16 wa6, wf_32l wxs, wf_32 wa8, wf_32 wa9, wf_64 wa10⟩ ⟨wf_32 wb0, wf_32 wb1, wf_32 wb2, wf_32 wb3, wf_32 wb4, wf_16 wb5, wf_16 wb6, wf_32l wys, wf_32 wb8, wf_32 wb9, wf_64 wb10⟩ (fun v _ => v = .sa (.one (.raw (.bool true)))) (fun _ => rfl)
        exact args_top cxL_ok (vas := [_, _, _]) (vals := [v0, v1, v2]) ⟨o0, o1, o2, trivial⟩ hN (fun _ _ h => h)

set_option maxRecDepth 100000 in
theorem lifted (os : Os) (started : os.Started) (H : Type) (enc : TypeId × Value → H) :
    ReturnsInHanded {} Try.checked os 4 .any (Rows.cookieMakesSpec.pre6 enc Try.prog Try.f4 Rows.cookieMakesRow.domain false) (Rows.cookieMakesSpec.post enc Try.prog Try.f4 false true false false) := by
  refine returnsInHanded_of_change_sized (C := Try.checked) own started (by kernel_rfl) Try.func4
    (ChangeSpec.witness6 (enc := enc) (C := Try.checked) false ⟨#[], #[.agg #[.int .u8 0, .int .u8 0, .int .u8 0, .int .u8 0, .int .u8 0, .int .u8 0, .int .u8 0, .int .u8 0, .int .u8 0, .int .u8 0, .int .u8 0, .int .u8 0, .int .u8 0, .int .u8 0, .int .u8 0, .int .u8 0], .agg #[.int .u32 0, .int .u32 0, .int .u32 0, .int .u32 0, .int .u32 0, .int .u16 0, .int .u16 0, .slice none 0 0, .int .u32 0, .int .u32 0, .int .u64 0], .agg #[.int .u32 0, .int .u32 0, .int .u32 0, .int .u32 0, .int .u32 0, .int .u16 0, .int .u16 0, .slice none 0 0, .int .u32 0, .int .u32 0, .int .u64 0]], []⟩ 8 (by kernel_rfl) (by kernel_rfl) (by kernel_rfl) (by kernel_rfl)) ?_
  intro W base args ds gs before hval0 hW hcnd hz _
  have hval : ∀ (j : Nat) t v, Try.f4.params[j]? = some t → args[j]? = some v → Value.okWide Try.prog W .any base t v := hval0
  have hW' := hW
  obtain ⟨p, q, hA0, hV, rfl, hfz, hnd⟩ := hW
  have hA : DataW.TrodAll enc Try.prog W 0 (fun _ => true) true Try.f4.params.toList args.toList ds p := hA0
  rw [Try.params4] at hA hval hz
  obtain ⟨v0, vs0, d0, ds0, p0, q0, hargs, rfl, rfl, h0, r0⟩ := trodAll_cons hA
  obtain ⟨v1, vs1, d1, ds1, p1, q1, rfl, rfl, rfl, h1, r1⟩ := trodAll_cons r0
  obtain ⟨v2, vs2, d2, ds2, p2, q2, rfl, rfl, rfl, h2, r2⟩ := trodAll_cons r1
  obtain ⟨rfl, rfl, rfl⟩ := trodAll_nil r2
  obtain rfl : args = #[v0, v1, v2] := by cases args; simp_all
  obtain ⟨rfl, rfl⟩ := trodVars_none hV
  have k0 := h0
  have lt0 : ∀ x ∈ p0, x.block < W.heap.size := by obtain ⟨m, hm⟩ := k0; exact DataW.trod_lt m _ _ _ hm
  have z0 : Go.Ev.Sz Try.prog 27 d0 := fun n hn => Nat.le_trans (of_decide_eq_true (List.all_eq_true.1 hz n (DataW.weights_mem_each (j := 0) rfl rfl n hn))) (by decide)
  have o0 := Go.Ev.open_arg (K := (Go.Ev.AK.agg [(Go.Ev.CK.int .u8), (Go.Ev.CK.int .u8), (Go.Ev.CK.int .u8), (Go.Ev.CK.int .u8), (Go.Ev.CK.int .u8), (Go.Ev.CK.int .u8), (Go.Ev.CK.int .u8), (Go.Ev.CK.int .u8), (Go.Ev.CK.int .u8), (Go.Ev.CK.int .u8), (Go.Ev.CK.int .u8), (Go.Ev.CK.int .u8), (Go.Ev.CK.int .u8), (Go.Ev.CK.int .u8), (Go.Ev.CK.int .u8), (Go.Ev.CK.int .u8)])) (by kernel_rfl) (hval 0 27 v0 rfl rfl) h0 z0
  have k1 := h1
  have lt1 : ∀ x ∈ p1, x.block < W.heap.size := by obtain ⟨m, hm⟩ := k1; exact DataW.trod_lt m _ _ _ hm
  have z1 : Go.Ev.Sz Try.prog 33 d1 := fun n hn => Nat.le_trans (of_decide_eq_true (List.all_eq_true.1 hz n (DataW.weights_mem_each (j := 1) rfl rfl n hn))) (by decide)
  have o1 := Go.Ev.open_arg (K := (Go.Ev.AK.agg [(Go.Ev.CK.int .u32), (Go.Ev.CK.int .u32), (Go.Ev.CK.int .u32), (Go.Ev.CK.int .u32), (Go.Ev.CK.int .u32), (Go.Ev.CK.int .u16), (Go.Ev.CK.int .u16), (Go.Ev.CK.data .u32), (Go.Ev.CK.int .u32), (Go.Ev.CK.int .u32), (Go.Ev.CK.int .u64)])) (by kernel_rfl) (hval 1 33 v1 rfl rfl) h1 z1
  have k2 := h2
  have lt2 : ∀ x ∈ p2, x.block < W.heap.size := by obtain ⟨m, hm⟩ := k2; exact DataW.trod_lt m _ _ _ hm
  have z2 : Go.Ev.Sz Try.prog 33 d2 := fun n hn => Nat.le_trans (of_decide_eq_true (List.all_eq_true.1 hz n (DataW.weights_mem_each (j := 2) rfl rfl n hn))) (by decide)
  have o2 := Go.Ev.open_arg (K := (Go.Ev.AK.agg [(Go.Ev.CK.int .u32), (Go.Ev.CK.int .u32), (Go.Ev.CK.int .u32), (Go.Ev.CK.int .u32), (Go.Ev.CK.int .u32), (Go.Ev.CK.int .u16), (Go.Ev.CK.int .u16), (Go.Ev.CK.data .u32), (Go.Ev.CK.int .u32), (Go.Ev.CK.int .u32), (Go.Ev.CK.int .u64)])) (by kernel_rfl) (hval 2 33 v2 rfl rfl) h2 z2
  clear hA0 hval0 hz
  refine (walk v0 v1 v2 W o0 o1 o2).mono fun e W' ⟨he, bel⟩ => ?_
  subst he
  exact ⟨_, rfl, _, _, _, [], _, [], hW', trodAll_mk1 (shut_bool Try.underlying4 _), (trodAll_cons_mk (Below.trod laidOut (by kernel_rfl) (of_decide_eq_true (by kernel_rfl)) k0 bel lt0) (trodAll_cons_mk (Below.trod laidOut (by kernel_rfl) (of_decide_eq_true (by kernel_rfl)) k1 bel lt1) (trodAll_cons_mk (Below.trod laidOut (by kernel_rfl) (of_decide_eq_true (by kernel_rfl)) k2 bel lt2) trodAll_mk0))), rfl, bel.frame _, fun h => by cases h⟩

theorem over : Rows.cookieMakesRow.holds Try.pinned (OpenSpec.ofChange Rows.cookieMakesSpec) :=
  OpenClaim.holds_of_wide 4 Try.f4 rfl rfl rfl rfl rfl rfl rfl ⟨rfl, rfl, rfl, rfl, rfl⟩ rfl rfl rfl rfl rfl (by kernel_rfl) Try.func4 (by kernel_rfl)
    (of_decide_eq_true (by kernel_rfl)) (by unfold Func.isWrapper; first | (rw [if_pos (by decide +kernel)]; kernel_rfl) | (rw [if_neg (by decide +kernel)]; exact ⟨rfl, rfl⟩))
    (fun os started H enc _ => lifted os started H enc)

theorem proved : Rows.CookieMakesSaid := over
#print axioms proved
end Go.Proofs.Ytljmfpkkcjcfmaa.cookieMakes

