/- Proved: the given statement ResetOrderSaid: the law ResetOrder answers true for every input, and the input reads as it did. No conditions. -/
import Derived.Test.YtjeinfbicgpkiaaRows
import Derived.Test.YtjeinfbicgpkiaaEvD
import Derived.Test.YtjeinfbicgpkiaaRzF
import Derived.WalkKit
import Derived.ProofKit
import Derived.OpenShut
import Derived.ShutString
import Derived.ChangeOld
import Derived.SizedLaws
namespace Go.Proofs.Ytjeinfbicgpkiaa.resetOrder
open Go.ChangeShapes Go.WideShapes Go.ChangeAt Go.RowKit
open Go.ChangeMaps (open_string shut_string)

theorem own : ownKnob Try.prog.godebug = none := by kernel_rfl
theorem laidOut : laidOutB Try.prog = true := by kernel_rfl

/-- What came in as an argument of a layout. -/
def Came (W : World) (K : Go.Ev.AK) (v : Value) : Prop := ∃ va, Go.Ev.VOk W va v ∧ Go.EvU.VaOk (w := W) K va

theorem wf_8 {x : Int} (h : (Lit.int .u8 x).wf = true) : 0 ≤ x ∧ x ≤ 255 := by simpa [Lit.wf, IntKind.min, IntKind.max, IntKind.signed, IntKind.bits] using h
theorem wf_16 {x : Int} (h : (Lit.int .u16 x).wf = true) : 0 ≤ x ∧ x ≤ 65535 := by simpa [Lit.wf, IntKind.min, IntKind.max, IntKind.signed, IntKind.bits] using h
theorem wf_32 {x : Int} (h : (Lit.int .u32 x).wf = true) : 0 ≤ x ∧ x ≤ 4294967295 := by simpa [Lit.wf, IntKind.min, IntKind.max, IntKind.signed, IntKind.bits] using h
theorem wf_64 {x : Int} (h : (Lit.int .u64 x).wf = true) : 0 ≤ x ∧ x ≤ 18446744073709551615 := by simpa [Lit.wf, IntKind.min, IntKind.max, IntKind.signed, IntKind.bits] using h
theorem wf_i64 {x : Int} (h : (Lit.int .i64 x).wf = true) : -9223372036854775808 ≤ x ∧ x ≤ 9223372036854775807 := by simpa [Lit.wf, IntKind.min, IntKind.max, IntKind.signed, IntKind.bits] using h
theorem wf_8l {l : List Int} (h : ∀ x ∈ l, (Lit.int .u8 x).wf = true) : ∀ x ∈ l, 0 ≤ x ∧ x ≤ 255 := fun x hx => wf_8 (h x hx)
theorem wf_16l {l : List Int} (h : ∀ x ∈ l, (Lit.int .u16 x).wf = true) : ∀ x ∈ l, 0 ≤ x ∧ x ≤ 65535 := fun x hx => wf_16 (h x hx)
theorem wf_32l {l : List Int} (h : ∀ x ∈ l, (Lit.int .u32 x).wf = true) : ∀ x ∈ l, 0 ≤ x ∧ x ≤ 4294967295 := fun x hx => wf_32 (h x hx)
open Go.Ev in
theorem walk (v0 v1 v2 : Value) (W : World) (h0 : Came W (.one (.int .u16)) v0) (h1 : Came W (.one (.int .u32)) v1) (h2 : Came W (.rows [.int .u8, .int .u16, .int .u16, .int .u8, .data .u16, .int .u16]) v2) :
    Calls Try.prog 5 #[v0, v1, v2] W fun e w' => e = .returned (.bool true) ∧ Below W.heap.size W w' := by
  obtain ⟨va0, o0, s0⟩ := h0
  obtain ⟨va1, o1, s1⟩ := h1
  obtain ⟨va2, o2, s2⟩ := h2
  match va0, s0 with
  | .a (.one _), ⟨sn, rfl, wsn⟩ =>
    match va1, s1 with
    | .a (.one _), ⟨cu, rfl, wcu⟩ =>
      match va2, s2 with
      | .t _ _, ⟨n, [_, _, _, _, _, _], rfl, rfl, Ln, ⟨kds, rfl, Lkds, wkds⟩, ⟨ns, rfl, Lns, wns⟩, ⟨sids, rfl, Lsids, wsids⟩, ⟨wks, rfl, Lwks, wwks⟩, ⟨wss, rfl, Lwss, wwss⟩, ⟨wms, rfl, Lwms, wwms⟩, _⟩ =>
        obtain ⟨N, hN⟩ := ro_run sn cu n kds ns sids wks wss wms (wf_16 wsn) (wf_32 wcu) (wf_8l wkds) (wf_16l wns) (wf_16l wsids) (wf_16l wwms) (fun xs hx => ⟨(wwss xs hx).1, wf_16l (wwss xs hx).2⟩) (fun v _ => v = .sa (.one (.raw (.bool true)))) (fun _ => rfl)
        exact args_top cxRo_ok (vas := [_, _, _]) (vals := [v0, v1, v2]) ⟨o0, o1, o2, trivial⟩ hN (fun _ _ h => h)

set_option maxRecDepth 100000 in
theorem lifted (os : Os) (started : os.Started) (H : Type) (enc : TypeId × Value → H) :
    ReturnsInHanded {} Try.checked os 5 .any (Rows.resetOrderSpec.pre6 enc Try.prog Try.f5 Rows.resetOrderRow.domain false) (Rows.resetOrderSpec.post enc Try.prog Try.f5 false true false false) := by
  refine returnsInHanded_of_change_sized (C := Try.checked) own started (by kernel_rfl) Try.func5
    (ChangeSpec.witness6 (enc := enc) (C := Try.checked) false ⟨#[], #[.int .u16 0, .int .u32 0, .slice none 0 0], []⟩ 8 (by kernel_rfl) (by kernel_rfl) (by kernel_rfl) (by kernel_rfl)) ?_
  intro W base args ds gs before hval0 hW hcnd hz _
  have hval : ∀ (j : Nat) t v, Try.f5.params[j]? = some t → args[j]? = some v → Value.okWide Try.prog W .any base t v := hval0
  have hW' := hW
  obtain ⟨p, q, hA0, hV, rfl, hfz, hnd⟩ := hW
  have hA : DataW.TrodAll enc Try.prog W 0 (fun _ => true) true Try.f5.params.toList args.toList ds p := hA0
  rw [Try.params5] at hA hval hz
  obtain ⟨v0, vs0, d0, ds0, p0, q0, hargs, rfl, rfl, h0, r0⟩ := trodAll_cons hA
  obtain ⟨v1, vs1, d1, ds1, p1, q1, rfl, rfl, rfl, h1, r1⟩ := trodAll_cons r0
  obtain ⟨v2, vs2, d2, ds2, p2, q2, rfl, rfl, rfl, h2, r2⟩ := trodAll_cons r1
  obtain ⟨rfl, rfl, rfl⟩ := trodAll_nil r2
  obtain rfl : args = #[v0, v1, v2] := by cases args; simp_all
  obtain ⟨rfl, rfl⟩ := trodVars_none hV
  have k0 := h0
  have lt0 : ∀ x ∈ p0, x.block < W.heap.size := by obtain ⟨m, hm⟩ := k0; exact DataW.trod_lt m _ _ _ hm
  have z0 : Go.EvU.Sz Try.prog 22 d0 := fun n hn => Nat.le_trans (of_decide_eq_true (List.all_eq_true.1 hz n (DataW.weights_mem_each (j := 0) rfl rfl n hn))) (by decide)
  have o0 := Go.EvU.open_arg (K := (Go.Ev.AK.one (Go.Ev.CK.int .u16))) (by kernel_rfl) (hval 0 22 v0 rfl rfl) h0 z0
  have k1 := h1
  have lt1 : ∀ x ∈ p1, x.block < W.heap.size := by obtain ⟨m, hm⟩ := k1; exact DataW.trod_lt m _ _ _ hm
  have z1 : Go.EvU.Sz Try.prog 23 d1 := fun n hn => Nat.le_trans (of_decide_eq_true (List.all_eq_true.1 hz n (DataW.weights_mem_each (j := 1) rfl rfl n hn))) (by decide)
  have o1 := Go.EvU.open_arg (K := (Go.Ev.AK.one (Go.Ev.CK.int .u32))) (by kernel_rfl) (hval 1 23 v1 rfl rfl) h1 z1
  have k2 := h2
  have lt2 : ∀ x ∈ p2, x.block < W.heap.size := by obtain ⟨m, hm⟩ := k2; exact DataW.trod_lt m _ _ _ hm
  have z2 : Go.EvU.Sz Try.prog 67 d2 := fun n hn => Nat.le_trans (of_decide_eq_true (List.all_eq_true.1 hz n (DataW.weights_mem_each (j := 2) rfl rfl n hn))) (by decide)
  have o2 := Go.EvU.open_arg (K := (Go.Ev.AK.rows [(Go.Ev.CK.int .u8), (Go.Ev.CK.int .u16), (Go.Ev.CK.int .u16), (Go.Ev.CK.int .u8), (Go.Ev.CK.data .u16), (Go.Ev.CK.int .u16)])) (by kernel_rfl) (hval 2 67 v2 rfl rfl) h2 z2
  clear hA0 hval0 hz
  refine (walk v0 v1 v2 W o0 o1 o2).mono fun e W' ⟨he, bel⟩ => ?_
  subst he
  exact ⟨_, rfl, _, _, _, [], _, [], hW', trodAll_mk1 (shut_bool Try.underlying4 _), (trodAll_cons_mk (Below.trod laidOut (by kernel_rfl) (of_decide_eq_true (by kernel_rfl)) k0 bel lt0) (trodAll_cons_mk (Below.trod laidOut (by kernel_rfl) (of_decide_eq_true (by kernel_rfl)) k1 bel lt1) (trodAll_cons_mk (Below.trod laidOut (by kernel_rfl) (of_decide_eq_true (by kernel_rfl)) k2 bel lt2) trodAll_mk0))), rfl, bel.frame _, fun h => by cases h⟩

theorem over : Rows.resetOrderRow.holds Try.pinned (OpenSpec.ofChange Rows.resetOrderSpec) :=
  OpenClaim.holds_of_wide 5 Try.f5 rfl rfl rfl rfl rfl rfl rfl ⟨rfl, rfl, rfl, rfl, rfl⟩ rfl rfl rfl rfl rfl (by kernel_rfl) Try.func5 (by kernel_rfl)
    (of_decide_eq_true (by kernel_rfl)) (by unfold Func.isWrapper; first | (rw [if_pos (by decide +kernel)]; kernel_rfl) | (rw [if_neg (by decide +kernel)]; exact ⟨rfl, rfl⟩))
    (fun os started H enc _ => lifted os started H enc)

theorem proved : Rows.ResetOrderSaid := over
#print axioms proved
end Go.Proofs.Ytjeinfbicgpkiaa.resetOrder

