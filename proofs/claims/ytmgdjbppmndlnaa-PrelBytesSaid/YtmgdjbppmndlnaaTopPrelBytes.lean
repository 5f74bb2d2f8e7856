/- Proved: the given statement PrelBytesSaid: the law PrelBytes answers true for every input, and the input reads as it did. No conditions. -/
import Derived.Test.YtmgdjbppmndlnaaRows
import Derived.Test.YtmgdjbppmndlnaaEvD
import Derived.Test.YtmgdjbppmndlnaaPbO
import Derived.Test.YtmgdjbppmndlnaaPeC
import Derived.WalkKit
import Derived.ProofKit
import Derived.OpenShut
import Derived.ShutString
import Derived.ChangeOld
import Derived.SizedLaws
namespace Go.Proofs.Ytmgdjbppmndlnaa.prelBytes
open Go.ChangeShapes Go.WideShapes Go.ChangeAt Go.RowKit
open Go.ChangeMaps (open_string shut_string)

theorem own : ownKnob Try.prog.godebug = none := by kernel_rfl
theorem laidOut : laidOutB Try.prog = true := by kernel_rfl

/-- What came in as an argument of a layout. -/
def Came (W : World) (K : Go.Ev.AK) (v : Value) : Prop := ∃ va, Go.Ev.VOk W va v ∧ Go.Ev.VaOk (w := W) K va

theorem wf_8 {x : Int} (h : (Lit.int .u8 x).wf = true) : 0 ≤ x ∧ x ≤ 255 := by simpa [Lit.wf, IntKind.min, IntKind.max, IntKind.signed, IntKind.bits] using h
theorem wf_16 {x : Int} (h : (Lit.int .u16 x).wf = true) : 0 ≤ x ∧ x ≤ 65535 := by simpa [Lit.wf, IntKind.min, IntKind.max, IntKind.signed, IntKind.bits] using h
theorem wf_32 {x : Int} (h : (Lit.int .u32 x).wf = true) : 0 ≤ x ∧ x ≤ 4294967295 := by simpa [Lit.wf, IntKind.min, IntKind.max, IntKind.signed, IntKind.bits] using h
/-- What came in as a number and a slice of pairs. -/
def Pair (W : World) (v : Value) : Prop := ∃ (x : Int) (d0 : Go.Ev.Den) (len : Nat) (cols : List Go.Ev.Col), v = .agg #[.int .u32 x, d0.val] ∧ (Lit.int .u32 x).wf = true ∧ len ≤ 140737488355328 ∧ Go.Ev.ColsD W len [.int .u16, .int .u16] cols ∧ Go.Ev.isCell d0.val = true ∧ ∀ α, Go.Ev.Good α W d0 (.own false .ext 0 2 (.tab len cols))
open Go.Ev in
theorem walk (v0 v1 : Value) (W : World) (h0 : Pair W v0) (h1 : Came W (.one (.data .u8)) v1) :
    Calls Try.prog 3 #[v0, v1] W fun e w' => e = .returned (.bool true) ∧ Below W.heap.size W w' := by
  obtain ⟨pt, d0, n, cols, rfl, wpt, Ln, hc, hcell, hg⟩ := h0
  obtain ⟨va1, o1, s1⟩ := h1
  match cols, hc with
  | [_, _], ⟨⟨ss, rfl, Ls, ws⟩, ⟨qs, rfl, Lq, wq⟩, _⟩ =>
    match va1, s1 with
    | .a (.one _), ⟨bs, rfl, Lb, wb⟩ =>
      obtain ⟨db, eb, hcb, hgb⟩ := datOk_good (show DatOk W .u8 bs v1 from o1.1)
      subst eb
      obtain ⟨r1, n1⟩ := (R.empty W).more noWr_nil (d := d0) (so := .own false .ext 0 2 (.tab n [.ints .u16 ss, .ints .u16 qs])) rfl hcell (hg _)
      obtain ⟨r2, n2⟩ := r1.more n1 (d := db) (so := .own false .ext 0 1 (.ints .u8 bs)) rfl hcb (hgb _)
      obtain ⟨N, hN⟩ := pb_run pt n ss qs bs (fun v _ => v = .sa (.one (.raw (.bool true)))) Ls Lq (wf_32 wpt) (fun x hx => wf_16 (ws x hx)) (fun x hx => wf_16 (wq x hx)) (fun x hx => wf_8 (wb x hx)) (fun _ => rfl)
      refine call_top cxPb_ok r2 (args := [.agg [iv .u32 pt, .ref 0], .one (.ref 1)]) (vals := [.agg #[.int .u32 pt, d0.val], db.val]) ⟨⟨[.int .u32 pt, d0.val], ⟨rfl, ?_, trivial⟩, rfl⟩, ?_, trivial⟩ (noWr n2) hN (fun _ _ h => h)
      · simp [SC.val?, Al.add]
      · simp [SA.rep, SC.val?, Al.add]

set_option maxRecDepth 100000 in
theorem lifted (os : Os) (started : os.Started) (H : Type) (enc : TypeId × Value → H) :
    ReturnsInHanded {} Try.checked os 3 .any (Rows.prelBytesSpec.pre6 enc Try.prog Try.f3 Rows.prelBytesRow.domain false) (Rows.prelBytesSpec.post enc Try.prog Try.f3 false true false false) := by
  refine returnsInHanded_of_change_sized (C := Try.checked) own started (by kernel_rfl) Try.func3
    (ChangeSpec.witness6 (enc := enc) (C := Try.checked) false ⟨#[], #[.agg #[.int .u32 0, .slice none 0 0], .slice none 0 0], []⟩ 8 (by kernel_rfl) (by kernel_rfl) (by kernel_rfl) (by kernel_rfl)) ?_
  intro W base args ds gs before hval0 hW hcnd hz _
  have hval : ∀ (j : Nat) t v, Try.f3.params[j]? = some t → args[j]? = some v → Value.okWide Try.prog W .any base t v := hval0
  have hW' := hW
  obtain ⟨p, q, hA0, hV, rfl, hfz, hnd⟩ := hW
  have hA : DataW.TrodAll enc Try.prog W 0 (fun _ => true) true Try.f3.params.toList args.toList ds p := hA0
  rw [Try.params3] at hA hval hz
  obtain ⟨v0, vs0, d0, ds0, p0, q0, hargs, rfl, rfl, h0, r0⟩ := trodAll_cons hA
  obtain ⟨v1, vs1, d1, ds1, p1, q1, rfl, rfl, rfl, h1, r1⟩ := trodAll_cons r0
  obtain ⟨rfl, rfl, rfl⟩ := trodAll_nil r1
  obtain rfl : args = #[v0, v1] := by cases args; simp_all
  obtain ⟨rfl, rfl⟩ := trodVars_none hV
  have k0 := h0
  have lt0 : ∀ x ∈ p0, x.block < W.heap.size := by obtain ⟨m, hm⟩ := k0; exact DataW.trod_lt m _ _ _ hm
  have z0 : Go.Ev.Sz Try.prog 25 d0 := fun n hn => Nat.le_trans (of_decide_eq_true (List.all_eq_true.1 hz n (DataW.weights_mem_each (j := 0) rfl rfl n hn))) (by decide)
  obtain ⟨cs0, hcs0, _⟩ := okWide_struct Try.underlying25 (hval 0 25 v0 rfl rfl)
  have o0 := Go.Ev.open_pair (k0 := .u32) (ks := [.int .u16, .int .u16]) (e := 31) Try.underlying25 rfl rfl (by kernel_rfl) (by kernel_rfl) (by kernel_rfl) (by kernel_rfl) (by kernel_rfl) (by decide) (of_decide_eq_true (by kernel_rfl)) ⟨cs0, hcs0⟩ h0 z0
  have k1 := h1
  have lt1 : ∀ x ∈ p1, x.block < W.heap.size := by obtain ⟨m, hm⟩ := k1; exact DataW.trod_lt m _ _ _ hm
  have z1 : Go.Ev.Sz Try.prog 26 d1 := fun n hn => Nat.le_trans (of_decide_eq_true (List.all_eq_true.1 hz n (DataW.weights_mem_each (j := 1) rfl rfl n hn))) (by decide)
  have o1 := Go.Ev.open_arg (K := (Go.Ev.AK.one (Go.Ev.CK.data .u8))) (by kernel_rfl) (hval 1 26 v1 rfl rfl) h1 z1
  clear hA0 hval0 hz
  refine (walk v0 v1 W o0 o1).mono fun e W' ⟨he, bel⟩ => ?_
  subst he
  exact ⟨_, rfl, _, _, _, [], _, [], hW', trodAll_mk1 (shut_bool Try.underlying4 _), (trodAll_cons_mk (Below.trod laidOut (by kernel_rfl) (of_decide_eq_true (by kernel_rfl)) k0 bel lt0) (trodAll_cons_mk (Below.trod laidOut (by kernel_rfl) (of_decide_eq_true (by kernel_rfl)) k1 bel lt1) trodAll_mk0)), rfl, bel.frame _, fun h => by cases h⟩

theorem over : Rows.prelBytesRow.holds Try.pinned (OpenSpec.ofChange Rows.prelBytesSpec) :=
  OpenClaim.holds_of_wide 3 Try.f3 rfl rfl rfl rfl rfl rfl rfl ⟨rfl, rfl, rfl, rfl, rfl⟩ rfl rfl rfl rfl rfl (by kernel_rfl) Try.func3 (by kernel_rfl)
    (of_decide_eq_true (by kernel_rfl)) (by unfold Func.isWrapper; first | (rw [if_pos (by decide +kernel)]; kernel_rfl) | (rw [if_neg (by decide +kernel)]; exact ⟨rfl, rfl⟩))
    (fun os started H enc _ => lifted os started H enc)

theorem proved : Rows.PrelBytesSaid := over
#print axioms proved
end Go.Proofs.Ytmgdjbppmndlnaa.prelBytes

