/- Proved: the given statement ShakeAnswersSaid: the law ShakeAnswers answers true for every input, and the input reads as it did. No conditions. -/
import Derived.Test.YtaabhhffnlmkeaaRows
import Derived.Test.YtaabhhffnlmkeaaEvD
import Derived.Test.YtaabhhffnlmkeaaAnC
import Derived.WalkKit
import Derived.ProofKit
import Derived.OpenShut
import Derived.ShutString
import Derived.ChangeOld
import Derived.SizedLaws
namespace Go.Proofs.Ytaabhhffnlmkeaa.shakeAnswers
open Go.ChangeShapes Go.WideShapes Go.ChangeAt Go.RowKit
open Go.ChangeMaps (open_string shut_string)

theorem own : ownKnob Try.prog.godebug = none := by kernel_rfl
theorem laidOut : laidOutB Try.prog = true := by kernel_rfl

/-- What came in as an argument of a layout. -/
def Came (W : World) (K : Go.Ev.AK) (v : Value) : Prop := ∃ va, Go.Ev.VOk W va v ∧ Go.Ev.VaOk (w := W) K va

theorem wf_8 {x : Int} (h : (Lit.int .u8 x).wf = true) : 0 ≤ x ∧ x ≤ 255 := by simpa [Lit.wf, IntKind.min, IntKind.max, IntKind.signed, IntKind.bits] using h
theorem wf_16 {x : Int} (h : (Lit.int .u16 x).wf = true) : 0 ≤ x ∧ x ≤ 65535 := by simpa [Lit.wf, IntKind.min, IntKind.max, IntKind.signed, IntKind.bits] using h
theorem wf_32 {x : Int} (h : (Lit.int .u32 x).wf = true) : 0 ≤ x ∧ x ≤ 4294967295 := by simpa [Lit.wf, IntKind.min, IntKind.max, IntKind.signed, IntKind.bits] using h
theorem wf_64 {x : Int} (h : (Lit.int .u64 x).wf = true) : 0 ≤ x ∧ x ≤ 18446744073709551615 := by simpa [Lit.wf, IntKind.min, IntKind.max, IntKind.signed, IntKind.bits] using h
theorem wf_i64 {x : Int} (h : (Lit.int .i64 x).wf = true) : -9223372036854775808 ≤ x ∧ x ≤ 9223372036854775807 := by simpa [Lit.wf, IntKind.min, IntKind.max, IntKind.signed, IntKind.bits] using h
theorem wf_8l {l : List Int} (h : ∀ x ∈ l, (Lit.int .u8 x).wf = true) : ∀ x ∈ l, 0 ≤ x ∧ x ≤ 255 := fun x hx => wf_8 (h x hx)
theorem wf_16l {l : List Int} (h : ∀ x ∈ l, (Lit.int .u16 x).wf = true) : ∀ x ∈ l, 0 ≤ x ∧ x ≤ 65535 := fun x hx => wf_16 (h x hx)
theorem wf_32l {l : List Int} (h : ∀ x ∈ l, (Lit.int .u32 x).wf = true) : ∀ x ∈ l, 0 ≤ x ∧ x ≤ 4294967295 := fun x hx => wf_32 (h x hx)
open Go.Ev in
theorem walk (v0 v1 v2 v3 v4 v5 v6 v7 : Value) (W : World) (h0 : Came W (.agg [.data .u32, .int .u16, .bool, .int .i64, .int .u16, .int .i64, .int .i64, .int .i64, .int .u32, .int .u32, .int .u32, .int .u8, .int .u8, .int .u8, .int .u32, .int .u32, .int .u64, .int .u8, .int .u8, .int .u8, .int .u8, .int .u8, .int .u8, .int .u8, .int .u8, .int .u8, .int .u8, .int .u8, .int .u8, .int .u8, .int .u8, .int .u8, .int .u8]) v0) (h1 : Came W (.agg [.int .u32, .int .u32, .int .u32, .int .u16, .data .u32]) v1) (h2 : Came W (.one (.int .u16)) v2) (h3 : Came W (.one (.int .u32)) v3) (h4 : Came W (.one (.int .u32)) v4) (h5 : Came W (.one (.int .u32)) v5) (h6 : Came W (.one (.int .u64)) v6) (h7 : Came W (.one (.data .u8)) v7) :
    Calls Try.prog 3 #[v0, v1, v2, v3, v4, v5, v6, v7] W fun e w' => e = .returned (.bool true) ∧ Below W.heap.size W w' := by
  obtain ⟨va0, o0, s0⟩ := h0
  obtain ⟨va1, o1, s1⟩ := h1
  obtain ⟨va2, o2, s2⟩ := h2
  obtain ⟨va3, o3, s3⟩ := h3
  obtain ⟨va4, o4, s4⟩ := h4
  obtain ⟨va5, o5, s5⟩ := h5
  obtain ⟨va6, o6, s6⟩ := h6
  obtain ⟨va7, o7, s7⟩ := h7
  match va0, s0 with
  | .a (.agg l0), s0 =>
    have s0 : CellsS [.data .u32, .int .u16, .bool, .int .i64, .int .u16, .int .i64, .int .i64, .int .i64, .int .u32, .int .u32, .int .u32, .int .u8, .int .u8, .int .u8, .int .u32, .int .u32, .int .u64, .int .u8, .int .u8, .int .u8, .int .u8, .int .u8, .int .u8, .int .u8, .int .u8, .int .u8, .int .u8, .int .u8, .int .u8, .int .u8, .int .u8, .int .u8, .int .u8] l0 := s0
    obtain ⟨xs, l0_0, rfl, Lxs, wxs, s0_0⟩ := cellsS_data s0
    obtain ⟨port, l0_1, rfl, wport, s0_1⟩ := cellsS_int s0_0
    obtain ⟨listen, l0_2, rfl, s0_2⟩ := cellsS_bool s0_1
    obtain ⟨mtu, l0_3, rfl, wmtu, s0_3⟩ := cellsS_int s0_2
    obtain ⟨streams, l0_4, rfl, wstreams, s0_4⟩ := cellsS_int s0_3
    obtain ⟨sroom, l0_5, rfl, wsroom, s0_5⟩ := cellsS_int s0_4
    obtain ⟨rroom, l0_6, rfl, wrroom, s0_6⟩ := cellsS_int s0_5
    obtain ⟨mmax, l0_7, rfl, wmmax, s0_7⟩ := cellsS_int s0_6
    obtain ⟨rini, l0_8, rfl, wrini, s0_8⟩ := cellsS_int s0_7
    obtain ⟨rmin, l0_9, rfl, wrmin, s0_9⟩ := cellsS_int s0_8
    obtain ⟨rmax, l0_10, rfl, wrmax, s0_10⟩ := cellsS_int s0_9
    obtain ⟨itr, l0_11, rfl, witr, s0_11⟩ := cellsS_int s0_10
    obtain ⟨ptr, l0_12, rfl, wptr, s0_12⟩ := cellsS_int s0_11
    obtain ⟨atr, l0_13, rfl, watr, s0_13⟩ := cellsS_int s0_12
    obtain ⟨beat, l0_14, rfl, wbeat, s0_14⟩ := cellsS_int s0_13
    obtain ⟨clife, l0_15, rfl, wclife, s0_15⟩ := cellsS_int s0_14
    obtain ⟨seed, l0_16, rfl, wseed, s0_16⟩ := cellsS_int s0_15
    obtain ⟨k0, l0_17, rfl, wk0, s0_17⟩ := cellsS_int s0_16
    obtain ⟨k1, l0_18, rfl, wk1, s0_18⟩ := cellsS_int s0_17
    obtain ⟨k2, l0_19, rfl, wk2, s0_19⟩ := cellsS_int s0_18
    obtain ⟨k3, l0_20, rfl, wk3, s0_20⟩ := cellsS_int s0_19
    obtain ⟨k4, l0_21, rfl, wk4, s0_21⟩ := cellsS_int s0_20
    obtain ⟨k5, l0_22, rfl, wk5, s0_22⟩ := cellsS_int s0_21
    obtain ⟨k6, l0_23, rfl, wk6, s0_23⟩ := cellsS_int s0_22
    obtain ⟨k7, l0_24, rfl, wk7, s0_24⟩ := cellsS_int s0_23
    obtain ⟨k8, l0_25, rfl, wk8, s0_25⟩ := cellsS_int s0_24
    obtain ⟨k9, l0_26, rfl, wk9, s0_26⟩ := cellsS_int s0_25
    obtain ⟨ka, l0_27, rfl, wka, s0_27⟩ := cellsS_int s0_26
    obtain ⟨kb, l0_28, rfl, wkb, s0_28⟩ := cellsS_int s0_27
    obtain ⟨kc, l0_29, rfl, wkc, s0_29⟩ := cellsS_int s0_28
    obtain ⟨kd, l0_30, rfl, wkd, s0_30⟩ := cellsS_int s0_29
    obtain ⟨ke, l0_31, rfl, wke, s0_31⟩ := cellsS_int s0_30
    obtain ⟨kf, l0_32, rfl, wkf, s0_32⟩ := cellsS_int s0_31
    obtain rfl := cellsS_nil s0_32
    match va1, s1 with
    | .a (.agg l1), s1 =>
      have s1 : CellsS [.int .u32, .int .u32, .int .u32, .int .u16, .data .u32] l1 := s1
      obtain ⟨ptag, l1_0, rfl, wptag, s1_0⟩ := cellsS_int s1
      obtain ⟨ptsn, l1_1, rfl, wptsn, s1_1⟩ := cellsS_int s1_0
      obtain ⟨prwnd, l1_2, rfl, wprwnd, s1_2⟩ := cellsS_int s1_1
      obtain ⟨pstr, l1_3, rfl, wpstr, s1_3⟩ := cellsS_int s1_2
      obtain ⟨ys, l1_4, rfl, Lys, wys, s1_4⟩ := cellsS_data s1_3
      obtain rfl := cellsS_nil s1_4
      match va2, s2 with
      | .a (.one _), ⟨lport, rfl, wlport⟩ =>
        match va3, s3 with
        | .a (.one _), ⟨tag, rfl, wtag⟩ =>
          match va4, s4 with
          | .a (.one _), ⟨tsn, rfl, wtsn⟩ =>
            match va5, s5 with
            | .a (.one _), ⟨tie, rfl, wtie⟩ =>
              match va6, s6 with
              | .a (.one _), ⟨now, rfl, wnow⟩ =>
                match va7, s7 with
                | .a (.one _), ⟨b, rfl, Lb, wb⟩ =>
                  obtain ⟨N, hN⟩ := ans_run k0 k1 k2 k3 k4 k5 k6 k7 k8 k9 ka kb kc kd ke kf port mtu streams sroom rroom mmax rini rmin rmax itr ptr atr beat clife seed ptag ptsn prwnd pstr lport tag tsn tie now listen xs ys b (fun v _ => v = .sa (.one (.raw (.bool true)))) (bytes_cons (wf_8 wk0) (bytes_cons (wf_8 wk1) (bytes_cons (wf_8 wk2) (bytes_cons (wf_8 wk3) (bytes_cons (wf_8 wk4) (bytes_cons (wf_8 wk5) (bytes_cons (wf_8 wk6) (bytes_cons (wf_8 wk7) (bytes_cons (wf_8 wk8) (bytes_cons (wf_8 wk9) (bytes_cons (wf_8 wka) (bytes_cons (wf_8 wkb) (bytes_cons (wf_8 wkc) (bytes_cons (wf_8 wkd) (bytes_cons (wf_8 wke) (bytes_cons (wf_8 wkf) bytes_nil)))))))))))))))) (wf_8l wb) (fun _ => rfl)
                  exact args_top cxAm_ok (vas := [_, _, _, _, _, _, _, _]) (vals := [v0, v1, v2, v3, v4, v5, v6, v7]) ⟨o0, o1, o2, o3, o4, o5, o6, o7, trivial⟩ hN (fun _ _ h => h)

set_option maxRecDepth 100000 in
theorem lifted (os : Os) (started : os.Started) (H : Type) (enc : TypeId × Value → H) :
    ReturnsInHanded {} Try.checked os 3 .any (Rows.shakeAnswersSpec.pre6 enc Try.prog Try.f3 Rows.shakeAnswersRow.domain false) (Rows.shakeAnswersSpec.post enc Try.prog Try.f3 false true false false) := by
  refine returnsInHanded_of_change_sized (C := Try.checked) own started (by kernel_rfl) Try.func3
    (ChangeSpec.witness6 (enc := enc) (C := Try.checked) false ⟨#[], #[.agg #[.slice none 0 0, .int .u16 0, .bool false, .int .i64 0, .int .u16 0, .int .i64 0, .int .i64 0, .int .i64 0, .int .u32 0, .int .u32 0, .int .u32 0, .int .u8 0, .int .u8 0, .int .u8 0, .int .u32 0, .int .u32 0, .int .u64 0, .int .u8 0, .int .u8 0, .int .u8 0, .int .u8 0, .int .u8 0, .int .u8 0, .int .u8 0, .int .u8 0, .int .u8 0, .int .u8 0, .int .u8 0, .int .u8 0, .int .u8 0, .int .u8 0, .int .u8 0, .int .u8 0], .agg #[.int .u32 0, .int .u32 0, .int .u32 0, .int .u16 0, .slice none 0 0], .int .u16 0, .int .u32 0, .int .u32 0, .int .u32 0, .int .u64 0, .slice none 0 0], []⟩ 8 (by kernel_rfl) (by kernel_rfl) (by kernel_rfl) (by kernel_rfl)) ?_
  intro W base args ds gs before hval0 hW hcnd hz _
  have hval : ∀ (j : Nat) t v, Try.f3.params[j]? = some t → args[j]? = some v → Value.okWide Try.prog W .any base t v := hval0
  have hW' := hW
  obtain ⟨p, q, hA0, hV, rfl, hfz, hnd⟩ := hW
  have hA : DataW.TrodAll enc Try.prog W 0 (fun _ => true) true Try.f3.params.toList args.toList ds p := hA0
  rw [Try.params3] at hA hval hz
  obtain ⟨v0, vs0, d0, ds0, p0, q0, hargs, rfl, rfl, h0, r0⟩ := trodAll_cons hA
  obtain ⟨v1, vs1, d1, ds1, p1, q1, rfl, rfl, rfl, h1, r1⟩ := trodAll_cons r0
  obtain ⟨v2, vs2, d2, ds2, p2, q2, rfl, rfl, rfl, h2, r2⟩ := trodAll_cons r1
  obtain ⟨v3, vs3, d3, ds3, p3, q3, rfl, rfl, rfl, h3, r3⟩ := trodAll_cons r2
  obtain ⟨v4, vs4, d4, ds4, p4, q4, rfl, rfl, rfl, h4, r4⟩ := trodAll_cons r3
  obtain ⟨v5, vs5, d5, ds5, p5, q5, rfl, rfl, rfl, h5, r5⟩ := trodAll_cons r4
  obtain ⟨v6, vs6, d6, ds6, p6, q6, rfl, rfl, rfl, h6, r6⟩ := trodAll_cons r5
  obtain ⟨v7, vs7, d7, ds7, p7, q7, rfl, rfl, rfl, h7, r7⟩ := trodAll_cons r6
  obtain ⟨rfl, rfl, rfl⟩ := trodAll_nil r7
  obtain rfl : args = #[v0, v1, v2, v3, v4, v5, v6, v7] := by cases args; simp_all
  obtain ⟨rfl, rfl⟩ := trodVars_none hV
  have k0 := h0
  have lt0 : ∀ x ∈ p0, x.block < W.heap.size := by obtain ⟨m, hm⟩ := k0; exact DataW.trod_lt m _ _ _ hm
  have z0 : Go.Ev.Sz Try.prog 31 d0 := fun n hn => Nat.le_trans (of_decide_eq_true (List.all_eq_true.1 hz n (DataW.weights_mem_each (j := 0) rfl rfl n hn))) (by decide)
  have o0 := Go.Ev.open_arg (K := (Go.Ev.AK.agg [(Go.Ev.CK.data .u32), (Go.Ev.CK.int .u16), Go.Ev.CK.bool, (Go.Ev.CK.int .i64), (Go.Ev.CK.int .u16), (Go.Ev.CK.int .i64), (Go.Ev.CK.int .i64), (Go.Ev.CK.int .i64), (Go.Ev.CK.int .u32), (Go.Ev.CK.int .u32), (Go.Ev.CK.int .u32), (Go.Ev.CK.int .u8), (Go.Ev.CK.int .u8), (Go.Ev.CK.int .u8), (Go.Ev.CK.int .u32), (Go.Ev.CK.int .u32), (Go.Ev.CK.int .u64), (Go.Ev.CK.int .u8), (Go.Ev.CK.int .u8), (Go.Ev.CK.int .u8), (Go.Ev.CK.int .u8), (Go.Ev.CK.int .u8), (Go.Ev.CK.int .u8), (Go.Ev.CK.int .u8), (Go.Ev.CK.int .u8), (Go.Ev.CK.int .u8), (Go.Ev.CK.int .u8), (Go.Ev.CK.int .u8), (Go.Ev.CK.int .u8), (Go.Ev.CK.int .u8), (Go.Ev.CK.int .u8), (Go.Ev.CK.int .u8), (Go.Ev.CK.int .u8)])) (by kernel_rfl) (hval 0 31 v0 rfl rfl) h0 z0
  have k1 := h1
  have lt1 : ∀ x ∈ p1, x.block < W.heap.size := by obtain ⟨m, hm⟩ := k1; exact DataW.trod_lt m _ _ _ hm
  have z1 : Go.Ev.Sz Try.prog 33 d1 := fun n hn => Nat.le_trans (of_decide_eq_true (List.all_eq_true.1 hz n (DataW.weights_mem_each (j := 1) rfl rfl n hn))) (by decide)
  have o1 := Go.Ev.open_arg (K := (Go.Ev.AK.agg [(Go.Ev.CK.int .u32), (Go.Ev.CK.int .u32), (Go.Ev.CK.int .u32), (Go.Ev.CK.int .u16), (Go.Ev.CK.data .u32)])) (by kernel_rfl) (hval 1 33 v1 rfl rfl) h1 z1
  have k2 := h2
  have lt2 : ∀ x ∈ p2, x.block < W.heap.size := by obtain ⟨m, hm⟩ := k2; exact DataW.trod_lt m _ _ _ hm
  have z2 : Go.Ev.Sz Try.prog 23 d2 := fun n hn => Nat.le_trans (of_decide_eq_true (List.all_eq_true.1 hz n (DataW.weights_mem_each (j := 2) rfl rfl n hn))) (by decide)
  have o2 := Go.Ev.open_arg (K := (Go.Ev.AK.one (Go.Ev.CK.int .u16))) (by kernel_rfl) (hval 2 23 v2 rfl rfl) h2 z2
  have k3 := h3
  have lt3 : ∀ x ∈ p3, x.block < W.heap.size := by obtain ⟨m, hm⟩ := k3; exact DataW.trod_lt m _ _ _ hm
  have z3 : Go.Ev.Sz Try.prog 24 d3 := fun n hn => Nat.le_trans (of_decide_eq_true (List.all_eq_true.1 hz n (DataW.weights_mem_each (j := 3) rfl rfl n hn))) (by decide)
  have o3 := Go.Ev.open_arg (K := (Go.Ev.AK.one (Go.Ev.CK.int .u32))) (by kernel_rfl) (hval 3 24 v3 rfl rfl) h3 z3
  have k4 := h4
  have lt4 : ∀ x ∈ p4, x.block < W.heap.size := by obtain ⟨m, hm⟩ := k4; exact DataW.trod_lt m _ _ _ hm
  have z4 : Go.Ev.Sz Try.prog 24 d4 := fun n hn => Nat.le_trans (of_decide_eq_true (List.all_eq_true.1 hz n (DataW.weights_mem_each (j := 4) rfl rfl n hn))) (by decide)
  have o4 := Go.Ev.open_arg (K := (Go.Ev.AK.one (Go.Ev.CK.int .u32))) (by kernel_rfl) (hval 4 24 v4 rfl rfl) h4 z4
  have k5 := h5
  have lt5 : ∀ x ∈ p5, x.block < W.heap.size := by obtain ⟨m, hm⟩ := k5; exact DataW.trod_lt m _ _ _ hm
  have z5 : Go.Ev.Sz Try.prog 24 d5 := fun n hn => Nat.le_trans (of_decide_eq_true (List.all_eq_true.1 hz n (DataW.weights_mem_each (j := 5) rfl rfl n hn))) (by decide)
  have o5 := Go.Ev.open_arg (K := (Go.Ev.AK.one (Go.Ev.CK.int .u32))) (by kernel_rfl) (hval 5 24 v5 rfl rfl) h5 z5
  have k6 := h6
  have lt6 : ∀ x ∈ p6, x.block < W.heap.size := by obtain ⟨m, hm⟩ := k6; exact DataW.trod_lt m _ _ _ hm
  have z6 : Go.Ev.Sz Try.prog 27 d6 := fun n hn => Nat.le_trans (of_decide_eq_true (List.all_eq_true.1 hz n (DataW.weights_mem_each (j := 6) rfl rfl n hn))) (by decide)
  have o6 := Go.Ev.open_arg (K := (Go.Ev.AK.one (Go.Ev.CK.int .u64))) (by kernel_rfl) (hval 6 27 v6 rfl rfl) h6 z6
  have k7 := h7
  have lt7 : ∀ x ∈ p7, x.block < W.heap.size := by obtain ⟨m, hm⟩ := k7; exact DataW.trod_lt m _ _ _ hm
  have z7 : Go.Ev.Sz Try.prog 34 d7 := fun n hn => Nat.le_trans (of_decide_eq_true (List.all_eq_true.1 hz n (DataW.weights_mem_each (j := 7) rfl rfl n hn))) (by decide)
  have o7 := Go.Ev.open_arg (K := (Go.Ev.AK.one (Go.Ev.CK.data .u8))) (by kernel_rfl) (hval 7 34 v7 rfl rfl) h7 z7
  clear hA0 hval0 hz
  refine (walk v0 v1 v2 v3 v4 v5 v6 v7 W o0 o1 o2 o3 o4 o5 o6 o7).mono fun e W' ⟨he, bel⟩ => ?_
  subst he
  exact ⟨_, rfl, _, _, _, [], _, [], hW', trodAll_mk1 (shut_bool Try.underlying4 _), (trodAll_cons_mk (Below.trod laidOut (by kernel_rfl) (of_decide_eq_true (by kernel_rfl)) k0 bel lt0) (trodAll_cons_mk (Below.trod laidOut (by kernel_rfl) (of_decide_eq_true (by kernel_rfl)) k1 bel lt1) (trodAll_cons_mk (Below.trod laidOut (by kernel_rfl) (of_decide_eq_true (by kernel_rfl)) k2 bel lt2) (trodAll_cons_mk (Below.trod laidOut (by kernel_rfl) (of_decide_eq_true (by kernel_rfl)) k3 bel lt3) (trodAll_cons_mk (Below.trod laidOut (by kernel_rfl) (of_decide_eq_true (by kernel_rfl)) k4 bel lt4) (trodAll_cons_mk (Below.trod laidOut (by kernel_rfl) (of_decide_eq_true (by kernel_rfl)) k5 bel lt5) (trodAll_cons_mk (Below.trod laidOut (by kernel_rfl) (of_decide_eq_true (by kernel_rfl)) k6 bel lt6) (trodAll_cons_mk (Below.trod laidOut (by kernel_rfl) (of_decide_eq_true (by kernel_rfl)) k7 bel lt7) trodAll_mk0)))))))), rfl, bel.frame _, fun h => by cases h⟩

theorem over : Rows.shakeAnswersRow.holds Try.pinned (OpenSpec.ofChange Rows.shakeAnswersSpec) :=
  OpenClaim.holds_of_wide 3 Try.f3 rfl rfl rfl rfl rfl rfl rfl ⟨rfl, rfl, rfl, rfl, rfl⟩ rfl rfl rfl rfl rfl (by kernel_rfl) Try.func3 (by kernel_rfl)
    (of_decide_eq_true (by kernel_rfl)) (by unfold Func.isWrapper; first | (rw [if_pos (by decide +kernel)]; kernel_rfl) | (rw [if_neg (by decide +kernel)]; exact ⟨rfl, rfl⟩))
    (fun os started H enc _ => lifted os started H enc)

theorem proved : Rows.ShakeAnswersSaid := over
#print axioms proved
end Go.Proofs.Ytaabhhffnlmkeaa.shakeAnswers

