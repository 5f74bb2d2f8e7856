/- Proved: the given statement FragBackUptoSaid: the law FragBack answers true for every input, and the input reads as it did. No conditions. -/
import Derived.Test.YtegiamjcdklijaaRows
import Derived.Test.YtegiamjcdklijaaEvD
import Derived.Test.YtegiamjcdklijaaFbR
import Derived.Test.YtegiamjcdklijaaFbO
import Derived.WalkKit
import Derived.ProofKit
import Derived.OpenShut
import Derived.ShutString
import Derived.ChangeOld
import Derived.SizedLaws
import Derived.JoinedCond
namespace Go.Proofs.Ytegiamjcdklijaa.fragBackUpto
open Go.ChangeShapes Go.WideShapes Go.ChangeAt Go.RowKit
open Go.ChangeMaps (open_string shut_string)

theorem own : ownKnob Try.prog.godebug = none := by kernel_rfl
theorem laidOut : laidOutB Try.prog = true := by kernel_rfl

/-- Of these types no element is greater than 4096 bytes. -/
def tyB (P : Program) : Nat → TypeId → Bool
  | 0, _ => false
  | f + 1, t => match P.underlying t with
    | some (.slice e) => decide (P.bytesOf e ≤ 4096) && tyB P f e
    | some (.struct fs) => fs.toList.all fun g => tyB P f g.type
    | some (.array _ _) => false
    | some (.pointer _) => false
    | some (.map _ _) => false
    | _ => true
theorem bulk_one {H : Type} (d : DataW H) : 1 ≤ Rows.uptoBulk d := by
  cases d with
  | lit l => cases l <;> simp [Rows.uptoBulk]
  | nil => simp [Rows.uptoBulk]
  | ptr d => simp [Rows.uptoBulk]
  | slice elems spare => simp [Rows.uptoBulk]
  | agg parts => simp [Rows.uptoBulk]
  | iface _ d => simp [Rows.uptoBulk]
  | map entries => simp [Rows.uptoBulk]
  | held _ => simp [Rows.uptoBulk]
theorem bulk_len {H : Type} : ∀ l : List (DataW H), l.length ≤ Rows.uptoBulkAll l
  | [] => Nat.zero_le _
  | d :: r => by
    have h1 := bulk_one d
    have h2 := bulk_len r
    simp only [Rows.uptoBulkAll, List.length_cons]
    omega
theorem tyB_w {H : Type} {P : Program} : ∀ (f : Nat) (t : TypeId), tyB P f t = true → ∀ (d : DataW H) (n : Nat), n ∈ d.weights P t → n ≤ 4096 * Rows.uptoBulk d
  | 0, t, h, _, _, _ => by cases h
  | f + 1, t, h, d, n, hn => by
    have all : ∀ (e : TypeId), tyB P f e = true → ∀ (l : List (DataW H)) (n : Nat), n ∈ DataW.weightsAll P e l → n ≤ 4096 * Rows.uptoBulkAll l := by
      intro e he l
      induction l with
      | nil => intro n hn; simp [DataW.weightsAll] at hn
      | cons d r ih =>
        intro n hn
        simp only [DataW.weightsAll, List.mem_append] at hn
        simp only [Rows.uptoBulkAll]
        rcases hn with hn | hn
        · have := tyB_w f e he d n hn; omega
        · have := ih n hn; omega
    have each : ∀ (ts : List TypeId), (∀ e ∈ ts, tyB P f e = true) → ∀ (l : List (DataW H)) (n : Nat), n ∈ DataW.weightsEach P ts l → n ≤ 4096 * Rows.uptoBulkAll l := by
      intro ts
      induction ts with
      | nil => intro _ l n hn; simp [DataW.weightsEach] at hn
      | cons t ts ih =>
        intro he l n hn
        cases l with
        | nil => simp [DataW.weightsEach] at hn
        | cons d r =>
          simp only [DataW.weightsEach, List.mem_append] at hn
          simp only [Rows.uptoBulkAll]
          rcases hn with hn | hn
          · have := tyB_w f t (he t (List.mem_cons_self ..)) d n hn; omega
          · have := ih (fun e h => he e (List.mem_cons_of_mem _ h)) r n hn; omega
    unfold tyB at h
    cases d with
    | lit l =>
      cases l with
      | string bytes =>
        simp only [DataW.weights, List.mem_singleton] at hn
        simp only [Rows.uptoBulk]
        omega
      | _ => simp [DataW.weights] at hn
    | nil => simp [DataW.weights] at hn
    | ptr d =>
      simp only [DataW.weights] at hn
      split at hn
      · rename_i e he
        rw [he] at h
        cases h
      · cases hn
    | slice el sp =>
      simp only [DataW.weights] at hn
      split at hn
      · rename_i e he
        rw [he] at h
        obtain ⟨h1, h2⟩ := Bool.and_eq_true_iff.1 h
        have h1 := of_decide_eq_true h1
        have l1 := bulk_len el
        have l2 := bulk_len sp
        simp only [Rows.uptoBulk]
        rcases List.mem_cons.1 hn with hn | hn
        · have : (el.length + sp.length) * P.bytesOf e ≤ (el.length + sp.length) * 4096 := Nat.mul_le_mul_left _ h1
          omega
        · rcases List.mem_append.1 hn with hn | hn
          · have := all e h2 el n hn; omega
          · have := all e h2 sp n hn; omega
      · cases hn
    | agg parts =>
      simp only [DataW.weights] at hn
      split at hn
      · rename_i fs he
        rw [he] at h
        have h := List.all_eq_true.1 h
        have := each _ (fun e he => by obtain ⟨g, hg, rfl⟩ := List.mem_map.1 he; exact h g hg) parts n hn
        simp only [Rows.uptoBulk]
        omega
      · rename_i he
        rw [he] at h
        cases h
      · cases hn
    | iface _ _ => simp [DataW.weights] at hn
    | map entries =>
      simp only [DataW.weights] at hn
      split at hn
      · rename_i k e he
        rw [he] at h
        cases h
      · cases hn
    | held _ => simp [DataW.weights] at hn
theorem bulk_mem {H : Type} {d : DataW H} : ∀ {l : List (DataW H)}, d ∈ l → Rows.uptoBulk d ≤ Rows.uptoBulkAll l
  | x :: r, h => by
    simp only [Rows.uptoBulkAll]
    rcases List.mem_cons.1 h with h | h
    · subst h; omega
    · have := bulk_mem h; omega
theorem sz_of {H : Type} {P : Program} {t : TypeId} {d : DataW H} {l : List (DataW H)} (hk : Rows.uptoSmall H l = true) (hd : d ∈ l) (ht : tyB P 8 t = true) : Go.EvU.Sz P t d := fun n hn => by
  have h1 : Rows.uptoBulkAll l ≤ 1048576 := of_decide_eq_true hk
  have h2 := bulk_mem hd
  have h3 := tyB_w 8 t ht d n hn
  omega

/-- What came in as an argument of a layout. -/
def Came (W : World) (K : Go.Ev.AK) (v : Value) : Prop := ∃ va, Go.Ev.VOk W va v ∧ Go.EvU.VaOk (w := W) K va

theorem wf_8 {x : Int} (h : (Lit.int .u8 x).wf = true) : 0 ≤ x ∧ x ≤ 255 := by simpa [Lit.wf, IntKind.min, IntKind.max, IntKind.signed, IntKind.bits] using h
theorem wf_16 {x : Int} (h : (Lit.int .u16 x).wf = true) : 0 ≤ x ∧ x ≤ 65535 := by simpa [Lit.wf, IntKind.min, IntKind.max, IntKind.signed, IntKind.bits] using h
theorem wf_32 {x : Int} (h : (Lit.int .u32 x).wf = true) : 0 ≤ x ∧ x ≤ 4294967295 := by simpa [Lit.wf, IntKind.min, IntKind.max, IntKind.signed, IntKind.bits] using h
theorem wf_64 {x : Int} (h : (Lit.int .u64 x).wf = true) : 0 ≤ x ∧ x ≤ 18446744073709551615 := by simpa [Lit.wf, IntKind.min, IntKind.max, IntKind.signed, IntKind.bits] using h
theorem wf_i64 {x : Int} (h : (Lit.int .i64 x).wf = true) : -9223372036854775808 ≤ x ∧ x ≤ 9223372036854775807 := by simpa [Lit.wf, IntKind.min, IntKind.max, IntKind.signed, IntKind.bits] using h
theorem wf_8l {l : List Int} (h : ∀ x ∈ l, (Lit.int .u8 x).wf = true) : ∀ x ∈ l, 0 ≤ x ∧ x ≤ 255 := fun x hx => wf_8 (h x hx)
theorem wf_16l {l : List Int} (h : ∀ x ∈ l, (Lit.int .u16 x).wf = true) : ∀ x ∈ l, 0 ≤ x ∧ x ≤ 65535 := fun x hx => wf_16 (h x hx)
theorem wf_32l {l : List Int} (h : ∀ x ∈ l, (Lit.int .u32 x).wf = true) : ∀ x ∈ l, 0 ≤ x ∧ x ≤ 4294967295 := fun x hx => wf_32 (h x hx)
theorem getD_le {bs : List (List Int)} {p : List Int → Prop} (h : ∀ xs ∈ bs, xs.length ≤ 4294967296 ∧ p xs) (i : Nat) : (bs.getD i []).length ≤ 4294967296 := by
  by_cases hi : i < bs.length
  · rw [List.getD_eq_getElem?_getD, List.getElem?_eq_getElem hi]; exact (h _ (List.getElem_mem hi)).1
  · rw [List.getD_eq_getElem?_getD, List.getElem?_eq_none (by omega)]; simp
theorem getD_i64 {l : List Int} (h : ∀ x ∈ l, (Lit.int .i64 x).wf = true) (i : Nat) : l.getD i 0 ≤ 9223372036854775807 := by
  by_cases hi : i < l.length
  · rw [List.getD_eq_getElem?_getD, List.getElem?_eq_getElem hi]; exact (wf_i64 (h _ (List.getElem_mem hi))).2
  · rw [List.getD_eq_getElem?_getD, List.getElem?_eq_none (by omega)]; simp
theorem getD_u16 {l : List Int} (h : ∀ x ∈ l, (Lit.int .u16 x).wf = true) (i : Nat) : 0 ≤ l.getD i 0 ∧ l.getD i 0 ≤ 65535 := by
  by_cases hi : i < l.length
  · rw [List.getD_eq_getElem?_getD, List.getElem?_eq_getElem hi]; exact wf_16 (h _ (List.getElem_mem hi))
  · rw [List.getD_eq_getElem?_getD, List.getElem?_eq_none (by omega)]; simp
open Go.Ev in
theorem walk (v0 v1 v2 : Value) (W : World) (h0 : Came W (.rows [.int .u16, .bool, .int .u32, .data .u8, .int .u16, .int .i64]) v0) (h1 : Came W (.one (.int .u32)) v1) (h2 : Came W (.one (.data .u16)) v2) :
    Calls Try.prog 4 #[v0, v1, v2] W fun e w' => e = .returned (.bool true) ∧ Below W.heap.size W w' := by
  obtain ⟨va0, o0, s0⟩ := h0
  obtain ⟨va1, o1, s1⟩ := h1
  obtain ⟨va2, o2, s2⟩ := h2
  match va0, s0 with
  | .t _ _, ⟨n, [_, _, _, _, _, _], rfl, rfl, Ln, ⟨ss, rfl, Lss, wss⟩, ⟨us, rfl, Lus⟩, ⟨ps, rfl, Lps, wps⟩, ⟨ds, rfl, Lds, wds⟩, ⟨ns, rfl, Lns, wns⟩, ⟨zs, rfl, Lzs, wzs⟩, _⟩ =>
    match va1, s1 with
    | .a (.one _), ⟨tsn, rfl, wtsn⟩ =>
      match va2, s2 with
      | .a (.one _), ⟨tu, rfl, Ltu, wtu⟩ =>
        obtain ⟨N, hN⟩ := fb_run ⟨tsn, n, ss, us, ps, ds, ns, zs⟩ tu (fun v _ => v = .sa (.one (.raw (.bool true)))) (wf_32 wtsn) (getD_le wds) (getD_i64 wzs) (getD_u16 wtu) (fun _ => rfl)
        exact args_top cxFb_ok (vas := [_, _, _]) (vals := [v0, v1, v2]) ⟨o0, o1, o2, trivial⟩ hN (fun _ _ h => h)

set_option maxRecDepth 100000 in
theorem lifted (os : Os) (started : os.Started) (H : Type) (enc : TypeId × Value → H) (F : Stop.Interp) :
    ReturnsInHanded {} Try.checked os 4 .any ((Rows.OpenSpec.upto Rows.fragBackSpec).pre6 enc Try.prog Try.f4 Rows.fragBackUptoRow.domain false) (((Rows.OpenSpec.upto Rows.fragBackSpec).at F).post enc Try.prog Try.f4 false true false false) := by
  refine returnsInHanded_of_cond (C := Try.checked) (s := (Rows.OpenSpec.upto Rows.fragBackSpec)) (k := Rows.uptoSmall) rfl own started (by kernel_rfl) Try.func4
    (OpenSpec.witness (enc := enc) (C := Try.checked) (s := (Rows.OpenSpec.upto Rows.fragBackSpec)) (k := Rows.uptoSmall) rfl false ⟨#[], #[.slice none 0 0, .int .u32 0, .slice none 0 0], []⟩ 8 (by kernel_rfl) (by kernel_rfl) (by kernel_rfl)
      (x := ([.nil, .lit (.int .u32 0), .nil], [], [])) (by kernel_rfl) rfl (by kernel_rfl)) ?_
  intro W base args ds gs before hval0 hW hcnd hk _
  have hval : ∀ (j : Nat) t v, Try.f4.params[j]? = some t → args[j]? = some v → Value.okWide Try.prog W .any base t v := hval0
  have hW' := hW
  obtain ⟨p, q, hA0, hV, rfl, hfz, hnd⟩ := hW
  have hA : DataW.TrodAll enc Try.prog W 0 (fun _ => true) true Try.f4.params.toList args.toList ds p := hA0
  rw [Try.params4] at hA hval
  obtain ⟨v0, vs0, d0, ds0, p0, q0, hargs, rfl, rfl, h0, r0⟩ := trodAll_cons hA
  obtain ⟨v1, vs1, d1, ds1, p1, q1, rfl, rfl, rfl, h1, r1⟩ := trodAll_cons r0
  obtain ⟨v2, vs2, d2, ds2, p2, q2, rfl, rfl, rfl, h2, r2⟩ := trodAll_cons r1
  obtain ⟨rfl, rfl, rfl⟩ := trodAll_nil r2
  obtain rfl : args = #[v0, v1, v2] := by cases args; simp_all
  obtain ⟨rfl, rfl⟩ := trodVars_none hV
  have k0 := h0
  have lt0 : ∀ x ∈ p0, x.block < W.heap.size := by obtain ⟨m, hm⟩ := k0; exact DataW.trod_lt m _ _ _ hm
  have z0 : Go.EvU.Sz Try.prog 36 d0 := sz_of hk (by simp) (by kernel_rfl)
  have o0 := Go.EvU.open_arg (K := (Go.Ev.AK.rows [(Go.Ev.CK.int .u16), Go.Ev.CK.bool, (Go.Ev.CK.int .u32), (Go.Ev.CK.data .u8), (Go.Ev.CK.int .u16), (Go.Ev.CK.int .i64)])) (by kernel_rfl) (hval 0 36 v0 rfl rfl) h0 z0
  have k1 := h1
  have lt1 : ∀ x ∈ p1, x.block < W.heap.size := by obtain ⟨m, hm⟩ := k1; exact DataW.trod_lt m _ _ _ hm
  have z1 : Go.EvU.Sz Try.prog 23 d1 := sz_of hk (by simp) (by kernel_rfl)
  have o1 := Go.EvU.open_arg (K := (Go.Ev.AK.one (Go.Ev.CK.int .u32))) (by kernel_rfl) (hval 1 23 v1 rfl rfl) h1 z1
  have k2 := h2
  have lt2 : ∀ x ∈ p2, x.block < W.heap.size := by obtain ⟨m, hm⟩ := k2; exact DataW.trod_lt m _ _ _ hm
  have z2 : Go.EvU.Sz Try.prog 37 d2 := sz_of hk (by simp) (by kernel_rfl)
  have o2 := Go.EvU.open_arg (K := (Go.Ev.AK.one (Go.Ev.CK.data .u16))) (by kernel_rfl) (hval 2 37 v2 rfl rfl) h2 z2
  clear hA0 hval0
  refine (walk v0 v1 v2 W o0 o1 o2).mono fun e W' ⟨he, bel⟩ => ?_
  subst he
  exact ⟨_, rfl, _, _, _, [], _, [], hW', trodAll_mk1 (shut_bool Try.underlying4 _), (trodAll_cons_mk (Below.trod laidOut (by kernel_rfl) (of_decide_eq_true (by kernel_rfl)) k0 bel lt0) (trodAll_cons_mk (Below.trod laidOut (by kernel_rfl) (of_decide_eq_true (by kernel_rfl)) k1 bel lt1) (trodAll_cons_mk (Below.trod laidOut (by kernel_rfl) (of_decide_eq_true (by kernel_rfl)) k2 bel lt2) trodAll_mk0))), rfl, bel.frame _, fun h => by cases h⟩

theorem over : Rows.fragBackUptoRow.holds Try.pinned (Rows.OpenSpec.upto Rows.fragBackSpec) :=
  OpenClaim.holds_of_cond 4 Try.f4 rfl rfl rfl rfl rfl rfl rfl ⟨rfl, rfl, rfl, rfl, rfl⟩ rfl rfl rfl rfl rfl (by kernel_rfl) Try.func4 (by kernel_rfl)
    (of_decide_eq_true (by kernel_rfl)) (by unfold Func.isWrapper; first | (rw [if_pos (by decide +kernel)]; kernel_rfl) | (rw [if_neg (by decide +kernel)]; exact ⟨rfl, rfl⟩))
    (fun os started H enc _ F => lifted os started H enc F)

theorem proved : Rows.FragBackUptoSaid := over
#print axioms proved
end Go.Proofs.Ytegiamjcdklijaa.fragBackUpto

