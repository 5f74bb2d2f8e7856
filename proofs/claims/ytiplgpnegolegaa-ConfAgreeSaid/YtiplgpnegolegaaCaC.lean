/- ConfAgree: the loop, the end, the law's run. No conditions. -/
import Derived.Test.YtiplgpnegolegaaCaS
import Derived.Test.YtiplgpnegolegaaCaV0
import Derived.Test.YtiplgpnegolegaaCaN0
import Derived.Test.YtiplgpnegolegaaCaXA
import Derived.Test.YtiplgpnegolegaaCaXE
import Derived.Test.YtiplgpnegolegaaCaT0
import Derived.Test.YtiplgpnegolegaaWkC
set_option linter.unusedVariables false
set_option linter.unusedSimpArgs false
set_option maxHeartbeats 4000000
set_option maxRecDepth 100000
namespace Go.Ev
open Go Go.Proofs Go.Spec
attribute [local irreducible] ev evCall branch need again caD caG caH caZ caE
theorem cxCa_ok : CxOk Try.prog cxCa := mkCx_ok (by kernel_rfl) (by kernel_rfl) (by
  intro y h
  simp only [sumsA, List.mem_cons, List.not_mem_nil, or_false] at h
  rcases h with rfl | rfl | rfl | rfl | rfl | rfl | rfl
  · exact known_sum
  · exact clone32_sum
  · exact do_sum
  · exact drA_sum
  · exact may_sum
  · exact mayR_sum
  · exact same_sum)
theorem end2 {E : Ag} {p : Pr} {F G : Int} {u M : Nat} {k : SV → St → Prop} (h : Both F G u p) (ha : p.a.o = none) (hb : p.b.o = none) (hk : k (.sa (.one (bv true))) (kS E)) : caE E p 2 (M + 68) M k := by
  obtain ⟨⟨f0, g0, nx0, ex0, os0, ps0, o0, p0⟩, ⟨f1, g1, nx1, ex1, os1, ps1, o1, p1⟩, Q0, Q1, R0, R1⟩ := p
  obtain ⟨T, D, T', D', h0, h1⟩ := h
  change o0 = none at ha
  change o1 = none at hb
  subst ha hb
  change Half F u T D f0 os0 nx0 none g1 ps1 ex1 p1 Q1 R0 at h0
  change Half G u T' D' f1 os1 nx1 none g0 ps0 ex0 p0 Q0 R1 at h1
  obtain ⟨x01, x02, x03, x04, x05, x06⟩ := h0.lookN
  obtain ⟨y01, y02⟩ := bigC x01
  obtain ⟨y03, y04⟩ := bigC x03
  obtain ⟨x11, x12, x13, x14, x15, x16⟩ := h1.lookN
  obtain ⟨y11, y12⟩ := bigC x11
  obtain ⟨y13, y14⟩ := bigC x13
  refine Eq.mpr (t_e200 ..) (Again.mk ?_)
  simp only [List.take_length, Nat.zero_add, Nat.le_refl, decide_true, and_self, Bool.not_true, br_t, br_f, nd_t, x02, x04, x05, x12, x14, x15, y01, y02, y03, y04, y11, y12, y13, y14, x06, x16]
  exact hk
theorem at_end {E : Ag} {p : Pr} {F G : Int} {u M : Nat} {k : SV → St → Prop} (h : Both F G u p) (hu : u ≤ 800) (hk : k (.sa (.one (bv true))) (kS E)) : caZ E p M k := by
  obtain ⟨A, B, Q0, Q1, R0, R1⟩ := p
  refine Eq.mpr (t_z ..) (Again.mk ?_)
  exact end0 h (by omega) fun p1 h1 o1 => end1 h1 (by omega) o1 fun p2 h2 o2 => end2 h2 o2.1 o2.2 hk
theorem ca_loop {xs ys ks ns cs as_ : List Int} {n : Nat} {bs : List Bool} {F G : Int} {M : Nat} {k : SV → St → Prop} (hn : n ≤ 300) (hks : ∀ j, 0 ≤ ks.getD j 0) (hns : ∀ j, 0 ≤ ns.getD j 0 ∧ ns.getD j 0 ≤ 65535) (hcs : ∀ j, 0 ≤ cs.getD j 0) (has : ∀ j, 0 ≤ as_.getD j 0)
    (hk : k (.sa (.one (bv true))) (kS ⟨xs, ys, n, bs, ks, ns, cs, as_⟩)) : ∀ (rem i L : Nat) (p : Pr), Both F G i p → i + rem = n → rem ≤ L → caH ⟨xs, ys, n, bs, ks, ns, cs, as_⟩ p (i : Int) L M k := by
  intro rem
  induction rem with
  | zero =>
    intro i L p h hi hL
    obtain ⟨A, B, Q0, Q1, R0, R1⟩ := p
    refine Eq.mpr (t_mA ..) (Again.mk ?_)
    exact brf (by omega) (at_end h (by omega) hk)
  | succ rem ih =>
    intro i L p h hi hL
    obtain ⟨L, rfl⟩ : ∃ L', L = L' + 1 := ⟨L - 1, by omega⟩
    obtain ⟨A, B, Q0, Q1, R0, R1⟩ := p
    refine Eq.mpr (t_mA ..) (Again.mk ?_)
    refine brt (by omega) (ndd (by omega) (ndd (by omega) (ndd (by omega) ?_)))
    have go : ∀ p', Both F G (i + 1) p' → caG ⟨xs, ys, n, bs, ks, ns, cs, as_⟩ p' (i : Int) (L + 1) M k := fun p' h' => by
      refine agree_step h' ?_
      rw [show addK .i64 (i : Int) 1 = ((i + 1 : Nat) : Int) by rw [addK_eq, i64_small (by omega)]; omega]
      exact ih (i + 1) L p' h' (by omega) (by omega)
    cases hb : List.getD bs (0 + Int.toNat (i : Int)) false with
    | false => exact mv0 h (by omega) (hks _) (hns _) (hcs _) (has _) go
    | true => exact mv1 h (by omega) (hks _) (hns _) (hcs _) (has _) go
theorem ca_run {fa fb first second : Int} {n : Nat} {xs ys ks ns cs as_ : List Int} {bs : List Bool} {k : SV → St → Prop} (hf : 0 ≤ first ∧ first ≤ 4294967295) (hg : 0 ≤ second ∧ second ≤ 4294967295) (hx : ∀ x ∈ xs, 0 ≤ x) (hy : ∀ x ∈ ys, 0 ≤ x)
    (hks : ∀ j, 0 ≤ ks.getD j 0) (hns : ∀ j, 0 ≤ ns.getD j 0 ∧ ns.getD j 0 ≤ 65535) (hcs : ∀ j, 0 ≤ cs.getD j 0) (has : ∀ j, 0 ≤ as_.getD j 0)
    (hk : k (.sa (.one (bv true))) [some (.own false .ext 0 1 (.ints .u32 xs)), some (.own false .ext 0 1 (.ints .u32 ys)), mvO n bs ks ns cs as_]) :
    ∃ N, evCall cxCa (ev cxCa N) 6 [.agg [iv .u32 fa, .ref 0], .agg [iv .u32 fb, .ref 1], .one (iv .u32 first), .one (iv .u32 second), .one (.ref 2)] [some (.own false .ext 0 1 (.ints .u32 xs)), some (.own false .ext 0 1 (.ints .u32 ys)), mvO n bs ks ns cs as_] k := by
  refine ⟨n + 80, ?_⟩
  rw [t_ca]
  refine brd (fun _ => hk) (fun c1 => ?_)
  refine brd (fun _ => hk) (fun c2 => ?_)
  refine brd (fun _ => hk) (fun c3 => ?_)
  simp only [List.take_length, Nat.zero_add]
  have z1 : xs.length ≤ 1000000 := by omega
  have z2 : ys.length ≤ 1000000 := by omega
  have z3 : xs.length ≤ 35184372088832 := by omega
  have z4 : ys.length ≤ 35184372088832 := by omega
  cases ma : mayB fa xs with
  | false =>
    cases mb : mayB fb ys with
    | false => simp only [Nat.le_refl, decide_true, z1, z2, z3, z4, Bool.not_false, br_t, nd_t]; exact hk
    | true => simp only [Nat.le_refl, decide_true, z1, z2, z3, z4, Bool.not_false, Bool.not_true, br_t, br_f, nd_t]; exact hk
  | true =>
    cases mb : mayB fb ys with
    | false => simp only [Nat.le_refl, decide_true, z1, z2, z3, z4, Bool.not_false, Bool.not_true, br_t, br_f, nd_t]; exact hk
    | true =>
      simp only [Nat.le_refl, decide_true, z1, z2, z3, z4, Bool.not_true, br_f, nd_t]
      have half : ∀ (F G a : Int) (os : List Int), 0 ≤ F ∧ F ≤ 4294967295 → (∀ x ∈ os, 0 ≤ x) → mayB a os = true → Half F 0 0 0 a os F none a os F none ⟨0, [], [], []⟩ ⟨0, [], []⟩ := fun F G a os h1 h2 h3 =>
        ⟨Nat.le_refl _, Nat.zero_le _, Nat.le_refl _, (nm_zero h1).symm, (nm_zero h1).symm, h3, okUs_iff.2 h2, Nat.le_refl _, Nat.le_refl _, ⟨⟨rfl, rfl, rfl⟩, fun j hj => absurd hj (Nat.not_lt_zero _)⟩, rnone, fun c hc => (by cases hc), fun _ => ⟨rfl, rfl, rfl⟩, fun c hc => (by cases hc)⟩
      have inv : Both first second 0 ⟨⟨fa, fb, first, second, xs, ys, none, none⟩, ⟨fb, fa, second, first, ys, xs, none, none⟩, ⟨0, [], [], []⟩, ⟨0, [], [], []⟩, ⟨0, [], []⟩, ⟨0, [], []⟩⟩ := ⟨_, _, _, _, half first 0 fa xs hf hx ma, half second 0 fb ys hg hy mb⟩
      have fin := ca_loop (M := n) (xs := xs) (ys := ys) (bs := bs) (k := k) (by omega) hks hns hcs has hk n 0 n _ inv (by omega) (Nat.le_refl _)
      unfold caH at fin
      exact fin
end Go.Ev
