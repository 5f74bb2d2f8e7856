/- What came in as an argument that is a number and a slice of rows: as an object that nobody writes. No conditions. -/
import Derived.Test.YtmgdjbppmndlnaaEvD
import Derived.Test.YtmgdjbppmndlnaaProg
set_option linter.unusedVariables false
namespace Go.Ev
open Go Go.RowKit Go.ChangeShapes Go.WideShapes
section
variable {P : Program} {H : Type} {enc : TypeId × Value → H} {w : World} {held : Bool}
theorem open_pair {t e : TypeId} {k0 : IntKind} {ks : List CK} {f0 f1 : Field} (hu : P.underlying t = some (.struct #[f0, f1])) (h0 : f0.offset = 0) (h1 : f1.offset = 1)
    (hk0 : kindC P f0.type = some (.int k0)) (hu1 : P.underlying f1.type = some (.slice e)) (hc1 : P.cellsOf f1.type = 1) (hc : P.cellsOf t = 2) (hk : flatC P e = some ks) (hpos : 0 < ks.length) (hb : 0 < P.bytesOf e)
    {v : Value} {d : DataW H} {p : List MemPlace} (hv : ∃ cs, v = .agg cs) (h : DataW.Trod enc P w 0 (fun _ => true) held t v d p) (hz : Sz P t d) :
    ∃ (x : Int) (d0 : Den) (len : Nat) (cols : List Col), v = .agg #[.int k0 x, d0.val] ∧ (Lit.int k0 x).wf = true ∧ len ≤ 140737488355328 ∧ ColsD w len ks cols ∧ Ev.isCell d0.val = true ∧ ∀ α, Good α w d0 (.own false .ext 0 ks.length (.tab len cols)) := by
  obtain ⟨cs, rfl⟩ := hv
  obtain ⟨fuel, h⟩ := h
  simp only [Value.cells] at h
  obtain ⟨y0, y1, m, hd, hl, hy0, hy1⟩ := trod_struct2 hu h
  have hd1 : d = .agg [y0.1, y1.1] := (Prod.mk.inj hd).1
  subst hd1
  unfold Sz at hz
  simp only [DataW.weights, hu] at hz
  have z0 : Sz P f0.type y0.1 := fun q hq => hz q (DataW.weights_mem_each (j := 0) (t := f0.type) (d := y0.1) rfl rfl q hq)
  have z1 : Sz P f1.type y1.1 := fun q hq => hz q (DataW.weights_mem_each (j := 1) (t := f1.type) (d := y1.1) rfl rfl q hq)
  obtain ⟨c0, v0, e0, x, rfl, hx⟩ := kindC_typed hk0 hy0 z0
  rw [hc] at hl
  rw [h0, c0] at hy0 e0
  rw [h1, hc1] at hy1
  have hcs : ∃ a b, cs.toList = [a, b] := by
    match hh : cs.toList with
    | [a, b] => exact ⟨a, b, rfl⟩
    | [] => rw [hh] at hl; simp at hl
    | [_] => rw [hh] at hl; simp at hl
    | _ :: _ :: _ :: _ => rw [hh] at hl; simp at hl
  obtain ⟨a, b, hab⟩ := hcs
  rw [hab] at e0 hy1
  simp only [List.drop_zero, List.take_succ_cons, List.take_zero, List.cons.injEq, and_true, List.drop_succ_cons] at e0 hy1
  subst e0
  have hs : ∃ a len cap, b = .slice a len cap := by
    rcases DataW.trod_slice hu1 hy1 with ⟨h0, _⟩ | ⟨a, len, cap, _, _, _, _, h1, _⟩
    · simp at h0; exact ⟨_, _, _, h0⟩
    · simp at h1; exact ⟨_, _, _, h1⟩
  have hcell : Value.cells b = #[b] := by obtain ⟨a, len, cap, rfl⟩ := hs; rfl
  obtain ⟨d0, len, cols, g1, g2, g3, g4, g5⟩ := open_slice (p := y1.2) hu1 hk hpos hb hs ⟨m, by rw [hcell]; exact hy1⟩ z1
  refine ⟨x, d0, len, cols, ?_, hx, g2, g3, g4, g5⟩
  rw [g1]
  congr 1
  exact Array.toList_inj.1 hab
end
end Go.Ev
