/- Proved: the given statement PathDownSaid: the law PathDown answers true for every input, and the input reads as it did. No conditions. -/
import Derived.Test.YtgoldcmlbpfchaaRows
import Derived.Test.YtgoldcmlbpfchaaEvB
import Derived.Test.YtgoldcmlbpfchaaPaC
import Derived.WalkKit
import Derived.ProofKit
import Derived.OpenShut
import Derived.ShutString
import Derived.ChangeOld
namespace Go.Proofs.Ytgoldcmlbpfchaa.pathDown
open Go.ChangeShapes Go.WideShapes Go.ChangeAt Go.RowKit
open Go.ChangeMaps (open_string shut_string)

theorem own : ownKnob Try.prog.godebug = none := by kernel_rfl
theorem laidOut : laidOutB Try.prog = true := by kernel_rfl

open Go.Ev in
theorem wf_of {k : IntKind} {x lo hi : Int} (h : (Lit.int k x).wf = true) (h1 : k.min = lo) (h2 : k.max = hi) : lo ≤ x ∧ x ≤ hi := by
  simp only [Lit.wf, Bool.and_eq_true, decide_eq_true_eq] at h
  rw [h1, h2] at h
  exact h

open Go.Ev in
theorem peel {k : Option IntKind} {r : List (Option IntKind)} {vs : List Value} (h : CellsTyped (k :: r) vs) : ∃ v vs', vs = v :: vs' ∧ CellTyped k v ∧ CellsTyped r vs' := by
  cases vs with
  | nil => exact h.elim
  | cons v vs' => exact ⟨v, vs', rfl, h.1, h.2⟩
open Go.Ev in
theorem peel0 {vs : List Value} (h : CellsTyped [] vs) : vs = [] := by
  cases vs with
  | nil => rfl
  | cons v vs' => exact h.elim

/-- What came in as a slice of calls. -/
def Came (W : World) (v : Value) : Prop :=
  (∃ o, v = .slice o 0 0) ∨ ∃ (d0 : Go.Ev.Den) (len cap : Nat) (cols : List Go.Ev.Col), v = .slice (some ⟨d0.blk, d0.off, none⟩) len cap ∧ len ≤ cap ∧ cap ≤ maxLen ∧ Go.Ev.ColsOk len [some .u8, some .u32, none] cols ∧ d0.val = .nilFunc ∧
      ∀ α, Go.Ev.Good α W d0 (.mem false .ext 33 3 (.tab len cols))

open Go.Ev Go.Spec in
theorem walk (s0 : List Value) (v1 : Value) (W : World) (y0 : CellsTyped [some .i64, some .u16, some .i64, some .i64, some .i64, some .u32, some .u32, some .u32, some .u8, some .u8, some .u8, some .u32, some .u32] s0) (h : Came W v1) :
    Calls Try.prog 3 #[.agg s0.toArray, v1] W fun e w' => e = .returned (.bool true) ∧ Below W.heap.size W w' := by
  obtain ⟨_, z1, rfl, ⟨mtu, rfl, g0⟩, y1⟩ := peel y0
  obtain ⟨_, z2, rfl, ⟨ss, rfl, h1⟩, y2⟩ := peel y1
  obtain ⟨_, z3, rfl, ⟨sr, rfl, g2⟩, y3⟩ := peel y2
  obtain ⟨_, z4, rfl, ⟨rr, rfl, g3⟩, y4⟩ := peel y3
  obtain ⟨_, z5, rfl, ⟨mm, rfl, g4⟩, y5⟩ := peel y4
  obtain ⟨_, z6, rfl, ⟨ri, rfl, h2⟩, y6⟩ := peel y5
  obtain ⟨_, z7, rfl, ⟨rmin, rfl, h3⟩, y7⟩ := peel y6
  obtain ⟨_, z8, rfl, ⟨rmax, rfl, h4⟩, y8⟩ := peel y7
  obtain ⟨_, z9, rfl, ⟨it, rfl, h5⟩, y9⟩ := peel y8
  obtain ⟨_, z10, rfl, ⟨pt, rfl, h6⟩, y10⟩ := peel y9
  obtain ⟨_, z11, rfl, ⟨al, rfl, h7⟩, y11⟩ := peel y10
  obtain ⟨_, z12, rfl, ⟨beat, rfl, h8⟩, y12⟩ := peel y11
  obtain ⟨_, z13, rfl, ⟨life, rfl, h9⟩, y13⟩ := peel y12
  obtain rfl := peel0 y13
  have hpt := wf_of h6 rfl rfl
  rcases h with ⟨o, rfl⟩ | ⟨d0, len, cap, cols, rfl, hl, hm, hcol, hv, hg⟩
  · obtain ⟨n, hn⟩ := lawDownNil mtu ss sr rr mm ri rmin rmax it pt al beat life o
    exact call_top cx1_ok (R.empty W) (args := [.agg (cellsC ⟨mtu, ss, sr, rr, mm, ri, rmin, rmax, it, pt, al, beat, life⟩), .one (.raw (.slice o 0 0))]) (vals := [.agg #[.int .i64 mtu, .int .u16 ss, .int .i64 sr, .int .i64 rr, .int .i64 mm, .int .u32 ri, .int .u32 rmin, .int .u32 rmax, .int .u8 it, .int .u8 pt, .int .u8 al, .int .u32 beat, .int .u32 life], .slice o 0 0])
      ⟨⟨_, Reps.raw [.int .i64 mtu, .int .u16 ss, .int .i64 sr, .int .i64 rr, .int .i64 mm, .int .u32 ri, .int .u32 rmin, .int .u32 rmax, .int .u8 it, .int .u8 pt, .int .u8 al, .int .u32 beat, .int .u32 life], rfl⟩, rfl, trivial⟩ (noWr noWr_nil) hn (fun _ _ h => h)
  · match cols, hcol with
    | [_, _, _], ⟨⟨A, rfl, _, hA⟩, ⟨B, rfl, _, hB⟩, ⟨C, rfl, _⟩, _⟩ =>
      obtain ⟨hR, hw⟩ := R.ext (R.empty W) noWr_nil hv hg
      obtain ⟨n, hn⟩ := lawDown mtu ss sr rr mm ri rmin rmax it pt al beat life len cap A B C hpt
      exact call_top cx1_ok hR (args := [.agg (cellsC ⟨mtu, ss, sr, rr, mm, ri, rmin, rmax, it, pt, al, beat, life⟩), .one (.sl 0 0 len (some cap))]) (vals := [.agg #[.int .i64 mtu, .int .u16 ss, .int .i64 sr, .int .i64 rr, .int .i64 mm, .int .u32 ri, .int .u32 rmin, .int .u32 rmax, .int .u8 it, .int .u8 pt, .int .u8 al, .int .u32 beat, .int .u32 life], .slice (some ⟨d0.blk, d0.off, none⟩) len cap])
        ⟨⟨_, Reps.raw [.int .i64 mtu, .int .u16 ss, .int .i64 sr, .int .i64 rr, .int .i64 mm, .int .u32 ri, .int .u32 rmin, .int .u32 rmax, .int .u8 it, .int .u8 pt, .int .u8 al, .int .u32 beat, .int .u32 life], rfl⟩, by simp [SA.rep, SC.val?, Al.add], trivial⟩ (noWr hw) hn (fun _ _ h => h)

set_option maxRecDepth 100000 in
theorem lifted (os : Os) (started : os.Started) (H : Type) (enc : TypeId × Value → H) :
    ReturnsInHanded {} Try.checked os 3 .any (Rows.pathDownSpec.pre6 enc Try.prog Try.f3 Rows.pathDownRow.domain false) (Rows.pathDownSpec.post enc Try.prog Try.f3 false true false false) := by
  refine returnsInHanded_of_change (C := Try.checked) own started (by kernel_rfl) Try.func3
    (ChangeSpec.witness6 (enc := enc) (C := Try.checked) false ⟨#[], #[.agg #[.int .i64 0, .int .u16 0, .int .i64 0, .int .i64 0, .int .i64 0, .int .u32 0, .int .u32 0, .int .u32 0, .int .u8 0, .int .u8 0, .int .u8 0, .int .u32 0, .int .u32 0], .slice none 0 0], []⟩ 8 (by kernel_rfl) (by kernel_rfl) (by kernel_rfl) (by kernel_rfl)) ?_
  intro W base args ds gs before hval0 hW hcnd _
  have hval : ∀ (j : Nat) t v, Try.f3.params[j]? = some t → args[j]? = some v → Value.okWide Try.prog W .any base t v := hval0
  have hW' := hW
  obtain ⟨p, q, hA0, hV, rfl, hfz, hnd⟩ := hW
  have hA : DataW.TrodAll enc Try.prog W 0 (fun _ => true) true Try.f3.params.toList args.toList ds p := hA0
  rw [Try.params3] at hA hval
  obtain ⟨v0, vs0, d0, ds0, p0, q0, hargs, rfl, rfl, h0, r0⟩ := trodAll_cons hA
  obtain ⟨v1, vs1, d1, ds1, p1, q1, rfl, rfl, rfl, h1, r1⟩ := trodAll_cons r0
  obtain ⟨rfl, rfl, rfl⟩ := trodAll_nil r1
  obtain rfl : args = #[v0, v1] := by cases args; simp_all
  obtain ⟨rfl, rfl⟩ := trodVars_none hV
  have k0 := h0
  have lt0 : ∀ x ∈ p0, x.block < W.heap.size := by obtain ⟨m, hm⟩ := k0; exact DataW.trod_lt m _ _ _ hm
  obtain ⟨s0, rfl, w0⟩ := Go.Ev.open_flat Try.underlying25 (by kernel_rfl : Go.Ev.flatKinds Try.prog 25 = some [some .i64, some .u16, some .i64, some .i64, some .i64, some .u32, some .u32, some .u32, some .u8, some .u8, some .u8, some .u32, some .u32]) (okWide_struct Try.underlying25 (hval 0 25 v0 rfl rfl)) h0
  have k1 := h1
  have lt1 : ∀ x ∈ p1, x.block < W.heap.size := by obtain ⟨m, hm⟩ := k1; exact DataW.trod_lt m _ _ _ hm
  have o1 := Go.Ev.open_rows Try.underlying26 (by kernel_rfl : Go.Ev.flatKinds Try.prog 33 = some [some .u8, some .u32, none]) (by decide) (okWide_slice Try.underlying26 (hval 1 26 v1 rfl rfl)) h1
  clear hA0 hval0
  refine (walk s0 v1 W w0 o1).mono fun e W' ⟨he, bel⟩ => ?_
  subst he
  exact ⟨_, rfl, _, _, _, [], _, [], hW', trodAll_mk1 (shut_bool Try.underlying4 _), (trodAll_cons_mk (Below.trod laidOut (by kernel_rfl) (of_decide_eq_true (by kernel_rfl)) k0 bel lt0) (trodAll_cons_mk (Below.trod laidOut (by kernel_rfl) (of_decide_eq_true (by kernel_rfl)) k1 bel lt1) trodAll_mk0)), rfl, bel.frame _, fun h => by cases h⟩

theorem over : Rows.pathDownRow.holds Try.pinned (OpenSpec.ofChange Rows.pathDownSpec) :=
  OpenClaim.holds_of_wide 3 Try.f3 rfl rfl rfl rfl rfl rfl rfl ⟨rfl, rfl, rfl, rfl, rfl⟩ rfl rfl rfl rfl rfl (by kernel_rfl) Try.func3 (by kernel_rfl)
    (of_decide_eq_true (by kernel_rfl)) (by unfold Func.isWrapper; first | (rw [if_pos (by decide +kernel)]; kernel_rfl) | (rw [if_neg (by decide +kernel)]; exact ⟨rfl, rfl⟩))
    (fun os started H enc _ => lifted os started H enc)

theorem proved : Rows.PathDownSaid := over
#print axioms proved
end Go.Proofs.Ytgoldcmlbpfchaa.pathDown

