/- The law CookieKeeps, run. No conditions. -/
import Derived.Test.YtljmfpkkcjcfmaaLoT
import Derived.Test.YtljmfpkkcjcfmaaOpS
import Derived.Test.YtljmfpkkcjcfmaaLkC
namespace Go.Ev
open Go Go.Proofs Go.Spec
theorem br_t {p q : Prop} : branch true p q = p := propext ⟨fun h => h, fun h => h⟩
theorem br_f {p q : Prop} : branch false p q = q := propext ⟨fun h => h, fun h => h⟩
theorem nd_t {p : Prop} : need true p = p := propext ⟨fun h => h, fun h => h⟩
attribute [local irreducible] ev evCall branch need again
theorem strInts_at {l : List Int} (h : Bytes l) : strInts (strOf l) = l := by
  unfold strInts strOf
  simp only [List.map_map]
  refine (List.map_congr_left (g := id) fun x hx => ?_).trans (List.map_id _)
  have hx := h x hx
  simp only [Function.comp, byteOfInt, id, UInt8.toNat_ofNat']
  omega
theorem cxKe_ok : CxOk Try.prog cxKe := mkCx_ok namesS mixedS (by
  intro x h
  simp only [List.mem_cons, List.not_mem_nil, or_false] at h
  rcases h with rfl | rfl | rfl
  · exact works_true
  · exact open_sum
  · exact same_sum)
theorem sameOf_self (t : Tc) : sameOf t t = true := (sameOf_iff t t).2 rfl
theorem xs_le (b : List Int) : (readT b).xs.length ≤ b.length := by
  have h : ∀ n i, (xsFrom b i n).length = n := by
    intro n
    induction n with
    | zero => intro i; rfl
    | succ n ih => intro i; simp [xsFrom, ih]
  show (xsFrom b 44 (manyOf b)).length ≤ _
  rw [h]; unfold manyOf; omega
theorem keeps_run (k0 k1 k2 k3 k4 k5 k6 k7 k8 k9 ka kb kc kd ke kf now life : Int) (b other : List Int) (hb : Bytes b) (k : SV → St → Prop) (hT : ∀ st, k (.sa (.one (bv true))) st) :
    ∃ N, evCall cxKe (ev cxKe N) 5 [.agg [iv .u8 k0, iv .u8 k1, iv .u8 k2, iv .u8 k3, iv .u8 k4, iv .u8 k5, iv .u8 k6, iv .u8 k7, iv .u8 k8, iv .u8 k9, iv .u8 ka, iv .u8 kb, iv .u8 kc, iv .u8 kd, iv .u8 ke, iv .u8 kf], .one (.ref 0), .one (iv .u64 now), .one (iv .u64 life), .one (.ref 1)] [rd b, rd other] k := by
  refine ⟨60, ?_⟩
  rw [t_keeps]
  refine br (fun _ => hT _) (fun h1 => br (fun _ => hT _) (fun h2 => ?_))
  have h1 := of_decide_eq_false h1
  have h2 := of_decide_eq_false h2
  have d1 : decide (b.length ≤ 4611686018427387904) = true := decide_eq_true (by omega)
  have d2 : decide (other.length ≤ 4611686018427387904) = true := decide_eq_true (by omega)
  have hx := xs_le b
  have d3 : decide ((readT b).xs.length ≤ 4611686018427387904) = true := decide_eq_true (by omega)
  have hs := sameOf_self
  have e0 : ∀ n : Nat, decide (0 + n ≤ n) = true := fun n => decide_eq_true (by omega)
  simp only [List.take_of_length_le (Nat.le_refl _), strInts_at hb, e0, nd_t, d1, d2, strEq_refl, br_t]
  cases hA : openOk [k0, k1, k2, k3, k4, k5, k6, k7, k8, k9, ka, kb, kc, kd, ke, kf] b now life <;> cases hE : emptyL (readT b).xs <;>
    cases hB : openOk [k0, k1, k2, k3, k4, k5, k6, k7, k8, k9, ka, kb, kc, kd, ke, kf] other now life <;> cases hF : emptyL (readT other).xs <;>
    simp only [br_t, br_f, nd_t, d3, hs, hT, eqK_eq, beq_self_eq_true, e0, List.length_nil, Nat.zero_le, decide_true, List.take_nil]
end Go.Ev
