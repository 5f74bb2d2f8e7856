/- The law ShakeKeyed, run: whatever host, peer, other key and time are. No conditions. -/
import Derived.Test.YtaabhhffnlmkeaaKyT
import Derived.Test.YtaabhhffnlmkeaaKyP
import Derived.Test.YtaabhhffnlmkeaaCl32S
import Derived.Test.YtaabhhffnlmkeaaOpS
import Derived.Test.YtaabhhffnlmkeaaWkS
namespace Go.Ev
open Go Go.Proofs Go.Spec
attribute [local irreducible] ev evCall branch need again
theorem true_sum : SumOk Try.prog 7 sTrue := works_sum
theorem cxY_ok : CxOk Try.prog cxY := mkCx_ok namesS mixedS (by
  intro x h
  simp only [List.mem_cons, List.not_mem_nil, or_false] at h
  rcases h with rfl | rfl | rfl | rfl
  · exact true_sum
  · exact make_sum
  · exact open_sum
  · exact clone32_sum)
theorem keyed_run (k0 k1 k2 k3 k4 k5 k6 k7 k8 k9 ka kb kc kd ke kf j0 j1 j2 j3 j4 j5 j6 j7 j8 j9 ja jb jc jd je jf now port mtu streams sroom rroom mmax rini rmin rmax itr ptr atr beat clife seed ptag ptsn prwnd pstr : Int) (listen : Bool) (xs ys : List Int) (k : SV → St → Prop)
    (h1 : 0 ≤ ptag ∧ ptag ≤ 4294967295) (h2 : 0 ≤ ptsn ∧ ptsn ≤ 4294967295) (h3 : 0 ≤ prwnd ∧ prwnd ≤ 4294967295) (h4 : 0 ≤ pstr ∧ pstr ≤ 65535) (h5 : ∀ x ∈ ys, 0 ≤ x ∧ x ≤ 4294967295) (h6 : 0 ≤ now ∧ now ≤ 18446744073709551615) (h7 : 0 ≤ clife ∧ clife ≤ 4294967295)
    (hT : ∀ st, k (.sa (.one (bv true))) st) : ∃ N, evCall cxY (ev cxY N) 4 [.agg [.ref 0, iv .u16 port, bv listen, iv .i64 mtu, iv .u16 streams, iv .i64 sroom, iv .i64 rroom, iv .i64 mmax, iv .u32 rini, iv .u32 rmin, iv .u32 rmax, iv .u8 itr, iv .u8 ptr, iv .u8 atr, iv .u32 beat, iv .u32 clife, iv .u64 seed, iv .u8 k0, iv .u8 k1, iv .u8 k2, iv .u8 k3, iv .u8 k4, iv .u8 k5, iv .u8 k6, iv .u8 k7, iv .u8 k8, iv .u8 k9, iv .u8 ka, iv .u8 kb, iv .u8 kc, iv .u8 kd, iv .u8 ke, iv .u8 kf], .agg [iv .u32 ptag, iv .u32 ptsn, iv .u32 prwnd, iv .u16 pstr, .ref 1], .agg [iv .u8 j0, iv .u8 j1, iv .u8 j2, iv .u8 j3, iv .u8 j4, iv .u8 j5, iv .u8 j6, iv .u8 j7, iv .u8 j8, iv .u8 j9, iv .u8 ja, iv .u8 jb, iv .u8 jc, iv .u8 jd, iv .u8 je, iv .u8 jf], .one (iv .u64 now)] [some (.own false .ext 0 1 (.ints .u32 xs)), some (.own false .ext 0 1 (.ints .u32 ys))] k := by
  refine ⟨60, ?_⟩
  rw [t_keyed]
  refine brd (fun _ => hT _) (fun h => brd (fun _ => hT _) (fun h0 => ?_))
  rw [List.take_of_length_le (Nat.le_refl ys.length), List.take_of_length_le (Nat.le_refl xs.length)]
  have hlife : IntKind.wrap .u64 clife = clife := by rw [IntKind.wrap_u64]; omega
  have ht : TcOk (Spec.Tc.mk 2 ptag 3 ptsn prwnd pstr 1 ys 4 5 now) := ⟨by simp, h1, by simp, h2, h3, h4, by simp, h5, by simp, by simp, h6⟩
  generalize eT : Spec.Tc.mk 2 ptag 3 ptsn prwnd pstr 1 ys 4 5 now = T at ht ⊢
  have hx : T.xs = ys := by subst eT; rfl
  have hn : T.a10 = now := by subst eT; rfl
  generalize [k0, k1, k2, k3, k4, k5, k6, k7, k8, k9, ka, kb, kc, kd, ke, kf] = K
  generalize [j0, j1, j2, j3, j4, j5, j6, j7, j8, j9, ja, jb, jc, jd, je, jf] = J
  rw [List.take_of_length_le (Nat.le_refl (makeOf K T).length), List.take_of_length_le (Nat.le_refl (makeOf J T).length), hlife]
  have hlen := make_length K T
  obtain ⟨o1, o2, o3, o4⟩ := open_make (key := K) (other := J) (life := clife) ht (by rw [hx]; omega) hn h7.1
  have e1 : openOk J (makeOf K T) now clife = eqK (sipOf K [plainOf T] 1) (sipOf J [plainOf T] 1) := by unfold openOk; rw [o1, o2, o3, o4]; simp
  have e2 : strEq (strOf (makeOf K T)) (strOf (makeOf J T)) = eqK (sipOf K [plainOf T] 1) (sipOf J [plainOf T] 1) := eqL_make
  rw [hx] at hlen
  have fin : ∀ (q : Prop), q → need (decide (0 + ys.length ≤ ys.length)) (need (decide (ys.length ≤ 4611686018427387904)) (branch (decide (((ys.length : Nat) : Int) > 3)) (k (.sa (.one (bv false))) [some (.own false .ext 0 1 (.ints .u32 xs)), some (.own false .ext 0 1 (.ints .u32 ys))]) (need (decide (0 + xs.length ≤ xs.length)) (need (decide (xs.length ≤ 35184372088832)) (need (decide (0 + (makeOf K T).length ≤ (makeOf K T).length)) (need (decide (0 + (makeOf J T).length ≤ (makeOf J T).length)) q)))))) := fun q hq =>
    ndd (by omega) (ndd (by omega) (brf (by omega) (ndd (by omega) (ndd (by omega) (ndd (by omega) (ndd (by omega) hq))))))
  refine ndd (by omega) (ndd (by omega) (brf (by omega) (ndd (by omega) (ndd (by omega) (ndd (by omega) (ndd (by omega) ?_))))))
  by_cases hs : sipOf K [plainOf T] 1 = sipOf J [plainOf T] 1
  · have hs2 := eqK_t.2 hs
    rw [e1, e2, hs2]
    refine br (fun _ => ?_) (fun h => by cases h)
    exact br (fun _ => fin _ (br (fun _ => hT _) (fun h => by cases h))) (fun _ => fin _ (br (fun _ => hT _) (fun h => by cases h)))
  · have hs2 := eqK_f.2 hs
    have e3 : openErr J (makeOf K T) now clife = 160 := by unfold openErr; rw [o1, o2, o3, hs2]; rfl
    rw [e1, e2, e3, hs2]
    refine br (fun h => by cases h) (fun _ => fin _ ?_)
    exact br (fun _ => br (fun _ => hT _) (fun _ => hT _)) (fun h => by cases h)
end Go.Ev
