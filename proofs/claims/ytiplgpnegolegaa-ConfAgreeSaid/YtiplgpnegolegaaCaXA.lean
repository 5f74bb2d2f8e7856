/- What a round of ConfAgree comes to, by the kind of the move and by what is out or kept: printed, checked by the kernel. No conditions. -/
import Derived.Test.YtiplgpnegolegaaCaE
import Derived.Test.YtiplgpnegolegaaEvD
set_option linter.unusedVariables false
set_option maxHeartbeats 0
namespace Go.Ev
open Go Go.Proofs Go.Spec
noncomputable def S_mA (A : Sd) (B : Sd) (Q0 : Qt) (Q1 : Qt) (R0 : Rt) (R1 : Rt) (i : Int) (n : Nat) (xs ys ks ns cs as_ : List Int) (bs : List Bool) (L M : Nat) (k : SV → St → Prop) : Prop := (caH ⟨xs, ys, n, bs, ks, ns, cs, as_⟩ ⟨A, B, Q0, Q1, R0, R1⟩ i L M k) =
    (Again (branch (decide ((i < ((n : Nat) : Int)))) (need (decide ((0) ≤ i)) (need (decide ((i < ((n : Nat) : Int)))) (need (decide ((0 + (Int.toNat i)) < n)) (caD ⟨xs, ys, n, bs, ks, ns, cs, as_⟩ ⟨A, B, Q0, Q1, R0, R1⟩ (List.getD bs (0 + (Int.toNat i)) false) (List.getD ks (0 + (Int.toNat i)) (0)) (List.getD ns (0 + (Int.toNat i)) (0)) (List.getD cs (0 + (Int.toNat i)) (0)) (List.getD as_ (0 + (Int.toNat i)) (0)) i L M k)))) (caZ ⟨xs, ys, n, bs, ks, ns, cs, as_⟩ ⟨A, B, Q0, Q1, R0, R1⟩ M k)))
section
variable {Q0 : Qt} {Q1 : Qt} {R0 : Rt} {R1 : Rt} {i : Int} {n : Nat} {xs ys ks ns cs as_ : List Int} {bs : List Bool} {L M : Nat} {k : SV → St → Prop} {f0 g0 nx0 ex0 : Int} {os0 ps0 : List Int} {f1 g1 nx1 ex1 : Int} {os1 ps1 : List Int} {co0 : Int × Int × Int} {co1 : Int × Int × Int} {cp0 : Int × Int} {cp1 : Int × Int}
theorem V_mA_0000 : S_mA ⟨f0, g0, nx0, ex0, os0, ps0, none, none⟩ ⟨f1, g1, nx1, ex1, os1, ps1, none, none⟩ Q0 Q1 R0 R1 i n xs ys ks ns cs as_ bs L M k := by unfold S_mA; kernel_rfl
theorem V_mA_0001 : S_mA ⟨f0, g0, nx0, ex0, os0, ps0, none, none⟩ ⟨f1, g1, nx1, ex1, os1, ps1, none, (some cp1)⟩ Q0 Q1 R0 R1 i n xs ys ks ns cs as_ bs L M k := by unfold S_mA; kernel_rfl
theorem V_mA_0010 : S_mA ⟨f0, g0, nx0, ex0, os0, ps0, none, (some cp0)⟩ ⟨f1, g1, nx1, ex1, os1, ps1, none, none⟩ Q0 Q1 R0 R1 i n xs ys ks ns cs as_ bs L M k := by unfold S_mA; kernel_rfl
theorem V_mA_0011 : S_mA ⟨f0, g0, nx0, ex0, os0, ps0, none, (some cp0)⟩ ⟨f1, g1, nx1, ex1, os1, ps1, none, (some cp1)⟩ Q0 Q1 R0 R1 i n xs ys ks ns cs as_ bs L M k := by unfold S_mA; kernel_rfl
theorem V_mA_0100 : S_mA ⟨f0, g0, nx0, ex0, os0, ps0, none, none⟩ ⟨f1, g1, nx1, ex1, os1, ps1, (some co1), none⟩ Q0 Q1 R0 R1 i n xs ys ks ns cs as_ bs L M k := by unfold S_mA; kernel_rfl
theorem V_mA_0101 : S_mA ⟨f0, g0, nx0, ex0, os0, ps0, none, none⟩ ⟨f1, g1, nx1, ex1, os1, ps1, (some co1), (some cp1)⟩ Q0 Q1 R0 R1 i n xs ys ks ns cs as_ bs L M k := by unfold S_mA; kernel_rfl
theorem V_mA_0110 : S_mA ⟨f0, g0, nx0, ex0, os0, ps0, none, (some cp0)⟩ ⟨f1, g1, nx1, ex1, os1, ps1, (some co1), none⟩ Q0 Q1 R0 R1 i n xs ys ks ns cs as_ bs L M k := by unfold S_mA; kernel_rfl
theorem V_mA_0111 : S_mA ⟨f0, g0, nx0, ex0, os0, ps0, none, (some cp0)⟩ ⟨f1, g1, nx1, ex1, os1, ps1, (some co1), (some cp1)⟩ Q0 Q1 R0 R1 i n xs ys ks ns cs as_ bs L M k := by unfold S_mA; kernel_rfl
theorem V_mA_1000 : S_mA ⟨f0, g0, nx0, ex0, os0, ps0, (some co0), none⟩ ⟨f1, g1, nx1, ex1, os1, ps1, none, none⟩ Q0 Q1 R0 R1 i n xs ys ks ns cs as_ bs L M k := by unfold S_mA; kernel_rfl
theorem V_mA_1001 : S_mA ⟨f0, g0, nx0, ex0, os0, ps0, (some co0), none⟩ ⟨f1, g1, nx1, ex1, os1, ps1, none, (some cp1)⟩ Q0 Q1 R0 R1 i n xs ys ks ns cs as_ bs L M k := by unfold S_mA; kernel_rfl
theorem V_mA_1010 : S_mA ⟨f0, g0, nx0, ex0, os0, ps0, (some co0), (some cp0)⟩ ⟨f1, g1, nx1, ex1, os1, ps1, none, none⟩ Q0 Q1 R0 R1 i n xs ys ks ns cs as_ bs L M k := by unfold S_mA; kernel_rfl
theorem V_mA_1011 : S_mA ⟨f0, g0, nx0, ex0, os0, ps0, (some co0), (some cp0)⟩ ⟨f1, g1, nx1, ex1, os1, ps1, none, (some cp1)⟩ Q0 Q1 R0 R1 i n xs ys ks ns cs as_ bs L M k := by unfold S_mA; kernel_rfl
theorem V_mA_1100 : S_mA ⟨f0, g0, nx0, ex0, os0, ps0, (some co0), none⟩ ⟨f1, g1, nx1, ex1, os1, ps1, (some co1), none⟩ Q0 Q1 R0 R1 i n xs ys ks ns cs as_ bs L M k := by unfold S_mA; kernel_rfl
theorem V_mA_1101 : S_mA ⟨f0, g0, nx0, ex0, os0, ps0, (some co0), none⟩ ⟨f1, g1, nx1, ex1, os1, ps1, (some co1), (some cp1)⟩ Q0 Q1 R0 R1 i n xs ys ks ns cs as_ bs L M k := by unfold S_mA; kernel_rfl
theorem V_mA_1110 : S_mA ⟨f0, g0, nx0, ex0, os0, ps0, (some co0), (some cp0)⟩ ⟨f1, g1, nx1, ex1, os1, ps1, (some co1), none⟩ Q0 Q1 R0 R1 i n xs ys ks ns cs as_ bs L M k := by unfold S_mA; kernel_rfl
theorem V_mA_1111 : S_mA ⟨f0, g0, nx0, ex0, os0, ps0, (some co0), (some cp0)⟩ ⟨f1, g1, nx1, ex1, os1, ps1, (some co1), (some cp1)⟩ Q0 Q1 R0 R1 i n xs ys ks ns cs as_ bs L M k := by unfold S_mA; kernel_rfl
end
theorem t_mA (A : Sd) (B : Sd) (Q0 : Qt) (Q1 : Qt) (R0 : Rt) (R1 : Rt) (i : Int) (n : Nat) (xs ys ks ns cs as_ : List Int) (bs : List Bool) (L M : Nat) (k : SV → St → Prop) : S_mA A B Q0 Q1 R0 R1 i n xs ys ks ns cs as_ bs L M k := match A, B with
  | ⟨_, _, _, _, _, _, none, none⟩, ⟨_, _, _, _, _, _, none, none⟩ => V_mA_0000
  | ⟨_, _, _, _, _, _, none, none⟩, ⟨_, _, _, _, _, _, none, some _⟩ => V_mA_0001
  | ⟨_, _, _, _, _, _, none, some _⟩, ⟨_, _, _, _, _, _, none, none⟩ => V_mA_0010
  | ⟨_, _, _, _, _, _, none, some _⟩, ⟨_, _, _, _, _, _, none, some _⟩ => V_mA_0011
  | ⟨_, _, _, _, _, _, none, none⟩, ⟨_, _, _, _, _, _, some _, none⟩ => V_mA_0100
  | ⟨_, _, _, _, _, _, none, none⟩, ⟨_, _, _, _, _, _, some _, some _⟩ => V_mA_0101
  | ⟨_, _, _, _, _, _, none, some _⟩, ⟨_, _, _, _, _, _, some _, none⟩ => V_mA_0110
  | ⟨_, _, _, _, _, _, none, some _⟩, ⟨_, _, _, _, _, _, some _, some _⟩ => V_mA_0111
  | ⟨_, _, _, _, _, _, some _, none⟩, ⟨_, _, _, _, _, _, none, none⟩ => V_mA_1000
  | ⟨_, _, _, _, _, _, some _, none⟩, ⟨_, _, _, _, _, _, none, some _⟩ => V_mA_1001
  | ⟨_, _, _, _, _, _, some _, some _⟩, ⟨_, _, _, _, _, _, none, none⟩ => V_mA_1010
  | ⟨_, _, _, _, _, _, some _, some _⟩, ⟨_, _, _, _, _, _, none, some _⟩ => V_mA_1011
  | ⟨_, _, _, _, _, _, some _, none⟩, ⟨_, _, _, _, _, _, some _, none⟩ => V_mA_1100
  | ⟨_, _, _, _, _, _, some _, none⟩, ⟨_, _, _, _, _, _, some _, some _⟩ => V_mA_1101
  | ⟨_, _, _, _, _, _, some _, some _⟩, ⟨_, _, _, _, _, _, some _, none⟩ => V_mA_1110
  | ⟨_, _, _, _, _, _, some _, some _⟩, ⟨_, _, _, _, _, _, some _, some _⟩ => V_mA_1111
end Go.Ev
set_option linter.unusedVariables false
set_option maxHeartbeats 0
namespace Go.Ev
open Go Go.Proofs Go.Spec
noncomputable def S_m00n (E : Ag) (B : Sd) (Q0 : Qt) (R0 : Rt) (R1 : Rt) (p0 : Option (Int × Int)) (f0 g0 nx0 ex0 i xn ck ca : Int) (m1 : Nat) (os0 ps0 qn1 qk1 qa1 : List Int) (L M : Nat) (k : SV → St → Prop) : Prop := (caD E ⟨⟨f0, g0, nx0, ex0, os0, ps0, none, p0⟩, B, Q0, ⟨m1, qn1, qk1, qa1⟩, R0, R1⟩ false 0 xn ck ca i L M k) =
    (Again (need (decide (((0 + (List.length os0)) ≤ (List.length os0)))) (need (decide ((((List.length (List.take (List.length os0) os0)) ≤ 1000000) ∧ ((0) ≤ ck)))) (branch (Bool.not (eqK (doE f0 (List.take (List.length os0) os0) ck ca) (0))) (branch (eqK (doE f0 (List.take (List.length os0) os0) ck ca) (0)) (need (decide (((m1 + 1) * 12) ≤ 140737488355328)) (caG E ⟨⟨f0, g0, nx0, ex0, os0, ps0, none, p0⟩, B, Q0, ⟨(m1 + 1), ((fitL (0) m1 qn1) ++ [(0)]), ((fitL (0) m1 qk1) ++ [(0)]), ((fitL (0) m1 qa1) ++ [(0)])⟩, R0, R1⟩ i L M k)) (caG E ⟨⟨f0, g0, nx0, ex0, os0, ps0, none, p0⟩, B, Q0, ⟨m1, qn1, qk1, qa1⟩, R0, R1⟩ i L M k)) (need (decide (((m1 + 1) * 12) ≤ 140737488355328)) (caG E ⟨⟨f0, g0, (addK .u32 nx0 (1)), ex0, os0, ps0, (some (nx0, ck, ca)), p0⟩, B, Q0, ⟨(m1 + 1), ((fitL (0) m1 qn1) ++ [nx0]), ((fitL (0) m1 qk1) ++ [ck]), ((fitL (0) m1 qa1) ++ [ca])⟩, R0, R1⟩ i L M k))))))
section
variable {E : Ag} {Q0 : Qt} {R0 : Rt} {R1 : Rt} {f0 g0 nx0 ex0 i xn ck ca : Int} {m1 : Nat} {os0 ps0 qn1 qk1 qa1 : List Int} {L M : Nat} {k : SV → St → Prop} {f1 g1 nx1 ex1 : Int} {os1 ps1 : List Int} {co1 : Int × Int × Int} {cp0 : Int × Int} {cp1 : Int × Int}
theorem V_m00n_000 : S_m00n E ⟨f1, g1, nx1, ex1, os1, ps1, none, none⟩ Q0 R0 R1 none f0 g0 nx0 ex0 i xn ck ca m1 os0 ps0 qn1 qk1 qa1 L M k := by unfold S_m00n; kernel_rfl
theorem V_m00n_001 : S_m00n E ⟨f1, g1, nx1, ex1, os1, ps1, none, (some cp1)⟩ Q0 R0 R1 none f0 g0 nx0 ex0 i xn ck ca m1 os0 ps0 qn1 qk1 qa1 L M k := by unfold S_m00n; kernel_rfl
theorem V_m00n_010 : S_m00n E ⟨f1, g1, nx1, ex1, os1, ps1, none, none⟩ Q0 R0 R1 (some cp0) f0 g0 nx0 ex0 i xn ck ca m1 os0 ps0 qn1 qk1 qa1 L M k := by unfold S_m00n; kernel_rfl
theorem V_m00n_011 : S_m00n E ⟨f1, g1, nx1, ex1, os1, ps1, none, (some cp1)⟩ Q0 R0 R1 (some cp0) f0 g0 nx0 ex0 i xn ck ca m1 os0 ps0 qn1 qk1 qa1 L M k := by unfold S_m00n; kernel_rfl
theorem V_m00n_100 : S_m00n E ⟨f1, g1, nx1, ex1, os1, ps1, (some co1), none⟩ Q0 R0 R1 none f0 g0 nx0 ex0 i xn ck ca m1 os0 ps0 qn1 qk1 qa1 L M k := by unfold S_m00n; kernel_rfl
theorem V_m00n_101 : S_m00n E ⟨f1, g1, nx1, ex1, os1, ps1, (some co1), (some cp1)⟩ Q0 R0 R1 none f0 g0 nx0 ex0 i xn ck ca m1 os0 ps0 qn1 qk1 qa1 L M k := by unfold S_m00n; kernel_rfl
theorem V_m00n_110 : S_m00n E ⟨f1, g1, nx1, ex1, os1, ps1, (some co1), none⟩ Q0 R0 R1 (some cp0) f0 g0 nx0 ex0 i xn ck ca m1 os0 ps0 qn1 qk1 qa1 L M k := by unfold S_m00n; kernel_rfl
theorem V_m00n_111 : S_m00n E ⟨f1, g1, nx1, ex1, os1, ps1, (some co1), (some cp1)⟩ Q0 R0 R1 (some cp0) f0 g0 nx0 ex0 i xn ck ca m1 os0 ps0 qn1 qk1 qa1 L M k := by unfold S_m00n; kernel_rfl
end
theorem t_m00n (E : Ag) (B : Sd) (Q0 : Qt) (R0 : Rt) (R1 : Rt) (p0 : Option (Int × Int)) (f0 g0 nx0 ex0 i xn ck ca : Int) (m1 : Nat) (os0 ps0 qn1 qk1 qa1 : List Int) (L M : Nat) (k : SV → St → Prop) : S_m00n E B Q0 R0 R1 p0 f0 g0 nx0 ex0 i xn ck ca m1 os0 ps0 qn1 qk1 qa1 L M k := match p0, B with
  | none, ⟨_, _, _, _, _, _, none, none⟩ => V_m00n_000
  | none, ⟨_, _, _, _, _, _, none, some _⟩ => V_m00n_001
  | some _, ⟨_, _, _, _, _, _, none, none⟩ => V_m00n_010
  | some _, ⟨_, _, _, _, _, _, none, some _⟩ => V_m00n_011
  | none, ⟨_, _, _, _, _, _, some _, none⟩ => V_m00n_100
  | none, ⟨_, _, _, _, _, _, some _, some _⟩ => V_m00n_101
  | some _, ⟨_, _, _, _, _, _, some _, none⟩ => V_m00n_110
  | some _, ⟨_, _, _, _, _, _, some _, some _⟩ => V_m00n_111
noncomputable def S_m00s (E : Ag) (B : Sd) (Q0 : Qt) (R0 : Rt) (R1 : Rt) (p0 : Option (Int × Int)) (f0 g0 nx0 un0 uk0 ua0 ex0 i xn ck ca : Int) (m1 : Nat) (os0 ps0 qn1 qk1 qa1 : List Int) (L M : Nat) (k : SV → St → Prop) : Prop := (caD E ⟨⟨f0, g0, nx0, ex0, os0, ps0, (some (un0, uk0, ua0)), p0⟩, B, Q0, ⟨m1, qn1, qk1, qa1⟩, R0, R1⟩ false 0 xn ck ca i L M k) =
    (Again (need (decide (((0 + (List.length os0)) ≤ (List.length os0)))) (need (decide ((((List.length (List.take (List.length os0) os0)) ≤ 1000000) ∧ ((0) ≤ ck)))) (branch (Bool.not (eqK (doE f0 (List.take (List.length os0) os0) ck ca) (0))) (branch (eqK (doE f0 (List.take (List.length os0) os0) ck ca) (0)) (need (decide (((m1 + 1) * 12) ≤ 140737488355328)) (caG E ⟨⟨f0, g0, nx0, ex0, os0, ps0, (some (un0, uk0, ua0)), p0⟩, B, Q0, ⟨(m1 + 1), ((fitL (0) m1 qn1) ++ [(0)]), ((fitL (0) m1 qk1) ++ [(0)]), ((fitL (0) m1 qa1) ++ [(0)])⟩, R0, R1⟩ i L M k)) (caG E ⟨⟨f0, g0, nx0, ex0, os0, ps0, (some (un0, uk0, ua0)), p0⟩, B, Q0, ⟨m1, qn1, qk1, qa1⟩, R0, R1⟩ i L M k)) (caG E ⟨⟨f0, g0, nx0, ex0, os0, ps0, (some (un0, uk0, ua0)), p0⟩, B, Q0, ⟨m1, qn1, qk1, qa1⟩, R0, R1⟩ i L M k)))))
section
variable {E : Ag} {Q0 : Qt} {R0 : Rt} {R1 : Rt} {f0 g0 nx0 un0 uk0 ua0 ex0 i xn ck ca : Int} {m1 : Nat} {os0 ps0 qn1 qk1 qa1 : List Int} {L M : Nat} {k : SV → St → Prop} {f1 g1 nx1 ex1 : Int} {os1 ps1 : List Int} {co1 : Int × Int × Int} {cp0 : Int × Int} {cp1 : Int × Int}
theorem V_m00s_000 : S_m00s E ⟨f1, g1, nx1, ex1, os1, ps1, none, none⟩ Q0 R0 R1 none f0 g0 nx0 un0 uk0 ua0 ex0 i xn ck ca m1 os0 ps0 qn1 qk1 qa1 L M k := by unfold S_m00s; kernel_rfl
theorem V_m00s_001 : S_m00s E ⟨f1, g1, nx1, ex1, os1, ps1, none, (some cp1)⟩ Q0 R0 R1 none f0 g0 nx0 un0 uk0 ua0 ex0 i xn ck ca m1 os0 ps0 qn1 qk1 qa1 L M k := by unfold S_m00s; kernel_rfl
theorem V_m00s_010 : S_m00s E ⟨f1, g1, nx1, ex1, os1, ps1, none, none⟩ Q0 R0 R1 (some cp0) f0 g0 nx0 un0 uk0 ua0 ex0 i xn ck ca m1 os0 ps0 qn1 qk1 qa1 L M k := by unfold S_m00s; kernel_rfl
theorem V_m00s_011 : S_m00s E ⟨f1, g1, nx1, ex1, os1, ps1, none, (some cp1)⟩ Q0 R0 R1 (some cp0) f0 g0 nx0 un0 uk0 ua0 ex0 i xn ck ca m1 os0 ps0 qn1 qk1 qa1 L M k := by unfold S_m00s; kernel_rfl
theorem V_m00s_100 : S_m00s E ⟨f1, g1, nx1, ex1, os1, ps1, (some co1), none⟩ Q0 R0 R1 none f0 g0 nx0 un0 uk0 ua0 ex0 i xn ck ca m1 os0 ps0 qn1 qk1 qa1 L M k := by unfold S_m00s; kernel_rfl
theorem V_m00s_101 : S_m00s E ⟨f1, g1, nx1, ex1, os1, ps1, (some co1), (some cp1)⟩ Q0 R0 R1 none f0 g0 nx0 un0 uk0 ua0 ex0 i xn ck ca m1 os0 ps0 qn1 qk1 qa1 L M k := by unfold S_m00s; kernel_rfl
theorem V_m00s_110 : S_m00s E ⟨f1, g1, nx1, ex1, os1, ps1, (some co1), none⟩ Q0 R0 R1 (some cp0) f0 g0 nx0 un0 uk0 ua0 ex0 i xn ck ca m1 os0 ps0 qn1 qk1 qa1 L M k := by unfold S_m00s; kernel_rfl
theorem V_m00s_111 : S_m00s E ⟨f1, g1, nx1, ex1, os1, ps1, (some co1), (some cp1)⟩ Q0 R0 R1 (some cp0) f0 g0 nx0 un0 uk0 ua0 ex0 i xn ck ca m1 os0 ps0 qn1 qk1 qa1 L M k := by unfold S_m00s; kernel_rfl
end
theorem t_m00s (E : Ag) (B : Sd) (Q0 : Qt) (R0 : Rt) (R1 : Rt) (p0 : Option (Int × Int)) (f0 g0 nx0 un0 uk0 ua0 ex0 i xn ck ca : Int) (m1 : Nat) (os0 ps0 qn1 qk1 qa1 : List Int) (L M : Nat) (k : SV → St → Prop) : S_m00s E B Q0 R0 R1 p0 f0 g0 nx0 un0 uk0 ua0 ex0 i xn ck ca m1 os0 ps0 qn1 qk1 qa1 L M k := match p0, B with
  | none, ⟨_, _, _, _, _, _, none, none⟩ => V_m00s_000
  | none, ⟨_, _, _, _, _, _, none, some _⟩ => V_m00s_001
  | some _, ⟨_, _, _, _, _, _, none, none⟩ => V_m00s_010
  | some _, ⟨_, _, _, _, _, _, none, some _⟩ => V_m00s_011
  | none, ⟨_, _, _, _, _, _, some _, none⟩ => V_m00s_100
  | none, ⟨_, _, _, _, _, _, some _, some _⟩ => V_m00s_101
  | some _, ⟨_, _, _, _, _, _, some _, none⟩ => V_m00s_110
  | some _, ⟨_, _, _, _, _, _, some _, some _⟩ => V_m00s_111
end Go.Ev
set_option linter.unusedVariables false
set_option maxHeartbeats 0
namespace Go.Ev
open Go Go.Proofs Go.Spec
noncomputable def S_m01n (E : Ag) (B : Sd) (Q0 : Qt) (Q1 : Qt) (R0 : Rt) (R1 : Rt) (p0 : Option (Int × Int)) (f0 g0 nx0 ex0 i xn ck ca : Int) (os0 ps0 : List Int) (L M : Nat) (k : SV → St → Prop) : Prop := (caD E ⟨⟨f0, g0, nx0, ex0, os0, ps0, none, p0⟩, B, Q0, Q1, R0, R1⟩ false 1 xn ck ca i L M k) =
    (Again (caG E ⟨⟨f0, g0, nx0, ex0, os0, ps0, none, p0⟩, B, Q0, Q1, R0, R1⟩ i L M k))
section
variable {E : Ag} {Q0 : Qt} {Q1 : Qt} {R0 : Rt} {R1 : Rt} {f0 g0 nx0 ex0 i xn ck ca : Int} {os0 ps0 : List Int} {L M : Nat} {k : SV → St → Prop} {f1 g1 nx1 ex1 : Int} {os1 ps1 : List Int} {co1 : Int × Int × Int} {cp0 : Int × Int} {cp1 : Int × Int}
theorem V_m01n_000 : S_m01n E ⟨f1, g1, nx1, ex1, os1, ps1, none, none⟩ Q0 Q1 R0 R1 none f0 g0 nx0 ex0 i xn ck ca os0 ps0 L M k := by unfold S_m01n; kernel_rfl
theorem V_m01n_001 : S_m01n E ⟨f1, g1, nx1, ex1, os1, ps1, none, (some cp1)⟩ Q0 Q1 R0 R1 none f0 g0 nx0 ex0 i xn ck ca os0 ps0 L M k := by unfold S_m01n; kernel_rfl
theorem V_m01n_010 : S_m01n E ⟨f1, g1, nx1, ex1, os1, ps1, none, none⟩ Q0 Q1 R0 R1 (some cp0) f0 g0 nx0 ex0 i xn ck ca os0 ps0 L M k := by unfold S_m01n; kernel_rfl
theorem V_m01n_011 : S_m01n E ⟨f1, g1, nx1, ex1, os1, ps1, none, (some cp1)⟩ Q0 Q1 R0 R1 (some cp0) f0 g0 nx0 ex0 i xn ck ca os0 ps0 L M k := by unfold S_m01n; kernel_rfl
theorem V_m01n_100 : S_m01n E ⟨f1, g1, nx1, ex1, os1, ps1, (some co1), none⟩ Q0 Q1 R0 R1 none f0 g0 nx0 ex0 i xn ck ca os0 ps0 L M k := by unfold S_m01n; kernel_rfl
theorem V_m01n_101 : S_m01n E ⟨f1, g1, nx1, ex1, os1, ps1, (some co1), (some cp1)⟩ Q0 Q1 R0 R1 none f0 g0 nx0 ex0 i xn ck ca os0 ps0 L M k := by unfold S_m01n; kernel_rfl
theorem V_m01n_110 : S_m01n E ⟨f1, g1, nx1, ex1, os1, ps1, (some co1), none⟩ Q0 Q1 R0 R1 (some cp0) f0 g0 nx0 ex0 i xn ck ca os0 ps0 L M k := by unfold S_m01n; kernel_rfl
theorem V_m01n_111 : S_m01n E ⟨f1, g1, nx1, ex1, os1, ps1, (some co1), (some cp1)⟩ Q0 Q1 R0 R1 (some cp0) f0 g0 nx0 ex0 i xn ck ca os0 ps0 L M k := by unfold S_m01n; kernel_rfl
end
theorem t_m01n (E : Ag) (B : Sd) (Q0 : Qt) (Q1 : Qt) (R0 : Rt) (R1 : Rt) (p0 : Option (Int × Int)) (f0 g0 nx0 ex0 i xn ck ca : Int) (os0 ps0 : List Int) (L M : Nat) (k : SV → St → Prop) : S_m01n E B Q0 Q1 R0 R1 p0 f0 g0 nx0 ex0 i xn ck ca os0 ps0 L M k := match p0, B with
  | none, ⟨_, _, _, _, _, _, none, none⟩ => V_m01n_000
  | none, ⟨_, _, _, _, _, _, none, some _⟩ => V_m01n_001
  | some _, ⟨_, _, _, _, _, _, none, none⟩ => V_m01n_010
  | some _, ⟨_, _, _, _, _, _, none, some _⟩ => V_m01n_011
  | none, ⟨_, _, _, _, _, _, some _, none⟩ => V_m01n_100
  | none, ⟨_, _, _, _, _, _, some _, some _⟩ => V_m01n_101
  | some _, ⟨_, _, _, _, _, _, some _, none⟩ => V_m01n_110
  | some _, ⟨_, _, _, _, _, _, some _, some _⟩ => V_m01n_111
noncomputable def S_m01s (E : Ag) (B : Sd) (Q0 : Qt) (R0 : Rt) (R1 : Rt) (p0 : Option (Int × Int)) (f0 g0 nx0 un0 uk0 ua0 ex0 i xn ck ca : Int) (m1 : Nat) (os0 ps0 qn1 qk1 qa1 : List Int) (L M : Nat) (k : SV → St → Prop) : Prop := (caD E ⟨⟨f0, g0, nx0, ex0, os0, ps0, (some (un0, uk0, ua0)), p0⟩, B, Q0, ⟨m1, qn1, qk1, qa1⟩, R0, R1⟩ false 1 xn ck ca i L M k) =
    (Again (need (decide (((m1 + 1) * 12) ≤ 140737488355328)) (caG E ⟨⟨f0, g0, nx0, ex0, os0, ps0, (some (un0, uk0, ua0)), p0⟩, B, Q0, ⟨(m1 + 1), ((fitL (0) m1 qn1) ++ [un0]), ((fitL (0) m1 qk1) ++ [uk0]), ((fitL (0) m1 qa1) ++ [ua0])⟩, R0, R1⟩ i L M k)))
section
variable {E : Ag} {Q0 : Qt} {R0 : Rt} {R1 : Rt} {f0 g0 nx0 un0 uk0 ua0 ex0 i xn ck ca : Int} {m1 : Nat} {os0 ps0 qn1 qk1 qa1 : List Int} {L M : Nat} {k : SV → St → Prop} {f1 g1 nx1 ex1 : Int} {os1 ps1 : List Int} {co1 : Int × Int × Int} {cp0 : Int × Int} {cp1 : Int × Int}
theorem V_m01s_000 : S_m01s E ⟨f1, g1, nx1, ex1, os1, ps1, none, none⟩ Q0 R0 R1 none f0 g0 nx0 un0 uk0 ua0 ex0 i xn ck ca m1 os0 ps0 qn1 qk1 qa1 L M k := by unfold S_m01s; kernel_rfl
theorem V_m01s_001 : S_m01s E ⟨f1, g1, nx1, ex1, os1, ps1, none, (some cp1)⟩ Q0 R0 R1 none f0 g0 nx0 un0 uk0 ua0 ex0 i xn ck ca m1 os0 ps0 qn1 qk1 qa1 L M k := by unfold S_m01s; kernel_rfl
theorem V_m01s_010 : S_m01s E ⟨f1, g1, nx1, ex1, os1, ps1, none, none⟩ Q0 R0 R1 (some cp0) f0 g0 nx0 un0 uk0 ua0 ex0 i xn ck ca m1 os0 ps0 qn1 qk1 qa1 L M k := by unfold S_m01s; kernel_rfl
theorem V_m01s_011 : S_m01s E ⟨f1, g1, nx1, ex1, os1, ps1, none, (some cp1)⟩ Q0 R0 R1 (some cp0) f0 g0 nx0 un0 uk0 ua0 ex0 i xn ck ca m1 os0 ps0 qn1 qk1 qa1 L M k := by unfold S_m01s; kernel_rfl
theorem V_m01s_100 : S_m01s E ⟨f1, g1, nx1, ex1, os1, ps1, (some co1), none⟩ Q0 R0 R1 none f0 g0 nx0 un0 uk0 ua0 ex0 i xn ck ca m1 os0 ps0 qn1 qk1 qa1 L M k := by unfold S_m01s; kernel_rfl
theorem V_m01s_101 : S_m01s E ⟨f1, g1, nx1, ex1, os1, ps1, (some co1), (some cp1)⟩ Q0 R0 R1 none f0 g0 nx0 un0 uk0 ua0 ex0 i xn ck ca m1 os0 ps0 qn1 qk1 qa1 L M k := by unfold S_m01s; kernel_rfl
theorem V_m01s_110 : S_m01s E ⟨f1, g1, nx1, ex1, os1, ps1, (some co1), none⟩ Q0 R0 R1 (some cp0) f0 g0 nx0 un0 uk0 ua0 ex0 i xn ck ca m1 os0 ps0 qn1 qk1 qa1 L M k := by unfold S_m01s; kernel_rfl
theorem V_m01s_111 : S_m01s E ⟨f1, g1, nx1, ex1, os1, ps1, (some co1), (some cp1)⟩ Q0 R0 R1 (some cp0) f0 g0 nx0 un0 uk0 ua0 ex0 i xn ck ca m1 os0 ps0 qn1 qk1 qa1 L M k := by unfold S_m01s; kernel_rfl
end
theorem t_m01s (E : Ag) (B : Sd) (Q0 : Qt) (R0 : Rt) (R1 : Rt) (p0 : Option (Int × Int)) (f0 g0 nx0 un0 uk0 ua0 ex0 i xn ck ca : Int) (m1 : Nat) (os0 ps0 qn1 qk1 qa1 : List Int) (L M : Nat) (k : SV → St → Prop) : S_m01s E B Q0 R0 R1 p0 f0 g0 nx0 un0 uk0 ua0 ex0 i xn ck ca m1 os0 ps0 qn1 qk1 qa1 L M k := match p0, B with
  | none, ⟨_, _, _, _, _, _, none, none⟩ => V_m01s_000
  | none, ⟨_, _, _, _, _, _, none, some _⟩ => V_m01s_001
  | some _, ⟨_, _, _, _, _, _, none, none⟩ => V_m01s_010
  | some _, ⟨_, _, _, _, _, _, none, some _⟩ => V_m01s_011
  | none, ⟨_, _, _, _, _, _, some _, none⟩ => V_m01s_100
  | none, ⟨_, _, _, _, _, _, some _, some _⟩ => V_m01s_101
  | some _, ⟨_, _, _, _, _, _, some _, none⟩ => V_m01s_110
  | some _, ⟨_, _, _, _, _, _, some _, some _⟩ => V_m01s_111
end Go.Ev
set_option linter.unusedVariables false
set_option maxHeartbeats 0
namespace Go.Ev
open Go Go.Proofs Go.Spec
noncomputable def S_m10n (E : Ag) (A : Sd) (Q1 : Qt) (R0 : Rt) (R1 : Rt) (p1 : Option (Int × Int)) (f1 g1 nx1 ex1 i xn ck ca : Int) (m0 : Nat) (os1 ps1 qn0 qk0 qa0 : List Int) (L M : Nat) (k : SV → St → Prop) : Prop := (caD E ⟨A, ⟨f1, g1, nx1, ex1, os1, ps1, none, p1⟩, ⟨m0, qn0, qk0, qa0⟩, Q1, R0, R1⟩ true 0 xn ck ca i L M k) =
    (Again (need (decide (((0 + (List.length os1)) ≤ (List.length os1)))) (need (decide ((((List.length (List.take (List.length os1) os1)) ≤ 1000000) ∧ ((0) ≤ ck)))) (branch (Bool.not (eqK (doE f1 (List.take (List.length os1) os1) ck ca) (0))) (branch (eqK (doE f1 (List.take (List.length os1) os1) ck ca) (0)) (need (decide (((m0 + 1) * 12) ≤ 140737488355328)) (caG E ⟨A, ⟨f1, g1, nx1, ex1, os1, ps1, none, p1⟩, ⟨(m0 + 1), ((fitL (0) m0 qn0) ++ [(0)]), ((fitL (0) m0 qk0) ++ [(0)]), ((fitL (0) m0 qa0) ++ [(0)])⟩, Q1, R0, R1⟩ i L M k)) (caG E ⟨A, ⟨f1, g1, nx1, ex1, os1, ps1, none, p1⟩, ⟨m0, qn0, qk0, qa0⟩, Q1, R0, R1⟩ i L M k)) (need (decide (((m0 + 1) * 12) ≤ 140737488355328)) (caG E ⟨A, ⟨f1, g1, (addK .u32 nx1 (1)), ex1, os1, ps1, (some (nx1, ck, ca)), p1⟩, ⟨(m0 + 1), ((fitL (0) m0 qn0) ++ [nx1]), ((fitL (0) m0 qk0) ++ [ck]), ((fitL (0) m0 qa0) ++ [ca])⟩, Q1, R0, R1⟩ i L M k))))))
section
variable {E : Ag} {Q1 : Qt} {R0 : Rt} {R1 : Rt} {f1 g1 nx1 ex1 i xn ck ca : Int} {m0 : Nat} {os1 ps1 qn0 qk0 qa0 : List Int} {L M : Nat} {k : SV → St → Prop} {f0 g0 nx0 ex0 : Int} {os0 ps0 : List Int} {co0 : Int × Int × Int} {cp0 : Int × Int} {cp1 : Int × Int}
theorem V_m10n_000 : S_m10n E ⟨f0, g0, nx0, ex0, os0, ps0, none, none⟩ Q1 R0 R1 none f1 g1 nx1 ex1 i xn ck ca m0 os1 ps1 qn0 qk0 qa0 L M k := by unfold S_m10n; kernel_rfl
theorem V_m10n_001 : S_m10n E ⟨f0, g0, nx0, ex0, os0, ps0, none, none⟩ Q1 R0 R1 (some cp1) f1 g1 nx1 ex1 i xn ck ca m0 os1 ps1 qn0 qk0 qa0 L M k := by unfold S_m10n; kernel_rfl
theorem V_m10n_010 : S_m10n E ⟨f0, g0, nx0, ex0, os0, ps0, none, (some cp0)⟩ Q1 R0 R1 none f1 g1 nx1 ex1 i xn ck ca m0 os1 ps1 qn0 qk0 qa0 L M k := by unfold S_m10n; kernel_rfl
theorem V_m10n_011 : S_m10n E ⟨f0, g0, nx0, ex0, os0, ps0, none, (some cp0)⟩ Q1 R0 R1 (some cp1) f1 g1 nx1 ex1 i xn ck ca m0 os1 ps1 qn0 qk0 qa0 L M k := by unfold S_m10n; kernel_rfl
theorem V_m10n_100 : S_m10n E ⟨f0, g0, nx0, ex0, os0, ps0, (some co0), none⟩ Q1 R0 R1 none f1 g1 nx1 ex1 i xn ck ca m0 os1 ps1 qn0 qk0 qa0 L M k := by unfold S_m10n; kernel_rfl
theorem V_m10n_101 : S_m10n E ⟨f0, g0, nx0, ex0, os0, ps0, (some co0), none⟩ Q1 R0 R1 (some cp1) f1 g1 nx1 ex1 i xn ck ca m0 os1 ps1 qn0 qk0 qa0 L M k := by unfold S_m10n; kernel_rfl
theorem V_m10n_110 : S_m10n E ⟨f0, g0, nx0, ex0, os0, ps0, (some co0), (some cp0)⟩ Q1 R0 R1 none f1 g1 nx1 ex1 i xn ck ca m0 os1 ps1 qn0 qk0 qa0 L M k := by unfold S_m10n; kernel_rfl
theorem V_m10n_111 : S_m10n E ⟨f0, g0, nx0, ex0, os0, ps0, (some co0), (some cp0)⟩ Q1 R0 R1 (some cp1) f1 g1 nx1 ex1 i xn ck ca m0 os1 ps1 qn0 qk0 qa0 L M k := by unfold S_m10n; kernel_rfl
end
theorem t_m10n (E : Ag) (A : Sd) (Q1 : Qt) (R0 : Rt) (R1 : Rt) (p1 : Option (Int × Int)) (f1 g1 nx1 ex1 i xn ck ca : Int) (m0 : Nat) (os1 ps1 qn0 qk0 qa0 : List Int) (L M : Nat) (k : SV → St → Prop) : S_m10n E A Q1 R0 R1 p1 f1 g1 nx1 ex1 i xn ck ca m0 os1 ps1 qn0 qk0 qa0 L M k := match p1, A with
  | none, ⟨_, _, _, _, _, _, none, none⟩ => V_m10n_000
  | some _, ⟨_, _, _, _, _, _, none, none⟩ => V_m10n_001
  | none, ⟨_, _, _, _, _, _, none, some _⟩ => V_m10n_010
  | some _, ⟨_, _, _, _, _, _, none, some _⟩ => V_m10n_011
  | none, ⟨_, _, _, _, _, _, some _, none⟩ => V_m10n_100
  | some _, ⟨_, _, _, _, _, _, some _, none⟩ => V_m10n_101
  | none, ⟨_, _, _, _, _, _, some _, some _⟩ => V_m10n_110
  | some _, ⟨_, _, _, _, _, _, some _, some _⟩ => V_m10n_111
noncomputable def S_m10s (E : Ag) (A : Sd) (Q1 : Qt) (R0 : Rt) (R1 : Rt) (p1 : Option (Int × Int)) (f1 g1 nx1 un1 uk1 ua1 ex1 i xn ck ca : Int) (m0 : Nat) (os1 ps1 qn0 qk0 qa0 : List Int) (L M : Nat) (k : SV → St → Prop) : Prop := (caD E ⟨A, ⟨f1, g1, nx1, ex1, os1, ps1, (some (un1, uk1, ua1)), p1⟩, ⟨m0, qn0, qk0, qa0⟩, Q1, R0, R1⟩ true 0 xn ck ca i L M k) =
    (Again (need (decide (((0 + (List.length os1)) ≤ (List.length os1)))) (need (decide ((((List.length (List.take (List.length os1) os1)) ≤ 1000000) ∧ ((0) ≤ ck)))) (branch (Bool.not (eqK (doE f1 (List.take (List.length os1) os1) ck ca) (0))) (branch (eqK (doE f1 (List.take (List.length os1) os1) ck ca) (0)) (need (decide (((m0 + 1) * 12) ≤ 140737488355328)) (caG E ⟨A, ⟨f1, g1, nx1, ex1, os1, ps1, (some (un1, uk1, ua1)), p1⟩, ⟨(m0 + 1), ((fitL (0) m0 qn0) ++ [(0)]), ((fitL (0) m0 qk0) ++ [(0)]), ((fitL (0) m0 qa0) ++ [(0)])⟩, Q1, R0, R1⟩ i L M k)) (caG E ⟨A, ⟨f1, g1, nx1, ex1, os1, ps1, (some (un1, uk1, ua1)), p1⟩, ⟨m0, qn0, qk0, qa0⟩, Q1, R0, R1⟩ i L M k)) (caG E ⟨A, ⟨f1, g1, nx1, ex1, os1, ps1, (some (un1, uk1, ua1)), p1⟩, ⟨m0, qn0, qk0, qa0⟩, Q1, R0, R1⟩ i L M k)))))
section
variable {E : Ag} {Q1 : Qt} {R0 : Rt} {R1 : Rt} {f1 g1 nx1 un1 uk1 ua1 ex1 i xn ck ca : Int} {m0 : Nat} {os1 ps1 qn0 qk0 qa0 : List Int} {L M : Nat} {k : SV → St → Prop} {f0 g0 nx0 ex0 : Int} {os0 ps0 : List Int} {co0 : Int × Int × Int} {cp0 : Int × Int} {cp1 : Int × Int}
theorem V_m10s_000 : S_m10s E ⟨f0, g0, nx0, ex0, os0, ps0, none, none⟩ Q1 R0 R1 none f1 g1 nx1 un1 uk1 ua1 ex1 i xn ck ca m0 os1 ps1 qn0 qk0 qa0 L M k := by unfold S_m10s; kernel_rfl
theorem V_m10s_001 : S_m10s E ⟨f0, g0, nx0, ex0, os0, ps0, none, none⟩ Q1 R0 R1 (some cp1) f1 g1 nx1 un1 uk1 ua1 ex1 i xn ck ca m0 os1 ps1 qn0 qk0 qa0 L M k := by unfold S_m10s; kernel_rfl
theorem V_m10s_010 : S_m10s E ⟨f0, g0, nx0, ex0, os0, ps0, none, (some cp0)⟩ Q1 R0 R1 none f1 g1 nx1 un1 uk1 ua1 ex1 i xn ck ca m0 os1 ps1 qn0 qk0 qa0 L M k := by unfold S_m10s; kernel_rfl
theorem V_m10s_011 : S_m10s E ⟨f0, g0, nx0, ex0, os0, ps0, none, (some cp0)⟩ Q1 R0 R1 (some cp1) f1 g1 nx1 un1 uk1 ua1 ex1 i xn ck ca m0 os1 ps1 qn0 qk0 qa0 L M k := by unfold S_m10s; kernel_rfl
theorem V_m10s_100 : S_m10s E ⟨f0, g0, nx0, ex0, os0, ps0, (some co0), none⟩ Q1 R0 R1 none f1 g1 nx1 un1 uk1 ua1 ex1 i xn ck ca m0 os1 ps1 qn0 qk0 qa0 L M k := by unfold S_m10s; kernel_rfl
theorem V_m10s_101 : S_m10s E ⟨f0, g0, nx0, ex0, os0, ps0, (some co0), none⟩ Q1 R0 R1 (some cp1) f1 g1 nx1 un1 uk1 ua1 ex1 i xn ck ca m0 os1 ps1 qn0 qk0 qa0 L M k := by unfold S_m10s; kernel_rfl
theorem V_m10s_110 : S_m10s E ⟨f0, g0, nx0, ex0, os0, ps0, (some co0), (some cp0)⟩ Q1 R0 R1 none f1 g1 nx1 un1 uk1 ua1 ex1 i xn ck ca m0 os1 ps1 qn0 qk0 qa0 L M k := by unfold S_m10s; kernel_rfl
theorem V_m10s_111 : S_m10s E ⟨f0, g0, nx0, ex0, os0, ps0, (some co0), (some cp0)⟩ Q1 R0 R1 (some cp1) f1 g1 nx1 un1 uk1 ua1 ex1 i xn ck ca m0 os1 ps1 qn0 qk0 qa0 L M k := by unfold S_m10s; kernel_rfl
end
theorem t_m10s (E : Ag) (A : Sd) (Q1 : Qt) (R0 : Rt) (R1 : Rt) (p1 : Option (Int × Int)) (f1 g1 nx1 un1 uk1 ua1 ex1 i xn ck ca : Int) (m0 : Nat) (os1 ps1 qn0 qk0 qa0 : List Int) (L M : Nat) (k : SV → St → Prop) : S_m10s E A Q1 R0 R1 p1 f1 g1 nx1 un1 uk1 ua1 ex1 i xn ck ca m0 os1 ps1 qn0 qk0 qa0 L M k := match p1, A with
  | none, ⟨_, _, _, _, _, _, none, none⟩ => V_m10s_000
  | some _, ⟨_, _, _, _, _, _, none, none⟩ => V_m10s_001
  | none, ⟨_, _, _, _, _, _, none, some _⟩ => V_m10s_010
  | some _, ⟨_, _, _, _, _, _, none, some _⟩ => V_m10s_011
  | none, ⟨_, _, _, _, _, _, some _, none⟩ => V_m10s_100
  | some _, ⟨_, _, _, _, _, _, some _, none⟩ => V_m10s_101
  | none, ⟨_, _, _, _, _, _, some _, some _⟩ => V_m10s_110
  | some _, ⟨_, _, _, _, _, _, some _, some _⟩ => V_m10s_111
end Go.Ev
set_option linter.unusedVariables false
set_option maxHeartbeats 0
namespace Go.Ev
open Go Go.Proofs Go.Spec
noncomputable def S_m11n (E : Ag) (A : Sd) (Q0 : Qt) (Q1 : Qt) (R0 : Rt) (R1 : Rt) (p1 : Option (Int × Int)) (f1 g1 nx1 ex1 i xn ck ca : Int) (os1 ps1 : List Int) (L M : Nat) (k : SV → St → Prop) : Prop := (caD E ⟨A, ⟨f1, g1, nx1, ex1, os1, ps1, none, p1⟩, Q0, Q1, R0, R1⟩ true 1 xn ck ca i L M k) =
    (Again (caG E ⟨A, ⟨f1, g1, nx1, ex1, os1, ps1, none, p1⟩, Q0, Q1, R0, R1⟩ i L M k))
section
variable {E : Ag} {Q0 : Qt} {Q1 : Qt} {R0 : Rt} {R1 : Rt} {f1 g1 nx1 ex1 i xn ck ca : Int} {os1 ps1 : List Int} {L M : Nat} {k : SV → St → Prop} {f0 g0 nx0 ex0 : Int} {os0 ps0 : List Int} {co0 : Int × Int × Int} {cp0 : Int × Int} {cp1 : Int × Int}
theorem V_m11n_000 : S_m11n E ⟨f0, g0, nx0, ex0, os0, ps0, none, none⟩ Q0 Q1 R0 R1 none f1 g1 nx1 ex1 i xn ck ca os1 ps1 L M k := by unfold S_m11n; kernel_rfl
theorem V_m11n_001 : S_m11n E ⟨f0, g0, nx0, ex0, os0, ps0, none, none⟩ Q0 Q1 R0 R1 (some cp1) f1 g1 nx1 ex1 i xn ck ca os1 ps1 L M k := by unfold S_m11n; kernel_rfl
theorem V_m11n_010 : S_m11n E ⟨f0, g0, nx0, ex0, os0, ps0, none, (some cp0)⟩ Q0 Q1 R0 R1 none f1 g1 nx1 ex1 i xn ck ca os1 ps1 L M k := by unfold S_m11n; kernel_rfl
theorem V_m11n_011 : S_m11n E ⟨f0, g0, nx0, ex0, os0, ps0, none, (some cp0)⟩ Q0 Q1 R0 R1 (some cp1) f1 g1 nx1 ex1 i xn ck ca os1 ps1 L M k := by unfold S_m11n; kernel_rfl
theorem V_m11n_100 : S_m11n E ⟨f0, g0, nx0, ex0, os0, ps0, (some co0), none⟩ Q0 Q1 R0 R1 none f1 g1 nx1 ex1 i xn ck ca os1 ps1 L M k := by unfold S_m11n; kernel_rfl
theorem V_m11n_101 : S_m11n E ⟨f0, g0, nx0, ex0, os0, ps0, (some co0), none⟩ Q0 Q1 R0 R1 (some cp1) f1 g1 nx1 ex1 i xn ck ca os1 ps1 L M k := by unfold S_m11n; kernel_rfl
theorem V_m11n_110 : S_m11n E ⟨f0, g0, nx0, ex0, os0, ps0, (some co0), (some cp0)⟩ Q0 Q1 R0 R1 none f1 g1 nx1 ex1 i xn ck ca os1 ps1 L M k := by unfold S_m11n; kernel_rfl
theorem V_m11n_111 : S_m11n E ⟨f0, g0, nx0, ex0, os0, ps0, (some co0), (some cp0)⟩ Q0 Q1 R0 R1 (some cp1) f1 g1 nx1 ex1 i xn ck ca os1 ps1 L M k := by unfold S_m11n; kernel_rfl
end
theorem t_m11n (E : Ag) (A : Sd) (Q0 : Qt) (Q1 : Qt) (R0 : Rt) (R1 : Rt) (p1 : Option (Int × Int)) (f1 g1 nx1 ex1 i xn ck ca : Int) (os1 ps1 : List Int) (L M : Nat) (k : SV → St → Prop) : S_m11n E A Q0 Q1 R0 R1 p1 f1 g1 nx1 ex1 i xn ck ca os1 ps1 L M k := match p1, A with
  | none, ⟨_, _, _, _, _, _, none, none⟩ => V_m11n_000
  | some _, ⟨_, _, _, _, _, _, none, none⟩ => V_m11n_001
  | none, ⟨_, _, _, _, _, _, none, some _⟩ => V_m11n_010
  | some _, ⟨_, _, _, _, _, _, none, some _⟩ => V_m11n_011
  | none, ⟨_, _, _, _, _, _, some _, none⟩ => V_m11n_100
  | some _, ⟨_, _, _, _, _, _, some _, none⟩ => V_m11n_101
  | none, ⟨_, _, _, _, _, _, some _, some _⟩ => V_m11n_110
  | some _, ⟨_, _, _, _, _, _, some _, some _⟩ => V_m11n_111
noncomputable def S_m11s (E : Ag) (A : Sd) (Q1 : Qt) (R0 : Rt) (R1 : Rt) (p1 : Option (Int × Int)) (f1 g1 nx1 un1 uk1 ua1 ex1 i xn ck ca : Int) (m0 : Nat) (os1 ps1 qn0 qk0 qa0 : List Int) (L M : Nat) (k : SV → St → Prop) : Prop := (caD E ⟨A, ⟨f1, g1, nx1, ex1, os1, ps1, (some (un1, uk1, ua1)), p1⟩, ⟨m0, qn0, qk0, qa0⟩, Q1, R0, R1⟩ true 1 xn ck ca i L M k) =
    (Again (need (decide (((m0 + 1) * 12) ≤ 140737488355328)) (caG E ⟨A, ⟨f1, g1, nx1, ex1, os1, ps1, (some (un1, uk1, ua1)), p1⟩, ⟨(m0 + 1), ((fitL (0) m0 qn0) ++ [un1]), ((fitL (0) m0 qk0) ++ [uk1]), ((fitL (0) m0 qa0) ++ [ua1])⟩, Q1, R0, R1⟩ i L M k)))
section
variable {E : Ag} {Q1 : Qt} {R0 : Rt} {R1 : Rt} {f1 g1 nx1 un1 uk1 ua1 ex1 i xn ck ca : Int} {m0 : Nat} {os1 ps1 qn0 qk0 qa0 : List Int} {L M : Nat} {k : SV → St → Prop} {f0 g0 nx0 ex0 : Int} {os0 ps0 : List Int} {co0 : Int × Int × Int} {cp0 : Int × Int} {cp1 : Int × Int}
theorem V_m11s_000 : S_m11s E ⟨f0, g0, nx0, ex0, os0, ps0, none, none⟩ Q1 R0 R1 none f1 g1 nx1 un1 uk1 ua1 ex1 i xn ck ca m0 os1 ps1 qn0 qk0 qa0 L M k := by unfold S_m11s; kernel_rfl
theorem V_m11s_001 : S_m11s E ⟨f0, g0, nx0, ex0, os0, ps0, none, none⟩ Q1 R0 R1 (some cp1) f1 g1 nx1 un1 uk1 ua1 ex1 i xn ck ca m0 os1 ps1 qn0 qk0 qa0 L M k := by unfold S_m11s; kernel_rfl
theorem V_m11s_010 : S_m11s E ⟨f0, g0, nx0, ex0, os0, ps0, none, (some cp0)⟩ Q1 R0 R1 none f1 g1 nx1 un1 uk1 ua1 ex1 i xn ck ca m0 os1 ps1 qn0 qk0 qa0 L M k := by unfold S_m11s; kernel_rfl
theorem V_m11s_011 : S_m11s E ⟨f0, g0, nx0, ex0, os0, ps0, none, (some cp0)⟩ Q1 R0 R1 (some cp1) f1 g1 nx1 un1 uk1 ua1 ex1 i xn ck ca m0 os1 ps1 qn0 qk0 qa0 L M k := by unfold S_m11s; kernel_rfl
theorem V_m11s_100 : S_m11s E ⟨f0, g0, nx0, ex0, os0, ps0, (some co0), none⟩ Q1 R0 R1 none f1 g1 nx1 un1 uk1 ua1 ex1 i xn ck ca m0 os1 ps1 qn0 qk0 qa0 L M k := by unfold S_m11s; kernel_rfl
theorem V_m11s_101 : S_m11s E ⟨f0, g0, nx0, ex0, os0, ps0, (some co0), none⟩ Q1 R0 R1 (some cp1) f1 g1 nx1 un1 uk1 ua1 ex1 i xn ck ca m0 os1 ps1 qn0 qk0 qa0 L M k := by unfold S_m11s; kernel_rfl
theorem V_m11s_110 : S_m11s E ⟨f0, g0, nx0, ex0, os0, ps0, (some co0), (some cp0)⟩ Q1 R0 R1 none f1 g1 nx1 un1 uk1 ua1 ex1 i xn ck ca m0 os1 ps1 qn0 qk0 qa0 L M k := by unfold S_m11s; kernel_rfl
theorem V_m11s_111 : S_m11s E ⟨f0, g0, nx0, ex0, os0, ps0, (some co0), (some cp0)⟩ Q1 R0 R1 (some cp1) f1 g1 nx1 un1 uk1 ua1 ex1 i xn ck ca m0 os1 ps1 qn0 qk0 qa0 L M k := by unfold S_m11s; kernel_rfl
end
theorem t_m11s (E : Ag) (A : Sd) (Q1 : Qt) (R0 : Rt) (R1 : Rt) (p1 : Option (Int × Int)) (f1 g1 nx1 un1 uk1 ua1 ex1 i xn ck ca : Int) (m0 : Nat) (os1 ps1 qn0 qk0 qa0 : List Int) (L M : Nat) (k : SV → St → Prop) : S_m11s E A Q1 R0 R1 p1 f1 g1 nx1 un1 uk1 ua1 ex1 i xn ck ca m0 os1 ps1 qn0 qk0 qa0 L M k := match p1, A with
  | none, ⟨_, _, _, _, _, _, none, none⟩ => V_m11s_000
  | some _, ⟨_, _, _, _, _, _, none, none⟩ => V_m11s_001
  | none, ⟨_, _, _, _, _, _, none, some _⟩ => V_m11s_010
  | some _, ⟨_, _, _, _, _, _, none, some _⟩ => V_m11s_011
  | none, ⟨_, _, _, _, _, _, some _, none⟩ => V_m11s_100
  | some _, ⟨_, _, _, _, _, _, some _, none⟩ => V_m11s_101
  | none, ⟨_, _, _, _, _, _, some _, some _⟩ => V_m11s_110
  | some _, ⟨_, _, _, _, _, _, some _, some _⟩ => V_m11s_111
end Go.Ev
