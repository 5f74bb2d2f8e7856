/- What a round of ConfAgree comes to, by the kind of the move and by what is out or kept: printed, checked by the kernel. No conditions. -/
import Derived.Test.YtiplgpnegolegaaCaE
import Derived.Test.YtiplgpnegolegaaEvD
set_option linter.unusedVariables false
set_option maxHeartbeats 0
namespace Go.Ev
open Go Go.Proofs Go.Spec
noncomputable def S_m13 (E : Ag) (A : Sd) (B : Sd) (Q0 : Qt) (R0 : Rt) (R1 : Rt) (i xn ck ca : Int) (m1 : Nat) (qn1 qk1 qa1 : List Int) (L M : Nat) (k : SV → St → Prop) : Prop := (caD E ⟨A, B, Q0, ⟨m1, qn1, qk1, qa1⟩, R0, R1⟩ true 3 xn ck ca i L M k) =
    (Again (branch (decide ((((m1 : Nat) : Int) > (0)))) (need (Bool.not (decide ((((m1 : Nat) : Int) = (0))))) (need (decide (((0) ≤ (plc xn m1)))) (need (decide (((plc xn m1) < ((m1 : Nat) : Int)))) (need (decide (((0 + (Int.toNat (plc xn m1))) < m1))) (need (decide ((0 + m1) ≤ m1)) (need (decide (((0) ≤ (plc xn m1)))) (need (decide (((plc xn m1) ≤ (((m1 - 0) : Nat) : Int)))) (need (decide ((0 + ((Int.toNat (plc xn m1)) - 0)) ≤ m1)) (branch (decide ((0 + ((Int.toNat (plc xn m1)) - 0)) ≤ 0)) (need (decide (((Int.toNat (plc xn m1)) - 0) = 0)) (need (decide ((0 + m1) ≤ m1)) (need (decide (((0) ≤ (addK .i64 (plc xn m1) (1))))) (need (decide (((addK .i64 (plc xn m1) (1)) ≤ ((m1 : Nat) : Int)))) (need (decide (((Int.toNat (addK .i64 (plc xn m1) (1))) ≤ m1))) (need (decide ((((0 + (Int.toNat (addK .i64 (plc xn m1) (1)))) + (m1 - (Int.toNat (addK .i64 (plc xn m1) (1))))) ≤ m1))) (branch (decide (((0 + (m1 - (Int.toNat (addK .i64 (plc xn m1) (1))))) ≤ 0))) (need (decide (((m1 - (Int.toNat (addK .i64 (plc xn m1) (1)))) = 0))) (caG E ⟨A, B, Q0, ⟨0, [], [], []⟩, R0, R1⟩ i L M k)) (need (decide ((((0 + (m1 - (Int.toNat (addK .i64 (plc xn m1) (1))))) * 12) ≤ 140737488355328))) (caG E ⟨A, B, Q0, ⟨(m1 - (Int.toNat (addK .i64 (plc xn m1) (1)))), (List.drop (0 + (Int.toNat (addK .i64 (plc xn m1) (1)))) qn1), (List.drop (0 + (Int.toNat (addK .i64 (plc xn m1) (1)))) qk1), (List.drop (0 + (Int.toNat (addK .i64 (plc xn m1) (1)))) qa1)⟩, R0, R1⟩ i L M k))))))))) (need (decide (((0 + ((Int.toNat (plc xn m1)) - 0)) * 12) ≤ 140737488355328)) (need (decide ((0 + m1) ≤ m1)) (need (decide (((0) ≤ (addK .i64 (plc xn m1) (1))))) (need (decide (((addK .i64 (plc xn m1) (1)) ≤ ((m1 : Nat) : Int)))) (need (decide (((Int.toNat (addK .i64 (plc xn m1) (1))) ≤ m1))) (need (decide ((((0 + (Int.toNat (addK .i64 (plc xn m1) (1)))) + (m1 - (Int.toNat (addK .i64 (plc xn m1) (1))))) ≤ m1))) (need (decide ((((((Int.toNat (plc xn m1)) - 0) + (m1 - (Int.toNat (addK .i64 (plc xn m1) (1))))) * 12) ≤ 140737488355328))) (caG E ⟨A, B, Q0, ⟨(((Int.toNat (plc xn m1)) - 0) + (m1 - (Int.toNat (addK .i64 (plc xn m1) (1))))), ((fitL (0) ((Int.toNat (plc xn m1)) - 0) qn1) ++ (fitL (0) (m1 - (Int.toNat (addK .i64 (plc xn m1) (1)))) (List.drop (0 + (Int.toNat (addK .i64 (plc xn m1) (1)))) qn1))), ((fitL (0) ((Int.toNat (plc xn m1)) - 0) qk1) ++ (fitL (0) (m1 - (Int.toNat (addK .i64 (plc xn m1) (1)))) (List.drop (0 + (Int.toNat (addK .i64 (plc xn m1) (1)))) qk1))), ((fitL (0) ((Int.toNat (plc xn m1)) - 0) qa1) ++ (fitL (0) (m1 - (Int.toNat (addK .i64 (plc xn m1) (1)))) (List.drop (0 + (Int.toNat (addK .i64 (plc xn m1) (1)))) qa1)))⟩, R0, R1⟩ i L M k))))))))))))))))) (caG E ⟨A, B, Q0, ⟨m1, qn1, qk1, qa1⟩, R0, R1⟩ i L M k)))
section
variable {E : Ag} {Q0 : Qt} {R0 : Rt} {R1 : Rt} {i xn ck ca : Int} {m1 : Nat} {qn1 qk1 qa1 : List Int} {L M : Nat} {k : SV → St → Prop} {f0 g0 nx0 ex0 : Int} {os0 ps0 : List Int} {f1 g1 nx1 ex1 : Int} {os1 ps1 : List Int} {co0 : Int × Int × Int} {co1 : Int × Int × Int} {cp0 : Int × Int} {cp1 : Int × Int}
theorem V_m13_0000 : S_m13 E ⟨f0, g0, nx0, ex0, os0, ps0, none, none⟩ ⟨f1, g1, nx1, ex1, os1, ps1, none, none⟩ Q0 R0 R1 i xn ck ca m1 qn1 qk1 qa1 L M k := by unfold S_m13; kernel_rfl
theorem V_m13_0001 : S_m13 E ⟨f0, g0, nx0, ex0, os0, ps0, none, none⟩ ⟨f1, g1, nx1, ex1, os1, ps1, none, (some cp1)⟩ Q0 R0 R1 i xn ck ca m1 qn1 qk1 qa1 L M k := by unfold S_m13; kernel_rfl
theorem V_m13_0010 : S_m13 E ⟨f0, g0, nx0, ex0, os0, ps0, none, (some cp0)⟩ ⟨f1, g1, nx1, ex1, os1, ps1, none, none⟩ Q0 R0 R1 i xn ck ca m1 qn1 qk1 qa1 L M k := by unfold S_m13; kernel_rfl
theorem V_m13_0011 : S_m13 E ⟨f0, g0, nx0, ex0, os0, ps0, none, (some cp0)⟩ ⟨f1, g1, nx1, ex1, os1, ps1, none, (some cp1)⟩ Q0 R0 R1 i xn ck ca m1 qn1 qk1 qa1 L M k := by unfold S_m13; kernel_rfl
theorem V_m13_0100 : S_m13 E ⟨f0, g0, nx0, ex0, os0, ps0, none, none⟩ ⟨f1, g1, nx1, ex1, os1, ps1, (some co1), none⟩ Q0 R0 R1 i xn ck ca m1 qn1 qk1 qa1 L M k := by unfold S_m13; kernel_rfl
theorem V_m13_0101 : S_m13 E ⟨f0, g0, nx0, ex0, os0, ps0, none, none⟩ ⟨f1, g1, nx1, ex1, os1, ps1, (some co1), (some cp1)⟩ Q0 R0 R1 i xn ck ca m1 qn1 qk1 qa1 L M k := by unfold S_m13; kernel_rfl
theorem V_m13_0110 : S_m13 E ⟨f0, g0, nx0, ex0, os0, ps0, none, (some cp0)⟩ ⟨f1, g1, nx1, ex1, os1, ps1, (some co1), none⟩ Q0 R0 R1 i xn ck ca m1 qn1 qk1 qa1 L M k := by unfold S_m13; kernel_rfl
theorem V_m13_0111 : S_m13 E ⟨f0, g0, nx0, ex0, os0, ps0, none, (some cp0)⟩ ⟨f1, g1, nx1, ex1, os1, ps1, (some co1), (some cp1)⟩ Q0 R0 R1 i xn ck ca m1 qn1 qk1 qa1 L M k := by unfold S_m13; kernel_rfl
theorem V_m13_1000 : S_m13 E ⟨f0, g0, nx0, ex0, os0, ps0, (some co0), none⟩ ⟨f1, g1, nx1, ex1, os1, ps1, none, none⟩ Q0 R0 R1 i xn ck ca m1 qn1 qk1 qa1 L M k := by unfold S_m13; kernel_rfl
theorem V_m13_1001 : S_m13 E ⟨f0, g0, nx0, ex0, os0, ps0, (some co0), none⟩ ⟨f1, g1, nx1, ex1, os1, ps1, none, (some cp1)⟩ Q0 R0 R1 i xn ck ca m1 qn1 qk1 qa1 L M k := by unfold S_m13; kernel_rfl
theorem V_m13_1010 : S_m13 E ⟨f0, g0, nx0, ex0, os0, ps0, (some co0), (some cp0)⟩ ⟨f1, g1, nx1, ex1, os1, ps1, none, none⟩ Q0 R0 R1 i xn ck ca m1 qn1 qk1 qa1 L M k := by unfold S_m13; kernel_rfl
theorem V_m13_1011 : S_m13 E ⟨f0, g0, nx0, ex0, os0, ps0, (some co0), (some cp0)⟩ ⟨f1, g1, nx1, ex1, os1, ps1, none, (some cp1)⟩ Q0 R0 R1 i xn ck ca m1 qn1 qk1 qa1 L M k := by unfold S_m13; kernel_rfl
theorem V_m13_1100 : S_m13 E ⟨f0, g0, nx0, ex0, os0, ps0, (some co0), none⟩ ⟨f1, g1, nx1, ex1, os1, ps1, (some co1), none⟩ Q0 R0 R1 i xn ck ca m1 qn1 qk1 qa1 L M k := by unfold S_m13; kernel_rfl
theorem V_m13_1101 : S_m13 E ⟨f0, g0, nx0, ex0, os0, ps0, (some co0), none⟩ ⟨f1, g1, nx1, ex1, os1, ps1, (some co1), (some cp1)⟩ Q0 R0 R1 i xn ck ca m1 qn1 qk1 qa1 L M k := by unfold S_m13; kernel_rfl
theorem V_m13_1110 : S_m13 E ⟨f0, g0, nx0, ex0, os0, ps0, (some co0), (some cp0)⟩ ⟨f1, g1, nx1, ex1, os1, ps1, (some co1), none⟩ Q0 R0 R1 i xn ck ca m1 qn1 qk1 qa1 L M k := by unfold S_m13; kernel_rfl
theorem V_m13_1111 : S_m13 E ⟨f0, g0, nx0, ex0, os0, ps0, (some co0), (some cp0)⟩ ⟨f1, g1, nx1, ex1, os1, ps1, (some co1), (some cp1)⟩ Q0 R0 R1 i xn ck ca m1 qn1 qk1 qa1 L M k := by unfold S_m13; kernel_rfl
end
theorem t_m13 (E : Ag) (A : Sd) (B : Sd) (Q0 : Qt) (R0 : Rt) (R1 : Rt) (i xn ck ca : Int) (m1 : Nat) (qn1 qk1 qa1 : List Int) (L M : Nat) (k : SV → St → Prop) : S_m13 E A B Q0 R0 R1 i xn ck ca m1 qn1 qk1 qa1 L M k := match A, B with
  | ⟨_, _, _, _, _, _, none, none⟩, ⟨_, _, _, _, _, _, none, none⟩ => V_m13_0000
  | ⟨_, _, _, _, _, _, none, none⟩, ⟨_, _, _, _, _, _, none, some _⟩ => V_m13_0001
  | ⟨_, _, _, _, _, _, none, some _⟩, ⟨_, _, _, _, _, _, none, none⟩ => V_m13_0010
  | ⟨_, _, _, _, _, _, none, some _⟩, ⟨_, _, _, _, _, _, none, some _⟩ => V_m13_0011
  | ⟨_, _, _, _, _, _, none, none⟩, ⟨_, _, _, _, _, _, some _, none⟩ => V_m13_0100
  | ⟨_, _, _, _, _, _, none, none⟩, ⟨_, _, _, _, _, _, some _, some _⟩ => V_m13_0101
  | ⟨_, _, _, _, _, _, none, some _⟩, ⟨_, _, _, _, _, _, some _, none⟩ => V_m13_0110
  | ⟨_, _, _, _, _, _, none, some _⟩, ⟨_, _, _, _, _, _, some _, some _⟩ => V_m13_0111
  | ⟨_, _, _, _, _, _, some _, none⟩, ⟨_, _, _, _, _, _, none, none⟩ => V_m13_1000
  | ⟨_, _, _, _, _, _, some _, none⟩, ⟨_, _, _, _, _, _, none, some _⟩ => V_m13_1001
  | ⟨_, _, _, _, _, _, some _, some _⟩, ⟨_, _, _, _, _, _, none, none⟩ => V_m13_1010
  | ⟨_, _, _, _, _, _, some _, some _⟩, ⟨_, _, _, _, _, _, none, some _⟩ => V_m13_1011
  | ⟨_, _, _, _, _, _, some _, none⟩, ⟨_, _, _, _, _, _, some _, none⟩ => V_m13_1100
  | ⟨_, _, _, _, _, _, some _, none⟩, ⟨_, _, _, _, _, _, some _, some _⟩ => V_m13_1101
  | ⟨_, _, _, _, _, _, some _, some _⟩, ⟨_, _, _, _, _, _, some _, none⟩ => V_m13_1110
  | ⟨_, _, _, _, _, _, some _, some _⟩, ⟨_, _, _, _, _, _, some _, some _⟩ => V_m13_1111
noncomputable def S_m14 (E : Ag) (A : Sd) (B : Sd) (Q0 : Qt) (R0 : Rt) (R1 : Rt) (i xn ck ca : Int) (m1 : Nat) (qn1 qk1 qa1 : List Int) (L M : Nat) (k : SV → St → Prop) : Prop := (caD E ⟨A, B, Q0, ⟨m1, qn1, qk1, qa1⟩, R0, R1⟩ true 4 xn ck ca i L M k) =
    (Again (branch (decide ((((m1 : Nat) : Int) > (0)))) (need (Bool.not (decide ((((m1 : Nat) : Int) = (0))))) (need (decide (((0) ≤ (plc xn m1)))) (need (decide (((plc xn m1) < ((m1 : Nat) : Int)))) (need (decide (((0 + (Int.toNat (plc xn m1))) < m1))) (need (decide (((m1 + 1) * 12) ≤ 140737488355328)) (caG E ⟨A, B, Q0, ⟨(m1 + 1), ((fitL (0) m1 qn1) ++ [(gtC qn1 xn m1)]), ((fitL (0) m1 qk1) ++ [(gtC qk1 xn m1)]), ((fitL (0) m1 qa1) ++ [(gtC qa1 xn m1)])⟩, R0, R1⟩ i L M k)))))) (caG E ⟨A, B, Q0, ⟨m1, qn1, qk1, qa1⟩, R0, R1⟩ i L M k)))
section
variable {E : Ag} {Q0 : Qt} {R0 : Rt} {R1 : Rt} {i xn ck ca : Int} {m1 : Nat} {qn1 qk1 qa1 : List Int} {L M : Nat} {k : SV → St → Prop} {f0 g0 nx0 ex0 : Int} {os0 ps0 : List Int} {f1 g1 nx1 ex1 : Int} {os1 ps1 : List Int} {co0 : Int × Int × Int} {co1 : Int × Int × Int} {cp0 : Int × Int} {cp1 : Int × Int}
theorem V_m14_0000 : S_m14 E ⟨f0, g0, nx0, ex0, os0, ps0, none, none⟩ ⟨f1, g1, nx1, ex1, os1, ps1, none, none⟩ Q0 R0 R1 i xn ck ca m1 qn1 qk1 qa1 L M k := by unfold S_m14; kernel_rfl
theorem V_m14_0001 : S_m14 E ⟨f0, g0, nx0, ex0, os0, ps0, none, none⟩ ⟨f1, g1, nx1, ex1, os1, ps1, none, (some cp1)⟩ Q0 R0 R1 i xn ck ca m1 qn1 qk1 qa1 L M k := by unfold S_m14; kernel_rfl
theorem V_m14_0010 : S_m14 E ⟨f0, g0, nx0, ex0, os0, ps0, none, (some cp0)⟩ ⟨f1, g1, nx1, ex1, os1, ps1, none, none⟩ Q0 R0 R1 i xn ck ca m1 qn1 qk1 qa1 L M k := by unfold S_m14; kernel_rfl
theorem V_m14_0011 : S_m14 E ⟨f0, g0, nx0, ex0, os0, ps0, none, (some cp0)⟩ ⟨f1, g1, nx1, ex1, os1, ps1, none, (some cp1)⟩ Q0 R0 R1 i xn ck ca m1 qn1 qk1 qa1 L M k := by unfold S_m14; kernel_rfl
theorem V_m14_0100 : S_m14 E ⟨f0, g0, nx0, ex0, os0, ps0, none, none⟩ ⟨f1, g1, nx1, ex1, os1, ps1, (some co1), none⟩ Q0 R0 R1 i xn ck ca m1 qn1 qk1 qa1 L M k := by unfold S_m14; kernel_rfl
theorem V_m14_0101 : S_m14 E ⟨f0, g0, nx0, ex0, os0, ps0, none, none⟩ ⟨f1, g1, nx1, ex1, os1, ps1, (some co1), (some cp1)⟩ Q0 R0 R1 i xn ck ca m1 qn1 qk1 qa1 L M k := by unfold S_m14; kernel_rfl
theorem V_m14_0110 : S_m14 E ⟨f0, g0, nx0, ex0, os0, ps0, none, (some cp0)⟩ ⟨f1, g1, nx1, ex1, os1, ps1, (some co1), none⟩ Q0 R0 R1 i xn ck ca m1 qn1 qk1 qa1 L M k := by unfold S_m14; kernel_rfl
theorem V_m14_0111 : S_m14 E ⟨f0, g0, nx0, ex0, os0, ps0, none, (some cp0)⟩ ⟨f1, g1, nx1, ex1, os1, ps1, (some co1), (some cp1)⟩ Q0 R0 R1 i xn ck ca m1 qn1 qk1 qa1 L M k := by unfold S_m14; kernel_rfl
theorem V_m14_1000 : S_m14 E ⟨f0, g0, nx0, ex0, os0, ps0, (some co0), none⟩ ⟨f1, g1, nx1, ex1, os1, ps1, none, none⟩ Q0 R0 R1 i xn ck ca m1 qn1 qk1 qa1 L M k := by unfold S_m14; kernel_rfl
theorem V_m14_1001 : S_m14 E ⟨f0, g0, nx0, ex0, os0, ps0, (some co0), none⟩ ⟨f1, g1, nx1, ex1, os1, ps1, none, (some cp1)⟩ Q0 R0 R1 i xn ck ca m1 qn1 qk1 qa1 L M k := by unfold S_m14; kernel_rfl
theorem V_m14_1010 : S_m14 E ⟨f0, g0, nx0, ex0, os0, ps0, (some co0), (some cp0)⟩ ⟨f1, g1, nx1, ex1, os1, ps1, none, none⟩ Q0 R0 R1 i xn ck ca m1 qn1 qk1 qa1 L M k := by unfold S_m14; kernel_rfl
theorem V_m14_1011 : S_m14 E ⟨f0, g0, nx0, ex0, os0, ps0, (some co0), (some cp0)⟩ ⟨f1, g1, nx1, ex1, os1, ps1, none, (some cp1)⟩ Q0 R0 R1 i xn ck ca m1 qn1 qk1 qa1 L M k := by unfold S_m14; kernel_rfl
theorem V_m14_1100 : S_m14 E ⟨f0, g0, nx0, ex0, os0, ps0, (some co0), none⟩ ⟨f1, g1, nx1, ex1, os1, ps1, (some co1), none⟩ Q0 R0 R1 i xn ck ca m1 qn1 qk1 qa1 L M k := by unfold S_m14; kernel_rfl
theorem V_m14_1101 : S_m14 E ⟨f0, g0, nx0, ex0, os0, ps0, (some co0), none⟩ ⟨f1, g1, nx1, ex1, os1, ps1, (some co1), (some cp1)⟩ Q0 R0 R1 i xn ck ca m1 qn1 qk1 qa1 L M k := by unfold S_m14; kernel_rfl
theorem V_m14_1110 : S_m14 E ⟨f0, g0, nx0, ex0, os0, ps0, (some co0), (some cp0)⟩ ⟨f1, g1, nx1, ex1, os1, ps1, (some co1), none⟩ Q0 R0 R1 i xn ck ca m1 qn1 qk1 qa1 L M k := by unfold S_m14; kernel_rfl
theorem V_m14_1111 : S_m14 E ⟨f0, g0, nx0, ex0, os0, ps0, (some co0), (some cp0)⟩ ⟨f1, g1, nx1, ex1, os1, ps1, (some co1), (some cp1)⟩ Q0 R0 R1 i xn ck ca m1 qn1 qk1 qa1 L M k := by unfold S_m14; kernel_rfl
end
theorem t_m14 (E : Ag) (A : Sd) (B : Sd) (Q0 : Qt) (R0 : Rt) (R1 : Rt) (i xn ck ca : Int) (m1 : Nat) (qn1 qk1 qa1 : List Int) (L M : Nat) (k : SV → St → Prop) : S_m14 E A B Q0 R0 R1 i xn ck ca m1 qn1 qk1 qa1 L M k := match A, B with
  | ⟨_, _, _, _, _, _, none, none⟩, ⟨_, _, _, _, _, _, none, none⟩ => V_m14_0000
  | ⟨_, _, _, _, _, _, none, none⟩, ⟨_, _, _, _, _, _, none, some _⟩ => V_m14_0001
  | ⟨_, _, _, _, _, _, none, some _⟩, ⟨_, _, _, _, _, _, none, none⟩ => V_m14_0010
  | ⟨_, _, _, _, _, _, none, some _⟩, ⟨_, _, _, _, _, _, none, some _⟩ => V_m14_0011
  | ⟨_, _, _, _, _, _, none, none⟩, ⟨_, _, _, _, _, _, some _, none⟩ => V_m14_0100
  | ⟨_, _, _, _, _, _, none, none⟩, ⟨_, _, _, _, _, _, some _, some _⟩ => V_m14_0101
  | ⟨_, _, _, _, _, _, none, some _⟩, ⟨_, _, _, _, _, _, some _, none⟩ => V_m14_0110
  | ⟨_, _, _, _, _, _, none, some _⟩, ⟨_, _, _, _, _, _, some _, some _⟩ => V_m14_0111
  | ⟨_, _, _, _, _, _, some _, none⟩, ⟨_, _, _, _, _, _, none, none⟩ => V_m14_1000
  | ⟨_, _, _, _, _, _, some _, none⟩, ⟨_, _, _, _, _, _, none, some _⟩ => V_m14_1001
  | ⟨_, _, _, _, _, _, some _, some _⟩, ⟨_, _, _, _, _, _, none, none⟩ => V_m14_1010
  | ⟨_, _, _, _, _, _, some _, some _⟩, ⟨_, _, _, _, _, _, none, some _⟩ => V_m14_1011
  | ⟨_, _, _, _, _, _, some _, none⟩, ⟨_, _, _, _, _, _, some _, none⟩ => V_m14_1100
  | ⟨_, _, _, _, _, _, some _, none⟩, ⟨_, _, _, _, _, _, some _, some _⟩ => V_m14_1101
  | ⟨_, _, _, _, _, _, some _, some _⟩, ⟨_, _, _, _, _, _, some _, none⟩ => V_m14_1110
  | ⟨_, _, _, _, _, _, some _, some _⟩, ⟨_, _, _, _, _, _, some _, some _⟩ => V_m14_1111
noncomputable def S_m16 (E : Ag) (A : Sd) (B : Sd) (Q0 : Qt) (Q1 : Qt) (R0 : Rt) (i xn ck ca : Int) (w1 : Nat) (rn1 ra1 : List Int) (L M : Nat) (k : SV → St → Prop) : Prop := (caD E ⟨A, B, Q0, Q1, R0, ⟨w1, rn1, ra1⟩⟩ true 6 xn ck ca i L M k) =
    (Again (branch (decide ((((w1 : Nat) : Int) > (0)))) (need (Bool.not (decide ((((w1 : Nat) : Int) = (0))))) (need (decide (((0) ≤ (plc xn w1)))) (need (decide (((plc xn w1) < ((w1 : Nat) : Int)))) (need (decide (((0 + (Int.toNat (plc xn w1))) < w1))) (need (decide ((0 + w1) ≤ w1)) (need (decide (((0) ≤ (plc xn w1)))) (need (decide (((plc xn w1) ≤ (((w1 - 0) : Nat) : Int)))) (need (decide ((0 + ((Int.toNat (plc xn w1)) - 0)) ≤ w1)) (branch (decide ((0 + ((Int.toNat (plc xn w1)) - 0)) ≤ 0)) (need (decide (((Int.toNat (plc xn w1)) - 0) = 0)) (need (decide ((0 + w1) ≤ w1)) (need (decide (((0) ≤ (addK .i64 (plc xn w1) (1))))) (need (decide (((addK .i64 (plc xn w1) (1)) ≤ ((w1 : Nat) : Int)))) (need (decide (((Int.toNat (addK .i64 (plc xn w1) (1))) ≤ w1))) (need (decide ((((0 + (Int.toNat (addK .i64 (plc xn w1) (1)))) + (w1 - (Int.toNat (addK .i64 (plc xn w1) (1))))) ≤ w1))) (branch (decide (((0 + (w1 - (Int.toNat (addK .i64 (plc xn w1) (1))))) ≤ 0))) (need (decide (((w1 - (Int.toNat (addK .i64 (plc xn w1) (1)))) = 0))) (caG E ⟨A, B, Q0, Q1, R0, ⟨0, [], []⟩⟩ i L M k)) (need (decide ((((0 + (w1 - (Int.toNat (addK .i64 (plc xn w1) (1))))) * 8) ≤ 140737488355328))) (caG E ⟨A, B, Q0, Q1, R0, ⟨(w1 - (Int.toNat (addK .i64 (plc xn w1) (1)))), (List.drop (0 + (Int.toNat (addK .i64 (plc xn w1) (1)))) rn1), (List.drop (0 + (Int.toNat (addK .i64 (plc xn w1) (1)))) ra1)⟩⟩ i L M k))))))))) (need (decide (((0 + ((Int.toNat (plc xn w1)) - 0)) * 8) ≤ 140737488355328)) (need (decide ((0 + w1) ≤ w1)) (need (decide (((0) ≤ (addK .i64 (plc xn w1) (1))))) (need (decide (((addK .i64 (plc xn w1) (1)) ≤ ((w1 : Nat) : Int)))) (need (decide (((Int.toNat (addK .i64 (plc xn w1) (1))) ≤ w1))) (need (decide ((((0 + (Int.toNat (addK .i64 (plc xn w1) (1)))) + (w1 - (Int.toNat (addK .i64 (plc xn w1) (1))))) ≤ w1))) (need (decide ((((((Int.toNat (plc xn w1)) - 0) + (w1 - (Int.toNat (addK .i64 (plc xn w1) (1))))) * 8) ≤ 140737488355328))) (caG E ⟨A, B, Q0, Q1, R0, ⟨(((Int.toNat (plc xn w1)) - 0) + (w1 - (Int.toNat (addK .i64 (plc xn w1) (1))))), ((fitL (0) ((Int.toNat (plc xn w1)) - 0) rn1) ++ (fitL (0) (w1 - (Int.toNat (addK .i64 (plc xn w1) (1)))) (List.drop (0 + (Int.toNat (addK .i64 (plc xn w1) (1)))) rn1))), ((fitL (0) ((Int.toNat (plc xn w1)) - 0) ra1) ++ (fitL (0) (w1 - (Int.toNat (addK .i64 (plc xn w1) (1)))) (List.drop (0 + (Int.toNat (addK .i64 (plc xn w1) (1)))) ra1)))⟩⟩ i L M k))))))))))))))))) (caG E ⟨A, B, Q0, Q1, R0, ⟨w1, rn1, ra1⟩⟩ i L M k)))
section
variable {E : Ag} {Q0 : Qt} {Q1 : Qt} {R0 : Rt} {i xn ck ca : Int} {w1 : Nat} {rn1 ra1 : List Int} {L M : Nat} {k : SV → St → Prop} {f0 g0 nx0 ex0 : Int} {os0 ps0 : List Int} {f1 g1 nx1 ex1 : Int} {os1 ps1 : List Int} {co0 : Int × Int × Int} {co1 : Int × Int × Int} {cp0 : Int × Int} {cp1 : Int × Int}
theorem V_m16_0000 : S_m16 E ⟨f0, g0, nx0, ex0, os0, ps0, none, none⟩ ⟨f1, g1, nx1, ex1, os1, ps1, none, none⟩ Q0 Q1 R0 i xn ck ca w1 rn1 ra1 L M k := by unfold S_m16; kernel_rfl
theorem V_m16_0001 : S_m16 E ⟨f0, g0, nx0, ex0, os0, ps0, none, none⟩ ⟨f1, g1, nx1, ex1, os1, ps1, none, (some cp1)⟩ Q0 Q1 R0 i xn ck ca w1 rn1 ra1 L M k := by unfold S_m16; kernel_rfl
theorem V_m16_0010 : S_m16 E ⟨f0, g0, nx0, ex0, os0, ps0, none, (some cp0)⟩ ⟨f1, g1, nx1, ex1, os1, ps1, none, none⟩ Q0 Q1 R0 i xn ck ca w1 rn1 ra1 L M k := by unfold S_m16; kernel_rfl
theorem V_m16_0011 : S_m16 E ⟨f0, g0, nx0, ex0, os0, ps0, none, (some cp0)⟩ ⟨f1, g1, nx1, ex1, os1, ps1, none, (some cp1)⟩ Q0 Q1 R0 i xn ck ca w1 rn1 ra1 L M k := by unfold S_m16; kernel_rfl
theorem V_m16_0100 : S_m16 E ⟨f0, g0, nx0, ex0, os0, ps0, none, none⟩ ⟨f1, g1, nx1, ex1, os1, ps1, (some co1), none⟩ Q0 Q1 R0 i xn ck ca w1 rn1 ra1 L M k := by unfold S_m16; kernel_rfl
theorem V_m16_0101 : S_m16 E ⟨f0, g0, nx0, ex0, os0, ps0, none, none⟩ ⟨f1, g1, nx1, ex1, os1, ps1, (some co1), (some cp1)⟩ Q0 Q1 R0 i xn ck ca w1 rn1 ra1 L M k := by unfold S_m16; kernel_rfl
theorem V_m16_0110 : S_m16 E ⟨f0, g0, nx0, ex0, os0, ps0, none, (some cp0)⟩ ⟨f1, g1, nx1, ex1, os1, ps1, (some co1), none⟩ Q0 Q1 R0 i xn ck ca w1 rn1 ra1 L M k := by unfold S_m16; kernel_rfl
theorem V_m16_0111 : S_m16 E ⟨f0, g0, nx0, ex0, os0, ps0, none, (some cp0)⟩ ⟨f1, g1, nx1, ex1, os1, ps1, (some co1), (some cp1)⟩ Q0 Q1 R0 i xn ck ca w1 rn1 ra1 L M k := by unfold S_m16; kernel_rfl
theorem V_m16_1000 : S_m16 E ⟨f0, g0, nx0, ex0, os0, ps0, (some co0), none⟩ ⟨f1, g1, nx1, ex1, os1, ps1, none, none⟩ Q0 Q1 R0 i xn ck ca w1 rn1 ra1 L M k := by unfold S_m16; kernel_rfl
theorem V_m16_1001 : S_m16 E ⟨f0, g0, nx0, ex0, os0, ps0, (some co0), none⟩ ⟨f1, g1, nx1, ex1, os1, ps1, none, (some cp1)⟩ Q0 Q1 R0 i xn ck ca w1 rn1 ra1 L M k := by unfold S_m16; kernel_rfl
theorem V_m16_1010 : S_m16 E ⟨f0, g0, nx0, ex0, os0, ps0, (some co0), (some cp0)⟩ ⟨f1, g1, nx1, ex1, os1, ps1, none, none⟩ Q0 Q1 R0 i xn ck ca w1 rn1 ra1 L M k := by unfold S_m16; kernel_rfl
theorem V_m16_1011 : S_m16 E ⟨f0, g0, nx0, ex0, os0, ps0, (some co0), (some cp0)⟩ ⟨f1, g1, nx1, ex1, os1, ps1, none, (some cp1)⟩ Q0 Q1 R0 i xn ck ca w1 rn1 ra1 L M k := by unfold S_m16; kernel_rfl
theorem V_m16_1100 : S_m16 E ⟨f0, g0, nx0, ex0, os0, ps0, (some co0), none⟩ ⟨f1, g1, nx1, ex1, os1, ps1, (some co1), none⟩ Q0 Q1 R0 i xn ck ca w1 rn1 ra1 L M k := by unfold S_m16; kernel_rfl
theorem V_m16_1101 : S_m16 E ⟨f0, g0, nx0, ex0, os0, ps0, (some co0), none⟩ ⟨f1, g1, nx1, ex1, os1, ps1, (some co1), (some cp1)⟩ Q0 Q1 R0 i xn ck ca w1 rn1 ra1 L M k := by unfold S_m16; kernel_rfl
theorem V_m16_1110 : S_m16 E ⟨f0, g0, nx0, ex0, os0, ps0, (some co0), (some cp0)⟩ ⟨f1, g1, nx1, ex1, os1, ps1, (some co1), none⟩ Q0 Q1 R0 i xn ck ca w1 rn1 ra1 L M k := by unfold S_m16; kernel_rfl
theorem V_m16_1111 : S_m16 E ⟨f0, g0, nx0, ex0, os0, ps0, (some co0), (some cp0)⟩ ⟨f1, g1, nx1, ex1, os1, ps1, (some co1), (some cp1)⟩ Q0 Q1 R0 i xn ck ca w1 rn1 ra1 L M k := by unfold S_m16; kernel_rfl
end
theorem t_m16 (E : Ag) (A : Sd) (B : Sd) (Q0 : Qt) (Q1 : Qt) (R0 : Rt) (i xn ck ca : Int) (w1 : Nat) (rn1 ra1 : List Int) (L M : Nat) (k : SV → St → Prop) : S_m16 E A B Q0 Q1 R0 i xn ck ca w1 rn1 ra1 L M k := match A, B with
  | ⟨_, _, _, _, _, _, none, none⟩, ⟨_, _, _, _, _, _, none, none⟩ => V_m16_0000
  | ⟨_, _, _, _, _, _, none, none⟩, ⟨_, _, _, _, _, _, none, some _⟩ => V_m16_0001
  | ⟨_, _, _, _, _, _, none, some _⟩, ⟨_, _, _, _, _, _, none, none⟩ => V_m16_0010
  | ⟨_, _, _, _, _, _, none, some _⟩, ⟨_, _, _, _, _, _, none, some _⟩ => V_m16_0011
  | ⟨_, _, _, _, _, _, none, none⟩, ⟨_, _, _, _, _, _, some _, none⟩ => V_m16_0100
  | ⟨_, _, _, _, _, _, none, none⟩, ⟨_, _, _, _, _, _, some _, some _⟩ => V_m16_0101
  | ⟨_, _, _, _, _, _, none, some _⟩, ⟨_, _, _, _, _, _, some _, none⟩ => V_m16_0110
  | ⟨_, _, _, _, _, _, none, some _⟩, ⟨_, _, _, _, _, _, some _, some _⟩ => V_m16_0111
  | ⟨_, _, _, _, _, _, some _, none⟩, ⟨_, _, _, _, _, _, none, none⟩ => V_m16_1000
  | ⟨_, _, _, _, _, _, some _, none⟩, ⟨_, _, _, _, _, _, none, some _⟩ => V_m16_1001
  | ⟨_, _, _, _, _, _, some _, some _⟩, ⟨_, _, _, _, _, _, none, none⟩ => V_m16_1010
  | ⟨_, _, _, _, _, _, some _, some _⟩, ⟨_, _, _, _, _, _, none, some _⟩ => V_m16_1011
  | ⟨_, _, _, _, _, _, some _, none⟩, ⟨_, _, _, _, _, _, some _, none⟩ => V_m16_1100
  | ⟨_, _, _, _, _, _, some _, none⟩, ⟨_, _, _, _, _, _, some _, some _⟩ => V_m16_1101
  | ⟨_, _, _, _, _, _, some _, some _⟩, ⟨_, _, _, _, _, _, some _, none⟩ => V_m16_1110
  | ⟨_, _, _, _, _, _, some _, some _⟩, ⟨_, _, _, _, _, _, some _, some _⟩ => V_m16_1111
noncomputable def S_m17 (E : Ag) (A : Sd) (B : Sd) (Q0 : Qt) (Q1 : Qt) (R0 : Rt) (i xn ck ca : Int) (w1 : Nat) (rn1 ra1 : List Int) (L M : Nat) (k : SV → St → Prop) : Prop := (caD E ⟨A, B, Q0, Q1, R0, ⟨w1, rn1, ra1⟩⟩ true 7 xn ck ca i L M k) =
    (Again (branch (decide ((((w1 : Nat) : Int) > (0)))) (need (Bool.not (decide ((((w1 : Nat) : Int) = (0))))) (need (decide (((0) ≤ (plc xn w1)))) (need (decide (((plc xn w1) < ((w1 : Nat) : Int)))) (need (decide (((0 + (Int.toNat (plc xn w1))) < w1))) (need (decide (((w1 + 1) * 8) ≤ 140737488355328)) (caG E ⟨A, B, Q0, Q1, R0, ⟨(w1 + 1), ((fitL (0) w1 rn1) ++ [(gtC rn1 xn w1)]), ((fitL (0) w1 ra1) ++ [(gtC ra1 xn w1)])⟩⟩ i L M k)))))) (caG E ⟨A, B, Q0, Q1, R0, ⟨w1, rn1, ra1⟩⟩ i L M k)))
section
variable {E : Ag} {Q0 : Qt} {Q1 : Qt} {R0 : Rt} {i xn ck ca : Int} {w1 : Nat} {rn1 ra1 : List Int} {L M : Nat} {k : SV → St → Prop} {f0 g0 nx0 ex0 : Int} {os0 ps0 : List Int} {f1 g1 nx1 ex1 : Int} {os1 ps1 : List Int} {co0 : Int × Int × Int} {co1 : Int × Int × Int} {cp0 : Int × Int} {cp1 : Int × Int}
theorem V_m17_0000 : S_m17 E ⟨f0, g0, nx0, ex0, os0, ps0, none, none⟩ ⟨f1, g1, nx1, ex1, os1, ps1, none, none⟩ Q0 Q1 R0 i xn ck ca w1 rn1 ra1 L M k := by unfold S_m17; kernel_rfl
theorem V_m17_0001 : S_m17 E ⟨f0, g0, nx0, ex0, os0, ps0, none, none⟩ ⟨f1, g1, nx1, ex1, os1, ps1, none, (some cp1)⟩ Q0 Q1 R0 i xn ck ca w1 rn1 ra1 L M k := by unfold S_m17; kernel_rfl
theorem V_m17_0010 : S_m17 E ⟨f0, g0, nx0, ex0, os0, ps0, none, (some cp0)⟩ ⟨f1, g1, nx1, ex1, os1, ps1, none, none⟩ Q0 Q1 R0 i xn ck ca w1 rn1 ra1 L M k := by unfold S_m17; kernel_rfl
theorem V_m17_0011 : S_m17 E ⟨f0, g0, nx0, ex0, os0, ps0, none, (some cp0)⟩ ⟨f1, g1, nx1, ex1, os1, ps1, none, (some cp1)⟩ Q0 Q1 R0 i xn ck ca w1 rn1 ra1 L M k := by unfold S_m17; kernel_rfl
theorem V_m17_0100 : S_m17 E ⟨f0, g0, nx0, ex0, os0, ps0, none, none⟩ ⟨f1, g1, nx1, ex1, os1, ps1, (some co1), none⟩ Q0 Q1 R0 i xn ck ca w1 rn1 ra1 L M k := by unfold S_m17; kernel_rfl
theorem V_m17_0101 : S_m17 E ⟨f0, g0, nx0, ex0, os0, ps0, none, none⟩ ⟨f1, g1, nx1, ex1, os1, ps1, (some co1), (some cp1)⟩ Q0 Q1 R0 i xn ck ca w1 rn1 ra1 L M k := by unfold S_m17; kernel_rfl
theorem V_m17_0110 : S_m17 E ⟨f0, g0, nx0, ex0, os0, ps0, none, (some cp0)⟩ ⟨f1, g1, nx1, ex1, os1, ps1, (some co1), none⟩ Q0 Q1 R0 i xn ck ca w1 rn1 ra1 L M k := by unfold S_m17; kernel_rfl
theorem V_m17_0111 : S_m17 E ⟨f0, g0, nx0, ex0, os0, ps0, none, (some cp0)⟩ ⟨f1, g1, nx1, ex1, os1, ps1, (some co1), (some cp1)⟩ Q0 Q1 R0 i xn ck ca w1 rn1 ra1 L M k := by unfold S_m17; kernel_rfl
theorem V_m17_1000 : S_m17 E ⟨f0, g0, nx0, ex0, os0, ps0, (some co0), none⟩ ⟨f1, g1, nx1, ex1, os1, ps1, none, none⟩ Q0 Q1 R0 i xn ck ca w1 rn1 ra1 L M k := by unfold S_m17; kernel_rfl
theorem V_m17_1001 : S_m17 E ⟨f0, g0, nx0, ex0, os0, ps0, (some co0), none⟩ ⟨f1, g1, nx1, ex1, os1, ps1, none, (some cp1)⟩ Q0 Q1 R0 i xn ck ca w1 rn1 ra1 L M k := by unfold S_m17; kernel_rfl
theorem V_m17_1010 : S_m17 E ⟨f0, g0, nx0, ex0, os0, ps0, (some co0), (some cp0)⟩ ⟨f1, g1, nx1, ex1, os1, ps1, none, none⟩ Q0 Q1 R0 i xn ck ca w1 rn1 ra1 L M k := by unfold S_m17; kernel_rfl
theorem V_m17_1011 : S_m17 E ⟨f0, g0, nx0, ex0, os0, ps0, (some co0), (some cp0)⟩ ⟨f1, g1, nx1, ex1, os1, ps1, none, (some cp1)⟩ Q0 Q1 R0 i xn ck ca w1 rn1 ra1 L M k := by unfold S_m17; kernel_rfl
theorem V_m17_1100 : S_m17 E ⟨f0, g0, nx0, ex0, os0, ps0, (some co0), none⟩ ⟨f1, g1, nx1, ex1, os1, ps1, (some co1), none⟩ Q0 Q1 R0 i xn ck ca w1 rn1 ra1 L M k := by unfold S_m17; kernel_rfl
theorem V_m17_1101 : S_m17 E ⟨f0, g0, nx0, ex0, os0, ps0, (some co0), none⟩ ⟨f1, g1, nx1, ex1, os1, ps1, (some co1), (some cp1)⟩ Q0 Q1 R0 i xn ck ca w1 rn1 ra1 L M k := by unfold S_m17; kernel_rfl
theorem V_m17_1110 : S_m17 E ⟨f0, g0, nx0, ex0, os0, ps0, (some co0), (some cp0)⟩ ⟨f1, g1, nx1, ex1, os1, ps1, (some co1), none⟩ Q0 Q1 R0 i xn ck ca w1 rn1 ra1 L M k := by unfold S_m17; kernel_rfl
theorem V_m17_1111 : S_m17 E ⟨f0, g0, nx0, ex0, os0, ps0, (some co0), (some cp0)⟩ ⟨f1, g1, nx1, ex1, os1, ps1, (some co1), (some cp1)⟩ Q0 Q1 R0 i xn ck ca w1 rn1 ra1 L M k := by unfold S_m17; kernel_rfl
end
theorem t_m17 (E : Ag) (A : Sd) (B : Sd) (Q0 : Qt) (Q1 : Qt) (R0 : Rt) (i xn ck ca : Int) (w1 : Nat) (rn1 ra1 : List Int) (L M : Nat) (k : SV → St → Prop) : S_m17 E A B Q0 Q1 R0 i xn ck ca w1 rn1 ra1 L M k := match A, B with
  | ⟨_, _, _, _, _, _, none, none⟩, ⟨_, _, _, _, _, _, none, none⟩ => V_m17_0000
  | ⟨_, _, _, _, _, _, none, none⟩, ⟨_, _, _, _, _, _, none, some _⟩ => V_m17_0001
  | ⟨_, _, _, _, _, _, none, some _⟩, ⟨_, _, _, _, _, _, none, none⟩ => V_m17_0010
  | ⟨_, _, _, _, _, _, none, some _⟩, ⟨_, _, _, _, _, _, none, some _⟩ => V_m17_0011
  | ⟨_, _, _, _, _, _, none, none⟩, ⟨_, _, _, _, _, _, some _, none⟩ => V_m17_0100
  | ⟨_, _, _, _, _, _, none, none⟩, ⟨_, _, _, _, _, _, some _, some _⟩ => V_m17_0101
  | ⟨_, _, _, _, _, _, none, some _⟩, ⟨_, _, _, _, _, _, some _, none⟩ => V_m17_0110
  | ⟨_, _, _, _, _, _, none, some _⟩, ⟨_, _, _, _, _, _, some _, some _⟩ => V_m17_0111
  | ⟨_, _, _, _, _, _, some _, none⟩, ⟨_, _, _, _, _, _, none, none⟩ => V_m17_1000
  | ⟨_, _, _, _, _, _, some _, none⟩, ⟨_, _, _, _, _, _, none, some _⟩ => V_m17_1001
  | ⟨_, _, _, _, _, _, some _, some _⟩, ⟨_, _, _, _, _, _, none, none⟩ => V_m17_1010
  | ⟨_, _, _, _, _, _, some _, some _⟩, ⟨_, _, _, _, _, _, none, some _⟩ => V_m17_1011
  | ⟨_, _, _, _, _, _, some _, none⟩, ⟨_, _, _, _, _, _, some _, none⟩ => V_m17_1100
  | ⟨_, _, _, _, _, _, some _, none⟩, ⟨_, _, _, _, _, _, some _, some _⟩ => V_m17_1101
  | ⟨_, _, _, _, _, _, some _, some _⟩, ⟨_, _, _, _, _, _, some _, none⟩ => V_m17_1110
  | ⟨_, _, _, _, _, _, some _, some _⟩, ⟨_, _, _, _, _, _, some _, some _⟩ => V_m17_1111
noncomputable def S_m18 (E : Ag) (A : Sd) (B : Sd) (Q0 : Qt) (Q1 : Qt) (R0 : Rt) (R1 : Rt) (i xn ck ca : Int) (k8 : Nat) (L M : Nat) (k : SV → St → Prop) : Prop := (caD E ⟨A, B, Q0, Q1, R0, R1⟩ true (((k8 + 8) : Nat) : Int) xn ck ca i L M k) =
    (Again (caG E ⟨A, B, Q0, Q1, R0, R1⟩ i L M k))
section
variable {E : Ag} {Q0 : Qt} {Q1 : Qt} {R0 : Rt} {R1 : Rt} {i xn ck ca : Int} {k8 : Nat} {L M : Nat} {k : SV → St → Prop} {f0 g0 nx0 ex0 : Int} {os0 ps0 : List Int} {f1 g1 nx1 ex1 : Int} {os1 ps1 : List Int} {co0 : Int × Int × Int} {co1 : Int × Int × Int} {cp0 : Int × Int} {cp1 : Int × Int}
theorem V_m18_0000 : S_m18 E ⟨f0, g0, nx0, ex0, os0, ps0, none, none⟩ ⟨f1, g1, nx1, ex1, os1, ps1, none, none⟩ Q0 Q1 R0 R1 i xn ck ca k8 L M k := by unfold S_m18; kernel_rfl
theorem V_m18_0001 : S_m18 E ⟨f0, g0, nx0, ex0, os0, ps0, none, none⟩ ⟨f1, g1, nx1, ex1, os1, ps1, none, (some cp1)⟩ Q0 Q1 R0 R1 i xn ck ca k8 L M k := by unfold S_m18; kernel_rfl
theorem V_m18_0010 : S_m18 E ⟨f0, g0, nx0, ex0, os0, ps0, none, (some cp0)⟩ ⟨f1, g1, nx1, ex1, os1, ps1, none, none⟩ Q0 Q1 R0 R1 i xn ck ca k8 L M k := by unfold S_m18; kernel_rfl
theorem V_m18_0011 : S_m18 E ⟨f0, g0, nx0, ex0, os0, ps0, none, (some cp0)⟩ ⟨f1, g1, nx1, ex1, os1, ps1, none, (some cp1)⟩ Q0 Q1 R0 R1 i xn ck ca k8 L M k := by unfold S_m18; kernel_rfl
theorem V_m18_0100 : S_m18 E ⟨f0, g0, nx0, ex0, os0, ps0, none, none⟩ ⟨f1, g1, nx1, ex1, os1, ps1, (some co1), none⟩ Q0 Q1 R0 R1 i xn ck ca k8 L M k := by unfold S_m18; kernel_rfl
theorem V_m18_0101 : S_m18 E ⟨f0, g0, nx0, ex0, os0, ps0, none, none⟩ ⟨f1, g1, nx1, ex1, os1, ps1, (some co1), (some cp1)⟩ Q0 Q1 R0 R1 i xn ck ca k8 L M k := by unfold S_m18; kernel_rfl
theorem V_m18_0110 : S_m18 E ⟨f0, g0, nx0, ex0, os0, ps0, none, (some cp0)⟩ ⟨f1, g1, nx1, ex1, os1, ps1, (some co1), none⟩ Q0 Q1 R0 R1 i xn ck ca k8 L M k := by unfold S_m18; kernel_rfl
theorem V_m18_0111 : S_m18 E ⟨f0, g0, nx0, ex0, os0, ps0, none, (some cp0)⟩ ⟨f1, g1, nx1, ex1, os1, ps1, (some co1), (some cp1)⟩ Q0 Q1 R0 R1 i xn ck ca k8 L M k := by unfold S_m18; kernel_rfl
theorem V_m18_1000 : S_m18 E ⟨f0, g0, nx0, ex0, os0, ps0, (some co0), none⟩ ⟨f1, g1, nx1, ex1, os1, ps1, none, none⟩ Q0 Q1 R0 R1 i xn ck ca k8 L M k := by unfold S_m18; kernel_rfl
theorem V_m18_1001 : S_m18 E ⟨f0, g0, nx0, ex0, os0, ps0, (some co0), none⟩ ⟨f1, g1, nx1, ex1, os1, ps1, none, (some cp1)⟩ Q0 Q1 R0 R1 i xn ck ca k8 L M k := by unfold S_m18; kernel_rfl
theorem V_m18_1010 : S_m18 E ⟨f0, g0, nx0, ex0, os0, ps0, (some co0), (some cp0)⟩ ⟨f1, g1, nx1, ex1, os1, ps1, none, none⟩ Q0 Q1 R0 R1 i xn ck ca k8 L M k := by unfold S_m18; kernel_rfl
theorem V_m18_1011 : S_m18 E ⟨f0, g0, nx0, ex0, os0, ps0, (some co0), (some cp0)⟩ ⟨f1, g1, nx1, ex1, os1, ps1, none, (some cp1)⟩ Q0 Q1 R0 R1 i xn ck ca k8 L M k := by unfold S_m18; kernel_rfl
theorem V_m18_1100 : S_m18 E ⟨f0, g0, nx0, ex0, os0, ps0, (some co0), none⟩ ⟨f1, g1, nx1, ex1, os1, ps1, (some co1), none⟩ Q0 Q1 R0 R1 i xn ck ca k8 L M k := by unfold S_m18; kernel_rfl
theorem V_m18_1101 : S_m18 E ⟨f0, g0, nx0, ex0, os0, ps0, (some co0), none⟩ ⟨f1, g1, nx1, ex1, os1, ps1, (some co1), (some cp1)⟩ Q0 Q1 R0 R1 i xn ck ca k8 L M k := by unfold S_m18; kernel_rfl
theorem V_m18_1110 : S_m18 E ⟨f0, g0, nx0, ex0, os0, ps0, (some co0), (some cp0)⟩ ⟨f1, g1, nx1, ex1, os1, ps1, (some co1), none⟩ Q0 Q1 R0 R1 i xn ck ca k8 L M k := by unfold S_m18; kernel_rfl
theorem V_m18_1111 : S_m18 E ⟨f0, g0, nx0, ex0, os0, ps0, (some co0), (some cp0)⟩ ⟨f1, g1, nx1, ex1, os1, ps1, (some co1), (some cp1)⟩ Q0 Q1 R0 R1 i xn ck ca k8 L M k := by unfold S_m18; kernel_rfl
end
theorem t_m18 (E : Ag) (A : Sd) (B : Sd) (Q0 : Qt) (Q1 : Qt) (R0 : Rt) (R1 : Rt) (i xn ck ca : Int) (k8 : Nat) (L M : Nat) (k : SV → St → Prop) : S_m18 E A B Q0 Q1 R0 R1 i xn ck ca k8 L M k := match A, B with
  | ⟨_, _, _, _, _, _, none, none⟩, ⟨_, _, _, _, _, _, none, none⟩ => V_m18_0000
  | ⟨_, _, _, _, _, _, none, none⟩, ⟨_, _, _, _, _, _, none, some _⟩ => V_m18_0001
  | ⟨_, _, _, _, _, _, none, some _⟩, ⟨_, _, _, _, _, _, none, none⟩ => V_m18_0010
  | ⟨_, _, _, _, _, _, none, some _⟩, ⟨_, _, _, _, _, _, none, some _⟩ => V_m18_0011
  | ⟨_, _, _, _, _, _, none, none⟩, ⟨_, _, _, _, _, _, some _, none⟩ => V_m18_0100
  | ⟨_, _, _, _, _, _, none, none⟩, ⟨_, _, _, _, _, _, some _, some _⟩ => V_m18_0101
  | ⟨_, _, _, _, _, _, none, some _⟩, ⟨_, _, _, _, _, _, some _, none⟩ => V_m18_0110
  | ⟨_, _, _, _, _, _, none, some _⟩, ⟨_, _, _, _, _, _, some _, some _⟩ => V_m18_0111
  | ⟨_, _, _, _, _, _, some _, none⟩, ⟨_, _, _, _, _, _, none, none⟩ => V_m18_1000
  | ⟨_, _, _, _, _, _, some _, none⟩, ⟨_, _, _, _, _, _, none, some _⟩ => V_m18_1001
  | ⟨_, _, _, _, _, _, some _, some _⟩, ⟨_, _, _, _, _, _, none, none⟩ => V_m18_1010
  | ⟨_, _, _, _, _, _, some _, some _⟩, ⟨_, _, _, _, _, _, none, some _⟩ => V_m18_1011
  | ⟨_, _, _, _, _, _, some _, none⟩, ⟨_, _, _, _, _, _, some _, none⟩ => V_m18_1100
  | ⟨_, _, _, _, _, _, some _, none⟩, ⟨_, _, _, _, _, _, some _, some _⟩ => V_m18_1101
  | ⟨_, _, _, _, _, _, some _, some _⟩, ⟨_, _, _, _, _, _, some _, none⟩ => V_m18_1110
  | ⟨_, _, _, _, _, _, some _, some _⟩, ⟨_, _, _, _, _, _, some _, some _⟩ => V_m18_1111
end Go.Ev
