/- What a round of ConfAgree comes to, by the kind of the move and by what is out or kept: printed, checked by the kernel. No conditions. -/
import Derived.Test.YtiplgpnegolegaaCaE
import Derived.Test.YtiplgpnegolegaaEvD
set_option linter.unusedVariables false
set_option maxHeartbeats 0
namespace Go.Ev
open Go Go.Proofs Go.Spec
noncomputable def S_m03 (E : Ag) (A : Sd) (B : Sd) (Q1 : Qt) (R0 : Rt) (R1 : Rt) (i xn ck ca : Int) (m0 : Nat) (qn0 qk0 qa0 : List Int) (L M : Nat) (k : SV → St → Prop) : Prop := (caD E ⟨A, B, ⟨m0, qn0, qk0, qa0⟩, Q1, R0, R1⟩ false 3 xn ck ca i L M k) =
    (Again (branch (decide ((((m0 : Nat) : Int) > (0)))) (need (Bool.not (decide ((((m0 : Nat) : Int) = (0))))) (need (decide (((0) ≤ (plc xn m0)))) (need (decide (((plc xn m0) < ((m0 : Nat) : Int)))) (need (decide (((0 + (Int.toNat (plc xn m0))) < m0))) (need (decide ((0 + m0) ≤ m0)) (need (decide (((0) ≤ (plc xn m0)))) (need (decide (((plc xn m0) ≤ (((m0 - 0) : Nat) : Int)))) (need (decide ((0 + ((Int.toNat (plc xn m0)) - 0)) ≤ m0)) (branch (decide ((0 + ((Int.toNat (plc xn m0)) - 0)) ≤ 0)) (need (decide (((Int.toNat (plc xn m0)) - 0) = 0)) (need (decide ((0 + m0) ≤ m0)) (need (decide (((0) ≤ (addK .i64 (plc xn m0) (1))))) (need (decide (((addK .i64 (plc xn m0) (1)) ≤ ((m0 : Nat) : Int)))) (need (decide (((Int.toNat (addK .i64 (plc xn m0) (1))) ≤ m0))) (need (decide ((((0 + (Int.toNat (addK .i64 (plc xn m0) (1)))) + (m0 - (Int.toNat (addK .i64 (plc xn m0) (1))))) ≤ m0))) (branch (decide (((0 + (m0 - (Int.toNat (addK .i64 (plc xn m0) (1))))) ≤ 0))) (need (decide (((m0 - (Int.toNat (addK .i64 (plc xn m0) (1)))) = 0))) (caG E ⟨A, B, ⟨0, [], [], []⟩, Q1, R0, R1⟩ i L M k)) (need (decide ((((0 + (m0 - (Int.toNat (addK .i64 (plc xn m0) (1))))) * 12) ≤ 140737488355328))) (caG E ⟨A, B, ⟨(m0 - (Int.toNat (addK .i64 (plc xn m0) (1)))), (List.drop (0 + (Int.toNat (addK .i64 (plc xn m0) (1)))) qn0), (List.drop (0 + (Int.toNat (addK .i64 (plc xn m0) (1)))) qk0), (List.drop (0 + (Int.toNat (addK .i64 (plc xn m0) (1)))) qa0)⟩, Q1, R0, R1⟩ i L M k))))))))) (need (decide (((0 + ((Int.toNat (plc xn m0)) - 0)) * 12) ≤ 140737488355328)) (need (decide ((0 + m0) ≤ m0)) (need (decide (((0) ≤ (addK .i64 (plc xn m0) (1))))) (need (decide (((addK .i64 (plc xn m0) (1)) ≤ ((m0 : Nat) : Int)))) (need (decide (((Int.toNat (addK .i64 (plc xn m0) (1))) ≤ m0))) (need (decide ((((0 + (Int.toNat (addK .i64 (plc xn m0) (1)))) + (m0 - (Int.toNat (addK .i64 (plc xn m0) (1))))) ≤ m0))) (need (decide ((((((Int.toNat (plc xn m0)) - 0) + (m0 - (Int.toNat (addK .i64 (plc xn m0) (1))))) * 12) ≤ 140737488355328))) (caG E ⟨A, B, ⟨(((Int.toNat (plc xn m0)) - 0) + (m0 - (Int.toNat (addK .i64 (plc xn m0) (1))))), ((fitL (0) ((Int.toNat (plc xn m0)) - 0) qn0) ++ (fitL (0) (m0 - (Int.toNat (addK .i64 (plc xn m0) (1)))) (List.drop (0 + (Int.toNat (addK .i64 (plc xn m0) (1)))) qn0))), ((fitL (0) ((Int.toNat (plc xn m0)) - 0) qk0) ++ (fitL (0) (m0 - (Int.toNat (addK .i64 (plc xn m0) (1)))) (List.drop (0 + (Int.toNat (addK .i64 (plc xn m0) (1)))) qk0))), ((fitL (0) ((Int.toNat (plc xn m0)) - 0) qa0) ++ (fitL (0) (m0 - (Int.toNat (addK .i64 (plc xn m0) (1)))) (List.drop (0 + (Int.toNat (addK .i64 (plc xn m0) (1)))) qa0)))⟩, Q1, R0, R1⟩ i L M k))))))))))))))))) (caG E ⟨A, B, ⟨m0, qn0, qk0, qa0⟩, Q1, R0, R1⟩ i L M k)))
section
variable {E : Ag} {Q1 : Qt} {R0 : Rt} {R1 : Rt} {i xn ck ca : Int} {m0 : Nat} {qn0 qk0 qa0 : List Int} {L M : Nat} {k : SV → St → Prop} {f0 g0 nx0 ex0 : Int} {os0 ps0 : List Int} {f1 g1 nx1 ex1 : Int} {os1 ps1 : List Int} {co0 : Int × Int × Int} {co1 : Int × Int × Int} {cp0 : Int × Int} {cp1 : Int × Int}
theorem V_m03_0000 : S_m03 E ⟨f0, g0, nx0, ex0, os0, ps0, none, none⟩ ⟨f1, g1, nx1, ex1, os1, ps1, none, none⟩ Q1 R0 R1 i xn ck ca m0 qn0 qk0 qa0 L M k := by unfold S_m03; kernel_rfl
theorem V_m03_0001 : S_m03 E ⟨f0, g0, nx0, ex0, os0, ps0, none, none⟩ ⟨f1, g1, nx1, ex1, os1, ps1, none, (some cp1)⟩ Q1 R0 R1 i xn ck ca m0 qn0 qk0 qa0 L M k := by unfold S_m03; kernel_rfl
theorem V_m03_0010 : S_m03 E ⟨f0, g0, nx0, ex0, os0, ps0, none, (some cp0)⟩ ⟨f1, g1, nx1, ex1, os1, ps1, none, none⟩ Q1 R0 R1 i xn ck ca m0 qn0 qk0 qa0 L M k := by unfold S_m03; kernel_rfl
theorem V_m03_0011 : S_m03 E ⟨f0, g0, nx0, ex0, os0, ps0, none, (some cp0)⟩ ⟨f1, g1, nx1, ex1, os1, ps1, none, (some cp1)⟩ Q1 R0 R1 i xn ck ca m0 qn0 qk0 qa0 L M k := by unfold S_m03; kernel_rfl
theorem V_m03_0100 : S_m03 E ⟨f0, g0, nx0, ex0, os0, ps0, none, none⟩ ⟨f1, g1, nx1, ex1, os1, ps1, (some co1), none⟩ Q1 R0 R1 i xn ck ca m0 qn0 qk0 qa0 L M k := by unfold S_m03; kernel_rfl
theorem V_m03_0101 : S_m03 E ⟨f0, g0, nx0, ex0, os0, ps0, none, none⟩ ⟨f1, g1, nx1, ex1, os1, ps1, (some co1), (some cp1)⟩ Q1 R0 R1 i xn ck ca m0 qn0 qk0 qa0 L M k := by unfold S_m03; kernel_rfl
theorem V_m03_0110 : S_m03 E ⟨f0, g0, nx0, ex0, os0, ps0, none, (some cp0)⟩ ⟨f1, g1, nx1, ex1, os1, ps1, (some co1), none⟩ Q1 R0 R1 i xn ck ca m0 qn0 qk0 qa0 L M k := by unfold S_m03; kernel_rfl
theorem V_m03_0111 : S_m03 E ⟨f0, g0, nx0, ex0, os0, ps0, none, (some cp0)⟩ ⟨f1, g1, nx1, ex1, os1, ps1, (some co1), (some cp1)⟩ Q1 R0 R1 i xn ck ca m0 qn0 qk0 qa0 L M k := by unfold S_m03; kernel_rfl
theorem V_m03_1000 : S_m03 E ⟨f0, g0, nx0, ex0, os0, ps0, (some co0), none⟩ ⟨f1, g1, nx1, ex1, os1, ps1, none, none⟩ Q1 R0 R1 i xn ck ca m0 qn0 qk0 qa0 L M k := by unfold S_m03; kernel_rfl
theorem V_m03_1001 : S_m03 E ⟨f0, g0, nx0, ex0, os0, ps0, (some co0), none⟩ ⟨f1, g1, nx1, ex1, os1, ps1, none, (some cp1)⟩ Q1 R0 R1 i xn ck ca m0 qn0 qk0 qa0 L M k := by unfold S_m03; kernel_rfl
theorem V_m03_1010 : S_m03 E ⟨f0, g0, nx0, ex0, os0, ps0, (some co0), (some cp0)⟩ ⟨f1, g1, nx1, ex1, os1, ps1, none, none⟩ Q1 R0 R1 i xn ck ca m0 qn0 qk0 qa0 L M k := by unfold S_m03; kernel_rfl
theorem V_m03_1011 : S_m03 E ⟨f0, g0, nx0, ex0, os0, ps0, (some co0), (some cp0)⟩ ⟨f1, g1, nx1, ex1, os1, ps1, none, (some cp1)⟩ Q1 R0 R1 i xn ck ca m0 qn0 qk0 qa0 L M k := by unfold S_m03; kernel_rfl
theorem V_m03_1100 : S_m03 E ⟨f0, g0, nx0, ex0, os0, ps0, (some co0), none⟩ ⟨f1, g1, nx1, ex1, os1, ps1, (some co1), none⟩ Q1 R0 R1 i xn ck ca m0 qn0 qk0 qa0 L M k := by unfold S_m03; kernel_rfl
theorem V_m03_1101 : S_m03 E ⟨f0, g0, nx0, ex0, os0, ps0, (some co0), none⟩ ⟨f1, g1, nx1, ex1, os1, ps1, (some co1), (some cp1)⟩ Q1 R0 R1 i xn ck ca m0 qn0 qk0 qa0 L M k := by unfold S_m03; kernel_rfl
theorem V_m03_1110 : S_m03 E ⟨f0, g0, nx0, ex0, os0, ps0, (some co0), (some cp0)⟩ ⟨f1, g1, nx1, ex1, os1, ps1, (some co1), none⟩ Q1 R0 R1 i xn ck ca m0 qn0 qk0 qa0 L M k := by unfold S_m03; kernel_rfl
theorem V_m03_1111 : S_m03 E ⟨f0, g0, nx0, ex0, os0, ps0, (some co0), (some cp0)⟩ ⟨f1, g1, nx1, ex1, os1, ps1, (some co1), (some cp1)⟩ Q1 R0 R1 i xn ck ca m0 qn0 qk0 qa0 L M k := by unfold S_m03; kernel_rfl
end
theorem t_m03 (E : Ag) (A : Sd) (B : Sd) (Q1 : Qt) (R0 : Rt) (R1 : Rt) (i xn ck ca : Int) (m0 : Nat) (qn0 qk0 qa0 : List Int) (L M : Nat) (k : SV → St → Prop) : S_m03 E A B Q1 R0 R1 i xn ck ca m0 qn0 qk0 qa0 L M k := match A, B with
  | ⟨_, _, _, _, _, _, none, none⟩, ⟨_, _, _, _, _, _, none, none⟩ => V_m03_0000
  | ⟨_, _, _, _, _, _, none, none⟩, ⟨_, _, _, _, _, _, none, some _⟩ => V_m03_0001
  | ⟨_, _, _, _, _, _, none, some _⟩, ⟨_, _, _, _, _, _, none, none⟩ => V_m03_0010
  | ⟨_, _, _, _, _, _, none, some _⟩, ⟨_, _, _, _, _, _, none, some _⟩ => V_m03_0011
  | ⟨_, _, _, _, _, _, none, none⟩, ⟨_, _, _, _, _, _, some _, none⟩ => V_m03_0100
  | ⟨_, _, _, _, _, _, none, none⟩, ⟨_, _, _, _, _, _, some _, some _⟩ => V_m03_0101
  | ⟨_, _, _, _, _, _, none, some _⟩, ⟨_, _, _, _, _, _, some _, none⟩ => V_m03_0110
  | ⟨_, _, _, _, _, _, none, some _⟩, ⟨_, _, _, _, _, _, some _, some _⟩ => V_m03_0111
  | ⟨_, _, _, _, _, _, some _, none⟩, ⟨_, _, _, _, _, _, none, none⟩ => V_m03_1000
  | ⟨_, _, _, _, _, _, some _, none⟩, ⟨_, _, _, _, _, _, none, some _⟩ => V_m03_1001
  | ⟨_, _, _, _, _, _, some _, some _⟩, ⟨_, _, _, _, _, _, none, none⟩ => V_m03_1010
  | ⟨_, _, _, _, _, _, some _, some _⟩, ⟨_, _, _, _, _, _, none, some _⟩ => V_m03_1011
  | ⟨_, _, _, _, _, _, some _, none⟩, ⟨_, _, _, _, _, _, some _, none⟩ => V_m03_1100
  | ⟨_, _, _, _, _, _, some _, none⟩, ⟨_, _, _, _, _, _, some _, some _⟩ => V_m03_1101
  | ⟨_, _, _, _, _, _, some _, some _⟩, ⟨_, _, _, _, _, _, some _, none⟩ => V_m03_1110
  | ⟨_, _, _, _, _, _, some _, some _⟩, ⟨_, _, _, _, _, _, some _, some _⟩ => V_m03_1111
noncomputable def S_m04 (E : Ag) (A : Sd) (B : Sd) (Q1 : Qt) (R0 : Rt) (R1 : Rt) (i xn ck ca : Int) (m0 : Nat) (qn0 qk0 qa0 : List Int) (L M : Nat) (k : SV → St → Prop) : Prop := (caD E ⟨A, B, ⟨m0, qn0, qk0, qa0⟩, Q1, R0, R1⟩ false 4 xn ck ca i L M k) =
    (Again (branch (decide ((((m0 : Nat) : Int) > (0)))) (need (Bool.not (decide ((((m0 : Nat) : Int) = (0))))) (need (decide (((0) ≤ (plc xn m0)))) (need (decide (((plc xn m0) < ((m0 : Nat) : Int)))) (need (decide (((0 + (Int.toNat (plc xn m0))) < m0))) (need (decide (((m0 + 1) * 12) ≤ 140737488355328)) (caG E ⟨A, B, ⟨(m0 + 1), ((fitL (0) m0 qn0) ++ [(gtC qn0 xn m0)]), ((fitL (0) m0 qk0) ++ [(gtC qk0 xn m0)]), ((fitL (0) m0 qa0) ++ [(gtC qa0 xn m0)])⟩, Q1, R0, R1⟩ i L M k)))))) (caG E ⟨A, B, ⟨m0, qn0, qk0, qa0⟩, Q1, R0, R1⟩ i L M k)))
section
variable {E : Ag} {Q1 : Qt} {R0 : Rt} {R1 : Rt} {i xn ck ca : Int} {m0 : Nat} {qn0 qk0 qa0 : List Int} {L M : Nat} {k : SV → St → Prop} {f0 g0 nx0 ex0 : Int} {os0 ps0 : List Int} {f1 g1 nx1 ex1 : Int} {os1 ps1 : List Int} {co0 : Int × Int × Int} {co1 : Int × Int × Int} {cp0 : Int × Int} {cp1 : Int × Int}
theorem V_m04_0000 : S_m04 E ⟨f0, g0, nx0, ex0, os0, ps0, none, none⟩ ⟨f1, g1, nx1, ex1, os1, ps1, none, none⟩ Q1 R0 R1 i xn ck ca m0 qn0 qk0 qa0 L M k := by unfold S_m04; kernel_rfl
theorem V_m04_0001 : S_m04 E ⟨f0, g0, nx0, ex0, os0, ps0, none, none⟩ ⟨f1, g1, nx1, ex1, os1, ps1, none, (some cp1)⟩ Q1 R0 R1 i xn ck ca m0 qn0 qk0 qa0 L M k := by unfold S_m04; kernel_rfl
theorem V_m04_0010 : S_m04 E ⟨f0, g0, nx0, ex0, os0, ps0, none, (some cp0)⟩ ⟨f1, g1, nx1, ex1, os1, ps1, none, none⟩ Q1 R0 R1 i xn ck ca m0 qn0 qk0 qa0 L M k := by unfold S_m04; kernel_rfl
theorem V_m04_0011 : S_m04 E ⟨f0, g0, nx0, ex0, os0, ps0, none, (some cp0)⟩ ⟨f1, g1, nx1, ex1, os1, ps1, none, (some cp1)⟩ Q1 R0 R1 i xn ck ca m0 qn0 qk0 qa0 L M k := by unfold S_m04; kernel_rfl
theorem V_m04_0100 : S_m04 E ⟨f0, g0, nx0, ex0, os0, ps0, none, none⟩ ⟨f1, g1, nx1, ex1, os1, ps1, (some co1), none⟩ Q1 R0 R1 i xn ck ca m0 qn0 qk0 qa0 L M k := by unfold S_m04; kernel_rfl
theorem V_m04_0101 : S_m04 E ⟨f0, g0, nx0, ex0, os0, ps0, none, none⟩ ⟨f1, g1, nx1, ex1, os1, ps1, (some co1), (some cp1)⟩ Q1 R0 R1 i xn ck ca m0 qn0 qk0 qa0 L M k := by unfold S_m04; kernel_rfl
theorem V_m04_0110 : S_m04 E ⟨f0, g0, nx0, ex0, os0, ps0, none, (some cp0)⟩ ⟨f1, g1, nx1, ex1, os1, ps1, (some co1), none⟩ Q1 R0 R1 i xn ck ca m0 qn0 qk0 qa0 L M k := by unfold S_m04; kernel_rfl
theorem V_m04_0111 : S_m04 E ⟨f0, g0, nx0, ex0, os0, ps0, none, (some cp0)⟩ ⟨f1, g1, nx1, ex1, os1, ps1, (some co1), (some cp1)⟩ Q1 R0 R1 i xn ck ca m0 qn0 qk0 qa0 L M k := by unfold S_m04; kernel_rfl
theorem V_m04_1000 : S_m04 E ⟨f0, g0, nx0, ex0, os0, ps0, (some co0), none⟩ ⟨f1, g1, nx1, ex1, os1, ps1, none, none⟩ Q1 R0 R1 i xn ck ca m0 qn0 qk0 qa0 L M k := by unfold S_m04; kernel_rfl
theorem V_m04_1001 : S_m04 E ⟨f0, g0, nx0, ex0, os0, ps0, (some co0), none⟩ ⟨f1, g1, nx1, ex1, os1, ps1, none, (some cp1)⟩ Q1 R0 R1 i xn ck ca m0 qn0 qk0 qa0 L M k := by unfold S_m04; kernel_rfl
theorem V_m04_1010 : S_m04 E ⟨f0, g0, nx0, ex0, os0, ps0, (some co0), (some cp0)⟩ ⟨f1, g1, nx1, ex1, os1, ps1, none, none⟩ Q1 R0 R1 i xn ck ca m0 qn0 qk0 qa0 L M k := by unfold S_m04; kernel_rfl
theorem V_m04_1011 : S_m04 E ⟨f0, g0, nx0, ex0, os0, ps0, (some co0), (some cp0)⟩ ⟨f1, g1, nx1, ex1, os1, ps1, none, (some cp1)⟩ Q1 R0 R1 i xn ck ca m0 qn0 qk0 qa0 L M k := by unfold S_m04; kernel_rfl
theorem V_m04_1100 : S_m04 E ⟨f0, g0, nx0, ex0, os0, ps0, (some co0), none⟩ ⟨f1, g1, nx1, ex1, os1, ps1, (some co1), none⟩ Q1 R0 R1 i xn ck ca m0 qn0 qk0 qa0 L M k := by unfold S_m04; kernel_rfl
theorem V_m04_1101 : S_m04 E ⟨f0, g0, nx0, ex0, os0, ps0, (some co0), none⟩ ⟨f1, g1, nx1, ex1, os1, ps1, (some co1), (some cp1)⟩ Q1 R0 R1 i xn ck ca m0 qn0 qk0 qa0 L M k := by unfold S_m04; kernel_rfl
theorem V_m04_1110 : S_m04 E ⟨f0, g0, nx0, ex0, os0, ps0, (some co0), (some cp0)⟩ ⟨f1, g1, nx1, ex1, os1, ps1, (some co1), none⟩ Q1 R0 R1 i xn ck ca m0 qn0 qk0 qa0 L M k := by unfold S_m04; kernel_rfl
theorem V_m04_1111 : S_m04 E ⟨f0, g0, nx0, ex0, os0, ps0, (some co0), (some cp0)⟩ ⟨f1, g1, nx1, ex1, os1, ps1, (some co1), (some cp1)⟩ Q1 R0 R1 i xn ck ca m0 qn0 qk0 qa0 L M k := by unfold S_m04; kernel_rfl
end
theorem t_m04 (E : Ag) (A : Sd) (B : Sd) (Q1 : Qt) (R0 : Rt) (R1 : Rt) (i xn ck ca : Int) (m0 : Nat) (qn0 qk0 qa0 : List Int) (L M : Nat) (k : SV → St → Prop) : S_m04 E A B Q1 R0 R1 i xn ck ca m0 qn0 qk0 qa0 L M k := match A, B with
  | ⟨_, _, _, _, _, _, none, none⟩, ⟨_, _, _, _, _, _, none, none⟩ => V_m04_0000
  | ⟨_, _, _, _, _, _, none, none⟩, ⟨_, _, _, _, _, _, none, some _⟩ => V_m04_0001
  | ⟨_, _, _, _, _, _, none, some _⟩, ⟨_, _, _, _, _, _, none, none⟩ => V_m04_0010
  | ⟨_, _, _, _, _, _, none, some _⟩, ⟨_, _, _, _, _, _, none, some _⟩ => V_m04_0011
  | ⟨_, _, _, _, _, _, none, none⟩, ⟨_, _, _, _, _, _, some _, none⟩ => V_m04_0100
  | ⟨_, _, _, _, _, _, none, none⟩, ⟨_, _, _, _, _, _, some _, some _⟩ => V_m04_0101
  | ⟨_, _, _, _, _, _, none, some _⟩, ⟨_, _, _, _, _, _, some _, none⟩ => V_m04_0110
  | ⟨_, _, _, _, _, _, none, some _⟩, ⟨_, _, _, _, _, _, some _, some _⟩ => V_m04_0111
  | ⟨_, _, _, _, _, _, some _, none⟩, ⟨_, _, _, _, _, _, none, none⟩ => V_m04_1000
  | ⟨_, _, _, _, _, _, some _, none⟩, ⟨_, _, _, _, _, _, none, some _⟩ => V_m04_1001
  | ⟨_, _, _, _, _, _, some _, some _⟩, ⟨_, _, _, _, _, _, none, none⟩ => V_m04_1010
  | ⟨_, _, _, _, _, _, some _, some _⟩, ⟨_, _, _, _, _, _, none, some _⟩ => V_m04_1011
  | ⟨_, _, _, _, _, _, some _, none⟩, ⟨_, _, _, _, _, _, some _, none⟩ => V_m04_1100
  | ⟨_, _, _, _, _, _, some _, none⟩, ⟨_, _, _, _, _, _, some _, some _⟩ => V_m04_1101
  | ⟨_, _, _, _, _, _, some _, some _⟩, ⟨_, _, _, _, _, _, some _, none⟩ => V_m04_1110
  | ⟨_, _, _, _, _, _, some _, some _⟩, ⟨_, _, _, _, _, _, some _, some _⟩ => V_m04_1111
noncomputable def S_m06 (E : Ag) (A : Sd) (B : Sd) (Q0 : Qt) (Q1 : Qt) (R1 : Rt) (i xn ck ca : Int) (w0 : Nat) (rn0 ra0 : List Int) (L M : Nat) (k : SV → St → Prop) : Prop := (caD E ⟨A, B, Q0, Q1, ⟨w0, rn0, ra0⟩, R1⟩ false 6 xn ck ca i L M k) =
    (Again (branch (decide ((((w0 : Nat) : Int) > (0)))) (need (Bool.not (decide ((((w0 : Nat) : Int) = (0))))) (need (decide (((0) ≤ (plc xn w0)))) (need (decide (((plc xn w0) < ((w0 : Nat) : Int)))) (need (decide (((0 + (Int.toNat (plc xn w0))) < w0))) (need (decide ((0 + w0) ≤ w0)) (need (decide (((0) ≤ (plc xn w0)))) (need (decide (((plc xn w0) ≤ (((w0 - 0) : Nat) : Int)))) (need (decide ((0 + ((Int.toNat (plc xn w0)) - 0)) ≤ w0)) (branch (decide ((0 + ((Int.toNat (plc xn w0)) - 0)) ≤ 0)) (need (decide (((Int.toNat (plc xn w0)) - 0) = 0)) (need (decide ((0 + w0) ≤ w0)) (need (decide (((0) ≤ (addK .i64 (plc xn w0) (1))))) (need (decide (((addK .i64 (plc xn w0) (1)) ≤ ((w0 : Nat) : Int)))) (need (decide (((Int.toNat (addK .i64 (plc xn w0) (1))) ≤ w0))) (need (decide ((((0 + (Int.toNat (addK .i64 (plc xn w0) (1)))) + (w0 - (Int.toNat (addK .i64 (plc xn w0) (1))))) ≤ w0))) (branch (decide (((0 + (w0 - (Int.toNat (addK .i64 (plc xn w0) (1))))) ≤ 0))) (need (decide (((w0 - (Int.toNat (addK .i64 (plc xn w0) (1)))) = 0))) (caG E ⟨A, B, Q0, Q1, ⟨0, [], []⟩, R1⟩ i L M k)) (need (decide ((((0 + (w0 - (Int.toNat (addK .i64 (plc xn w0) (1))))) * 8) ≤ 140737488355328))) (caG E ⟨A, B, Q0, Q1, ⟨(w0 - (Int.toNat (addK .i64 (plc xn w0) (1)))), (List.drop (0 + (Int.toNat (addK .i64 (plc xn w0) (1)))) rn0), (List.drop (0 + (Int.toNat (addK .i64 (plc xn w0) (1)))) ra0)⟩, R1⟩ i L M k))))))))) (need (decide (((0 + ((Int.toNat (plc xn w0)) - 0)) * 8) ≤ 140737488355328)) (need (decide ((0 + w0) ≤ w0)) (need (decide (((0) ≤ (addK .i64 (plc xn w0) (1))))) (need (decide (((addK .i64 (plc xn w0) (1)) ≤ ((w0 : Nat) : Int)))) (need (decide (((Int.toNat (addK .i64 (plc xn w0) (1))) ≤ w0))) (need (decide ((((0 + (Int.toNat (addK .i64 (plc xn w0) (1)))) + (w0 - (Int.toNat (addK .i64 (plc xn w0) (1))))) ≤ w0))) (need (decide ((((((Int.toNat (plc xn w0)) - 0) + (w0 - (Int.toNat (addK .i64 (plc xn w0) (1))))) * 8) ≤ 140737488355328))) (caG E ⟨A, B, Q0, Q1, ⟨(((Int.toNat (plc xn w0)) - 0) + (w0 - (Int.toNat (addK .i64 (plc xn w0) (1))))), ((fitL (0) ((Int.toNat (plc xn w0)) - 0) rn0) ++ (fitL (0) (w0 - (Int.toNat (addK .i64 (plc xn w0) (1)))) (List.drop (0 + (Int.toNat (addK .i64 (plc xn w0) (1)))) rn0))), ((fitL (0) ((Int.toNat (plc xn w0)) - 0) ra0) ++ (fitL (0) (w0 - (Int.toNat (addK .i64 (plc xn w0) (1)))) (List.drop (0 + (Int.toNat (addK .i64 (plc xn w0) (1)))) ra0)))⟩, R1⟩ i L M k))))))))))))))))) (caG E ⟨A, B, Q0, Q1, ⟨w0, rn0, ra0⟩, R1⟩ i L M k)))
section
variable {E : Ag} {Q0 : Qt} {Q1 : Qt} {R1 : Rt} {i xn ck ca : Int} {w0 : Nat} {rn0 ra0 : List Int} {L M : Nat} {k : SV → St → Prop} {f0 g0 nx0 ex0 : Int} {os0 ps0 : List Int} {f1 g1 nx1 ex1 : Int} {os1 ps1 : List Int} {co0 : Int × Int × Int} {co1 : Int × Int × Int} {cp0 : Int × Int} {cp1 : Int × Int}
theorem V_m06_0000 : S_m06 E ⟨f0, g0, nx0, ex0, os0, ps0, none, none⟩ ⟨f1, g1, nx1, ex1, os1, ps1, none, none⟩ Q0 Q1 R1 i xn ck ca w0 rn0 ra0 L M k := by unfold S_m06; kernel_rfl
theorem V_m06_0001 : S_m06 E ⟨f0, g0, nx0, ex0, os0, ps0, none, none⟩ ⟨f1, g1, nx1, ex1, os1, ps1, none, (some cp1)⟩ Q0 Q1 R1 i xn ck ca w0 rn0 ra0 L M k := by unfold S_m06; kernel_rfl
theorem V_m06_0010 : S_m06 E ⟨f0, g0, nx0, ex0, os0, ps0, none, (some cp0)⟩ ⟨f1, g1, nx1, ex1, os1, ps1, none, none⟩ Q0 Q1 R1 i xn ck ca w0 rn0 ra0 L M k := by unfold S_m06; kernel_rfl
theorem V_m06_0011 : S_m06 E ⟨f0, g0, nx0, ex0, os0, ps0, none, (some cp0)⟩ ⟨f1, g1, nx1, ex1, os1, ps1, none, (some cp1)⟩ Q0 Q1 R1 i xn ck ca w0 rn0 ra0 L M k := by unfold S_m06; kernel_rfl
theorem V_m06_0100 : S_m06 E ⟨f0, g0, nx0, ex0, os0, ps0, none, none⟩ ⟨f1, g1, nx1, ex1, os1, ps1, (some co1), none⟩ Q0 Q1 R1 i xn ck ca w0 rn0 ra0 L M k := by unfold S_m06; kernel_rfl
theorem V_m06_0101 : S_m06 E ⟨f0, g0, nx0, ex0, os0, ps0, none, none⟩ ⟨f1, g1, nx1, ex1, os1, ps1, (some co1), (some cp1)⟩ Q0 Q1 R1 i xn ck ca w0 rn0 ra0 L M k := by unfold S_m06; kernel_rfl
theorem V_m06_0110 : S_m06 E ⟨f0, g0, nx0, ex0, os0, ps0, none, (some cp0)⟩ ⟨f1, g1, nx1, ex1, os1, ps1, (some co1), none⟩ Q0 Q1 R1 i xn ck ca w0 rn0 ra0 L M k := by unfold S_m06; kernel_rfl
theorem V_m06_0111 : S_m06 E ⟨f0, g0, nx0, ex0, os0, ps0, none, (some cp0)⟩ ⟨f1, g1, nx1, ex1, os1, ps1, (some co1), (some cp1)⟩ Q0 Q1 R1 i xn ck ca w0 rn0 ra0 L M k := by unfold S_m06; kernel_rfl
theorem V_m06_1000 : S_m06 E ⟨f0, g0, nx0, ex0, os0, ps0, (some co0), none⟩ ⟨f1, g1, nx1, ex1, os1, ps1, none, none⟩ Q0 Q1 R1 i xn ck ca w0 rn0 ra0 L M k := by unfold S_m06; kernel_rfl
theorem V_m06_1001 : S_m06 E ⟨f0, g0, nx0, ex0, os0, ps0, (some co0), none⟩ ⟨f1, g1, nx1, ex1, os1, ps1, none, (some cp1)⟩ Q0 Q1 R1 i xn ck ca w0 rn0 ra0 L M k := by unfold S_m06; kernel_rfl
theorem V_m06_1010 : S_m06 E ⟨f0, g0, nx0, ex0, os0, ps0, (some co0), (some cp0)⟩ ⟨f1, g1, nx1, ex1, os1, ps1, none, none⟩ Q0 Q1 R1 i xn ck ca w0 rn0 ra0 L M k := by unfold S_m06; kernel_rfl
theorem V_m06_1011 : S_m06 E ⟨f0, g0, nx0, ex0, os0, ps0, (some co0), (some cp0)⟩ ⟨f1, g1, nx1, ex1, os1, ps1, none, (some cp1)⟩ Q0 Q1 R1 i xn ck ca w0 rn0 ra0 L M k := by unfold S_m06; kernel_rfl
theorem V_m06_1100 : S_m06 E ⟨f0, g0, nx0, ex0, os0, ps0, (some co0), none⟩ ⟨f1, g1, nx1, ex1, os1, ps1, (some co1), none⟩ Q0 Q1 R1 i xn ck ca w0 rn0 ra0 L M k := by unfold S_m06; kernel_rfl
theorem V_m06_1101 : S_m06 E ⟨f0, g0, nx0, ex0, os0, ps0, (some co0), none⟩ ⟨f1, g1, nx1, ex1, os1, ps1, (some co1), (some cp1)⟩ Q0 Q1 R1 i xn ck ca w0 rn0 ra0 L M k := by unfold S_m06; kernel_rfl
theorem V_m06_1110 : S_m06 E ⟨f0, g0, nx0, ex0, os0, ps0, (some co0), (some cp0)⟩ ⟨f1, g1, nx1, ex1, os1, ps1, (some co1), none⟩ Q0 Q1 R1 i xn ck ca w0 rn0 ra0 L M k := by unfold S_m06; kernel_rfl
theorem V_m06_1111 : S_m06 E ⟨f0, g0, nx0, ex0, os0, ps0, (some co0), (some cp0)⟩ ⟨f1, g1, nx1, ex1, os1, ps1, (some co1), (some cp1)⟩ Q0 Q1 R1 i xn ck ca w0 rn0 ra0 L M k := by unfold S_m06; kernel_rfl
end
theorem t_m06 (E : Ag) (A : Sd) (B : Sd) (Q0 : Qt) (Q1 : Qt) (R1 : Rt) (i xn ck ca : Int) (w0 : Nat) (rn0 ra0 : List Int) (L M : Nat) (k : SV → St → Prop) : S_m06 E A B Q0 Q1 R1 i xn ck ca w0 rn0 ra0 L M k := match A, B with
  | ⟨_, _, _, _, _, _, none, none⟩, ⟨_, _, _, _, _, _, none, none⟩ => V_m06_0000
  | ⟨_, _, _, _, _, _, none, none⟩, ⟨_, _, _, _, _, _, none, some _⟩ => V_m06_0001
  | ⟨_, _, _, _, _, _, none, some _⟩, ⟨_, _, _, _, _, _, none, none⟩ => V_m06_0010
  | ⟨_, _, _, _, _, _, none, some _⟩, ⟨_, _, _, _, _, _, none, some _⟩ => V_m06_0011
  | ⟨_, _, _, _, _, _, none, none⟩, ⟨_, _, _, _, _, _, some _, none⟩ => V_m06_0100
  | ⟨_, _, _, _, _, _, none, none⟩, ⟨_, _, _, _, _, _, some _, some _⟩ => V_m06_0101
  | ⟨_, _, _, _, _, _, none, some _⟩, ⟨_, _, _, _, _, _, some _, none⟩ => V_m06_0110
  | ⟨_, _, _, _, _, _, none, some _⟩, ⟨_, _, _, _, _, _, some _, some _⟩ => V_m06_0111
  | ⟨_, _, _, _, _, _, some _, none⟩, ⟨_, _, _, _, _, _, none, none⟩ => V_m06_1000
  | ⟨_, _, _, _, _, _, some _, none⟩, ⟨_, _, _, _, _, _, none, some _⟩ => V_m06_1001
  | ⟨_, _, _, _, _, _, some _, some _⟩, ⟨_, _, _, _, _, _, none, none⟩ => V_m06_1010
  | ⟨_, _, _, _, _, _, some _, some _⟩, ⟨_, _, _, _, _, _, none, some _⟩ => V_m06_1011
  | ⟨_, _, _, _, _, _, some _, none⟩, ⟨_, _, _, _, _, _, some _, none⟩ => V_m06_1100
  | ⟨_, _, _, _, _, _, some _, none⟩, ⟨_, _, _, _, _, _, some _, some _⟩ => V_m06_1101
  | ⟨_, _, _, _, _, _, some _, some _⟩, ⟨_, _, _, _, _, _, some _, none⟩ => V_m06_1110
  | ⟨_, _, _, _, _, _, some _, some _⟩, ⟨_, _, _, _, _, _, some _, some _⟩ => V_m06_1111
noncomputable def S_m07 (E : Ag) (A : Sd) (B : Sd) (Q0 : Qt) (Q1 : Qt) (R1 : Rt) (i xn ck ca : Int) (w0 : Nat) (rn0 ra0 : List Int) (L M : Nat) (k : SV → St → Prop) : Prop := (caD E ⟨A, B, Q0, Q1, ⟨w0, rn0, ra0⟩, R1⟩ false 7 xn ck ca i L M k) =
    (Again (branch (decide ((((w0 : Nat) : Int) > (0)))) (need (Bool.not (decide ((((w0 : Nat) : Int) = (0))))) (need (decide (((0) ≤ (plc xn w0)))) (need (decide (((plc xn w0) < ((w0 : Nat) : Int)))) (need (decide (((0 + (Int.toNat (plc xn w0))) < w0))) (need (decide (((w0 + 1) * 8) ≤ 140737488355328)) (caG E ⟨A, B, Q0, Q1, ⟨(w0 + 1), ((fitL (0) w0 rn0) ++ [(gtC rn0 xn w0)]), ((fitL (0) w0 ra0) ++ [(gtC ra0 xn w0)])⟩, R1⟩ i L M k)))))) (caG E ⟨A, B, Q0, Q1, ⟨w0, rn0, ra0⟩, R1⟩ i L M k)))
section
variable {E : Ag} {Q0 : Qt} {Q1 : Qt} {R1 : Rt} {i xn ck ca : Int} {w0 : Nat} {rn0 ra0 : List Int} {L M : Nat} {k : SV → St → Prop} {f0 g0 nx0 ex0 : Int} {os0 ps0 : List Int} {f1 g1 nx1 ex1 : Int} {os1 ps1 : List Int} {co0 : Int × Int × Int} {co1 : Int × Int × Int} {cp0 : Int × Int} {cp1 : Int × Int}
theorem V_m07_0000 : S_m07 E ⟨f0, g0, nx0, ex0, os0, ps0, none, none⟩ ⟨f1, g1, nx1, ex1, os1, ps1, none, none⟩ Q0 Q1 R1 i xn ck ca w0 rn0 ra0 L M k := by unfold S_m07; kernel_rfl
theorem V_m07_0001 : S_m07 E ⟨f0, g0, nx0, ex0, os0, ps0, none, none⟩ ⟨f1, g1, nx1, ex1, os1, ps1, none, (some cp1)⟩ Q0 Q1 R1 i xn ck ca w0 rn0 ra0 L M k := by unfold S_m07; kernel_rfl
theorem V_m07_0010 : S_m07 E ⟨f0, g0, nx0, ex0, os0, ps0, none, (some cp0)⟩ ⟨f1, g1, nx1, ex1, os1, ps1, none, none⟩ Q0 Q1 R1 i xn ck ca w0 rn0 ra0 L M k := by unfold S_m07; kernel_rfl
theorem V_m07_0011 : S_m07 E ⟨f0, g0, nx0, ex0, os0, ps0, none, (some cp0)⟩ ⟨f1, g1, nx1, ex1, os1, ps1, none, (some cp1)⟩ Q0 Q1 R1 i xn ck ca w0 rn0 ra0 L M k := by unfold S_m07; kernel_rfl
theorem V_m07_0100 : S_m07 E ⟨f0, g0, nx0, ex0, os0, ps0, none, none⟩ ⟨f1, g1, nx1, ex1, os1, ps1, (some co1), none⟩ Q0 Q1 R1 i xn ck ca w0 rn0 ra0 L M k := by unfold S_m07; kernel_rfl
theorem V_m07_0101 : S_m07 E ⟨f0, g0, nx0, ex0, os0, ps0, none, none⟩ ⟨f1, g1, nx1, ex1, os1, ps1, (some co1), (some cp1)⟩ Q0 Q1 R1 i xn ck ca w0 rn0 ra0 L M k := by unfold S_m07; kernel_rfl
theorem V_m07_0110 : S_m07 E ⟨f0, g0, nx0, ex0, os0, ps0, none, (some cp0)⟩ ⟨f1, g1, nx1, ex1, os1, ps1, (some co1), none⟩ Q0 Q1 R1 i xn ck ca w0 rn0 ra0 L M k := by unfold S_m07; kernel_rfl
theorem V_m07_0111 : S_m07 E ⟨f0, g0, nx0, ex0, os0, ps0, none, (some cp0)⟩ ⟨f1, g1, nx1, ex1, os1, ps1, (some co1), (some cp1)⟩ Q0 Q1 R1 i xn ck ca w0 rn0 ra0 L M k := by unfold S_m07; kernel_rfl
theorem V_m07_1000 : S_m07 E ⟨f0, g0, nx0, ex0, os0, ps0, (some co0), none⟩ ⟨f1, g1, nx1, ex1, os1, ps1, none, none⟩ Q0 Q1 R1 i xn ck ca w0 rn0 ra0 L M k := by unfold S_m07; kernel_rfl
theorem V_m07_1001 : S_m07 E ⟨f0, g0, nx0, ex0, os0, ps0, (some co0), none⟩ ⟨f1, g1, nx1, ex1, os1, ps1, none, (some cp1)⟩ Q0 Q1 R1 i xn ck ca w0 rn0 ra0 L M k := by unfold S_m07; kernel_rfl
theorem V_m07_1010 : S_m07 E ⟨f0, g0, nx0, ex0, os0, ps0, (some co0), (some cp0)⟩ ⟨f1, g1, nx1, ex1, os1, ps1, none, none⟩ Q0 Q1 R1 i xn ck ca w0 rn0 ra0 L M k := by unfold S_m07; kernel_rfl
theorem V_m07_1011 : S_m07 E ⟨f0, g0, nx0, ex0, os0, ps0, (some co0), (some cp0)⟩ ⟨f1, g1, nx1, ex1, os1, ps1, none, (some cp1)⟩ Q0 Q1 R1 i xn ck ca w0 rn0 ra0 L M k := by unfold S_m07; kernel_rfl
theorem V_m07_1100 : S_m07 E ⟨f0, g0, nx0, ex0, os0, ps0, (some co0), none⟩ ⟨f1, g1, nx1, ex1, os1, ps1, (some co1), none⟩ Q0 Q1 R1 i xn ck ca w0 rn0 ra0 L M k := by unfold S_m07; kernel_rfl
theorem V_m07_1101 : S_m07 E ⟨f0, g0, nx0, ex0, os0, ps0, (some co0), none⟩ ⟨f1, g1, nx1, ex1, os1, ps1, (some co1), (some cp1)⟩ Q0 Q1 R1 i xn ck ca w0 rn0 ra0 L M k := by unfold S_m07; kernel_rfl
theorem V_m07_1110 : S_m07 E ⟨f0, g0, nx0, ex0, os0, ps0, (some co0), (some cp0)⟩ ⟨f1, g1, nx1, ex1, os1, ps1, (some co1), none⟩ Q0 Q1 R1 i xn ck ca w0 rn0 ra0 L M k := by unfold S_m07; kernel_rfl
theorem V_m07_1111 : S_m07 E ⟨f0, g0, nx0, ex0, os0, ps0, (some co0), (some cp0)⟩ ⟨f1, g1, nx1, ex1, os1, ps1, (some co1), (some cp1)⟩ Q0 Q1 R1 i xn ck ca w0 rn0 ra0 L M k := by unfold S_m07; kernel_rfl
end
theorem t_m07 (E : Ag) (A : Sd) (B : Sd) (Q0 : Qt) (Q1 : Qt) (R1 : Rt) (i xn ck ca : Int) (w0 : Nat) (rn0 ra0 : List Int) (L M : Nat) (k : SV → St → Prop) : S_m07 E A B Q0 Q1 R1 i xn ck ca w0 rn0 ra0 L M k := match A, B with
  | ⟨_, _, _, _, _, _, none, none⟩, ⟨_, _, _, _, _, _, none, none⟩ => V_m07_0000
  | ⟨_, _, _, _, _, _, none, none⟩, ⟨_, _, _, _, _, _, none, some _⟩ => V_m07_0001
  | ⟨_, _, _, _, _, _, none, some _⟩, ⟨_, _, _, _, _, _, none, none⟩ => V_m07_0010
  | ⟨_, _, _, _, _, _, none, some _⟩, ⟨_, _, _, _, _, _, none, some _⟩ => V_m07_0011
  | ⟨_, _, _, _, _, _, none, none⟩, ⟨_, _, _, _, _, _, some _, none⟩ => V_m07_0100
  | ⟨_, _, _, _, _, _, none, none⟩, ⟨_, _, _, _, _, _, some _, some _⟩ => V_m07_0101
  | ⟨_, _, _, _, _, _, none, some _⟩, ⟨_, _, _, _, _, _, some _, none⟩ => V_m07_0110
  | ⟨_, _, _, _, _, _, none, some _⟩, ⟨_, _, _, _, _, _, some _, some _⟩ => V_m07_0111
  | ⟨_, _, _, _, _, _, some _, none⟩, ⟨_, _, _, _, _, _, none, none⟩ => V_m07_1000
  | ⟨_, _, _, _, _, _, some _, none⟩, ⟨_, _, _, _, _, _, none, some _⟩ => V_m07_1001
  | ⟨_, _, _, _, _, _, some _, some _⟩, ⟨_, _, _, _, _, _, none, none⟩ => V_m07_1010
  | ⟨_, _, _, _, _, _, some _, some _⟩, ⟨_, _, _, _, _, _, none, some _⟩ => V_m07_1011
  | ⟨_, _, _, _, _, _, some _, none⟩, ⟨_, _, _, _, _, _, some _, none⟩ => V_m07_1100
  | ⟨_, _, _, _, _, _, some _, none⟩, ⟨_, _, _, _, _, _, some _, some _⟩ => V_m07_1101
  | ⟨_, _, _, _, _, _, some _, some _⟩, ⟨_, _, _, _, _, _, some _, none⟩ => V_m07_1110
  | ⟨_, _, _, _, _, _, some _, some _⟩, ⟨_, _, _, _, _, _, some _, some _⟩ => V_m07_1111
noncomputable def S_m08 (E : Ag) (A : Sd) (B : Sd) (Q0 : Qt) (Q1 : Qt) (R0 : Rt) (R1 : Rt) (i xn ck ca : Int) (k8 : Nat) (L M : Nat) (k : SV → St → Prop) : Prop := (caD E ⟨A, B, Q0, Q1, R0, R1⟩ false (((k8 + 8) : Nat) : Int) xn ck ca i L M k) =
    (Again (caG E ⟨A, B, Q0, Q1, R0, R1⟩ i L M k))
section
variable {E : Ag} {Q0 : Qt} {Q1 : Qt} {R0 : Rt} {R1 : Rt} {i xn ck ca : Int} {k8 : Nat} {L M : Nat} {k : SV → St → Prop} {f0 g0 nx0 ex0 : Int} {os0 ps0 : List Int} {f1 g1 nx1 ex1 : Int} {os1 ps1 : List Int} {co0 : Int × Int × Int} {co1 : Int × Int × Int} {cp0 : Int × Int} {cp1 : Int × Int}
theorem V_m08_0000 : S_m08 E ⟨f0, g0, nx0, ex0, os0, ps0, none, none⟩ ⟨f1, g1, nx1, ex1, os1, ps1, none, none⟩ Q0 Q1 R0 R1 i xn ck ca k8 L M k := by unfold S_m08; kernel_rfl
theorem V_m08_0001 : S_m08 E ⟨f0, g0, nx0, ex0, os0, ps0, none, none⟩ ⟨f1, g1, nx1, ex1, os1, ps1, none, (some cp1)⟩ Q0 Q1 R0 R1 i xn ck ca k8 L M k := by unfold S_m08; kernel_rfl
theorem V_m08_0010 : S_m08 E ⟨f0, g0, nx0, ex0, os0, ps0, none, (some cp0)⟩ ⟨f1, g1, nx1, ex1, os1, ps1, none, none⟩ Q0 Q1 R0 R1 i xn ck ca k8 L M k := by unfold S_m08; kernel_rfl
theorem V_m08_0011 : S_m08 E ⟨f0, g0, nx0, ex0, os0, ps0, none, (some cp0)⟩ ⟨f1, g1, nx1, ex1, os1, ps1, none, (some cp1)⟩ Q0 Q1 R0 R1 i xn ck ca k8 L M k := by unfold S_m08; kernel_rfl
theorem V_m08_0100 : S_m08 E ⟨f0, g0, nx0, ex0, os0, ps0, none, none⟩ ⟨f1, g1, nx1, ex1, os1, ps1, (some co1), none⟩ Q0 Q1 R0 R1 i xn ck ca k8 L M k := by unfold S_m08; kernel_rfl
theorem V_m08_0101 : S_m08 E ⟨f0, g0, nx0, ex0, os0, ps0, none, none⟩ ⟨f1, g1, nx1, ex1, os1, ps1, (some co1), (some cp1)⟩ Q0 Q1 R0 R1 i xn ck ca k8 L M k := by unfold S_m08; kernel_rfl
theorem V_m08_0110 : S_m08 E ⟨f0, g0, nx0, ex0, os0, ps0, none, (some cp0)⟩ ⟨f1, g1, nx1, ex1, os1, ps1, (some co1), none⟩ Q0 Q1 R0 R1 i xn ck ca k8 L M k := by unfold S_m08; kernel_rfl
theorem V_m08_0111 : S_m08 E ⟨f0, g0, nx0, ex0, os0, ps0, none, (some cp0)⟩ ⟨f1, g1, nx1, ex1, os1, ps1, (some co1), (some cp1)⟩ Q0 Q1 R0 R1 i xn ck ca k8 L M k := by unfold S_m08; kernel_rfl
theorem V_m08_1000 : S_m08 E ⟨f0, g0, nx0, ex0, os0, ps0, (some co0), none⟩ ⟨f1, g1, nx1, ex1, os1, ps1, none, none⟩ Q0 Q1 R0 R1 i xn ck ca k8 L M k := by unfold S_m08; kernel_rfl
theorem V_m08_1001 : S_m08 E ⟨f0, g0, nx0, ex0, os0, ps0, (some co0), none⟩ ⟨f1, g1, nx1, ex1, os1, ps1, none, (some cp1)⟩ Q0 Q1 R0 R1 i xn ck ca k8 L M k := by unfold S_m08; kernel_rfl
theorem V_m08_1010 : S_m08 E ⟨f0, g0, nx0, ex0, os0, ps0, (some co0), (some cp0)⟩ ⟨f1, g1, nx1, ex1, os1, ps1, none, none⟩ Q0 Q1 R0 R1 i xn ck ca k8 L M k := by unfold S_m08; kernel_rfl
theorem V_m08_1011 : S_m08 E ⟨f0, g0, nx0, ex0, os0, ps0, (some co0), (some cp0)⟩ ⟨f1, g1, nx1, ex1, os1, ps1, none, (some cp1)⟩ Q0 Q1 R0 R1 i xn ck ca k8 L M k := by unfold S_m08; kernel_rfl
theorem V_m08_1100 : S_m08 E ⟨f0, g0, nx0, ex0, os0, ps0, (some co0), none⟩ ⟨f1, g1, nx1, ex1, os1, ps1, (some co1), none⟩ Q0 Q1 R0 R1 i xn ck ca k8 L M k := by unfold S_m08; kernel_rfl
theorem V_m08_1101 : S_m08 E ⟨f0, g0, nx0, ex0, os0, ps0, (some co0), none⟩ ⟨f1, g1, nx1, ex1, os1, ps1, (some co1), (some cp1)⟩ Q0 Q1 R0 R1 i xn ck ca k8 L M k := by unfold S_m08; kernel_rfl
theorem V_m08_1110 : S_m08 E ⟨f0, g0, nx0, ex0, os0, ps0, (some co0), (some cp0)⟩ ⟨f1, g1, nx1, ex1, os1, ps1, (some co1), none⟩ Q0 Q1 R0 R1 i xn ck ca k8 L M k := by unfold S_m08; kernel_rfl
theorem V_m08_1111 : S_m08 E ⟨f0, g0, nx0, ex0, os0, ps0, (some co0), (some cp0)⟩ ⟨f1, g1, nx1, ex1, os1, ps1, (some co1), (some cp1)⟩ Q0 Q1 R0 R1 i xn ck ca k8 L M k := by unfold S_m08; kernel_rfl
end
theorem t_m08 (E : Ag) (A : Sd) (B : Sd) (Q0 : Qt) (Q1 : Qt) (R0 : Rt) (R1 : Rt) (i xn ck ca : Int) (k8 : Nat) (L M : Nat) (k : SV → St → Prop) : S_m08 E A B Q0 Q1 R0 R1 i xn ck ca k8 L M k := match A, B with
  | ⟨_, _, _, _, _, _, none, none⟩, ⟨_, _, _, _, _, _, none, none⟩ => V_m08_0000
  | ⟨_, _, _, _, _, _, none, none⟩, ⟨_, _, _, _, _, _, none, some _⟩ => V_m08_0001
  | ⟨_, _, _, _, _, _, none, some _⟩, ⟨_, _, _, _, _, _, none, none⟩ => V_m08_0010
  | ⟨_, _, _, _, _, _, none, some _⟩, ⟨_, _, _, _, _, _, none, some _⟩ => V_m08_0011
  | ⟨_, _, _, _, _, _, none, none⟩, ⟨_, _, _, _, _, _, some _, none⟩ => V_m08_0100
  | ⟨_, _, _, _, _, _, none, none⟩, ⟨_, _, _, _, _, _, some _, some _⟩ => V_m08_0101
  | ⟨_, _, _, _, _, _, none, some _⟩, ⟨_, _, _, _, _, _, some _, none⟩ => V_m08_0110
  | ⟨_, _, _, _, _, _, none, some _⟩, ⟨_, _, _, _, _, _, some _, some _⟩ => V_m08_0111
  | ⟨_, _, _, _, _, _, some _, none⟩, ⟨_, _, _, _, _, _, none, none⟩ => V_m08_1000
  | ⟨_, _, _, _, _, _, some _, none⟩, ⟨_, _, _, _, _, _, none, some _⟩ => V_m08_1001
  | ⟨_, _, _, _, _, _, some _, some _⟩, ⟨_, _, _, _, _, _, none, none⟩ => V_m08_1010
  | ⟨_, _, _, _, _, _, some _, some _⟩, ⟨_, _, _, _, _, _, none, some _⟩ => V_m08_1011
  | ⟨_, _, _, _, _, _, some _, none⟩, ⟨_, _, _, _, _, _, some _, none⟩ => V_m08_1100
  | ⟨_, _, _, _, _, _, some _, none⟩, ⟨_, _, _, _, _, _, some _, some _⟩ => V_m08_1101
  | ⟨_, _, _, _, _, _, some _, some _⟩, ⟨_, _, _, _, _, _, some _, none⟩ => V_m08_1110
  | ⟨_, _, _, _, _, _, some _, some _⟩, ⟨_, _, _, _, _, _, some _, some _⟩ => V_m08_1111
end Go.Ev
