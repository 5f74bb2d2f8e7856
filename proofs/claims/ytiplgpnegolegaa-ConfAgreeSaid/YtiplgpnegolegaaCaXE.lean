/- What a round of ConfAgree comes to, by the kind of the move and by what is out or kept: printed, checked by the kernel. No conditions. -/
import Derived.Test.YtiplgpnegolegaaCaF
import Derived.Test.YtiplgpnegolegaaEvD
set_option linter.unusedVariables false
set_option maxHeartbeats 0
namespace Go.Ev
open Go Go.Proofs Go.Spec
noncomputable def S_z (E : Ag) (A : Sd) (B : Sd) (Q0 : Qt) (Q1 : Qt) (R0 : Rt) (R1 : Rt) (M : Nat) (k : SV → St → Prop) : Prop := (caZ E ⟨A, B, Q0, Q1, R0, R1⟩ M k) =
    (Again (caE E ⟨A, B, Q0, Q1, R0, R1⟩ (0) (M + 70) M k))
section
variable {E : Ag} {Q0 : Qt} {Q1 : Qt} {R0 : Rt} {R1 : Rt} {M : Nat} {k : SV → St → Prop} {f0 g0 nx0 ex0 : Int} {os0 ps0 : List Int} {f1 g1 nx1 ex1 : Int} {os1 ps1 : List Int} {co0 : Int × Int × Int} {co1 : Int × Int × Int} {cp0 : Int × Int} {cp1 : Int × Int}
theorem V_z_0000 : S_z E ⟨f0, g0, nx0, ex0, os0, ps0, none, none⟩ ⟨f1, g1, nx1, ex1, os1, ps1, none, none⟩ Q0 Q1 R0 R1 M k := by unfold S_z; kernel_rfl
theorem V_z_0001 : S_z E ⟨f0, g0, nx0, ex0, os0, ps0, none, none⟩ ⟨f1, g1, nx1, ex1, os1, ps1, none, (some cp1)⟩ Q0 Q1 R0 R1 M k := by unfold S_z; kernel_rfl
theorem V_z_0010 : S_z E ⟨f0, g0, nx0, ex0, os0, ps0, none, (some cp0)⟩ ⟨f1, g1, nx1, ex1, os1, ps1, none, none⟩ Q0 Q1 R0 R1 M k := by unfold S_z; kernel_rfl
theorem V_z_0011 : S_z E ⟨f0, g0, nx0, ex0, os0, ps0, none, (some cp0)⟩ ⟨f1, g1, nx1, ex1, os1, ps1, none, (some cp1)⟩ Q0 Q1 R0 R1 M k := by unfold S_z; kernel_rfl
theorem V_z_0100 : S_z E ⟨f0, g0, nx0, ex0, os0, ps0, none, none⟩ ⟨f1, g1, nx1, ex1, os1, ps1, (some co1), none⟩ Q0 Q1 R0 R1 M k := by unfold S_z; kernel_rfl
theorem V_z_0101 : S_z E ⟨f0, g0, nx0, ex0, os0, ps0, none, none⟩ ⟨f1, g1, nx1, ex1, os1, ps1, (some co1), (some cp1)⟩ Q0 Q1 R0 R1 M k := by unfold S_z; kernel_rfl
theorem V_z_0110 : S_z E ⟨f0, g0, nx0, ex0, os0, ps0, none, (some cp0)⟩ ⟨f1, g1, nx1, ex1, os1, ps1, (some co1), none⟩ Q0 Q1 R0 R1 M k := by unfold S_z; kernel_rfl
theorem V_z_0111 : S_z E ⟨f0, g0, nx0, ex0, os0, ps0, none, (some cp0)⟩ ⟨f1, g1, nx1, ex1, os1, ps1, (some co1), (some cp1)⟩ Q0 Q1 R0 R1 M k := by unfold S_z; kernel_rfl
theorem V_z_1000 : S_z E ⟨f0, g0, nx0, ex0, os0, ps0, (some co0), none⟩ ⟨f1, g1, nx1, ex1, os1, ps1, none, none⟩ Q0 Q1 R0 R1 M k := by unfold S_z; kernel_rfl
theorem V_z_1001 : S_z E ⟨f0, g0, nx0, ex0, os0, ps0, (some co0), none⟩ ⟨f1, g1, nx1, ex1, os1, ps1, none, (some cp1)⟩ Q0 Q1 R0 R1 M k := by unfold S_z; kernel_rfl
theorem V_z_1010 : S_z E ⟨f0, g0, nx0, ex0, os0, ps0, (some co0), (some cp0)⟩ ⟨f1, g1, nx1, ex1, os1, ps1, none, none⟩ Q0 Q1 R0 R1 M k := by unfold S_z; kernel_rfl
theorem V_z_1011 : S_z E ⟨f0, g0, nx0, ex0, os0, ps0, (some co0), (some cp0)⟩ ⟨f1, g1, nx1, ex1, os1, ps1, none, (some cp1)⟩ Q0 Q1 R0 R1 M k := by unfold S_z; kernel_rfl
theorem V_z_1100 : S_z E ⟨f0, g0, nx0, ex0, os0, ps0, (some co0), none⟩ ⟨f1, g1, nx1, ex1, os1, ps1, (some co1), none⟩ Q0 Q1 R0 R1 M k := by unfold S_z; kernel_rfl
theorem V_z_1101 : S_z E ⟨f0, g0, nx0, ex0, os0, ps0, (some co0), none⟩ ⟨f1, g1, nx1, ex1, os1, ps1, (some co1), (some cp1)⟩ Q0 Q1 R0 R1 M k := by unfold S_z; kernel_rfl
theorem V_z_1110 : S_z E ⟨f0, g0, nx0, ex0, os0, ps0, (some co0), (some cp0)⟩ ⟨f1, g1, nx1, ex1, os1, ps1, (some co1), none⟩ Q0 Q1 R0 R1 M k := by unfold S_z; kernel_rfl
theorem V_z_1111 : S_z E ⟨f0, g0, nx0, ex0, os0, ps0, (some co0), (some cp0)⟩ ⟨f1, g1, nx1, ex1, os1, ps1, (some co1), (some cp1)⟩ Q0 Q1 R0 R1 M k := by unfold S_z; kernel_rfl
end
theorem t_z (E : Ag) (A : Sd) (B : Sd) (Q0 : Qt) (Q1 : Qt) (R0 : Rt) (R1 : Rt) (M : Nat) (k : SV → St → Prop) : S_z E A B Q0 Q1 R0 R1 M k := match A, B with
  | ⟨_, _, _, _, _, _, none, none⟩, ⟨_, _, _, _, _, _, none, none⟩ => V_z_0000
  | ⟨_, _, _, _, _, _, none, none⟩, ⟨_, _, _, _, _, _, none, some _⟩ => V_z_0001
  | ⟨_, _, _, _, _, _, none, some _⟩, ⟨_, _, _, _, _, _, none, none⟩ => V_z_0010
  | ⟨_, _, _, _, _, _, none, some _⟩, ⟨_, _, _, _, _, _, none, some _⟩ => V_z_0011
  | ⟨_, _, _, _, _, _, none, none⟩, ⟨_, _, _, _, _, _, some _, none⟩ => V_z_0100
  | ⟨_, _, _, _, _, _, none, none⟩, ⟨_, _, _, _, _, _, some _, some _⟩ => V_z_0101
  | ⟨_, _, _, _, _, _, none, some _⟩, ⟨_, _, _, _, _, _, some _, none⟩ => V_z_0110
  | ⟨_, _, _, _, _, _, none, some _⟩, ⟨_, _, _, _, _, _, some _, some _⟩ => V_z_0111
  | ⟨_, _, _, _, _, _, some _, none⟩, ⟨_, _, _, _, _, _, none, none⟩ => V_z_1000
  | ⟨_, _, _, _, _, _, some _, none⟩, ⟨_, _, _, _, _, _, none, some _⟩ => V_z_1001
  | ⟨_, _, _, _, _, _, some _, some _⟩, ⟨_, _, _, _, _, _, none, none⟩ => V_z_1010
  | ⟨_, _, _, _, _, _, some _, some _⟩, ⟨_, _, _, _, _, _, none, some _⟩ => V_z_1011
  | ⟨_, _, _, _, _, _, some _, none⟩, ⟨_, _, _, _, _, _, some _, none⟩ => V_z_1100
  | ⟨_, _, _, _, _, _, some _, none⟩, ⟨_, _, _, _, _, _, some _, some _⟩ => V_z_1101
  | ⟨_, _, _, _, _, _, some _, some _⟩, ⟨_, _, _, _, _, _, some _, none⟩ => V_z_1110
  | ⟨_, _, _, _, _, _, some _, some _⟩, ⟨_, _, _, _, _, _, some _, some _⟩ => V_z_1111
end Go.Ev
set_option linter.unusedVariables false
set_option maxHeartbeats 0
namespace Go.Ev
open Go Go.Proofs Go.Spec
noncomputable def S_e000 (E : Ag) (Q0 : Qt) (Q1 : Qt) (R0 : Rt) (R1 : Rt) (o1 : Option (Int × Int × Int)) (p0 : Option (Int × Int)) (f0 g0 nx0 ex0 f1 g1 nx1 ex1 : Int) (os0 ps0 os1 ps1 : List Int) (M : Nat) (k : SV → St → Prop) : Prop := (caE E ⟨⟨f0, g0, nx0, ex0, os0, ps0, none, p0⟩, ⟨f1, g1, nx1, ex1, os1, ps1, o1, none⟩, Q0, Q1, R0, R1⟩ (0) (M + 70) M k) =
    (Again (need (decide (((0 + (List.length os0)) ≤ (List.length os0)))) (need (decide ((List.length (List.take (List.length os0) os0)) ≤ 35184372088832)) (need (decide (((0 + (List.length ps1)) ≤ (List.length ps1)))) (need (decide ((List.length (List.take (List.length ps1) ps1)) ≤ 35184372088832)) (need (decide (((0 + (List.length (List.take (List.length os0) os0))) ≤ (List.length (List.take (List.length os0) os0))))) (need (decide (((0 + (List.length (List.take (List.length ps1) ps1))) ≤ (List.length (List.take (List.length ps1) ps1))))) (need (decide ((((List.length (List.take (List.length (List.take (List.length os0) os0)) (List.take (List.length os0) os0))) ≤ 1000000) ∧ ((List.length (List.take (List.length (List.take (List.length ps1) ps1)) (List.take (List.length ps1) ps1))) ≤ 1000000)))) (branch (Bool.not (sameB f0 g1 (List.take (List.length (List.take (List.length os0) os0)) (List.take (List.length os0) os0)) (List.take (List.length (List.take (List.length ps1) ps1)) (List.take (List.length ps1) ps1)))) (k (.sa (.one (bv false))) (kS E)) (caE E ⟨⟨f0, g0, nx0, ex0, os0, ps0, none, p0⟩, ⟨f1, g1, nx1, ex1, os1, ps1, o1, none⟩, Q0, ⟨0, [], [], []⟩, ⟨0, [], []⟩, R1⟩ (1) (M + 69) M k))))))))))
section
variable {E : Ag} {Q0 : Qt} {Q1 : Qt} {R0 : Rt} {R1 : Rt} {f0 g0 nx0 ex0 f1 g1 nx1 ex1 : Int} {os0 ps0 os1 ps1 : List Int} {M : Nat} {k : SV → St → Prop} {co1 : Int × Int × Int} {cp0 : Int × Int}
theorem V_e000_00 : S_e000 E Q0 Q1 R0 R1 none none f0 g0 nx0 ex0 f1 g1 nx1 ex1 os0 ps0 os1 ps1 M k := by unfold S_e000; kernel_rfl
theorem V_e000_01 : S_e000 E Q0 Q1 R0 R1 none (some cp0) f0 g0 nx0 ex0 f1 g1 nx1 ex1 os0 ps0 os1 ps1 M k := by unfold S_e000; kernel_rfl
theorem V_e000_10 : S_e000 E Q0 Q1 R0 R1 (some co1) none f0 g0 nx0 ex0 f1 g1 nx1 ex1 os0 ps0 os1 ps1 M k := by unfold S_e000; kernel_rfl
theorem V_e000_11 : S_e000 E Q0 Q1 R0 R1 (some co1) (some cp0) f0 g0 nx0 ex0 f1 g1 nx1 ex1 os0 ps0 os1 ps1 M k := by unfold S_e000; kernel_rfl
end
theorem t_e000 (E : Ag) (Q0 : Qt) (Q1 : Qt) (R0 : Rt) (R1 : Rt) (o1 : Option (Int × Int × Int)) (p0 : Option (Int × Int)) (f0 g0 nx0 ex0 f1 g1 nx1 ex1 : Int) (os0 ps0 os1 ps1 : List Int) (M : Nat) (k : SV → St → Prop) : S_e000 E Q0 Q1 R0 R1 o1 p0 f0 g0 nx0 ex0 f1 g1 nx1 ex1 os0 ps0 os1 ps1 M k := match o1, p0 with
  | none, none => V_e000_00
  | none, some _ => V_e000_01
  | some _, none => V_e000_10
  | some _, some _ => V_e000_11
end Go.Ev
set_option linter.unusedVariables false
set_option maxHeartbeats 0
namespace Go.Ev
open Go Go.Proofs Go.Spec
noncomputable def S_e001 (E : Ag) (Q0 : Qt) (Q1 : Qt) (R0 : Rt) (R1 : Rt) (o1 : Option (Int × Int × Int)) (p0 : Option (Int × Int)) (f0 g0 nx0 ex0 f1 g1 nx1 ex1 kn1 ka1 : Int) (os0 ps0 os1 ps1 : List Int) (M : Nat) (k : SV → St → Prop) : Prop := (caE E ⟨⟨f0, g0, nx0, ex0, os0, ps0, none, p0⟩, ⟨f1, g1, nx1, ex1, os1, ps1, o1, (some (kn1, ka1))⟩, Q0, Q1, R0, R1⟩ (0) (M + 70) M k) =
    (Again (need (decide (((0 + (List.length os0)) ≤ (List.length os0)))) (need (decide ((List.length (List.take (List.length os0) os0)) ≤ 35184372088832)) (need (decide (((0 + (List.length ps1)) ≤ (List.length ps1)))) (need (decide ((List.length (List.take (List.length ps1) ps1)) ≤ 35184372088832)) (need (decide (((0 + (List.length (List.take (List.length os0) os0))) ≤ (List.length (List.take (List.length os0) os0))))) (need (decide (((0 + (List.length (List.take (List.length ps1) ps1))) ≤ (List.length (List.take (List.length ps1) ps1))))) (need (decide ((((List.length (List.take (List.length (List.take (List.length os0) os0)) (List.take (List.length os0) os0))) ≤ 1000000) ∧ ((List.length (List.take (List.length (List.take (List.length ps1) ps1)) (List.take (List.length ps1) ps1))) ≤ 1000000)))) (branch (Bool.not (sameB f0 g1 (List.take (List.length (List.take (List.length os0) os0)) (List.take (List.length os0) os0)) (List.take (List.length (List.take (List.length ps1) ps1)) (List.take (List.length ps1) ps1)))) (k (.sa (.one (bv false))) (kS E)) (caE E ⟨⟨f0, g0, nx0, ex0, os0, ps0, none, p0⟩, ⟨f1, g1, nx1, ex1, os1, ps1, o1, (some (kn1, ka1))⟩, Q0, ⟨0, [], [], []⟩, ⟨0, [], []⟩, R1⟩ (1) (M + 69) M k))))))))))
section
variable {E : Ag} {Q0 : Qt} {Q1 : Qt} {R0 : Rt} {R1 : Rt} {f0 g0 nx0 ex0 f1 g1 nx1 ex1 kn1 ka1 : Int} {os0 ps0 os1 ps1 : List Int} {M : Nat} {k : SV → St → Prop} {co1 : Int × Int × Int} {cp0 : Int × Int}
theorem V_e001_00 : S_e001 E Q0 Q1 R0 R1 none none f0 g0 nx0 ex0 f1 g1 nx1 ex1 kn1 ka1 os0 ps0 os1 ps1 M k := by unfold S_e001; kernel_rfl
theorem V_e001_01 : S_e001 E Q0 Q1 R0 R1 none (some cp0) f0 g0 nx0 ex0 f1 g1 nx1 ex1 kn1 ka1 os0 ps0 os1 ps1 M k := by unfold S_e001; kernel_rfl
theorem V_e001_10 : S_e001 E Q0 Q1 R0 R1 (some co1) none f0 g0 nx0 ex0 f1 g1 nx1 ex1 kn1 ka1 os0 ps0 os1 ps1 M k := by unfold S_e001; kernel_rfl
theorem V_e001_11 : S_e001 E Q0 Q1 R0 R1 (some co1) (some cp0) f0 g0 nx0 ex0 f1 g1 nx1 ex1 kn1 ka1 os0 ps0 os1 ps1 M k := by unfold S_e001; kernel_rfl
end
theorem t_e001 (E : Ag) (Q0 : Qt) (Q1 : Qt) (R0 : Rt) (R1 : Rt) (o1 : Option (Int × Int × Int)) (p0 : Option (Int × Int)) (f0 g0 nx0 ex0 f1 g1 nx1 ex1 kn1 ka1 : Int) (os0 ps0 os1 ps1 : List Int) (M : Nat) (k : SV → St → Prop) : S_e001 E Q0 Q1 R0 R1 o1 p0 f0 g0 nx0 ex0 f1 g1 nx1 ex1 kn1 ka1 os0 ps0 os1 ps1 M k := match o1, p0 with
  | none, none => V_e001_00
  | none, some _ => V_e001_01
  | some _, none => V_e001_10
  | some _, some _ => V_e001_11
end Go.Ev
set_option linter.unusedVariables false
set_option maxHeartbeats 0
namespace Go.Ev
open Go Go.Proofs Go.Spec
noncomputable def S_e100 (E : Ag) (Q0 : Qt) (Q1 : Qt) (R0 : Rt) (R1 : Rt) (o0 : Option (Int × Int × Int)) (p1 : Option (Int × Int)) (f0 g0 nx0 ex0 f1 g1 nx1 ex1 : Int) (os0 ps0 os1 ps1 : List Int) (M : Nat) (k : SV → St → Prop) : Prop := (caE E ⟨⟨f0, g0, nx0, ex0, os0, ps0, o0, none⟩, ⟨f1, g1, nx1, ex1, os1, ps1, none, p1⟩, Q0, Q1, R0, R1⟩ (1) (M + 69) M k) =
    (Again (need (decide (((0 + (List.length os1)) ≤ (List.length os1)))) (need (decide ((List.length (List.take (List.length os1) os1)) ≤ 35184372088832)) (need (decide (((0 + (List.length ps0)) ≤ (List.length ps0)))) (need (decide ((List.length (List.take (List.length ps0) ps0)) ≤ 35184372088832)) (need (decide (((0 + (List.length (List.take (List.length os1) os1))) ≤ (List.length (List.take (List.length os1) os1))))) (need (decide (((0 + (List.length (List.take (List.length ps0) ps0))) ≤ (List.length (List.take (List.length ps0) ps0))))) (need (decide ((((List.length (List.take (List.length (List.take (List.length os1) os1)) (List.take (List.length os1) os1))) ≤ 1000000) ∧ ((List.length (List.take (List.length (List.take (List.length ps0) ps0)) (List.take (List.length ps0) ps0))) ≤ 1000000)))) (branch (Bool.not (sameB f1 g0 (List.take (List.length (List.take (List.length os1) os1)) (List.take (List.length os1) os1)) (List.take (List.length (List.take (List.length ps0) ps0)) (List.take (List.length ps0) ps0)))) (k (.sa (.one (bv false))) (kS E)) (caE E ⟨⟨f0, g0, nx0, ex0, os0, ps0, o0, none⟩, ⟨f1, g1, nx1, ex1, os1, ps1, none, p1⟩, ⟨0, [], [], []⟩, Q1, R0, ⟨0, [], []⟩⟩ (2) (M + 68) M k))))))))))
section
variable {E : Ag} {Q0 : Qt} {Q1 : Qt} {R0 : Rt} {R1 : Rt} {f0 g0 nx0 ex0 f1 g1 nx1 ex1 : Int} {os0 ps0 os1 ps1 : List Int} {M : Nat} {k : SV → St → Prop} {co0 : Int × Int × Int} {cp1 : Int × Int}
theorem V_e100_00 : S_e100 E Q0 Q1 R0 R1 none none f0 g0 nx0 ex0 f1 g1 nx1 ex1 os0 ps0 os1 ps1 M k := by unfold S_e100; kernel_rfl
theorem V_e100_01 : S_e100 E Q0 Q1 R0 R1 none (some cp1) f0 g0 nx0 ex0 f1 g1 nx1 ex1 os0 ps0 os1 ps1 M k := by unfold S_e100; kernel_rfl
theorem V_e100_10 : S_e100 E Q0 Q1 R0 R1 (some co0) none f0 g0 nx0 ex0 f1 g1 nx1 ex1 os0 ps0 os1 ps1 M k := by unfold S_e100; kernel_rfl
theorem V_e100_11 : S_e100 E Q0 Q1 R0 R1 (some co0) (some cp1) f0 g0 nx0 ex0 f1 g1 nx1 ex1 os0 ps0 os1 ps1 M k := by unfold S_e100; kernel_rfl
end
theorem t_e100 (E : Ag) (Q0 : Qt) (Q1 : Qt) (R0 : Rt) (R1 : Rt) (o0 : Option (Int × Int × Int)) (p1 : Option (Int × Int)) (f0 g0 nx0 ex0 f1 g1 nx1 ex1 : Int) (os0 ps0 os1 ps1 : List Int) (M : Nat) (k : SV → St → Prop) : S_e100 E Q0 Q1 R0 R1 o0 p1 f0 g0 nx0 ex0 f1 g1 nx1 ex1 os0 ps0 os1 ps1 M k := match o0, p1 with
  | none, none => V_e100_00
  | none, some _ => V_e100_01
  | some _, none => V_e100_10
  | some _, some _ => V_e100_11
end Go.Ev
set_option linter.unusedVariables false
set_option maxHeartbeats 0
namespace Go.Ev
open Go Go.Proofs Go.Spec
noncomputable def S_e101 (E : Ag) (Q0 : Qt) (Q1 : Qt) (R0 : Rt) (R1 : Rt) (o0 : Option (Int × Int × Int)) (p1 : Option (Int × Int)) (f0 g0 nx0 ex0 kn0 ka0 f1 g1 nx1 ex1 : Int) (os0 ps0 os1 ps1 : List Int) (M : Nat) (k : SV → St → Prop) : Prop := (caE E ⟨⟨f0, g0, nx0, ex0, os0, ps0, o0, (some (kn0, ka0))⟩, ⟨f1, g1, nx1, ex1, os1, ps1, none, p1⟩, Q0, Q1, R0, R1⟩ (1) (M + 69) M k) =
    (Again (need (decide (((0 + (List.length os1)) ≤ (List.length os1)))) (need (decide ((List.length (List.take (List.length os1) os1)) ≤ 35184372088832)) (need (decide (((0 + (List.length ps0)) ≤ (List.length ps0)))) (need (decide ((List.length (List.take (List.length ps0) ps0)) ≤ 35184372088832)) (need (decide (((0 + (List.length (List.take (List.length os1) os1))) ≤ (List.length (List.take (List.length os1) os1))))) (need (decide (((0 + (List.length (List.take (List.length ps0) ps0))) ≤ (List.length (List.take (List.length ps0) ps0))))) (need (decide ((((List.length (List.take (List.length (List.take (List.length os1) os1)) (List.take (List.length os1) os1))) ≤ 1000000) ∧ ((List.length (List.take (List.length (List.take (List.length ps0) ps0)) (List.take (List.length ps0) ps0))) ≤ 1000000)))) (branch (Bool.not (sameB f1 g0 (List.take (List.length (List.take (List.length os1) os1)) (List.take (List.length os1) os1)) (List.take (List.length (List.take (List.length ps0) ps0)) (List.take (List.length ps0) ps0)))) (k (.sa (.one (bv false))) (kS E)) (caE E ⟨⟨f0, g0, nx0, ex0, os0, ps0, o0, (some (kn0, ka0))⟩, ⟨f1, g1, nx1, ex1, os1, ps1, none, p1⟩, ⟨0, [], [], []⟩, Q1, R0, ⟨0, [], []⟩⟩ (2) (M + 68) M k))))))))))
section
variable {E : Ag} {Q0 : Qt} {Q1 : Qt} {R0 : Rt} {R1 : Rt} {f0 g0 nx0 ex0 kn0 ka0 f1 g1 nx1 ex1 : Int} {os0 ps0 os1 ps1 : List Int} {M : Nat} {k : SV → St → Prop} {co0 : Int × Int × Int} {cp1 : Int × Int}
theorem V_e101_00 : S_e101 E Q0 Q1 R0 R1 none none f0 g0 nx0 ex0 kn0 ka0 f1 g1 nx1 ex1 os0 ps0 os1 ps1 M k := by unfold S_e101; kernel_rfl
theorem V_e101_01 : S_e101 E Q0 Q1 R0 R1 none (some cp1) f0 g0 nx0 ex0 kn0 ka0 f1 g1 nx1 ex1 os0 ps0 os1 ps1 M k := by unfold S_e101; kernel_rfl
theorem V_e101_10 : S_e101 E Q0 Q1 R0 R1 (some co0) none f0 g0 nx0 ex0 kn0 ka0 f1 g1 nx1 ex1 os0 ps0 os1 ps1 M k := by unfold S_e101; kernel_rfl
theorem V_e101_11 : S_e101 E Q0 Q1 R0 R1 (some co0) (some cp1) f0 g0 nx0 ex0 kn0 ka0 f1 g1 nx1 ex1 os0 ps0 os1 ps1 M k := by unfold S_e101; kernel_rfl
end
theorem t_e101 (E : Ag) (Q0 : Qt) (Q1 : Qt) (R0 : Rt) (R1 : Rt) (o0 : Option (Int × Int × Int)) (p1 : Option (Int × Int)) (f0 g0 nx0 ex0 kn0 ka0 f1 g1 nx1 ex1 : Int) (os0 ps0 os1 ps1 : List Int) (M : Nat) (k : SV → St → Prop) : S_e101 E Q0 Q1 R0 R1 o0 p1 f0 g0 nx0 ex0 kn0 ka0 f1 g1 nx1 ex1 os0 ps0 os1 ps1 M k := match o0, p1 with
  | none, none => V_e101_00
  | none, some _ => V_e101_01
  | some _, none => V_e101_10
  | some _, some _ => V_e101_11
end Go.Ev
set_option linter.unusedVariables false
set_option maxHeartbeats 0
namespace Go.Ev
open Go Go.Proofs Go.Spec
noncomputable def S_e200 (E : Ag) (Q0 : Qt) (Q1 : Qt) (R0 : Rt) (R1 : Rt) (p0 : Option (Int × Int)) (p1 : Option (Int × Int)) (f0 g0 nx0 ex0 f1 g1 nx1 ex1 : Int) (os0 ps0 os1 ps1 : List Int) (M : Nat) (k : SV → St → Prop) : Prop := (caE E ⟨⟨f0, g0, nx0, ex0, os0, ps0, none, p0⟩, ⟨f1, g1, nx1, ex1, os1, ps1, none, p1⟩, Q0, Q1, R0, R1⟩ (2) (M + 68) M k) =
    (Again (need (decide (((0 + (List.length os0)) ≤ (List.length os0)))) (need (decide ((List.length (List.take (List.length os0) os0)) ≤ 35184372088832)) (need (decide (((0 + (List.length ps1)) ≤ (List.length ps1)))) (need (decide ((List.length (List.take (List.length ps1) ps1)) ≤ 35184372088832)) (need (decide (((0 + (List.length (List.take (List.length os0) os0))) ≤ (List.length (List.take (List.length os0) os0))))) (need (decide (((List.length (List.take (List.length (List.take (List.length os0) os0)) (List.take (List.length os0) os0))) ≤ 1000000))) (branch (Bool.not (mayR f0 (List.take (List.length (List.take (List.length os0) os0)) (List.take (List.length os0) os0)))) (k (.sa (.one (bv false))) (kS E)) (need (decide (((0 + (List.length (List.take (List.length ps1) ps1))) ≤ (List.length (List.take (List.length ps1) ps1))))) (need (decide (((List.length (List.take (List.length (List.take (List.length ps1) ps1)) (List.take (List.length ps1) ps1))) ≤ 1000000))) (branch (Bool.not (mayR g1 (List.take (List.length (List.take (List.length ps1) ps1)) (List.take (List.length ps1) ps1)))) (k (.sa (.one (bv false))) (kS E)) (need (decide (((0 + (List.length (List.take (List.length os0) os0))) ≤ (List.length (List.take (List.length os0) os0))))) (need (okDo (List.take (List.length (List.take (List.length os0) os0)) (List.take (List.length os0) os0)) (0)) (need (decide (((0 + (List.length (List.take (List.length os0) os0))) ≤ (List.length (List.take (List.length os0) os0))))) (need (decide (((0 + (List.length (List.take (List.length ps1) ps1))) ≤ (List.length (List.take (List.length ps1) ps1))))) (need (decide ((((List.length (List.take (List.length (List.take (List.length os0) os0)) (List.take (List.length os0) os0))) ≤ 1000000) ∧ ((List.length (List.take (List.length (List.take (List.length ps1) ps1)) (List.take (List.length ps1) ps1))) ≤ 1000000)))) (branch (Bool.not (sameB f0 g1 (List.take (List.length (List.take (List.length os0) os0)) (List.take (List.length os0) os0)) (List.take (List.length (List.take (List.length ps1) ps1)) (List.take (List.length ps1) ps1)))) (k (.sa (.one (bv false))) (kS E)) (need (decide (((0 + (List.length os1)) ≤ (List.length os1)))) (need (decide ((List.length (List.take (List.length os1) os1)) ≤ 35184372088832)) (need (decide (((0 + (List.length ps0)) ≤ (List.length ps0)))) (need (decide ((List.length (List.take (List.length ps0) ps0)) ≤ 35184372088832)) (need (decide (((0 + (List.length (List.take (List.length os1) os1))) ≤ (List.length (List.take (List.length os1) os1))))) (need (decide (((List.length (List.take (List.length (List.take (List.length os1) os1)) (List.take (List.length os1) os1))) ≤ 1000000))) (branch (Bool.not (mayR f1 (List.take (List.length (List.take (List.length os1) os1)) (List.take (List.length os1) os1)))) (k (.sa (.one (bv false))) (kS E)) (need (decide (((0 + (List.length (List.take (List.length ps0) ps0))) ≤ (List.length (List.take (List.length ps0) ps0))))) (need (decide (((List.length (List.take (List.length (List.take (List.length ps0) ps0)) (List.take (List.length ps0) ps0))) ≤ 1000000))) (branch (Bool.not (mayR g0 (List.take (List.length (List.take (List.length ps0) ps0)) (List.take (List.length ps0) ps0)))) (k (.sa (.one (bv false))) (kS E)) (need (decide (((0 + (List.length (List.take (List.length os1) os1))) ≤ (List.length (List.take (List.length os1) os1))))) (need (okDo (List.take (List.length (List.take (List.length os1) os1)) (List.take (List.length os1) os1)) (0)) (need (decide (((0 + (List.length (List.take (List.length os1) os1))) ≤ (List.length (List.take (List.length os1) os1))))) (need (decide (((0 + (List.length (List.take (List.length ps0) ps0))) ≤ (List.length (List.take (List.length ps0) ps0))))) (need (decide ((((List.length (List.take (List.length (List.take (List.length os1) os1)) (List.take (List.length os1) os1))) ≤ 1000000) ∧ ((List.length (List.take (List.length (List.take (List.length ps0) ps0)) (List.take (List.length ps0) ps0))) ≤ 1000000)))) (branch (Bool.not (sameB f1 g0 (List.take (List.length (List.take (List.length os1) os1)) (List.take (List.length os1) os1)) (List.take (List.length (List.take (List.length ps0) ps0)) (List.take (List.length ps0) ps0)))) (k (.sa (.one (bv false))) (kS E)) (k (.sa (.one (bv true))) (kS E)))))))))))))))))))))))))))))))))))
section
variable {E : Ag} {Q0 : Qt} {Q1 : Qt} {R0 : Rt} {R1 : Rt} {f0 g0 nx0 ex0 f1 g1 nx1 ex1 : Int} {os0 ps0 os1 ps1 : List Int} {M : Nat} {k : SV → St → Prop} {cp0 : Int × Int} {cp1 : Int × Int}
theorem V_e200_00 : S_e200 E Q0 Q1 R0 R1 none none f0 g0 nx0 ex0 f1 g1 nx1 ex1 os0 ps0 os1 ps1 M k := by unfold S_e200; kernel_rfl
theorem V_e200_01 : S_e200 E Q0 Q1 R0 R1 none (some cp1) f0 g0 nx0 ex0 f1 g1 nx1 ex1 os0 ps0 os1 ps1 M k := by unfold S_e200; kernel_rfl
theorem V_e200_10 : S_e200 E Q0 Q1 R0 R1 (some cp0) none f0 g0 nx0 ex0 f1 g1 nx1 ex1 os0 ps0 os1 ps1 M k := by unfold S_e200; kernel_rfl
theorem V_e200_11 : S_e200 E Q0 Q1 R0 R1 (some cp0) (some cp1) f0 g0 nx0 ex0 f1 g1 nx1 ex1 os0 ps0 os1 ps1 M k := by unfold S_e200; kernel_rfl
end
theorem t_e200 (E : Ag) (Q0 : Qt) (Q1 : Qt) (R0 : Rt) (R1 : Rt) (p0 : Option (Int × Int)) (p1 : Option (Int × Int)) (f0 g0 nx0 ex0 f1 g1 nx1 ex1 : Int) (os0 ps0 os1 ps1 : List Int) (M : Nat) (k : SV → St → Prop) : S_e200 E Q0 Q1 R0 R1 p0 p1 f0 g0 nx0 ex0 f1 g1 nx1 ex1 os0 ps0 os1 ps1 M k := match p0, p1 with
  | none, none => V_e200_00
  | none, some _ => V_e200_01
  | some _, none => V_e200_10
  | some _, some _ => V_e200_11
end Go.Ev
