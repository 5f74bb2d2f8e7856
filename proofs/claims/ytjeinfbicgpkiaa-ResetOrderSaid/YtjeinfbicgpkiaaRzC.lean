/- ResetOrder: texts RoM3, RoM5, RoM6, RoM8, RoR, RoS, RoC3q, RoC3m, RoC4, RoC6r, RoC6a, RoT, RoU, one behind the other. No conditions. -/
import Derived.Test.YtjeinfbicgpkiaaRzB
import Derived.Test.YtjeinfbicgpkiaaEvD
set_option linter.unusedVariables false
set_option linter.unusedSimpArgs false
section
namespace Go.Ev
open Go Go.Proofs Go.Spec
def T_m3 (w : Wy) (nn : Int) (GY : Yt → Tc → Option Tc → Prop) (G : Wy → Prop) : Prop := (branch (decide ((((w.t.n : Nat) : Int) > (0)))) (need (Bool.not (decide ((((w.t.n : Nat) : Int) = (0))))) (need (decide (((0) ≤ (remK (IntKind.wrap .i64 nn) ((w.t.n : Nat) : Int))))) (need (decide (((remK (IntKind.wrap .i64 nn) ((w.t.n : Nat) : Int)) < ((w.t.n : Nat) : Int)))) (need (decide (((0 + (Int.toNat (remK (IntKind.wrap .i64 nn) ((w.t.n : Nat) : Int)))) < w.t.n))) (need (decide (((0 + w.t.n) ≤ w.t.n))) (need (decide (((0) ≤ (remK (IntKind.wrap .i64 nn) ((w.t.n : Nat) : Int))))) (need (decide (((remK (IntKind.wrap .i64 nn) ((w.t.n : Nat) : Int)) ≤ ((w.t.n : Nat) : Int)))) (need (decide (((0) ≤ (remK (IntKind.wrap .i64 nn) ((w.t.n : Nat) : Int))))) (need (decide (((remK (IntKind.wrap .i64 nn) ((w.t.n : Nat) : Int)) ≤ (((Int.toNat (remK (IntKind.wrap .i64 nn) ((w.t.n : Nat) : Int))) : Nat) : Int)))) (branch (decide (((Int.toNat (remK (IntKind.wrap .i64 nn) ((w.t.n : Nat) : Int))) = 0))) (need (decide (((0 + w.t.n) ≤ w.t.n))) (need (decide (((0) ≤ (addK .i64 (remK (IntKind.wrap .i64 nn) ((w.t.n : Nat) : Int)) (1))))) (need (decide (((addK .i64 (remK (IntKind.wrap .i64 nn) ((w.t.n : Nat) : Int)) (1)) ≤ ((w.t.n : Nat) : Int)))) (need (decide (((Int.toNat (addK .i64 (remK (IntKind.wrap .i64 nn) ((w.t.n : Nat) : Int)) (1))) ≤ w.t.n))) (need (decide ((((0 + (Int.toNat (addK .i64 (remK (IntKind.wrap .i64 nn) ((w.t.n : Nat) : Int)) (1)))) + (w.t.n - (Int.toNat (addK .i64 (remK (IntKind.wrap .i64 nn) ((w.t.n : Nat) : Int)) (1))))) ≤ w.t.n))) (need (decide ((((0 + (w.t.n - (Int.toNat (addK .i64 (remK (IntKind.wrap .i64 nn) ((w.t.n : Nat) : Int)) (1))))) * 64) ≤ 140737488355328))) (GY ⟨(List.getD w.t.is (0 + (Int.toNat (remK (IntKind.wrap .i64 nn) ((w.t.n : Nat) : Int)))) false), (List.getD w.t.ts (0 + (Int.toNat (remK (IntKind.wrap .i64 nn) ((w.t.n : Nat) : Int)))) (0)), (List.getD w.t.ss (0 + (Int.toNat (remK (IntKind.wrap .i64 nn) ((w.t.n : Nat) : Int)))) (0)), (List.getD w.t.ns (0 + (Int.toNat (remK (IntKind.wrap .i64 nn) ((w.t.n : Nat) : Int)))) (0)), (List.getD w.t.qs (0 + (Int.toNat (remK (IntKind.wrap .i64 nn) ((w.t.n : Nat) : Int)))) (0)), (List.getD w.t.kds (0 + (Int.toNat (remK (IntKind.wrap .i64 nn) ((w.t.n : Nat) : Int)))) (0)), (List.getD w.t.xss (0 + (Int.toNat (remK (IntKind.wrap .i64 nn) ((w.t.n : Nat) : Int)))) []), (List.getD w.t.ms (0 + (Int.toNat (remK (IntKind.wrap .i64 nn) ((w.t.n : Nat) : Int)))) (0))⟩ (tcMap (0 + (w.t.n - (Int.toNat (addK .i64 (remK (IntKind.wrap .i64 nn) ((w.t.n : Nat) : Int)) (1))))) (fun _ d l => (fitL d (w.t.n - (Int.toNat (addK .i64 (remK (IntKind.wrap .i64 nn) ((w.t.n : Nat) : Int)) (1)))) (List.drop (0 + (Int.toNat (addK .i64 (remK (IntKind.wrap .i64 nn) ((w.t.n : Nat) : Int)) (1)))) l))) w.t) (some w.t)))))))) (need (decide (((0 + w.t.n) ≤ w.t.n))) (need (decide (((0) ≤ (addK .i64 (remK (IntKind.wrap .i64 nn) ((w.t.n : Nat) : Int)) (1))))) (need (decide (((addK .i64 (remK (IntKind.wrap .i64 nn) ((w.t.n : Nat) : Int)) (1)) ≤ ((w.t.n : Nat) : Int)))) (need (decide (((Int.toNat (addK .i64 (remK (IntKind.wrap .i64 nn) ((w.t.n : Nat) : Int)) (1))) ≤ w.t.n))) (need (decide ((((0 + (Int.toNat (addK .i64 (remK (IntKind.wrap .i64 nn) ((w.t.n : Nat) : Int)) (1)))) + (w.t.n - (Int.toNat (addK .i64 (remK (IntKind.wrap .i64 nn) ((w.t.n : Nat) : Int)) (1))))) ≤ w.t.n))) (need (decide ((((Int.toNat (remK (IntKind.wrap .i64 nn) ((w.t.n : Nat) : Int))) - 0) ≤ ((Int.toNat (remK (IntKind.wrap .i64 nn) ((w.t.n : Nat) : Int))) - 0)))) (branch (decide (((((Int.toNat (remK (IntKind.wrap .i64 nn) ((w.t.n : Nat) : Int))) - 0) + (w.t.n - (Int.toNat (addK .i64 (remK (IntKind.wrap .i64 nn) ((w.t.n : Nat) : Int)) (1))))) ≤ ((Int.toNat (remK (IntKind.wrap .i64 nn) ((w.t.n : Nat) : Int))) - 0)))) (branch (decide (((w.t.n - (Int.toNat (addK .i64 (remK (IntKind.wrap .i64 nn) ((w.t.n : Nat) : Int)) (1)))) = 0))) (need (false || (decide ((0 < ((Int.toNat (remK (IntKind.wrap .i64 nn) ((w.t.n : Nat) : Int))) - 0))))) (need (decide (((0 + ((Int.toNat (remK (IntKind.wrap .i64 nn) ((w.t.n : Nat) : Int))) - 0)) ≤ w.t.n))) (need (decide (((((Int.toNat (remK (IntKind.wrap .i64 nn) ((w.t.n : Nat) : Int))) - 0) ≤ ((Int.toNat (remK (IntKind.wrap .i64 nn) ((w.t.n : Nat) : Int))) - 0)) ∧ ((0 + ((Int.toNat (remK (IntKind.wrap .i64 nn) ((w.t.n : Nat) : Int))) - 0)) ≤ w.t.n)))) (GY ⟨(List.getD w.t.is (0 + (Int.toNat (remK (IntKind.wrap .i64 nn) ((w.t.n : Nat) : Int)))) false), (List.getD w.t.ts (0 + (Int.toNat (remK (IntKind.wrap .i64 nn) ((w.t.n : Nat) : Int)))) (0)), (List.getD w.t.ss (0 + (Int.toNat (remK (IntKind.wrap .i64 nn) ((w.t.n : Nat) : Int)))) (0)), (List.getD w.t.ns (0 + (Int.toNat (remK (IntKind.wrap .i64 nn) ((w.t.n : Nat) : Int)))) (0)), (List.getD w.t.qs (0 + (Int.toNat (remK (IntKind.wrap .i64 nn) ((w.t.n : Nat) : Int)))) (0)), (List.getD w.t.kds (0 + (Int.toNat (remK (IntKind.wrap .i64 nn) ((w.t.n : Nat) : Int)))) (0)), (List.getD w.t.xss (0 + (Int.toNat (remK (IntKind.wrap .i64 nn) ((w.t.n : Nat) : Int)))) []), (List.getD w.t.ms (0 + (Int.toNat (remK (IntKind.wrap .i64 nn) ((w.t.n : Nat) : Int)))) (0))⟩ (tcMap ((Int.toNat (remK (IntKind.wrap .i64 nn) ((w.t.n : Nat) : Int))) - 0) (fun _ d l => (fitL d ((Int.toNat (remK (IntKind.wrap .i64 nn) ((w.t.n : Nat) : Int))) - 0) l)) w.t) none)))) (need (decide ((((0 + ((Int.toNat (remK (IntKind.wrap .i64 nn) ((w.t.n : Nat) : Int))) - 0)) + (w.t.n - (Int.toNat (addK .i64 (remK (IntKind.wrap .i64 nn) ((w.t.n : Nat) : Int)) (1))))) ≤ w.t.n))) (need (false || (decide ((0 < (((Int.toNat (remK (IntKind.wrap .i64 nn) ((w.t.n : Nat) : Int))) - 0) + (w.t.n - (Int.toNat (addK .i64 (remK (IntKind.wrap .i64 nn) ((w.t.n : Nat) : Int)) (1))))))))) (need (decide (((0 + (((Int.toNat (remK (IntKind.wrap .i64 nn) ((w.t.n : Nat) : Int))) - 0) + (w.t.n - (Int.toNat (addK .i64 (remK (IntKind.wrap .i64 nn) ((w.t.n : Nat) : Int)) (1)))))) ≤ w.t.n))) (need (decide ((((((Int.toNat (remK (IntKind.wrap .i64 nn) ((w.t.n : Nat) : Int))) - 0) + (w.t.n - (Int.toNat (addK .i64 (remK (IntKind.wrap .i64 nn) ((w.t.n : Nat) : Int)) (1))))) ≤ ((Int.toNat (remK (IntKind.wrap .i64 nn) ((w.t.n : Nat) : Int))) - 0)) ∧ ((0 + ((Int.toNat (remK (IntKind.wrap .i64 nn) ((w.t.n : Nat) : Int))) - 0)) ≤ w.t.n)))) (GY ⟨(List.getD w.t.is (0 + (Int.toNat (remK (IntKind.wrap .i64 nn) ((w.t.n : Nat) : Int)))) false), (List.getD w.t.ts (0 + (Int.toNat (remK (IntKind.wrap .i64 nn) ((w.t.n : Nat) : Int)))) (0)), (List.getD w.t.ss (0 + (Int.toNat (remK (IntKind.wrap .i64 nn) ((w.t.n : Nat) : Int)))) (0)), (List.getD w.t.ns (0 + (Int.toNat (remK (IntKind.wrap .i64 nn) ((w.t.n : Nat) : Int)))) (0)), (List.getD w.t.qs (0 + (Int.toNat (remK (IntKind.wrap .i64 nn) ((w.t.n : Nat) : Int)))) (0)), (List.getD w.t.kds (0 + (Int.toNat (remK (IntKind.wrap .i64 nn) ((w.t.n : Nat) : Int)))) (0)), (List.getD w.t.xss (0 + (Int.toNat (remK (IntKind.wrap .i64 nn) ((w.t.n : Nat) : Int)))) []), (List.getD w.t.ms (0 + (Int.toNat (remK (IntKind.wrap .i64 nn) ((w.t.n : Nat) : Int)))) (0))⟩ (tcMap (((Int.toNat (remK (IntKind.wrap .i64 nn) ((w.t.n : Nat) : Int))) - 0) + (w.t.n - (Int.toNat (addK .i64 (remK (IntKind.wrap .i64 nn) ((w.t.n : Nat) : Int)) (1))))) (fun _ d l => (fitL d (((Int.toNat (remK (IntKind.wrap .i64 nn) ((w.t.n : Nat) : Int))) - 0) + (w.t.n - (Int.toNat (addK .i64 (remK (IntKind.wrap .i64 nn) ((w.t.n : Nat) : Int)) (1))))) (((List.take (0 + ((Int.toNat (remK (IntKind.wrap .i64 nn) ((w.t.n : Nat) : Int))) - 0)) (fitL d w.t.n l)) ++ (fitL d (w.t.n - (Int.toNat (addK .i64 (remK (IntKind.wrap .i64 nn) ((w.t.n : Nat) : Int)) (1)))) (List.drop (0 + (Int.toNat (addK .i64 (remK (IntKind.wrap .i64 nn) ((w.t.n : Nat) : Int)) (1)))) l))) ++ (List.drop ((0 + ((Int.toNat (remK (IntKind.wrap .i64 nn) ((w.t.n : Nat) : Int))) - 0)) + (w.t.n - (Int.toNat (addK .i64 (remK (IntKind.wrap .i64 nn) ((w.t.n : Nat) : Int)) (1))))) (fitL d w.t.n l))))) w.t) none)))))) (need (decide (((0 + ((Int.toNat (remK (IntKind.wrap .i64 nn) ((w.t.n : Nat) : Int))) - 0)) ≤ w.t.n))) (need (decide ((((((Int.toNat (remK (IntKind.wrap .i64 nn) ((w.t.n : Nat) : Int))) - 0) + (w.t.n - (Int.toNat (addK .i64 (remK (IntKind.wrap .i64 nn) ((w.t.n : Nat) : Int)) (1))))) * 64) ≤ 140737488355328))) (GY ⟨(List.getD w.t.is (0 + (Int.toNat (remK (IntKind.wrap .i64 nn) ((w.t.n : Nat) : Int)))) false), (List.getD w.t.ts (0 + (Int.toNat (remK (IntKind.wrap .i64 nn) ((w.t.n : Nat) : Int)))) (0)), (List.getD w.t.ss (0 + (Int.toNat (remK (IntKind.wrap .i64 nn) ((w.t.n : Nat) : Int)))) (0)), (List.getD w.t.ns (0 + (Int.toNat (remK (IntKind.wrap .i64 nn) ((w.t.n : Nat) : Int)))) (0)), (List.getD w.t.qs (0 + (Int.toNat (remK (IntKind.wrap .i64 nn) ((w.t.n : Nat) : Int)))) (0)), (List.getD w.t.kds (0 + (Int.toNat (remK (IntKind.wrap .i64 nn) ((w.t.n : Nat) : Int)))) (0)), (List.getD w.t.xss (0 + (Int.toNat (remK (IntKind.wrap .i64 nn) ((w.t.n : Nat) : Int)))) []), (List.getD w.t.ms (0 + (Int.toNat (remK (IntKind.wrap .i64 nn) ((w.t.n : Nat) : Int)))) (0))⟩ (tcMap (((Int.toNat (remK (IntKind.wrap .i64 nn) ((w.t.n : Nat) : Int))) - 0) + (w.t.n - (Int.toNat (addK .i64 (remK (IntKind.wrap .i64 nn) ((w.t.n : Nat) : Int)) (1))))) (fun _ d l => ((fitL d ((Int.toNat (remK (IntKind.wrap .i64 nn) ((w.t.n : Nat) : Int))) - 0) l) ++ (fitL d (w.t.n - (Int.toNat (addK .i64 (remK (IntKind.wrap .i64 nn) ((w.t.n : Nat) : Int)) (1)))) (List.drop (0 + (Int.toNat (addK .i64 (remK (IntKind.wrap .i64 nn) ((w.t.n : Nat) : Int)) (1)))) l)))) w.t) (some w.t))))))))))))))))))))) (G w))
theorem m3 (w : Wy) (ha : w.a.kp = none) (hc : w.c.o = none) (hb : w.bad = false) (nn sd wk wm i : Int) (v : Mv) (ws : List Int) (L : Nat) (k : Exit → Fr → St → Prop) : goA1 L k v i w ⟨3, nn, sd, wk, ws, wm⟩ = Again (T_m3 w nn (goY1 L k v i w ⟨3, nn, sd, wk, ws, wm⟩) (goZ1 L k v i)) := by
  rcases w with ⟨⟨os, ps, qs, cu, xs, bs, cl, nx, ex, o, kp0⟩, ⟨os2, ps2, qs2, cu2, xs2, bs2, cl2, nx2, ex2, o2, kp⟩, ts, t, b, mc, bad⟩
  cases ha; cases hc; cases hb
  rcases o with _ | ⟨_, _, _, _⟩ <;> rcases kp with _ | ⟨_, _⟩ <;> kernel_rfl
theorem m4 (w : Wy) (ha : w.a.kp = none) (hc : w.c.o = none) (hb : w.bad = false) (nn sd wk wm i : Int) (v : Mv) (ws : List Int) (L : Nat) (k : Exit → Fr → St → Prop) : goA1 L k v i w ⟨4, nn, sd, wk, ws, wm⟩ = Again (T_m3 w nn (goY1 L k v i w ⟨4, nn, sd, wk, ws, wm⟩) (goZ1 L k v i)) := by
  rcases w with ⟨⟨os, ps, qs, cu, xs, bs, cl, nx, ex, o, kp0⟩, ⟨os2, ps2, qs2, cu2, xs2, bs2, cl2, nx2, ex2, o2, kp⟩, ts, t, b, mc, bad⟩
  cases ha; cases hc; cases hb
  rcases o with _ | ⟨_, _, _, _⟩ <;> rcases kp with _ | ⟨_, _⟩ <;> kernel_rfl
end Go.Ev
end
section
namespace Go.Ev
open Go Go.Proofs Go.Spec
def T_m5 (w : Wy) (nn : Int) (G : Wy → Prop) : Prop := (branch (decide ((((w.t.n : Nat) : Int) > (0)))) (need (Bool.not (decide ((((w.t.n : Nat) : Int) = (0))))) (need (decide (((0) ≤ (remK (IntKind.wrap .i64 nn) ((w.t.n : Nat) : Int))))) (need (decide (((remK (IntKind.wrap .i64 nn) ((w.t.n : Nat) : Int)) < ((w.t.n : Nat) : Int)))) (need (decide (((0 + (Int.toNat (remK (IntKind.wrap .i64 nn) ((w.t.n : Nat) : Int)))) < w.t.n))) (need (decide (((0 + (List.length (List.getD w.t.xss (0 + (Int.toNat (remK (IntKind.wrap .i64 nn) ((w.t.n : Nat) : Int)))) []))) ≤ (List.length (List.getD w.t.xss (0 + (Int.toNat (remK (IntKind.wrap .i64 nn) ((w.t.n : Nat) : Int)))) []))))) (need (decide ((((w.t.n + 1) * 64) ≤ 140737488355328))) (G { w with t := (Tc.app w.t ⟨(List.getD w.t.is (0 + (Int.toNat (remK (IntKind.wrap .i64 nn) ((w.t.n : Nat) : Int)))) false), (List.getD w.t.ts (0 + (Int.toNat (remK (IntKind.wrap .i64 nn) ((w.t.n : Nat) : Int)))) (0)), (List.getD w.t.ss (0 + (Int.toNat (remK (IntKind.wrap .i64 nn) ((w.t.n : Nat) : Int)))) (0)), (List.getD w.t.ns (0 + (Int.toNat (remK (IntKind.wrap .i64 nn) ((w.t.n : Nat) : Int)))) (0)), (List.getD w.t.qs (0 + (Int.toNat (remK (IntKind.wrap .i64 nn) ((w.t.n : Nat) : Int)))) (0)), (List.getD w.t.kds (0 + (Int.toNat (remK (IntKind.wrap .i64 nn) ((w.t.n : Nat) : Int)))) (0)), (List.take (List.length (List.getD w.t.xss (0 + (Int.toNat (remK (IntKind.wrap .i64 nn) ((w.t.n : Nat) : Int)))) [])) (List.getD w.t.xss (0 + (Int.toNat (remK (IntKind.wrap .i64 nn) ((w.t.n : Nat) : Int)))) [])), (List.getD w.t.ms (0 + (Int.toNat (remK (IntKind.wrap .i64 nn) ((w.t.n : Nat) : Int)))) (0))⟩) }))))))) (G w))
theorem m5 (w : Wy) (ha : w.a.kp = none) (hc : w.c.o = none) (hb : w.bad = false) (nn sd wk wm i : Int) (v : Mv) (ws : List Int) (L : Nat) (k : Exit → Fr → St → Prop) : goA1 L k v i w ⟨5, nn, sd, wk, ws, wm⟩ = Again (T_m5 w nn (goZ1 L k v i)) := by
  rcases w with ⟨⟨os, ps, qs, cu, xs, bs, cl, nx, ex, o, kp0⟩, ⟨os2, ps2, qs2, cu2, xs2, bs2, cl2, nx2, ex2, o2, kp⟩, ts, t, b, mc, bad⟩
  cases ha; cases hc; cases hb
  rcases o with _ | ⟨_, _, _, _⟩ <;> rcases kp with _ | ⟨_, _⟩ <;> kernel_rfl
end Go.Ev
end
section
namespace Go.Ev
open Go Go.Proofs Go.Spec
def T_m6 (w : Wy) (nn : Int) (GX : Zt → Bc → Option Bc → Prop) (G : Wy → Prop) : Prop := (branch (decide ((((w.k.n : Nat) : Int) > (0)))) (need (Bool.not (decide ((((w.k.n : Nat) : Int) = (0))))) (need (decide (((0) ≤ (remK (IntKind.wrap .i64 nn) ((w.k.n : Nat) : Int))))) (need (decide (((remK (IntKind.wrap .i64 nn) ((w.k.n : Nat) : Int)) < ((w.k.n : Nat) : Int)))) (need (decide (((0 + (Int.toNat (remK (IntKind.wrap .i64 nn) ((w.k.n : Nat) : Int)))) < w.k.n))) (need (decide (((0 + w.k.n) ≤ w.k.n))) (need (decide (((0) ≤ (remK (IntKind.wrap .i64 nn) ((w.k.n : Nat) : Int))))) (need (decide (((remK (IntKind.wrap .i64 nn) ((w.k.n : Nat) : Int)) ≤ ((w.k.n : Nat) : Int)))) (need (decide (((0) ≤ (remK (IntKind.wrap .i64 nn) ((w.k.n : Nat) : Int))))) (need (decide (((remK (IntKind.wrap .i64 nn) ((w.k.n : Nat) : Int)) ≤ (((Int.toNat (remK (IntKind.wrap .i64 nn) ((w.k.n : Nat) : Int))) : Nat) : Int)))) (branch (decide (((Int.toNat (remK (IntKind.wrap .i64 nn) ((w.k.n : Nat) : Int))) = 0))) (need (decide (((0 + w.k.n) ≤ w.k.n))) (need (decide (((0) ≤ (addK .i64 (remK (IntKind.wrap .i64 nn) ((w.k.n : Nat) : Int)) (1))))) (need (decide (((addK .i64 (remK (IntKind.wrap .i64 nn) ((w.k.n : Nat) : Int)) (1)) ≤ ((w.k.n : Nat) : Int)))) (need (decide (((Int.toNat (addK .i64 (remK (IntKind.wrap .i64 nn) ((w.k.n : Nat) : Int)) (1))) ≤ w.k.n))) (need (decide ((((0 + (Int.toNat (addK .i64 (remK (IntKind.wrap .i64 nn) ((w.k.n : Nat) : Int)) (1)))) + (w.k.n - (Int.toNat (addK .i64 (remK (IntKind.wrap .i64 nn) ((w.k.n : Nat) : Int)) (1))))) ≤ w.k.n))) (need (decide ((((0 + (w.k.n - (Int.toNat (addK .i64 (remK (IntKind.wrap .i64 nn) ((w.k.n : Nat) : Int)) (1))))) * 20) ≤ 140737488355328))) (GX ⟨(List.getD w.k.is (0 + (Int.toNat (remK (IntKind.wrap .i64 nn) ((w.k.n : Nat) : Int)))) false), (List.getD w.k.ts (0 + (Int.toNat (remK (IntKind.wrap .i64 nn) ((w.k.n : Nat) : Int)))) (0)), (List.getD w.k.ss (0 + (Int.toNat (remK (IntKind.wrap .i64 nn) ((w.k.n : Nat) : Int)))) (0)), (List.getD w.k.rs (0 + (Int.toNat (remK (IntKind.wrap .i64 nn) ((w.k.n : Nat) : Int)))) (0)), (List.getD w.k.vs (0 + (Int.toNat (remK (IntKind.wrap .i64 nn) ((w.k.n : Nat) : Int)))) (0))⟩ (bcMap (0 + (w.k.n - (Int.toNat (addK .i64 (remK (IntKind.wrap .i64 nn) ((w.k.n : Nat) : Int)) (1))))) (fun _ d l => (fitL d (w.k.n - (Int.toNat (addK .i64 (remK (IntKind.wrap .i64 nn) ((w.k.n : Nat) : Int)) (1)))) (List.drop (0 + (Int.toNat (addK .i64 (remK (IntKind.wrap .i64 nn) ((w.k.n : Nat) : Int)) (1)))) l))) w.k) (some w.k)))))))) (need (decide (((0 + w.k.n) ≤ w.k.n))) (need (decide (((0) ≤ (addK .i64 (remK (IntKind.wrap .i64 nn) ((w.k.n : Nat) : Int)) (1))))) (need (decide (((addK .i64 (remK (IntKind.wrap .i64 nn) ((w.k.n : Nat) : Int)) (1)) ≤ ((w.k.n : Nat) : Int)))) (need (decide (((Int.toNat (addK .i64 (remK (IntKind.wrap .i64 nn) ((w.k.n : Nat) : Int)) (1))) ≤ w.k.n))) (need (decide ((((0 + (Int.toNat (addK .i64 (remK (IntKind.wrap .i64 nn) ((w.k.n : Nat) : Int)) (1)))) + (w.k.n - (Int.toNat (addK .i64 (remK (IntKind.wrap .i64 nn) ((w.k.n : Nat) : Int)) (1))))) ≤ w.k.n))) (need (decide ((((Int.toNat (remK (IntKind.wrap .i64 nn) ((w.k.n : Nat) : Int))) - 0) ≤ ((Int.toNat (remK (IntKind.wrap .i64 nn) ((w.k.n : Nat) : Int))) - 0)))) (branch (decide (((((Int.toNat (remK (IntKind.wrap .i64 nn) ((w.k.n : Nat) : Int))) - 0) + (w.k.n - (Int.toNat (addK .i64 (remK (IntKind.wrap .i64 nn) ((w.k.n : Nat) : Int)) (1))))) ≤ ((Int.toNat (remK (IntKind.wrap .i64 nn) ((w.k.n : Nat) : Int))) - 0)))) (branch (decide (((w.k.n - (Int.toNat (addK .i64 (remK (IntKind.wrap .i64 nn) ((w.k.n : Nat) : Int)) (1)))) = 0))) (need (false || (decide ((0 < ((Int.toNat (remK (IntKind.wrap .i64 nn) ((w.k.n : Nat) : Int))) - 0))))) (need (decide (((0 + ((Int.toNat (remK (IntKind.wrap .i64 nn) ((w.k.n : Nat) : Int))) - 0)) ≤ w.k.n))) (need (decide (((((Int.toNat (remK (IntKind.wrap .i64 nn) ((w.k.n : Nat) : Int))) - 0) ≤ ((Int.toNat (remK (IntKind.wrap .i64 nn) ((w.k.n : Nat) : Int))) - 0)) ∧ ((0 + ((Int.toNat (remK (IntKind.wrap .i64 nn) ((w.k.n : Nat) : Int))) - 0)) ≤ w.k.n)))) (GX ⟨(List.getD w.k.is (0 + (Int.toNat (remK (IntKind.wrap .i64 nn) ((w.k.n : Nat) : Int)))) false), (List.getD w.k.ts (0 + (Int.toNat (remK (IntKind.wrap .i64 nn) ((w.k.n : Nat) : Int)))) (0)), (List.getD w.k.ss (0 + (Int.toNat (remK (IntKind.wrap .i64 nn) ((w.k.n : Nat) : Int)))) (0)), (List.getD w.k.rs (0 + (Int.toNat (remK (IntKind.wrap .i64 nn) ((w.k.n : Nat) : Int)))) (0)), (List.getD w.k.vs (0 + (Int.toNat (remK (IntKind.wrap .i64 nn) ((w.k.n : Nat) : Int)))) (0))⟩ (bcMap ((Int.toNat (remK (IntKind.wrap .i64 nn) ((w.k.n : Nat) : Int))) - 0) (fun _ d l => (fitL d ((Int.toNat (remK (IntKind.wrap .i64 nn) ((w.k.n : Nat) : Int))) - 0) l)) w.k) none)))) (need (decide ((((0 + ((Int.toNat (remK (IntKind.wrap .i64 nn) ((w.k.n : Nat) : Int))) - 0)) + (w.k.n - (Int.toNat (addK .i64 (remK (IntKind.wrap .i64 nn) ((w.k.n : Nat) : Int)) (1))))) ≤ w.k.n))) (need (false || (decide ((0 < (((Int.toNat (remK (IntKind.wrap .i64 nn) ((w.k.n : Nat) : Int))) - 0) + (w.k.n - (Int.toNat (addK .i64 (remK (IntKind.wrap .i64 nn) ((w.k.n : Nat) : Int)) (1))))))))) (need (decide (((0 + (((Int.toNat (remK (IntKind.wrap .i64 nn) ((w.k.n : Nat) : Int))) - 0) + (w.k.n - (Int.toNat (addK .i64 (remK (IntKind.wrap .i64 nn) ((w.k.n : Nat) : Int)) (1)))))) ≤ w.k.n))) (need (decide ((((((Int.toNat (remK (IntKind.wrap .i64 nn) ((w.k.n : Nat) : Int))) - 0) + (w.k.n - (Int.toNat (addK .i64 (remK (IntKind.wrap .i64 nn) ((w.k.n : Nat) : Int)) (1))))) ≤ ((Int.toNat (remK (IntKind.wrap .i64 nn) ((w.k.n : Nat) : Int))) - 0)) ∧ ((0 + ((Int.toNat (remK (IntKind.wrap .i64 nn) ((w.k.n : Nat) : Int))) - 0)) ≤ w.k.n)))) (GX ⟨(List.getD w.k.is (0 + (Int.toNat (remK (IntKind.wrap .i64 nn) ((w.k.n : Nat) : Int)))) false), (List.getD w.k.ts (0 + (Int.toNat (remK (IntKind.wrap .i64 nn) ((w.k.n : Nat) : Int)))) (0)), (List.getD w.k.ss (0 + (Int.toNat (remK (IntKind.wrap .i64 nn) ((w.k.n : Nat) : Int)))) (0)), (List.getD w.k.rs (0 + (Int.toNat (remK (IntKind.wrap .i64 nn) ((w.k.n : Nat) : Int)))) (0)), (List.getD w.k.vs (0 + (Int.toNat (remK (IntKind.wrap .i64 nn) ((w.k.n : Nat) : Int)))) (0))⟩ (bcMap (((Int.toNat (remK (IntKind.wrap .i64 nn) ((w.k.n : Nat) : Int))) - 0) + (w.k.n - (Int.toNat (addK .i64 (remK (IntKind.wrap .i64 nn) ((w.k.n : Nat) : Int)) (1))))) (fun _ d l => (fitL d (((Int.toNat (remK (IntKind.wrap .i64 nn) ((w.k.n : Nat) : Int))) - 0) + (w.k.n - (Int.toNat (addK .i64 (remK (IntKind.wrap .i64 nn) ((w.k.n : Nat) : Int)) (1))))) (((List.take (0 + ((Int.toNat (remK (IntKind.wrap .i64 nn) ((w.k.n : Nat) : Int))) - 0)) (fitL d w.k.n l)) ++ (fitL d (w.k.n - (Int.toNat (addK .i64 (remK (IntKind.wrap .i64 nn) ((w.k.n : Nat) : Int)) (1)))) (List.drop (0 + (Int.toNat (addK .i64 (remK (IntKind.wrap .i64 nn) ((w.k.n : Nat) : Int)) (1)))) l))) ++ (List.drop ((0 + ((Int.toNat (remK (IntKind.wrap .i64 nn) ((w.k.n : Nat) : Int))) - 0)) + (w.k.n - (Int.toNat (addK .i64 (remK (IntKind.wrap .i64 nn) ((w.k.n : Nat) : Int)) (1))))) (fitL d w.k.n l))))) w.k) none)))))) (need (decide (((0 + ((Int.toNat (remK (IntKind.wrap .i64 nn) ((w.k.n : Nat) : Int))) - 0)) ≤ w.k.n))) (need (decide ((((((Int.toNat (remK (IntKind.wrap .i64 nn) ((w.k.n : Nat) : Int))) - 0) + (w.k.n - (Int.toNat (addK .i64 (remK (IntKind.wrap .i64 nn) ((w.k.n : Nat) : Int)) (1))))) * 20) ≤ 140737488355328))) (GX ⟨(List.getD w.k.is (0 + (Int.toNat (remK (IntKind.wrap .i64 nn) ((w.k.n : Nat) : Int)))) false), (List.getD w.k.ts (0 + (Int.toNat (remK (IntKind.wrap .i64 nn) ((w.k.n : Nat) : Int)))) (0)), (List.getD w.k.ss (0 + (Int.toNat (remK (IntKind.wrap .i64 nn) ((w.k.n : Nat) : Int)))) (0)), (List.getD w.k.rs (0 + (Int.toNat (remK (IntKind.wrap .i64 nn) ((w.k.n : Nat) : Int)))) (0)), (List.getD w.k.vs (0 + (Int.toNat (remK (IntKind.wrap .i64 nn) ((w.k.n : Nat) : Int)))) (0))⟩ (bcMap (((Int.toNat (remK (IntKind.wrap .i64 nn) ((w.k.n : Nat) : Int))) - 0) + (w.k.n - (Int.toNat (addK .i64 (remK (IntKind.wrap .i64 nn) ((w.k.n : Nat) : Int)) (1))))) (fun _ d l => ((fitL d ((Int.toNat (remK (IntKind.wrap .i64 nn) ((w.k.n : Nat) : Int))) - 0) l) ++ (fitL d (w.k.n - (Int.toNat (addK .i64 (remK (IntKind.wrap .i64 nn) ((w.k.n : Nat) : Int)) (1)))) (List.drop (0 + (Int.toNat (addK .i64 (remK (IntKind.wrap .i64 nn) ((w.k.n : Nat) : Int)) (1)))) l)))) w.k) (some w.k))))))))))))))))))))) (G w))
theorem m6 (w : Wy) (ha : w.a.kp = none) (hc : w.c.o = none) (hb : w.bad = false) (nn sd wk wm i : Int) (v : Mv) (ws : List Int) (L : Nat) (k : Exit → Fr → St → Prop) : goA1 L k v i w ⟨6, nn, sd, wk, ws, wm⟩ = Again (T_m6 w nn (goX1 L k v i w ⟨6, nn, sd, wk, ws, wm⟩) (goZ1 L k v i)) := by
  rcases w with ⟨⟨os, ps, qs, cu, xs, bs, cl, nx, ex, o, kp0⟩, ⟨os2, ps2, qs2, cu2, xs2, bs2, cl2, nx2, ex2, o2, kp⟩, ts, t, b, mc, bad⟩
  cases ha; cases hc; cases hb
  rcases o with _ | ⟨_, _, _, _⟩ <;> rcases kp with _ | ⟨_, _⟩ <;> kernel_rfl
theorem m7 (w : Wy) (ha : w.a.kp = none) (hc : w.c.o = none) (hb : w.bad = false) (nn sd wk wm i : Int) (v : Mv) (ws : List Int) (L : Nat) (k : Exit → Fr → St → Prop) : goA1 L k v i w ⟨7, nn, sd, wk, ws, wm⟩ = Again (T_m6 w nn (goX1 L k v i w ⟨7, nn, sd, wk, ws, wm⟩) (goZ1 L k v i)) := by
  rcases w with ⟨⟨os, ps, qs, cu, xs, bs, cl, nx, ex, o, kp0⟩, ⟨os2, ps2, qs2, cu2, xs2, bs2, cl2, nx2, ex2, o2, kp⟩, ts, t, b, mc, bad⟩
  cases ha; cases hc; cases hb
  rcases o with _ | ⟨_, _, _, _⟩ <;> rcases kp with _ | ⟨_, _⟩ <;> kernel_rfl
end Go.Ev
end
section
namespace Go.Ev
open Go Go.Proofs Go.Spec
def T_m8 (w : Wy) (nn : Int) (G : Wy → Prop) : Prop := (branch (decide ((((w.k.n : Nat) : Int) > (0)))) (need (Bool.not (decide ((((w.k.n : Nat) : Int) = (0))))) (need (decide (((0) ≤ (remK (IntKind.wrap .i64 nn) ((w.k.n : Nat) : Int))))) (need (decide (((remK (IntKind.wrap .i64 nn) ((w.k.n : Nat) : Int)) < ((w.k.n : Nat) : Int)))) (need (decide (((0 + (Int.toNat (remK (IntKind.wrap .i64 nn) ((w.k.n : Nat) : Int)))) < w.k.n))) (need (decide ((((w.k.n + 1) * 20) ≤ 140737488355328))) (G { w with k := (Bc.app w.k ⟨(List.getD w.k.is (0 + (Int.toNat (remK (IntKind.wrap .i64 nn) ((w.k.n : Nat) : Int)))) false), (List.getD w.k.ts (0 + (Int.toNat (remK (IntKind.wrap .i64 nn) ((w.k.n : Nat) : Int)))) (0)), (List.getD w.k.ss (0 + (Int.toNat (remK (IntKind.wrap .i64 nn) ((w.k.n : Nat) : Int)))) (0)), (List.getD w.k.rs (0 + (Int.toNat (remK (IntKind.wrap .i64 nn) ((w.k.n : Nat) : Int)))) (0)), (List.getD w.k.vs (0 + (Int.toNat (remK (IntKind.wrap .i64 nn) ((w.k.n : Nat) : Int)))) (0))⟩) })))))) (G w))
theorem m8 (w : Wy) (ha : w.a.kp = none) (hc : w.c.o = none) (hb : w.bad = false) (nn sd wk wm i : Int) (v : Mv) (ws : List Int) (L : Nat) (k : Exit → Fr → St → Prop) : goA1 L k v i w ⟨8, nn, sd, wk, ws, wm⟩ = Again (T_m8 w nn (goZ1 L k v i)) := by
  rcases w with ⟨⟨os, ps, qs, cu, xs, bs, cl, nx, ex, o, kp0⟩, ⟨os2, ps2, qs2, cu2, xs2, bs2, cl2, nx2, ex2, o2, kp⟩, ts, t, b, mc, bad⟩
  cases ha; cases hc; cases hb
  rcases o with _ | ⟨_, _, _, _⟩ <;> rcases kp with _ | ⟨_, _⟩ <;> kernel_rfl
def T_m9 (w : Wy)  (G : Wy → Prop) : Prop := (G w)
theorem m9 (w : Wy) (ha : w.a.kp = none) (hc : w.c.o = none) (hb : w.bad = false) (nn sd wk wm i : Int) (v : Mv) (ws : List Int) (d : Nat) (L : Nat) (k : Exit → Fr → St → Prop) : goA1 L k v i w ⟨((d + 9 : Nat) : Int), nn, sd, wk, ws, wm⟩ = Again (T_m9 w (goZ1 L k v i)) := by
  rcases w with ⟨⟨os, ps, qs, cu, xs, bs, cl, nx, ex, o, kp0⟩, ⟨os2, ps2, qs2, cu2, xs2, bs2, cl2, nx2, ex2, o2, kp⟩, ts, t, b, mc, bad⟩
  cases ha; cases hc; cases hb
  rcases o with _ | ⟨_, _, _, _⟩ <;> rcases kp with _ | ⟨_, _⟩ <;> kernel_rfl
def T_d3 (w : Wy)  (GY : Yt → Tc → Option Tc → Prop) (G : Wy → Prop) : Prop := (branch (decide ((((w.t.n : Nat) : Int) > (0)))) (need (Bool.not (decide ((((w.t.n : Nat) : Int) = (0))))) (need (decide (((remK (0) ((w.t.n : Nat) : Int)) < ((w.t.n : Nat) : Int)))) (need (decide ((0 < w.t.n))) (need (decide (((0 + w.t.n) ≤ w.t.n))) (need (decide (((0 + w.t.n) ≤ w.t.n))) (need (decide (((addK .i64 (remK (0) ((w.t.n : Nat) : Int)) (1)) ≤ ((w.t.n : Nat) : Int)))) (need (decide ((1 ≤ w.t.n))) (need (decide (((1 + (w.t.n - 1)) ≤ w.t.n))) (need (decide ((((0 + (w.t.n - 1)) * 64) ≤ 140737488355328))) (GY ⟨(List.getD w.t.is 0 false), (List.getD w.t.ts 0 (0)), (List.getD w.t.ss 0 (0)), (List.getD w.t.ns 0 (0)), (List.getD w.t.qs 0 (0)), (List.getD w.t.kds 0 (0)), (List.getD w.t.xss 0 []), (List.getD w.t.ms 0 (0))⟩ (tcMap (0 + (w.t.n - 1)) (fun _ d l => (fitL d (w.t.n - 1) (List.drop 1 l))) w.t) (some w.t))))))))))) (G w))
theorem d3 (w : Wy) (ha : w.a.kp = none) (hc : w.c.o = none) (hb : w.bad = false) (v : Mv) (x : Int) (L : Nat) (k : Exit → Fr → St → Prop) : goD3 L k v x w = Again (T_d3 w (fun y t1 _ => goY2 L k v x w y t1) (fun w => goH2 L k v (addK .i64 x 1) w)) := by
  rcases w with ⟨⟨os, ps, qs, cu, xs, bs, cl, nx, ex, o, kp0⟩, ⟨os2, ps2, qs2, cu2, xs2, bs2, cl2, nx2, ex2, o2, kp⟩, ts, t, b, mc, bad⟩
  cases ha; cases hc; cases hb
  rcases o with _ | ⟨_, _, _, _⟩ <;> rcases kp with _ | ⟨_, _⟩ <;> kernel_rfl
def T_d6 (w : Wy)  (GX : Zt → Bc → Option Bc → Prop) (G : Wy → Prop) : Prop := (branch (decide ((((w.k.n : Nat) : Int) > (0)))) (need (Bool.not (decide ((((w.k.n : Nat) : Int) = (0))))) (need (decide (((remK (0) ((w.k.n : Nat) : Int)) < ((w.k.n : Nat) : Int)))) (need (decide ((0 < w.k.n))) (need (decide (((0 + w.k.n) ≤ w.k.n))) (need (decide (((0 + w.k.n) ≤ w.k.n))) (need (decide (((addK .i64 (remK (0) ((w.k.n : Nat) : Int)) (1)) ≤ ((w.k.n : Nat) : Int)))) (need (decide ((1 ≤ w.k.n))) (need (decide (((1 + (w.k.n - 1)) ≤ w.k.n))) (need (decide ((((0 + (w.k.n - 1)) * 20) ≤ 140737488355328))) (GX ⟨(List.getD w.k.is 0 false), (List.getD w.k.ts 0 (0)), (List.getD w.k.ss 0 (0)), (List.getD w.k.rs 0 (0)), (List.getD w.k.vs 0 (0))⟩ (bcMap (0 + (w.k.n - 1)) (fun _ d l => (fitL d (w.k.n - 1) (List.drop 1 l))) w.k) (some w.k))))))))))) (G w))
theorem d6 (w : Wy) (ha : w.a.kp = none) (hc : w.c.o = none) (hb : w.bad = false) (v : Mv) (x : Int) (L : Nat) (k : Exit → Fr → St → Prop) : goD6 L k v x w = Again (T_d6 w (fun z k1 _ => goX2 L k v x w z k1) (fun w => goH2 L k v (addK .i64 x 1) w)) := by
  rcases w with ⟨⟨os, ps, qs, cu, xs, bs, cl, nx, ex, o, kp0⟩, ⟨os2, ps2, qs2, cu2, xs2, bs2, cl2, nx2, ex2, o2, kp⟩, ts, t, b, mc, bad⟩
  cases ha; cases hc; cases hb
  rcases o with _ | ⟨_, _, _, _⟩ <;> rcases kp with _ | ⟨_, _⟩ <;> kernel_rfl
theorem d4 (w : Wy) (ha : w.a.kp = none) (hc : w.c.o = none) (hb : w.bad = false) (v : Mv) (L : Nat) (k : Exit → Fr → St → Prop) : goD4 L k v w = Again (T_d6 w (fun z k1 _ => goX3 L k v w z k1) (fun w => goH3 L k v w)) := by
  rcases w with ⟨⟨os, ps, qs, cu, xs, bs, cl, nx, ex, o, kp0⟩, ⟨os2, ps2, qs2, cu2, xs2, bs2, cl2, nx2, ex2, o2, kp⟩, ts, t, b, mc, bad⟩
  cases ha; cases hc; cases hb
  rcases o with _ | ⟨_, _, _, _⟩ <;> rcases kp with _ | ⟨_, _⟩ <;> kernel_rfl
end Go.Ev
end
section
namespace Go.Ev
open Go Go.Proofs Go.Spec
attribute [local irreducible] ev evCall branch need again
theorem remN {nn : Int} {n : Nat} (h : 0 ≤ nn ∧ nn ≤ 65535) (hn : 0 < n) : ∃ r : Nat, remK (IntKind.wrap .i64 nn) (n : Int) = (r : Int) ∧ r < n := by
  have hw : IntKind.wrap .i64 nn = nn := Go.IntWalk.i64_in _ (by omega)
  rw [hw, remK_eq]
  obtain ⟨m, rfl⟩ : ∃ m : Nat, nn = m := ⟨nn.toNat, by omega⟩
  refine ⟨m % n, ?_, Nat.mod_lt _ hn⟩
  rw [← Int.ofNat_tmod]
theorem tm3 {w : Wy} {ys : List Yt} {nn : Int} (hw : w.t = tcOf ys) (hl : ys.length ≤ 600) (hnn : 0 ≤ nn ∧ nn ≤ 65535) {GY : Yt → Tc → Option Tc → Prop} {G : Wy → Prop} (h1 : ys = [] → G w) (h2 : ∀ i old, i < ys.length → GY (ys.getD i dY) (tcOf (ys.eraseIdx i)) old) : T_m3 w nn GY G := by
  unfold T_m3
  rw [hw]
  rw [show (tcOf ys).n = ys.length from rfl]
  refine brd (fun h => ?_) (fun h => h1 (List.eq_nil_of_length_eq_zero (by omega)))
  obtain ⟨r, hr, hrn⟩ := remN hnn (n := ys.length) (by omega)
  have hj : addK .i64 ((r : Nat) : Int) 1 = ((r + 1 : Nat) : Int) := by rw [add64 (by omega)]; omega
  rw [hr, hj, Int.toNat_natCast, Int.toNat_natCast, Nat.zero_add]
  have hy := yAt ys r
  rw [hy]
  have hne : Bool.not (decide (((ys.length : Nat) : Int) = 0)) = true := by rw [decide_eq_false (by omega)]; rfl
  rw [hne]
  refine nd rfl (ndd (by omega) (ndd (by omega) (ndd (by omega) (ndd (by omega) (ndd (by omega) (ndd (by omega) (ndd (by omega) (ndd (by omega) (brd (fun h0 => ?_) (fun h0 => ?_))))))))))
  · subst h0
    rw [show tcMap (0 + (ys.length - (0 + 1))) (fun _ d l => fitL d (ys.length - (0 + 1)) (List.drop (0 + (0 + 1)) l)) (tcOf ys) = tcOf (ys.eraseIdx 0) from tcMap_er hrn (by omega) (fun α d x hx => by rw [← hx]; exact er1 rfl (by omega))]
    exact ndd (by omega) (ndd (by omega) (ndd (by omega) (ndd (by omega) (ndd (by omega) (ndd (by omega) (h2 0 _ hrn))))))
  · refine ndd (by omega) (ndd (by omega) (ndd (by omega) (ndd (by omega) (ndd (by omega) (ndd (by omega) (brd (fun h3 => brd (fun h4 => ?_) (fun h4 => absurd (show ys.length - (r + 1) = 0 by omega) h4)) (fun h3 => ?_)))))))
    · rw [show tcMap (r - 0) (fun _ d l => fitL d (r - 0) l) (tcOf ys) = tcOf (ys.eraseIdx r) from tcMap_er hrn (by omega) (fun α d x hx => er2 (by omega))]
      exact nd (by rw [decide_eq_true (by omega)]; rfl) (ndd (by omega) (ndd (by omega) (h2 r _ hrn)))
    · rw [show tcMap (r - 0 + (ys.length - (r + 1))) (fun _ d l => fitL d (r - 0) l ++ fitL d (ys.length - (r + 1)) (List.drop (0 + (r + 1)) l)) (tcOf ys) = tcOf (ys.eraseIdx r) from tcMap_er hrn (by omega) (fun α d x hx => by rw [← hx]; exact er4 rfl (by omega))]
      exact ndd (by omega) (ndd (by omega) (h2 r _ hrn))
theorem tm6 {w : Wy} {ys : List Zt} {nn : Int} (hw : w.k = bcOf ys) (hl : ys.length ≤ 600) (hnn : 0 ≤ nn ∧ nn ≤ 65535) {GX : Zt → Bc → Option Bc → Prop} {G : Wy → Prop} (h1 : ys = [] → G w) (h2 : ∀ i old, i < ys.length → GX (ys.getD i dZ) (bcOf (ys.eraseIdx i)) old) : T_m6 w nn GX G := by
  unfold T_m6
  rw [hw]
  rw [show (bcOf ys).n = ys.length from rfl]
  refine brd (fun h => ?_) (fun h => h1 (List.eq_nil_of_length_eq_zero (by omega)))
  obtain ⟨r, hr, hrn⟩ := remN hnn (n := ys.length) (by omega)
  have hj : addK .i64 ((r : Nat) : Int) 1 = ((r + 1 : Nat) : Int) := by rw [add64 (by omega)]; omega
  rw [hr, hj, Int.toNat_natCast, Int.toNat_natCast, Nat.zero_add]
  have hy := zAt ys r
  rw [hy]
  have hne : Bool.not (decide (((ys.length : Nat) : Int) = 0)) = true := by rw [decide_eq_false (by omega)]; rfl
  rw [hne]
  refine nd rfl (ndd (by omega) (ndd (by omega) (ndd (by omega) (ndd (by omega) (ndd (by omega) (ndd (by omega) (ndd (by omega) (ndd (by omega) (brd (fun h0 => ?_) (fun h0 => ?_))))))))))
  · subst h0
    rw [show bcMap (0 + (ys.length - (0 + 1))) (fun _ d l => fitL d (ys.length - (0 + 1)) (List.drop (0 + (0 + 1)) l)) (bcOf ys) = bcOf (ys.eraseIdx 0) from bcMap_er hrn (by omega) (fun α d x hx => by rw [← hx]; exact er1 rfl (by omega))]
    exact ndd (by omega) (ndd (by omega) (ndd (by omega) (ndd (by omega) (ndd (by omega) (ndd (by omega) (h2 0 _ hrn))))))
  · refine ndd (by omega) (ndd (by omega) (ndd (by omega) (ndd (by omega) (ndd (by omega) (ndd (by omega) (brd (fun h3 => brd (fun h4 => ?_) (fun h4 => absurd (show ys.length - (r + 1) = 0 by omega) h4)) (fun h3 => ?_)))))))
    · rw [show bcMap (r - 0) (fun _ d l => fitL d (r - 0) l) (bcOf ys) = bcOf (ys.eraseIdx r) from bcMap_er hrn (by omega) (fun α d x hx => er2 (by omega))]
      exact nd (by rw [decide_eq_true (by omega)]; rfl) (ndd (by omega) (ndd (by omega) (h2 r _ hrn)))
    · rw [show bcMap (r - 0 + (ys.length - (r + 1))) (fun _ d l => fitL d (r - 0) l ++ fitL d (ys.length - (r + 1)) (List.drop (0 + (r + 1)) l)) (bcOf ys) = bcOf (ys.eraseIdx r) from bcMap_er hrn (by omega) (fun α d x hx => by rw [← hx]; exact er4 rfl (by omega))]
      exact ndd (by omega) (ndd (by omega) (h2 r _ hrn))
theorem td3 {w : Wy} {ys : List Yt} (hw : w.t = tcOf ys) (hl : ys.length ≤ 600) {GY : Yt → Tc → Option Tc → Prop} {G : Wy → Prop} (h1 : ys = [] → G w) (h2 : 0 < ys.length → GY (ys.getD 0 dY) (tcOf (ys.eraseIdx 0)) (some (tcOf ys))) : T_d3 w GY G := by
  unfold T_d3
  rw [hw]
  rw [show (tcOf ys).n = ys.length from rfl]
  refine brd (fun h => ?_) (fun h => h1 (List.eq_nil_of_length_eq_zero (by omega)))
  have hr : remK 0 ((ys.length : Nat) : Int) = 0 := by rw [remK_eq]; exact Int.zero_tmod _
  have hj : addK .i64 0 1 = 1 := by rw [add64 (by omega)]; omega
  rw [hr, hj]
  have hy := yAt ys 0
  rw [hy]
  have hne : Bool.not (decide (((ys.length : Nat) : Int) = 0)) = true := by rw [decide_eq_false (by omega)]; rfl
  rw [hne, show tcMap (0 + (ys.length - 1)) (fun _ d l => fitL d (ys.length - 1) (List.drop 1 l)) (tcOf ys) = tcOf (ys.eraseIdx 0) from tcMap_er (by omega) (by omega) (fun α d x hx => by rw [← hx]; exact er1 (j := 1) rfl (by omega))]
  exact nd rfl (ndd (by omega) (ndd (by omega) (ndd (by omega) (ndd (by omega) (ndd (by omega) (ndd (by omega) (ndd (by omega) (ndd (by omega) (h2 (by omega))))))))))
theorem td6 {w : Wy} {ys : List Zt} (hw : w.k = bcOf ys) (hl : ys.length ≤ 600) {GX : Zt → Bc → Option Bc → Prop} {G : Wy → Prop} (h1 : ys = [] → G w) (h2 : 0 < ys.length → GX (ys.getD 0 dZ) (bcOf (ys.eraseIdx 0)) (some (bcOf ys))) : T_d6 w GX G := by
  unfold T_d6
  rw [hw]
  rw [show (bcOf ys).n = ys.length from rfl]
  refine brd (fun h => ?_) (fun h => h1 (List.eq_nil_of_length_eq_zero (by omega)))
  have hr : remK 0 ((ys.length : Nat) : Int) = 0 := by rw [remK_eq]; exact Int.zero_tmod _
  have hj : addK .i64 0 1 = 1 := by rw [add64 (by omega)]; omega
  rw [hr, hj]
  have hy := zAt ys 0
  rw [hy]
  have hne : Bool.not (decide (((ys.length : Nat) : Int) = 0)) = true := by rw [decide_eq_false (by omega)]; rfl
  rw [hne, show bcMap (0 + (ys.length - 1)) (fun _ d l => fitL d (ys.length - 1) (List.drop 1 l)) (bcOf ys) = bcOf (ys.eraseIdx 0) from bcMap_er (by omega) (by omega) (fun α d x hx => by rw [← hx]; exact er1 (j := 1) rfl (by omega))]
  exact nd rfl (ndd (by omega) (ndd (by omega) (ndd (by omega) (ndd (by omega) (ndd (by omega) (ndd (by omega) (ndd (by omega) (ndd (by omega) (h2 (by omega))))))))))
theorem tm5 {w : Wy} {ys : List Yt} {nn : Int} (hw : w.t = tcOf ys) (hl : ys.length ≤ 600) (hnn : 0 ≤ nn ∧ nn ≤ 65535) {G : Wy → Prop} (h1 : ys = [] → G w) (h2 : ∀ i, i < ys.length → G { w with t := tcOf (ys ++ [ys.getD i dY]) }) : T_m5 w nn G := by
  unfold T_m5
  rw [hw]
  rw [show (tcOf ys).n = ys.length from rfl]
  refine brd (fun h => ?_) (fun h => h1 (List.eq_nil_of_length_eq_zero (by omega)))
  obtain ⟨r, hr, hrn⟩ := remN hnn (n := ys.length) (by omega)
  rw [hr, Int.toNat_natCast, Nat.zero_add, List.take_length]
  have hy := yAt ys r
  rw [hy, tcOf_app]
  have hne : Bool.not (decide (((ys.length : Nat) : Int) = 0)) = true := by rw [decide_eq_false (by omega)]; rfl
  rw [hne]
  exact nd rfl (ndd (by omega) (ndd (by omega) (ndd (by omega) (ndd (by omega) (ndd (by omega) (h2 r hrn))))))
theorem tm8 {w : Wy} {ys : List Zt} {nn : Int} (hw : w.k = bcOf ys) (hl : ys.length ≤ 600) (hnn : 0 ≤ nn ∧ nn ≤ 65535) {G : Wy → Prop} (h1 : ys = [] → G w) (h2 : ∀ i, i < ys.length → G { w with k := bcOf (ys ++ [ys.getD i dZ]) }) : T_m8 w nn G := by
  unfold T_m8
  rw [hw]
  rw [show (bcOf ys).n = ys.length from rfl]
  refine brd (fun h => ?_) (fun h => h1 (List.eq_nil_of_length_eq_zero (by omega)))
  obtain ⟨r, hr, hrn⟩ := remN hnn (n := ys.length) (by omega)
  rw [hr, Int.toNat_natCast, Nat.zero_add]
  have hy := zAt ys r
  rw [hy, bcOf_app]
  have hne : Bool.not (decide (((ys.length : Nat) : Int) = 0)) = true := by rw [decide_eq_false (by omega)]; rfl
  rw [hne]
  exact nd rfl (ndd (by omega) (ndd (by omega) (ndd (by omega) (ndd (by omega) (h2 r hrn)))))
end Go.Ev
end
section
namespace Go.Ev
open Go Go.Proofs Go.Spec
def yT (f : Int) (ms : List (Nat × Int)) : Ro.Th → Yt
  | .m i => ⟨true, tn f (i + 1), ((ms.getD i (0, 0)).1 : Int), (ms.getD i (0, 0)).2, 0, 0, [], 0⟩
  | .q x => ⟨false, 0, 0, 0, x.n, x.kd, x.ss, x.mo⟩
def zB (f : Int) (ms : List (Nat × Int)) : Ro.Bk → Zt
  | .a i => ⟨true, tn f (i + 1), ((ms.getD i (0, 0)).1 : Int), 0, 0⟩
  | .r n v => ⟨false, 0, 0, n, v⟩
def oP (o : Option Ro.Qu) : Option (Int × Int × List Int × Int) := o.map fun c => (c.n, c.kd, c.ss, c.mo)
def tnL (f : Int) (l : List Nat) : List Int := l.map fun i => tn f (i + 1)
structure Rel (f : Int) (w : Wy) (p : Ro.P) : Prop where
  ff : 0 ≤ f ∧ f ≤ 4294967295
  bad : w.bad = false
  kp : w.a.kp = none
  o2 : w.c.o = none
  os : w.a.os = p.out
  ps : w.a.ps = p.op
  nx : w.a.nx = p.nx
  o : w.a.o = oP p.o
  qs : w.c.qs = p.inn
  ex : w.c.ex = p.ex
  kq : w.c.kp = p.kp
  gi : ∃ m, GI f m w.c.cum w.c.xs w.m.cs
  xl : w.c.xs.length ≤ p.cm.length
  ts : w.ts = tn f p.ms.length
  t : w.t = tcOf (p.th.map (yT f p.ms))
  k : w.k = bcOf (p.bk.map (zB f p.ms))
  ks : w.m.ks = tnL f (List.range p.ms.length)
  mts : w.m.ts = w.m.ks
  mss : w.m.ss = p.ms.map (fun x => (x.1 : Int))
  mns : w.m.ns = p.ms.map (·.2)
  cs : w.m.cs = (tnL f p.cm).reverse
  as_ : w.m.as_ = (tnL f p.ak).reverse
  bo : (decide (True ∧ w.m.ks.length = w.m.cl) && bornB w.m.bs w.m.cl) = true
structure SzO (p : Ro.P) (m : Nat) : Prop where
  m3 : m ≤ 300
  ms : p.ms.length ≤ m
  tb : p.th.length + p.bk.length ≤ m
  nx : p.nx ≤ 5 + m
  ou : ∀ s, p.out.getD s 0 ≤ m
  o0 : ∀ s, 0 ≤ p.out.getD s 0
  o5 : ∀ c, p.o = some c → 6 ≤ p.nx
  tq : ∀ x, Ro.Th.q x ∈ p.th → 5 ≤ x.n
  bq : ∀ n v, Ro.Bk.r n v ∈ p.bk → 5 ≤ n
  ol : ∀ c, p.o = some c → c.ss.length ≤ 70368744177664
theorem tnL_mem {f : Int} {i : Nat} (hi : i ≤ 1000) : ∀ {l : List Nat}, (∀ j ∈ l, j ≤ 1000) → (tn f (i + 1) ∈ tnL f l ↔ i ∈ l)
  | [], _ => by simp [tnL]
  | x :: r, h => by
    have ih := tnL_mem (f := f) hi (l := r) fun j hj => h j (List.mem_cons_of_mem _ hj)
    have hx := h x (List.mem_cons_self ..)
    simp only [tnL, List.map_cons, List.mem_cons] at ih ⊢
    rw [ih]
    constructor
    · rintro (e | e)
      · exact .inl (by have := tn_inj (by omega) (by omega) e; omega)
      · exact .inr e
    · rintro (e | e)
      · exact .inl (by rw [e])
      · exact .inr e
theorem tnL_idx {f : Int} {i n : Nat} (hi : i < n) (hn : n ≤ 1000) : idxI (tn f (i + 1)) (tnL f (List.range n)) = i := by
  have key : ∀ (c s : Nat), s + c = n → s ≤ i → idxI (tn f (i + 1)) (tnL f (List.range' s c)) = i - s := by
    intro c
    induction c with
    | zero => intro s h1 h2; omega
    | succ c ih =>
      intro s h1 h2
      rw [List.range'_succ, tnL, List.map_cons, idxI]
      by_cases e : s = i
      · subst e
        rw [eqK_t.2 rfl]
        exact (Nat.sub_self _).symm
      · rw [eqK_f.2 (fun h => e (by have := tn_inj (c := f) (i := i + 1) (j := s + 1) (by omega) (by omega) h; omega))]
        have := ih (s + 1) (by omega) (by omega)
        rw [tnL] at this
        dsimp only
        rw [this]; omega
  have := key n 0 (by omega) (by omega)
  rw [← List.range_eq_range'] at this
  rw [this]; rfl
section
variable {f : Int} {w : Wy} {p : Ro.P} {m : Nat}
theorem Rel.cmM (h : Rel f w p) (hI : Ro.Inv p) {i : Nat} (hi : i < p.ms.length) : decide (idxI (tn f (i + 1)) w.m.cs < w.m.cs.length) = decide (i ∈ p.cm) := by
  have h3 := hI.n3
  rw [h.cs]
  refine decide_eq_decide.2 (idxI_mem.trans ?_)
  rw [List.mem_reverse]
  exact tnL_mem (by omega) fun j hj => by have := hI.cmN j hj; omega
theorem Rel.akM (h : Rel f w p) (hI : Ro.Inv p) {i : Nat} (hi : i < p.ms.length) : decide (idxI (tn f (i + 1)) w.m.as_ < w.m.as_.length) = decide (i ∈ p.ak) := by
  have h3 := hI.n3
  rw [h.as_]
  refine decide_eq_decide.2 (idxI_mem.trans ?_)
  rw [List.mem_reverse]
  exact tnL_mem (by omega) fun j hj => by have := hI.cmN j (hI.akC j hj); omega
theorem Rel.has (h : Rel f w p) (hI : Ro.Inv p) {i : Nat} (hi : i < p.ms.length) : hasB w.c.cum w.c.xs (tn f (i + 1)) = decide (i ∈ p.cm) := by
  have h3 := hI.n3
  obtain ⟨m, g⟩ := h.gi
  rw [g.has h.ff (by omega)]
  have e0 : cameB w.m.cs (tn f (i + 1)) f = inR (tn f (i + 1)) w.m.cs := by
    unfold cameB
    have := tn_sub (c := f) (i := 0) (j := i + 1) (by omega) (by omega)
    rw [tn_zero h.ff, if_neg (by omega)] at this
    rw [this, decide_eq_false (by omega)]
  rw [e0]
  have h1 : tn f (i + 1) ∈ w.m.cs ↔ i ∈ p.cm := by
    rw [h.cs, List.mem_reverse]
    exact tnL_mem (by omega) fun j hj => by have := hI.cmN j hj; omega
  by_cases e : i ∈ p.cm
  · rw [decide_eq_true e]; exact inR_mem.2 (h1.2 e)
  · rw [decide_eq_false e]
    cases e2 : inR (tn f (i + 1)) w.m.cs
    · rfl
    · exact absurd (h1.1 (inR_mem.1 e2)) e
theorem Rel.ahead (h : Rel f w p) (hI : Ro.Inv p) {i : Nat} (hi : i < p.ms.length) : aheadW w.m.ks w.m.ss w.m.cs (tn f (i + 1)) ((p.ms.getD i (0, 0)).1 : Int) = Ro.aheadB p.ms p.cm i := by
  have h3 := hI.n3
  have hlen : w.m.ks.length = p.ms.length := by rw [h.ks]; simp [tnL]
  have hk : ∀ j, j < p.ms.length → w.m.ks.getD j 0 = tn f (j + 1) := fun j hj => by
    rw [h.ks, List.getD_eq_getElem?_getD, tnL, List.getElem?_map, List.getElem?_range hj]; rfl
  have hs : ∀ j, j < p.ms.length → w.m.ss.getD j 0 = ((p.ms.getD j (0, 0)).1 : Int) := fun j hj => by
    rw [h.mss]
    exact getDm (fun x : Nat × Int => (x.1 : Int)) p.ms j (0, 0)
  have hc : ∀ j, j < p.ms.length → (tn f (j + 1) ∈ w.m.cs ↔ j ∈ p.cm) := fun j hj => by
    rw [h.cs, List.mem_reverse]
    exact tnL_mem (by omega) fun j hj => by have := hI.cmN j hj; omega
  have he : ∀ j, j < p.ms.length → ((!decide (w.m.ks.getD j 0 ∈ w.m.cs) && (decide (w.m.ss.getD j 0 = ((p.ms.getD i (0, 0)).1 : Int)) && (decide (subK .u32 (tn f (i + 1)) (w.m.ks.getD j 0) < 2147483648) && !decide (w.m.ks.getD j 0 = tn f (i + 1))))) = true ↔ (j < i ∧ (p.ms.getD j (0, 0)).1 = (p.ms.getD i (0, 0)).1 ∧ j ∉ p.cm)) := fun j hj => by
    rw [hk j hj, hs j hj, tn_sub (by omega) (by omega)]
    simp only [Bool.and_eq_true, Bool.not_eq_true', decide_eq_false_iff_not, decide_eq_true_eq]
    constructor
    · rintro ⟨a1, a2, a3, a4⟩
      have hne : j ≠ i := fun e => a4 (by rw [e])
      refine ⟨?_, by omega, fun e => a1 ((hc j hj).2 e)⟩
      rcases Nat.lt_or_ge j i with h | h
      · exact h
      · rw [if_neg (by omega)] at a3; omega
    · rintro ⟨a1, a2, a3⟩
      refine ⟨fun e => a3 ((hc j hj).1 e), by omega, ?_, fun e => ?_⟩
      · rw [if_pos (by omega)]; omega
      · have := tn_inj (by omega) (by omega) e; omega
  cases ha : Ro.aheadB p.ms p.cm i with
  | true =>
    obtain ⟨j, hj, hb⟩ := List.any_eq_true.1 ha
    have hj : j < i := by simpa using hj
    simp only [Bool.and_eq_true, Bool.not_eq_true', decide_eq_false_iff_not, decide_eq_true_eq] at hb
    exact List.any_eq_true.2 ⟨j, by rw [List.mem_range]; omega, (he j (by omega)).2 ⟨hj, hb.1, hb.2⟩⟩
  | false =>
    refine List.any_eq_false.2 fun j hj hb => ?_
    have hj : j < p.ms.length := by rw [List.mem_range] at hj; omega
    obtain ⟨b1, b2, b3⟩ := (he j hj).1 hb
    have := Ro.ahead_no.1 ha j b1 b2
    exact b3 this
end
end Go.Ev
end
section
namespace Go.Ev
open Go Go.Proofs Go.Spec
def T_c3q (w : Wy) (yt : Int) (ys : Int) (yn : Int) (yq : Int) (yk : Int) (ym : Int) (yw : List Int) (t1 : Tc) (G : Wy → Prop) : Prop := match w.c.kp with
  | none => (branch (eqK yq w.c.ex) (need ((decide (((9 = 9) ∧ (((List.length w.c.qs) ≤ 16) ∧ (((0) ≤ ym) ∧ ((ym ≤ (65535)) ∧ ((List.length yw) ≤ 70368744177664))))))) && (okU16 yw)) (branch (doB yk (((List.length w.c.qs) : Nat) : Int) yw) (need (decide ((((w.k.n + 1) * 20) ≤ 140737488355328))) (G { w with c := { w.c with qs := (resetL (allOf yw (List.length w.c.qs)) w.c.qs), ex := (addK .u32 w.c.ex (1)), kp := some (yq, (1)) }, t := t1, k := (Bc.app w.k ⟨false, (0), (0), yq, (1)⟩) })) (branch (moB yk (((List.length w.c.qs) : Nat) : Int) ym) (need (decide ((((w.k.n + 1) * 20) ≤ 140737488355328))) (G { w with c := { w.c with qs := (w.c.qs ++ (List.replicate (Int.toNat ym) (0 : Int))), ex := (addK .u32 w.c.ex (1)), kp := some (yq, (1)) }, t := t1, k := (Bc.app w.k ⟨false, (0), (0), yq, (1)⟩) })) (need (decide ((((w.k.n + 1) * 20) ≤ 140737488355328))) (G { w with c := { w.c with ex := (addK .u32 w.c.ex (1)), kp := some (yq, (2)) }, t := t1, k := (Bc.app w.k ⟨false, (0), (0), yq, (2)⟩) }))))) (branch (eqK yq (subK .u32 w.c.ex (1))) (branch (Bool.not (eqK (subK .u32 w.c.ex yq) (0))) (branch (decide (((subK .u32 w.c.ex yq) < (2147483648)))) (G { w with t := t1 }) (G { w with t := t1 })) (G { w with t := t1 })) (branch (Bool.not (eqK (subK .u32 w.c.ex yq) (0))) (branch (decide (((subK .u32 w.c.ex yq) < (2147483648)))) (G { w with t := t1 }) (G { w with t := t1 })) (G { w with t := t1 }))))
  | some (kn, kv) => (branch (eqK yq w.c.ex) (need ((decide (((10 = 10) ∧ (((List.length w.c.qs) ≤ 16) ∧ (((0) ≤ ym) ∧ ((ym ≤ (65535)) ∧ ((List.length yw) ≤ 70368744177664))))))) && (okU16 yw)) (branch (doB yk (((List.length w.c.qs) : Nat) : Int) yw) (need (decide ((((w.k.n + 1) * 20) ≤ 140737488355328))) (G { w with c := { w.c with qs := (resetL (allOf yw (List.length w.c.qs)) w.c.qs), ex := (addK .u32 w.c.ex (1)), kp := some (yq, (1)) }, t := t1, k := (Bc.app w.k ⟨false, (0), (0), yq, (1)⟩) })) (branch (moB yk (((List.length w.c.qs) : Nat) : Int) ym) (need (decide ((((w.k.n + 1) * 20) ≤ 140737488355328))) (G { w with c := { w.c with qs := (w.c.qs ++ (List.replicate (Int.toNat ym) (0 : Int))), ex := (addK .u32 w.c.ex (1)), kp := some (yq, (1)) }, t := t1, k := (Bc.app w.k ⟨false, (0), (0), yq, (1)⟩) })) (need (decide ((((w.k.n + 1) * 20) ≤ 140737488355328))) (G { w with c := { w.c with ex := (addK .u32 w.c.ex (1)), kp := some (yq, (2)) }, t := t1, k := (Bc.app w.k ⟨false, (0), (0), yq, (2)⟩) }))))) (branch (eqK yq (subK .u32 w.c.ex (1))) (need (decide ((((w.k.n + 1) * 20) ≤ 140737488355328))) (G { w with t := t1, k := (Bc.app w.k ⟨false, (0), (0), kn, kv⟩) })) (branch (Bool.not (eqK (subK .u32 w.c.ex yq) (0))) (branch (decide (((subK .u32 w.c.ex yq) < (2147483648)))) (G { w with t := t1 }) (G { w with t := t1 })) (G { w with t := t1 }))))
theorem c3q_1 (w : Wy) (ha : w.a.kp = none) (hc : w.c.o = none) (hb : w.bad = false) (nn sd wk wm i : Int) (v : Mv) (ws : List Int) (yt ys yn yq yk ym : Int) (yw : List Int) (t1 : Tc) (old : Option Tc) (L : Nat) (k : Exit → Fr → St → Prop) : goY1 L k v i w ⟨3, nn, sd, wk, ws, wm⟩ ⟨false, yt, ys, yn, yq, yk, yw, ym⟩ t1 old = Again (T_c3q w yt ys yn yq yk ym yw t1 (goZ1 L k v i)) := by
  rcases w with ⟨⟨os, ps, qs, cu, xs, bs, cl, nx, ex, o, kp0⟩, ⟨os2, ps2, qs2, cu2, xs2, bs2, cl2, nx2, ex2, o2, kp⟩, ts, t, b, mc, bad⟩
  cases ha; cases hc; cases hb
  rcases o with _ | ⟨_, _, _, _⟩ <;> rcases kp with _ | ⟨_, _⟩ <;> rcases old with _ | _ <;> kernel_rfl
theorem c3q_2 (w : Wy) (ha : w.a.kp = none) (hc : w.c.o = none) (hb : w.bad = false) (v : Mv) (x : Int) (yt ys yn yq yk ym : Int) (yw : List Int) (t1 : Tc) (L : Nat) (k : Exit → Fr → St → Prop) : goY2 L k v x w ⟨false, yt, ys, yn, yq, yk, yw, ym⟩ t1 = Again (T_c3q w yt ys yn yq yk ym yw t1 (fun w => goH2 L k v (addK .i64 x 1) w)) := by
  rcases w with ⟨⟨os, ps, qs, cu, xs, bs, cl, nx, ex, o, kp0⟩, ⟨os2, ps2, qs2, cu2, xs2, bs2, cl2, nx2, ex2, o2, kp⟩, ts, t, b, mc, bad⟩
  cases ha; cases hc; cases hb
  rcases o with _ | ⟨_, _, _, _⟩ <;> rcases kp with _ | ⟨_, _⟩ <;> kernel_rfl
end Go.Ev
end
section
namespace Go.Ev
open Go Go.Proofs Go.Spec
def T_c3m (w : Wy) (yt : Int) (ys : Int) (yn : Int) (yq : Int) (yk : Int) (ym : Int) (yw : List Int) (t1 : Tc) (G : Wy → Prop) : Prop := (branch (decide (((idxI yt w.m.cs) < (List.length w.m.cs)))) (branch (hasB w.c.cum w.c.xs yt) (branch (decide (((idxI yt w.m.cs) < (List.length w.m.cs)))) (need (decide ((((w.k.n + 1) * 20) ≤ 140737488355328))) (G { w with t := t1, k := (Bc.app w.k ⟨true, yt, ys, (0), (0)⟩) })) (need (decide ((((w.k.n + 1) * 20) ≤ 140737488355328))) (G { w with t := t1, k := (Bc.app w.k ⟨true, yt, ys, (0), (0)⟩), m := { w.m with cs := (w.m.cs ++ [yt]), cb := (w.m.cb ++ [((w.m.cc : Nat) : Int)]), cc := (w.m.cc + 1) } }))) (branch (decide (((IntKind.wrap .i64 ys) ≥ (((List.length w.c.qs) : Nat) : Int)))) (branch (decide (((idxI yt w.m.cs) < (List.length w.m.cs)))) (need (decide ((((w.k.n + 1) * 20) ≤ 140737488355328))) (G { w with t := t1, k := (Bc.app w.k ⟨true, yt, ys, (0), (0)⟩), bad := true })) (need (decide ((((w.k.n + 1) * 20) ≤ 140737488355328))) (G { w with t := t1, k := (Bc.app w.k ⟨true, yt, ys, (0), (0)⟩), m := { w.m with cs := (w.m.cs ++ [yt]), cb := (w.m.cb ++ [((w.m.cc : Nat) : Int)]), cc := (w.m.cc + 1) }, bad := true }))) (need (decide (((0) ≤ ys))) (need (decide ((ys < (((List.length w.c.qs) : Nat) : Int)))) (need (decide (((0 + (Int.toNat ys)) < (List.length w.c.qs)))) (branch (Bool.not (eqK (List.getD w.c.qs (0 + (Int.toNat ys)) (0)) yn)) (branch (decide (((idxI yt w.m.cs) < (List.length w.m.cs)))) (need (decide ((((w.k.n + 1) * 20) ≤ 140737488355328))) (G { w with t := t1, k := (Bc.app w.k ⟨true, yt, ys, (0), (0)⟩), bad := true })) (need (decide ((((w.k.n + 1) * 20) ≤ 140737488355328))) (G { w with t := t1, k := (Bc.app w.k ⟨true, yt, ys, (0), (0)⟩), m := { w.m with cs := (w.m.cs ++ [yt]), cb := (w.m.cb ++ [((w.m.cc : Nat) : Int)]), cc := (w.m.cc + 1) }, bad := true }))) (need ((Bool.not (hasB w.c.cum w.c.xs yt)) && (decide ((((subK .u32 yt w.c.cum) ≤ (65535)) ∧ ((List.length w.c.xs) ≤ 70368744177664))))) (need (decide (((0) ≤ ys))) (need (decide ((ys < (((List.length w.c.qs) : Nat) : Int)))) (need (decide (((0 + (Int.toNat ys)) < (List.length w.c.qs)))) (need (decide (((0) ≤ ys))) (need (decide ((ys < (((List.length w.c.qs) : Nat) : Int)))) (need (decide (((0 + (Int.toNat ys)) < (List.length w.c.qs)))) (branch (decide (((idxI yt w.m.cs) < (List.length w.m.cs)))) (need (decide ((((w.k.n + 1) * 20) ≤ 140737488355328))) (G { w with c := { w.c with qs := (List.set w.c.qs (0 + (Int.toNat ys)) (addK .u16 (List.getD w.c.qs (0 + (Int.toNat ys)) (0)) (1))), cum := (Prod.fst (advA yt w.c.cum w.c.xs w.c.bs w.c.cl)), xs := (advA yt w.c.cum w.c.xs w.c.bs w.c.cl).snd.fst, bs := (advA yt w.c.cum w.c.xs w.c.bs w.c.cl).snd.snd, cl := (w.c.cl + 1) }, t := t1, k := (Bc.app w.k ⟨true, yt, ys, (0), (0)⟩), bad := true })) (need (decide ((((w.k.n + 1) * 20) ≤ 140737488355328))) (G { w with c := { w.c with qs := (List.set w.c.qs (0 + (Int.toNat ys)) (addK .u16 (List.getD w.c.qs (0 + (Int.toNat ys)) (0)) (1))), cum := (Prod.fst (advA yt w.c.cum w.c.xs w.c.bs w.c.cl)), xs := (advA yt w.c.cum w.c.xs w.c.bs w.c.cl).snd.fst, bs := (advA yt w.c.cum w.c.xs w.c.bs w.c.cl).snd.snd, cl := (w.c.cl + 1) }, t := t1, k := (Bc.app w.k ⟨true, yt, ys, (0), (0)⟩), m := { w.m with cs := (w.m.cs ++ [yt]), cb := (w.m.cb ++ [((w.m.cc : Nat) : Int)]), cc := (w.m.cc + 1) }, bad := true })))))))))))))))) (need ((decide (((78 = 78) ∧ ((List.length w.m.ks) = w.m.cl)))) && (bornB w.m.bs w.m.cl)) (branch (aheadW w.m.ks w.m.ss w.m.cs yt ys) (need (decide (((0 + (List.length yw)) ≤ (List.length yw)))) (need (decide ((((t1.n + 1) * 64) ≤ 140737488355328))) (G { w with t := (Tc.app t1 ⟨true, yt, ys, yn, yq, yk, (List.take (List.length yw) yw), ym⟩) }))) (branch (hasB w.c.cum w.c.xs yt) (branch (decide (((idxI yt w.m.cs) < (List.length w.m.cs)))) (need (decide ((((w.k.n + 1) * 20) ≤ 140737488355328))) (G { w with t := t1, k := (Bc.app w.k ⟨true, yt, ys, (0), (0)⟩), bad := true })) (need (decide ((((w.k.n + 1) * 20) ≤ 140737488355328))) (G { w with t := t1, k := (Bc.app w.k ⟨true, yt, ys, (0), (0)⟩), m := { w.m with cs := (w.m.cs ++ [yt]), cb := (w.m.cb ++ [((w.m.cc : Nat) : Int)]), cc := (w.m.cc + 1) }, bad := true }))) (branch (decide (((IntKind.wrap .i64 ys) ≥ (((List.length w.c.qs) : Nat) : Int)))) (branch (decide (((idxI yt w.m.cs) < (List.length w.m.cs)))) (need (decide ((((w.k.n + 1) * 20) ≤ 140737488355328))) (G { w with t := t1, k := (Bc.app w.k ⟨true, yt, ys, (0), (0)⟩), bad := true })) (need (decide ((((w.k.n + 1) * 20) ≤ 140737488355328))) (G { w with t := t1, k := (Bc.app w.k ⟨true, yt, ys, (0), (0)⟩), m := { w.m with cs := (w.m.cs ++ [yt]), cb := (w.m.cb ++ [((w.m.cc : Nat) : Int)]), cc := (w.m.cc + 1) }, bad := true }))) (need (decide (((0) ≤ ys))) (need (decide ((ys < (((List.length w.c.qs) : Nat) : Int)))) (need (decide (((0 + (Int.toNat ys)) < (List.length w.c.qs)))) (branch (Bool.not (eqK (List.getD w.c.qs (0 + (Int.toNat ys)) (0)) yn)) (branch (decide (((idxI yt w.m.cs) < (List.length w.m.cs)))) (need (decide ((((w.k.n + 1) * 20) ≤ 140737488355328))) (G { w with t := t1, k := (Bc.app w.k ⟨true, yt, ys, (0), (0)⟩), bad := true })) (need (decide ((((w.k.n + 1) * 20) ≤ 140737488355328))) (G { w with t := t1, k := (Bc.app w.k ⟨true, yt, ys, (0), (0)⟩), m := { w.m with cs := (w.m.cs ++ [yt]), cb := (w.m.cb ++ [((w.m.cc : Nat) : Int)]), cc := (w.m.cc + 1) }, bad := true }))) (need ((Bool.not (hasB w.c.cum w.c.xs yt)) && (decide ((((subK .u32 yt w.c.cum) ≤ (65535)) ∧ ((List.length w.c.xs) ≤ 70368744177664))))) (need (decide (((0) ≤ ys))) (need (decide ((ys < (((List.length w.c.qs) : Nat) : Int)))) (need (decide (((0 + (Int.toNat ys)) < (List.length w.c.qs)))) (need (decide (((0) ≤ ys))) (need (decide ((ys < (((List.length w.c.qs) : Nat) : Int)))) (need (decide (((0 + (Int.toNat ys)) < (List.length w.c.qs)))) (branch (decide (((idxI yt w.m.cs) < (List.length w.m.cs)))) (need (decide ((((w.k.n + 1) * 20) ≤ 140737488355328))) (G { w with c := { w.c with qs := (List.set w.c.qs (0 + (Int.toNat ys)) (addK .u16 (List.getD w.c.qs (0 + (Int.toNat ys)) (0)) (1))), cum := (Prod.fst (advA yt w.c.cum w.c.xs w.c.bs w.c.cl)), xs := (advA yt w.c.cum w.c.xs w.c.bs w.c.cl).snd.fst, bs := (advA yt w.c.cum w.c.xs w.c.bs w.c.cl).snd.snd, cl := (w.c.cl + 1) }, t := t1, k := (Bc.app w.k ⟨true, yt, ys, (0), (0)⟩) })) (need (decide ((((w.k.n + 1) * 20) ≤ 140737488355328))) (G { w with c := { w.c with qs := (List.set w.c.qs (0 + (Int.toNat ys)) (addK .u16 (List.getD w.c.qs (0 + (Int.toNat ys)) (0)) (1))), cum := (Prod.fst (advA yt w.c.cum w.c.xs w.c.bs w.c.cl)), xs := (advA yt w.c.cum w.c.xs w.c.bs w.c.cl).snd.fst, bs := (advA yt w.c.cum w.c.xs w.c.bs w.c.cl).snd.snd, cl := (w.c.cl + 1) }, t := t1, k := (Bc.app w.k ⟨true, yt, ys, (0), (0)⟩), m := { w.m with cs := (w.m.cs ++ [yt]), cb := (w.m.cb ++ [((w.m.cc : Nat) : Int)]), cc := (w.m.cc + 1) } })))))))))))))))))))
def S_c3m_1 (o : Option (Int × Int × List Int × Int)) (kp : Option (Int × Int)) (old : Option Tc) : Prop := ∀ (os ps qs xs bs os2 ps2 qs2 xs2 bs2 : List Int) (cu nx ex cu2 nx2 ex2 ts : Int) (cl cl2 : Nat) (t : Tc) (b : Bc) (mc : Mc) (nn sd wk wm i : Int) (v : Mv) (ws : List Int) (yt ys yn yq yk ym : Int) (yw : List Int) (t1 : Tc) (L : Nat) (k : Exit → Fr → St → Prop), goY1 L k v i ⟨⟨os, ps, qs, cu, xs, bs, cl, nx, ex, o, none⟩, ⟨os2, ps2, qs2, cu2, xs2, bs2, cl2, nx2, ex2, none, kp⟩, ts, t, b, mc, false⟩ ⟨3, nn, sd, wk, ws, wm⟩ ⟨true, yt, ys, yn, yq, yk, yw, ym⟩ t1 old = Again (T_c3m ⟨⟨os, ps, qs, cu, xs, bs, cl, nx, ex, o, none⟩, ⟨os2, ps2, qs2, cu2, xs2, bs2, cl2, nx2, ex2, none, kp⟩, ts, t, b, mc, false⟩ yt ys yn yq yk ym yw t1 (goZ1 L k v i))
theorem c3m_1_nnn : S_c3m_1 none none none := by
  unfold S_c3m_1
  intros
  kernel_rfl
theorem c3m_1_nno (t0 : Tc) : S_c3m_1 none none (some t0) := by
  unfold S_c3m_1
  intros
  kernel_rfl
theorem c3m_1_nkn (p1 p2 : Int) : S_c3m_1 none (some (p1, p2)) none := by
  unfold S_c3m_1
  intros
  kernel_rfl
theorem c3m_1_nko (p1 p2 : Int) (t0 : Tc) : S_c3m_1 none (some (p1, p2)) (some t0) := by
  unfold S_c3m_1
  intros
  kernel_rfl
theorem c3m_1_snn (o1 o2 o4 : Int) (o3 : List Int) : S_c3m_1 (some (o1, o2, o3, o4)) none none := by
  unfold S_c3m_1
  intros
  kernel_rfl
theorem c3m_1_sno (o1 o2 o4 : Int) (o3 : List Int) (t0 : Tc) : S_c3m_1 (some (o1, o2, o3, o4)) none (some t0) := by
  unfold S_c3m_1
  intros
  kernel_rfl
theorem c3m_1_skn (o1 o2 o4 : Int) (o3 : List Int) (p1 p2 : Int) : S_c3m_1 (some (o1, o2, o3, o4)) (some (p1, p2)) none := by
  unfold S_c3m_1
  intros
  kernel_rfl
theorem c3m_1_sko (o1 o2 o4 : Int) (o3 : List Int) (p1 p2 : Int) (t0 : Tc) : S_c3m_1 (some (o1, o2, o3, o4)) (some (p1, p2)) (some t0) := by
  unfold S_c3m_1
  intros
  kernel_rfl
theorem c3m_1_all : ∀ (o : Option (Int × Int × List Int × Int)) (kp : Option (Int × Int)) (old : Option Tc), S_c3m_1 o kp old
  | none, none, none => c3m_1_nnn
  | none, none, some t0 => c3m_1_nno t0
  | none, some (p1, p2), none => c3m_1_nkn p1 p2
  | none, some (p1, p2), some t0 => c3m_1_nko p1 p2 t0
  | some (o1, o2, o3, o4), none, none => c3m_1_snn o1 o2 o4 o3
  | some (o1, o2, o3, o4), none, some t0 => c3m_1_sno o1 o2 o4 o3 t0
  | some (o1, o2, o3, o4), some (p1, p2), none => c3m_1_skn o1 o2 o4 o3 p1 p2
  | some (o1, o2, o3, o4), some (p1, p2), some t0 => c3m_1_sko o1 o2 o4 o3 p1 p2 t0
theorem c3m_1 (w : Wy) (ha : w.a.kp = none) (hc : w.c.o = none) (hb : w.bad = false) (nn sd wk wm i : Int) (v : Mv) (ws : List Int) (yt ys yn yq yk ym : Int) (yw : List Int) (t1 : Tc) (old : Option Tc) (L : Nat) (k : Exit → Fr → St → Prop) : goY1 L k v i w ⟨3, nn, sd, wk, ws, wm⟩ ⟨true, yt, ys, yn, yq, yk, yw, ym⟩ t1 old = Again (T_c3m w yt ys yn yq yk ym yw t1 (goZ1 L k v i)) := by
  rcases w with ⟨⟨os, ps, qs, cu, xs, bs, cl, nx, ex, o, kp0⟩, ⟨os2, ps2, qs2, cu2, xs2, bs2, cl2, nx2, ex2, o2, kp⟩, ts, t, b, mc, bad⟩
  cases ha; cases hc; cases hb
  exact c3m_1_all o kp old os ps qs xs bs os2 ps2 qs2 xs2 bs2 cu nx ex cu2 nx2 ex2 ts cl cl2 t b mc nn sd wk wm i v ws yt ys yn yq yk ym yw t1 L k
end Go.Ev
end
section
namespace Go.Ev
open Go Go.Proofs Go.Spec
def T_c4q (w : Wy) (yt : Int) (ys : Int) (yn : Int) (yq : Int) (yk : Int) (ym : Int) (yw : List Int) (t1 : Tc) (G : Wy → Prop) : Prop := (G { w with t := t1 })
theorem c4q_1 (w : Wy) (ha : w.a.kp = none) (hc : w.c.o = none) (hb : w.bad = false) (nn sd wk wm i : Int) (v : Mv) (ws : List Int) (yt ys yn yq yk ym : Int) (yw : List Int) (t1 : Tc) (old : Option Tc) (L : Nat) (k : Exit → Fr → St → Prop) : goY1 L k v i w ⟨4, nn, sd, wk, ws, wm⟩ ⟨false, yt, ys, yn, yq, yk, yw, ym⟩ t1 old = Again (T_c4q w yt ys yn yq yk ym yw t1 (goZ1 L k v i)) := by
  rcases w with ⟨⟨os, ps, qs, cu, xs, bs, cl, nx, ex, o, kp0⟩, ⟨os2, ps2, qs2, cu2, xs2, bs2, cl2, nx2, ex2, o2, kp⟩, ts, t, b, mc, bad⟩
  cases ha; cases hc; cases hb
  rcases o with _ | ⟨_, _, _, _⟩ <;> rcases kp with _ | ⟨_, _⟩ <;> rcases old with _ | _ <;> kernel_rfl
def T_c4m (w : Wy) (yt : Int) (ys : Int) (yn : Int) (yq : Int) (yk : Int) (ym : Int) (yw : List Int) (t1 : Tc) (G : Wy → Prop) : Prop := (need (decide (((0 + (List.length yw)) ≤ (List.length yw)))) (need (decide ((((t1.n + 1) * 64) ≤ 140737488355328))) (G { w with t := (Tc.app t1 ⟨true, yt, ys, yn, yq, yk, (List.take (List.length yw) yw), ym⟩) })))
theorem c4m_1 (w : Wy) (ha : w.a.kp = none) (hc : w.c.o = none) (hb : w.bad = false) (nn sd wk wm i : Int) (v : Mv) (ws : List Int) (yt ys yn yq yk ym : Int) (yw : List Int) (t1 : Tc) (old : Option Tc) (L : Nat) (k : Exit → Fr → St → Prop) : goY1 L k v i w ⟨4, nn, sd, wk, ws, wm⟩ ⟨true, yt, ys, yn, yq, yk, yw, ym⟩ t1 old = Again (T_c4m w yt ys yn yq yk ym yw t1 (goZ1 L k v i)) := by
  rcases w with ⟨⟨os, ps, qs, cu, xs, bs, cl, nx, ex, o, kp0⟩, ⟨os2, ps2, qs2, cu2, xs2, bs2, cl2, nx2, ex2, o2, kp⟩, ts, t, b, mc, bad⟩
  cases ha; cases hc; cases hb
  rcases o with _ | ⟨_, _, _, _⟩ <;> rcases kp with _ | ⟨_, _⟩ <;> rcases old with _ | _ <;> kernel_rfl
def T_c7r (w : Wy) (zt : Int) (zs : Int) (zr : Int) (zv : Int) (k1 : Bc) (G : Wy → Prop) : Prop := (G { w with k := k1 })
theorem c7r_1 (w : Wy) (ha : w.a.kp = none) (hc : w.c.o = none) (hb : w.bad = false) (nn sd wk wm i : Int) (v : Mv) (ws : List Int) (zt zs zr zv : Int) (k1 : Bc) (old : Option Bc) (L : Nat) (k : Exit → Fr → St → Prop) : goX1 L k v i w ⟨7, nn, sd, wk, ws, wm⟩ ⟨false, zt, zs, zr, zv⟩ k1 old = Again (T_c7r w zt zs zr zv k1 (goZ1 L k v i)) := by
  rcases w with ⟨⟨os, ps, qs, cu, xs, bs, cl, nx, ex, o, kp0⟩, ⟨os2, ps2, qs2, cu2, xs2, bs2, cl2, nx2, ex2, o2, kp⟩, ts, t, b, mc, bad⟩
  cases ha; cases hc; cases hb
  rcases o with _ | ⟨_, _, _, _⟩ <;> rcases kp with _ | ⟨_, _⟩ <;> rcases old with _ | _ <;> kernel_rfl
def T_c7a (w : Wy) (zt : Int) (zs : Int) (zr : Int) (zv : Int) (k1 : Bc) (G : Wy → Prop) : Prop := (branch (decide (((idxI zt w.m.ks) < (List.length w.m.ks)))) (need (decide ((((w.t.n + 1) * 64) ≤ 140737488355328))) (G { w with t := (Tc.app w.t ⟨true, (List.getD w.m.ts (idxI zt w.m.ks) (0)), (List.getD w.m.ss (idxI zt w.m.ks) (0)), (List.getD w.m.ns (idxI zt w.m.ks) (0)), (0), (0), [], (0)⟩), k := k1 })) (need (decide ((((w.t.n + 1) * 64) ≤ 140737488355328))) (G { w with t := (Tc.app w.t ⟨true, (0), (0), (0), (0), (0), [], (0)⟩), k := k1 })))
theorem c7a_1 (w : Wy) (ha : w.a.kp = none) (hc : w.c.o = none) (hb : w.bad = false) (nn sd wk wm i : Int) (v : Mv) (ws : List Int) (zt zs zr zv : Int) (k1 : Bc) (old : Option Bc) (L : Nat) (k : Exit → Fr → St → Prop) : goX1 L k v i w ⟨7, nn, sd, wk, ws, wm⟩ ⟨true, zt, zs, zr, zv⟩ k1 old = Again (T_c7a w zt zs zr zv k1 (goZ1 L k v i)) := by
  rcases w with ⟨⟨os, ps, qs, cu, xs, bs, cl, nx, ex, o, kp0⟩, ⟨os2, ps2, qs2, cu2, xs2, bs2, cl2, nx2, ex2, o2, kp⟩, ts, t, b, mc, bad⟩
  cases ha; cases hc; cases hb
  rcases o with _ | ⟨_, _, _, _⟩ <;> rcases kp with _ | ⟨_, _⟩ <;> rcases old with _ | _ <;> kernel_rfl
end Go.Ev
end
section
namespace Go.Ev
open Go Go.Proofs Go.Spec
def T_c6r (w : Wy) (zt : Int) (zs : Int) (zr : Int) (zv : Int) (k1 : Bc) (G : Wy → Prop) : Prop := match w.a.o with
  | none => (G { w with k := k1 })
  | some (on, ok, oss, om) => (need ((decide ((((List.length w.a.os) ≤ 16) ∧ (((List.length w.a.ps) ≤ 16) ∧ (((0) ≤ om) ∧ ((om ≤ (65535)) ∧ ((List.length oss) ≤ 70368744177664))))))) && (allLt (List.length w.a.os) oss)) (branch (befQ on zr) (G { w with k := k1 }) (branch (eqK zr on) (branch (eqK zv (1)) (branch (eqK ok (2)) (G { w with a := { w.a with os := (w.a.os ++ (List.replicate (Int.toNat om) (0 : Int))), ps := (w.a.ps ++ (List.replicate (Int.toNat om) (0 : Int))), o := none }, k := k1 }) (G { w with a := { w.a with os := (resetL (allOf oss (List.length w.a.os)) w.a.os), o := none }, k := k1 })) (G { w with a := { w.a with o := none }, k := k1 })) (G { w with k := k1 }))))
theorem c6r_1 (w : Wy) (ha : w.a.kp = none) (hc : w.c.o = none) (hb : w.bad = false) (nn sd wk wm i : Int) (v : Mv) (ws : List Int) (zt zs zr zv : Int) (k1 : Bc) (old : Option Bc) (L : Nat) (k : Exit → Fr → St → Prop) : goX1 L k v i w ⟨6, nn, sd, wk, ws, wm⟩ ⟨false, zt, zs, zr, zv⟩ k1 old = Again (T_c6r w zt zs zr zv k1 (goZ1 L k v i)) := by
  rcases w with ⟨⟨os, ps, qs, cu, xs, bs, cl, nx, ex, o, kp0⟩, ⟨os2, ps2, qs2, cu2, xs2, bs2, cl2, nx2, ex2, o2, kp⟩, ts, t, b, mc, bad⟩
  cases ha; cases hc; cases hb
  rcases o with _ | ⟨_, _, _, _⟩ <;> rcases kp with _ | ⟨_, _⟩ <;> rcases old with _ | _ <;> kernel_rfl
theorem c6r_2 (w : Wy) (ha : w.a.kp = none) (hc : w.c.o = none) (hb : w.bad = false) (v : Mv) (x : Int) (zt zs zr zv : Int) (k1 : Bc) (L : Nat) (k : Exit → Fr → St → Prop) : goX2 L k v x w ⟨false, zt, zs, zr, zv⟩ k1 = Again (T_c6r w zt zs zr zv k1 (fun w => goH2 L k v (addK .i64 x 1) w)) := by
  rcases w with ⟨⟨os, ps, qs, cu, xs, bs, cl, nx, ex, o, kp0⟩, ⟨os2, ps2, qs2, cu2, xs2, bs2, cl2, nx2, ex2, o2, kp⟩, ts, t, b, mc, bad⟩
  cases ha; cases hc; cases hb
  rcases o with _ | ⟨_, _, _, _⟩ <;> rcases kp with _ | ⟨_, _⟩ <;> kernel_rfl
theorem c6r_3 (w : Wy) (ha : w.a.kp = none) (hc : w.c.o = none) (hb : w.bad = false) (v : Mv) (zt zs zr zv : Int) (k1 : Bc) (L : Nat) (k : Exit → Fr → St → Prop) : goX3 L k v w ⟨false, zt, zs, zr, zv⟩ k1 = Again (T_c6r w zt zs zr zv k1 (fun w => goH3 L k v w)) := by
  rcases w with ⟨⟨os, ps, qs, cu, xs, bs, cl, nx, ex, o, kp0⟩, ⟨os2, ps2, qs2, cu2, xs2, bs2, cl2, nx2, ex2, o2, kp⟩, ts, t, b, mc, bad⟩
  cases ha; cases hc; cases hb
  rcases o with _ | ⟨_, _, _, _⟩ <;> rcases kp with _ | ⟨_, _⟩ <;> kernel_rfl
end Go.Ev
end
section
namespace Go.Ev
open Go Go.Proofs Go.Spec
def T_c6a (w : Wy) (zt : Int) (zs : Int) (zr : Int) (zv : Int) (k1 : Bc) (G : Wy → Prop) : Prop := (branch (decide (((idxI zt w.m.as_) < (List.length w.m.as_)))) (G { w with k := k1 }) (branch (decide (((idxI zt w.m.as_) < (List.length w.m.as_)))) (branch (decide (((IntKind.wrap .i64 zs) ≥ (((List.length w.a.os) : Nat) : Int)))) (G { w with k := k1, bad := true }) (need (decide (((0) ≤ zs))) (need (decide ((zs < (((List.length w.a.ps) : Nat) : Int)))) (need (decide (((0 + (Int.toNat zs)) < (List.length w.a.ps)))) (branch (eqK (List.getD w.a.ps (0 + (Int.toNat zs)) (0)) (0)) (G { w with k := k1, bad := true }) (need (decide (((0) ≤ zs))) (need (decide ((zs < (((List.length w.a.ps) : Nat) : Int)))) (need (decide (((0 + (Int.toNat zs)) < (List.length w.a.ps)))) (need (decide (((0) ≤ zs))) (need (decide ((zs < (((List.length w.a.ps) : Nat) : Int)))) (need (decide (((0 + (Int.toNat zs)) < (List.length w.a.ps)))) (G { w with a := { w.a with ps := (List.set w.a.ps (0 + (Int.toNat zs)) (subK .u16 (List.getD w.a.ps (0 + (Int.toNat zs)) (0)) (1))) }, k := k1 })))))))))))) (branch (decide (((IntKind.wrap .i64 zs) ≥ (((List.length w.a.os) : Nat) : Int)))) (G { w with k := k1, m := { w.m with as_ := (w.m.as_ ++ [zt]), ab := (w.m.ab ++ [((w.m.ac : Nat) : Int)]), ac := (w.m.ac + 1) }, bad := true }) (need (decide (((0) ≤ zs))) (need (decide ((zs < (((List.length w.a.ps) : Nat) : Int)))) (need (decide (((0 + (Int.toNat zs)) < (List.length w.a.ps)))) (branch (eqK (List.getD w.a.ps (0 + (Int.toNat zs)) (0)) (0)) (G { w with k := k1, m := { w.m with as_ := (w.m.as_ ++ [zt]), ab := (w.m.ab ++ [((w.m.ac : Nat) : Int)]), ac := (w.m.ac + 1) }, bad := true }) (need (decide (((0) ≤ zs))) (need (decide ((zs < (((List.length w.a.ps) : Nat) : Int)))) (need (decide (((0 + (Int.toNat zs)) < (List.length w.a.ps)))) (need (decide (((0) ≤ zs))) (need (decide ((zs < (((List.length w.a.ps) : Nat) : Int)))) (need (decide (((0 + (Int.toNat zs)) < (List.length w.a.ps)))) (G { w with a := { w.a with ps := (List.set w.a.ps (0 + (Int.toNat zs)) (subK .u16 (List.getD w.a.ps (0 + (Int.toNat zs)) (0)) (1))) }, k := k1, m := { w.m with as_ := (w.m.as_ ++ [zt]), ab := (w.m.ab ++ [((w.m.ac : Nat) : Int)]), ac := (w.m.ac + 1) } }))))))))))))))
theorem c6a_1 (w : Wy) (ha : w.a.kp = none) (hc : w.c.o = none) (hb : w.bad = false) (nn sd wk wm i : Int) (v : Mv) (ws : List Int) (zt zs zr zv : Int) (k1 : Bc) (old : Option Bc) (L : Nat) (k : Exit → Fr → St → Prop) : goX1 L k v i w ⟨6, nn, sd, wk, ws, wm⟩ ⟨true, zt, zs, zr, zv⟩ k1 old = Again (T_c6a w zt zs zr zv k1 (goZ1 L k v i)) := by
  rcases w with ⟨⟨os, ps, qs, cu, xs, bs, cl, nx, ex, o, kp0⟩, ⟨os2, ps2, qs2, cu2, xs2, bs2, cl2, nx2, ex2, o2, kp⟩, ts, t, b, mc, bad⟩
  cases ha; cases hc; cases hb
  rcases o with _ | ⟨_, _, _, _⟩ <;> rcases kp with _ | ⟨_, _⟩ <;> rcases old with _ | _ <;> kernel_rfl
theorem c6a_2 (w : Wy) (ha : w.a.kp = none) (hc : w.c.o = none) (hb : w.bad = false) (v : Mv) (x : Int) (zt zs zr zv : Int) (k1 : Bc) (L : Nat) (k : Exit → Fr → St → Prop) : goX2 L k v x w ⟨true, zt, zs, zr, zv⟩ k1 = Again (T_c6a w zt zs zr zv k1 (fun w => goH2 L k v (addK .i64 x 1) w)) := by
  rcases w with ⟨⟨os, ps, qs, cu, xs, bs, cl, nx, ex, o, kp0⟩, ⟨os2, ps2, qs2, cu2, xs2, bs2, cl2, nx2, ex2, o2, kp⟩, ts, t, b, mc, bad⟩
  cases ha; cases hc; cases hb
  rcases o with _ | ⟨_, _, _, _⟩ <;> rcases kp with _ | ⟨_, _⟩ <;> kernel_rfl
theorem c6a_3 (w : Wy) (ha : w.a.kp = none) (hc : w.c.o = none) (hb : w.bad = false) (v : Mv) (zt zs zr zv : Int) (k1 : Bc) (L : Nat) (k : Exit → Fr → St → Prop) : goX3 L k v w ⟨true, zt, zs, zr, zv⟩ k1 = Again (T_c6a w zt zs zr zv k1 (fun w => goH3 L k v w)) := by
  rcases w with ⟨⟨os, ps, qs, cu, xs, bs, cl, nx, ex, o, kp0⟩, ⟨os2, ps2, qs2, cu2, xs2, bs2, cl2, nx2, ex2, o2, kp⟩, ts, t, b, mc, bad⟩
  cases ha; cases hc; cases hb
  rcases o with _ | ⟨_, _, _, _⟩ <;> rcases kp with _ | ⟨_, _⟩ <;> kernel_rfl
end Go.Ev
end
section
namespace Go.Ev
open Go Go.Proofs Go.Spec
theorem bTe {a b : Prop} : branch true a b = a := rfl
theorem bFe {a b : Prop} : branch false a b = b := rfl
theorem add16 {a b : Int} (h : 0 ≤ a + b ∧ a + b ≤ 65535) : addK .u16 a b = a + b := by rw [addK_eq, IntKind.wrap_u16]; omega
theorem sub16 {a b : Int} (h : 0 ≤ a - b ∧ a - b ≤ 65535) : subK .u16 a b = a - b := by rw [subK_eq, IntKind.wrap_u16]; omega
theorem add32 {a b : Int} (h : 0 ≤ a + b ∧ a + b ≤ 4294967295) : addK .u32 a b = a + b := by rw [addK_eq, IntKind.wrap_u32]; omega
theorem sub32 {a b : Int} (h : 0 ≤ a - b ∧ a - b ≤ 4294967295) : subK .u32 a b = a - b := by rw [subK_eq, IntKind.wrap_u32]; omega
theorem wr64 {a : Int} (h : 0 ≤ a ∧ a ≤ 4294967295) : IntKind.wrap .i64 a = a := Go.IntWalk.i64_in _ (by omega)
section
variable {f : Int} {w : Wy} {p : Ro.P} {m : Nat} {G : Wy → Prop}
theorem inn_le (hI : Ro.Inv p) (hz : SzO p m) {s : Nat} (hs : s < p.out.length) : p.inn.getD s 0 ≤ m := by
  by_cases hu : Ro.under p s
  · rw [hI.unS s hs hu]; omega
  · have := hI.outS s hs hu
    have := hz.ou s
    omega
theorem inn16 (hI : Ro.Inv p) : p.inn.length ≤ 16 := by
  have h1 := hI.li
  have h2 := hI.l16
  unfold Ro.moreOf at h1
  rcases hI.qs with ⟨ho, _⟩ | ⟨c, ho, _, hq, _⟩
  · rw [ho] at h1
    dsimp only at h1
    omega
  · rw [ho] at h1
    dsimp only at h1
    unfold Ro.Qok at hq
    split at h1 <;> rcases hq with ⟨_, hm, _⟩ | ⟨_, _, hm, hm2⟩ <;> omega
theorem op_le (hI : Ro.Inv p) (hz : SzO p m) {s : Nat} (hs : s < p.out.length) : 0 ≤ p.op.getD s 0 ∧ p.op.getD s 0 ≤ m := by
  have h1 := hI.opS s hs
  have h2 := Ro.cnt_le (ms := p.ms) (l := p.ak) (s := s) (n := p.ms.length)
  have := hz.ms
  omega
theorem Rel.tl (h : Rel f w p) (l : List Ro.Th) : Rel f { w with t := tcOf (l.map (yT f p.ms)) } { p with th := l } :=
  ⟨h.ff, h.bad, h.kp, h.o2, h.os, h.ps, h.nx, h.o, h.qs, h.ex, h.kq, h.gi, h.xl, h.ts, rfl, h.k, h.ks, h.mts, h.mss, h.mns, h.cs, h.as_, h.bo⟩
theorem Rel.kl (h : Rel f w p) (l : List Ro.Bk) : Rel f { w with k := bcOf (l.map (zB f p.ms)) } { p with bk := l } :=
  ⟨h.ff, h.bad, h.kp, h.o2, h.os, h.ps, h.nx, h.o, h.qs, h.ex, h.kq, h.gi, h.xl, h.ts, h.t, rfl, h.ks, h.mts, h.mss, h.mns, h.cs, h.as_, h.bo⟩
theorem Rel.kapp (h : Rel f w p) (b : Ro.Bk) : Bc.app w.k (zB f p.ms b) = bcOf ((p.bk ++ [b]).map (zB f p.ms)) := by rw [h.k, bcOf_app, List.map_append]; rfl
theorem Rel.tapp (h : Rel f w p) (b : Ro.Th) : Tc.app w.t (yT f p.ms b) = tcOf ((p.th ++ [b]).map (yT f p.ms)) := by rw [h.t, tcOf_app, List.map_append]; rfl
theorem Rel.kn (h : Rel f w p) : w.k.n = p.bk.length := by rw [h.k]; simp [bcOf]
theorem Rel.tn (h : Rel f w p) : w.t.n = p.th.length := by rw [h.t]; simp [tcOf]
theorem tc3m (h : Rel f w p) (hI : Ro.Inv p) (hz : SzO p m) {i : Nat} (hi : i < p.ms.length) {l : List Ro.Th} (hl : l.length ≤ 300)
    (h1 : i ∈ p.cm → ∀ w', Rel f w' { p with th := l, bk := p.bk ++ [.a i] } → G w')
    (h2 : i ∉ p.cm → Ro.aheadB p.ms p.cm i = true → ∀ w', Rel f w' { p with th := l ++ [.m i] } → G w')
    (h3 : i ∉ p.cm → Ro.aheadB p.ms p.cm i = false → ∀ w', Rel f w' { p with th := l, cm := i :: p.cm, inn := p.inn.set (Ro.sid p i) (p.inn.getD (Ro.sid p i) 0 + 1), bk := p.bk ++ [.a i] } → G w') :
    T_c3m w (Go.Ev.tn f (i + 1)) ((Ro.sid p i : Nat) : Int) (Ro.ssn p i) 0 0 0 [] (tcOf (l.map (yT f p.ms))) G := by
  have hm3 := hz.m3
  have hms := hz.ms
  have htb := hz.tb
  have hkn := h.kn
  have ha := h.ahead hI hi
  have hsid : (p.ms.getD i (0, 0)).1 = Ro.sid p i := rfl
  rw [hsid] at ha
  unfold T_c3m
  rw [h.cmM hI hi, h.has hI hi, ha]
  by_cases e : i ∈ p.cm
  · rw [decide_eq_true e]
    simp only [bTe]
    refine ndd (by omega) (h1 e _ ?_)
    have hk := h.kapp (.a i)
    have := (h.tl l).kl (p.bk ++ [.a i])
    rw [← hk] at this
    exact this
  · rw [decide_eq_false e]
    simp only [bFe]
    cases ha : Ro.aheadB p.ms p.cm i with
    | true =>
      simp only [bTe, List.take_length]
      have hh : ((tcOf (List.map (yT f p.ms) l)).n + 1) * 64 ≤ 140737488355328 := by show (List.length (List.map _ l) + 1) * 64 ≤ _; rw [List.length_map]; omega
      refine nd h.bo (ndd (Nat.le_of_eq (Nat.zero_add _)) (ndd hh (h2 e ha _ ?_)))
      have := h.tl (l ++ [.m i])
      rw [List.map_append, List.map_cons, List.map_nil, ← tcOf_app] at this
      exact this
    | false =>
      obtain ⟨d1, d2⟩ := hI.due hi e (Ro.ahead_no.1 ha)
      have hso := hI.msS i hi
      have hin := inn_le hI hz hso
      have hi0 := hI.inN _ hso
      have hil := inn16 hI
      simp only [bFe, bTe, Bool.not_false, Nat.zero_add, Int.toNat_natCast]
      rw [wr64 (by omega), h.qs, d2, eqK_t.2 rfl]
      obtain ⟨m0, g⟩ := h.gi
      have hm0 := g.hm
      have hcm : ¬ (Ro.sid p i : Int) ≥ ((p.inn.length : Nat) : Int) := by omega
      rw [decide_eq_false hcm]
      have hnh : ¬ (i + 1 ≤ m0) := fun hle => e (by
        have hh := h.has hI hi
        rw [decide_eq_false e] at hh
        have hc := (g.hs (i + 1) (by omega) (by omega)).2 (.inl hle)
        rw [h.cs, List.mem_reverse] at hc
        exact (tnL_mem (by omega) fun j hj => by have := hI.cmN j hj; omega).1 hc)
      have hcl : p.cm.length ≤ 300 := by
        have := Ro.len_sub hI.nd (l' := List.range p.ms.length) fun x hx => by rw [List.mem_range]; exact hI.cmN x hx
        rw [List.length_range] at this; omega
      have hxl := h.xl
      have hsub : subK .u32 (Go.Ev.tn f (i + 1)) w.c.cum ≤ 65535 := by
        rw [g.hc, tn_sub (by omega) (by omega), if_pos (by omega)]; omega
      obtain ⟨m', g', hg'⟩ := g.add (k := i + 1) (bs := w.c.bs) (cl := w.c.cl) (by omega) (by omega)
      simp only [bFe, bTe, Bool.not_true]
      have hadd : addK .u16 (Ro.ssn p i) 1 = p.inn.getD (Ro.sid p i) 0 + 1 := by rw [← d2]; exact add16 (by omega)
      rw [hadd]
      have hgg : (true && decide (subK .u32 (Go.Ev.tn f (i + 1)) w.c.cum ≤ 65535 ∧ w.c.xs.length ≤ 70368744177664)) = true := by rw [decide_eq_true (by omega)]; rfl
      refine nd h.bo (ndd (by omega) (ndd (by omega) (ndd (by omega) (nd hgg (ndd (by omega) (ndd (by omega) (ndd (by omega) (ndd (by omega) (ndd (by omega) (ndd (by omega) (ndd (by omega) (h3 e ha _ ?_))))))))))))
      have hk := h.kapp (.a i)
      exact ⟨h.ff, h.bad, h.kp, h.o2, h.os, h.ps, h.nx, h.o, rfl, h.ex, h.kq, ⟨m', g'⟩, show (advA (Go.Ev.tn f (i + 1)) w.c.cum w.c.xs w.c.bs w.c.cl).2.1.length ≤ p.cm.length + 1 from by omega, h.ts, rfl, hk, h.ks, h.mts, h.mss, h.mns, by show w.m.cs ++ _ = _; rw [h.cs]; simp [tnL], h.as_, h.bo⟩
end
end Go.Ev
end
section
namespace Go.Ev
open Go Go.Proofs Go.Spec
theorem idxGe_neg {m : Int} : ∀ {xs : List Int} {i : Int}, (∀ x ∈ xs, x < m) → idxGe m xs i < 0
  | [], _, _ => by simp [idxGe]
  | y :: r, i, h => by
    have hy := h y (List.mem_cons_self ..)
    rw [idxGe, decide_eq_false (by omega)]
    exact idxGe_neg fun x hx => h x (List.mem_cons_of_mem _ hx)
theorem there_of {m : Int} {xs : List Int} (h : ∀ x ∈ xs, x < m) : thereB m xs = true := by
  unfold thereB
  have := idxGe_neg (i := 0) h
  rw [decide_eq_false (by omega)]; rfl
theorem upI_range : ∀ (c s : Nat), upI (s : Int) c = (List.range' s c).map fun i : Nat => (i : Int)
  | 0, s => rfl
  | c + 1, s => by
    rw [upI, List.range'_succ, List.map_cons, ← upI_range c (s + 1)]; rfl
theorem allOf_S (ss : List Int) (n : Nat) : allOf ss n = Ro.allS ss n := by
  unfold allOf Ro.allS
  by_cases h : 0 < ss.length
  · rw [decide_eq_true h, if_pos h]
  · rw [decide_eq_false h, if_neg h]
    have := upI_range n 0
    rw [← List.range_eq_range'] at this
    exact this
theorem resetL_rst : ∀ (xs qs : List Int), resetL xs qs = Ro.rst xs qs
  | [], _ => rfl
  | x :: r, qs => by rw [resetL, Ro.rst, resetL_rst r]
theorem okU16_of {xs : List Int} (h : ∀ x ∈ xs, 0 ≤ x ∧ x ≤ 65535) : okU16 xs = true := List.all_eq_true.2 fun x hx => decide_eq_true (h x hx)
theorem allLt_ofR {n : Nat} {xs : List Int} (h : ∀ x ∈ xs, 0 ≤ x ∧ x < (n : Int)) : allLt n xs = true := List.all_eq_true.2 fun x hx => decide_eq_true (h x hx)
section
variable {f : Int} {w : Wy} {p : Ro.P} {m : Nat} {G : Wy → Prop}
theorem Rel.appk (h : Rel f w p) (l : List Ro.Th) (b : Ro.Bk) : Rel f { w with t := tcOf (l.map (yT f p.ms)), k := Bc.app w.k (zB f p.ms b) } { p with th := l, bk := p.bk ++ [b] } := by
  have := (h.tl l).kl (p.bk ++ [b])
  rw [h.kapp b]
  exact this
theorem befQ_no {a b : Int} (h : 0 ≤ a ∧ a ≤ b ∧ b ≤ 100000) (c : Bool) : branch (Bool.not (eqK (subK .u32 a b) 0)) (branch c (G w) (G w)) (G w) ↔ G w := by
  cases e : eqK (subK .u32 a b) 0 <;> cases c <;> exact Iff.rfl
theorem br3 {x y : Bool} {q : Prop} (h : q) : branch x (branch y q q) q := by cases x <;> cases y <;> exact h
theorem tc3q (h : Rel f w p) (hI : Ro.Inv p) (hz : SzO p m) {x : Ro.Qu} (hx : x.n < p.nx ∧ ∀ c, p.o = some c → x.n = c.n → x = c) (h5 : 5 ≤ x.n) {l : List Ro.Th} (hb : p.bk.length ≤ 300)
    (h1 : x.n = p.ex → ∀ w', Rel f w' { p with th := l, inn := if x.kd = 1 then Ro.rst (Ro.allS x.ss p.inn.length) p.inn else p.inn ++ List.replicate x.mo.toNat 0, ex := p.ex + 1, kp := some (x.n, 1), bk := p.bk ++ [.r x.n 1] } → G w')
    (h2 : ∀ n v, x.n = p.ex - 1 → p.kp = some (n, v) → ∀ w', Rel f w' { p with th := l, bk := p.bk ++ [.r n v] } → G w')
    (h3 : x.n ≠ p.ex → (x.n = p.ex - 1 → p.kp = none) → ∀ w', Rel f w' { p with th := l } → G w') :
    T_c3q w 0 0 0 x.n x.kd x.mo x.ss (tcOf (l.map (yT f p.ms))) G := by
  have hnx := hz.nx
  have hm3 := hz.m3
  have hx5 := hI.x5
  have hex : p.ex ≤ p.nx := by rcases hI.qs with ⟨_, e⟩ | ⟨c, _, _, _, e⟩ <;> omega
  have hsub : subK .u32 p.ex 1 = p.ex - 1 := sub32 (by omega)
  have hadd : addK .u32 p.ex 1 = p.ex + 1 := add32 (by omega)
  have hkn := h.kn
  -- the question that is due
  have due : x.n = p.ex → (decide (p.inn.length ≤ 16 ∧ 0 ≤ x.mo ∧ x.mo ≤ 65535 ∧ x.ss.length ≤ 70368744177664) && okU16 x.ss) = true ∧ p.inn.length ≤ 16 ∧ ((x.kd = 1 ∧ doB x.kd ((p.inn.length : Nat) : Int) x.ss = true) ∨ (x.kd = 2 ∧ doB x.kd ((p.inn.length : Nat) : Int) x.ss = false ∧ moB x.kd ((p.inn.length : Nat) : Int) x.mo = true)) := fun e => by
    obtain ⟨ho, hq, hil, _⟩ := hI.done hx e
    have h16 := hI.l16
    have hol := hz.ol x ho
    rcases hq with ⟨k1, k2, k3⟩ | ⟨k1, k2, k3, k4⟩
    · refine ⟨?_, by omega, .inl ⟨k1, ?_⟩⟩
      · rw [decide_eq_true (by omega), okU16_of fun y hy => by have := k3 y hy; omega]; rfl
      · unfold doB
        rw [k1, eqK_t.2 rfl, there_of fun y hy => by have := k3 y hy; omega]; rfl
    · refine ⟨?_, by omega, .inr ⟨k1, ?_, ?_⟩⟩
      · rw [k2]; rw [decide_eq_true (by simp; omega)]; rfl
      · unfold doB
        rw [k1, eqK_f.2 (by decide)]; rfl
      · unfold moB
        rw [k1, eqK_t.2 rfl, decide_eq_true (by omega)]; rfl
  have new : x.n = p.ex → branch (doB x.kd ((w.c.qs.length : Nat) : Int) x.ss)
      (need (decide ((w.k.n + 1) * 20 ≤ 140737488355328)) (G { w with c := { w.c with qs := resetL (allOf x.ss w.c.qs.length) w.c.qs, ex := addK .u32 w.c.ex 1, kp := some (x.n, 1) }, t := tcOf (l.map (yT f p.ms)), k := Bc.app w.k ⟨false, 0, 0, x.n, 1⟩ }))
      (branch (moB x.kd ((w.c.qs.length : Nat) : Int) x.mo)
        (need (decide ((w.k.n + 1) * 20 ≤ 140737488355328)) (G { w with c := { w.c with qs := w.c.qs ++ List.replicate (Int.toNat x.mo) 0, ex := addK .u32 w.c.ex 1, kp := some (x.n, 1) }, t := tcOf (l.map (yT f p.ms)), k := Bc.app w.k ⟨false, 0, 0, x.n, 1⟩ }))
        (need (decide ((w.k.n + 1) * 20 ≤ 140737488355328)) (G { w with c := { w.c with ex := addK .u32 w.c.ex 1, kp := some (x.n, 2) }, t := tcOf (l.map (yT f p.ms)), k := Bc.app w.k ⟨false, 0, 0, x.n, 2⟩ }))) := fun e => by
    obtain ⟨_, _, hd⟩ := due e
    rw [h.qs, h.ex, hadd]
    have hk := h.kapp (.r x.n 1)
    rcases hd with ⟨k1, hd⟩ | ⟨k1, hd, hm⟩
    · rw [hd]
      refine ndd (by omega) (h1 e _ ?_)
      rw [if_pos k1, ← allOf_S, ← resetL_rst]
      exact ⟨h.ff, h.bad, h.kp, h.o2, h.os, h.ps, h.nx, h.o, rfl, rfl, rfl, h.gi, h.xl, h.ts, rfl, hk, h.ks, h.mts, h.mss, h.mns, h.cs, h.as_, h.bo⟩
    · rw [hd, hm]
      refine ndd (by omega) (h1 e _ ?_)
      rw [if_neg (by omega)]
      exact ⟨h.ff, h.bad, h.kp, h.o2, h.os, h.ps, h.nx, h.o, rfl, rfl, rfl, h.gi, h.xl, h.ts, rfl, hk, h.ks, h.mts, h.mss, h.mns, h.cs, h.as_, h.bo⟩
  unfold T_c3q
  split
  · rename_i hk
    rw [h.kq] at hk
    refine bre (fun e => ?_) (fun e => ?_)
    · rw [h.ex] at e
      obtain ⟨d1, d2, _⟩ := due e
      refine nd ?_ (new e)
      rw [h.qs]
      rw [Bool.and_eq_true_iff] at d1 ⊢
      exact ⟨decide_eq_true ⟨rfl, of_decide_eq_true d1.1⟩, d1.2⟩
    · rw [h.ex] at e
      refine bre (fun _ => br3 (h3 e (fun _ => hk) _ (h.tl l))) (fun _ => br3 (h3 e (fun _ => hk) _ (h.tl l)))
  · rename_i n v hk
    rw [h.kq] at hk
    refine bre (fun e => ?_) (fun e => ?_)
    · rw [h.ex] at e
      obtain ⟨d1, d2, _⟩ := due e
      refine nd ?_ (new e)
      rw [h.qs]
      rw [Bool.and_eq_true_iff] at d1 ⊢
      exact ⟨decide_eq_true ⟨rfl, of_decide_eq_true d1.1⟩, d1.2⟩
    · rw [h.ex] at e
      rw [h.ex, hsub]
      refine bre (fun e2 => ndd (by omega) (h2 n v e2 hk _ (h.appk l (.r n v)))) (fun e2 => br3 (h3 e (fun e3 => absurd e3 e2) _ (h.tl l)))
theorem tc4q (h : Rel f w p) {x : Ro.Qu} {l : List Ro.Th} (h1 : ∀ w', Rel f w' { p with th := l } → G w') : T_c4q w 0 0 0 x.n x.kd x.mo x.ss (tcOf (l.map (yT f p.ms))) G := h1 _ (h.tl l)
theorem tc4m (h : Rel f w p) {i : Nat} {l : List Ro.Th} (hl : l.length ≤ 300) (h1 : ∀ w', Rel f w' { p with th := l ++ [.m i] } → G w') : T_c4m w (Go.Ev.tn f (i + 1)) ((Ro.sid p i : Nat) : Int) (Ro.ssn p i) 0 0 0 [] (tcOf (l.map (yT f p.ms))) G := by
  unfold T_c4m
  refine ndd (by simp) (ndd (by simp only [tcOf, List.length_map]; omega) (h1 _ ?_))
  have := h.tl (l ++ [.m i])
  rw [List.map_append, List.map_cons, List.map_nil, ← tcOf_app] at this
  exact this
theorem tc6r (h : Rel f w p) (hI : Ro.Inv p) (hz : SzO p m) {n v : Int} (hn : n < p.ex ∧ v = 1) (h5 : 5 ≤ n) {l : List Ro.Bk}
    (h1 : (∀ c, p.o = some c → n ≠ c.n) → ∀ w', Rel f w' { p with bk := l } → G w')
    (h2 : ∀ c, p.o = some c → n = c.n → ∀ w', Rel f w' { p with bk := l, o := none, out := if c.kd = 2 then p.out ++ List.replicate c.mo.toNat 0 else Ro.rst (Ro.allS c.ss p.out.length) p.out, op := if c.kd = 2 then p.op ++ List.replicate c.mo.toNat 0 else p.op } → G w') :
    T_c6r w 0 0 n v (bcOf (l.map (zB f p.ms))) G := by
  have hnx := hz.nx
  have hm3 := hz.m3
  have ho := h.o
  unfold T_c6r
  split
  · rename_i hk
    rw [hk] at ho
    refine h1 (fun c hc => ?_) _ (h.kl l)
    rw [hc] at ho; cases ho
  · rename_i on ok oss om hk
    rw [hk] at ho
    cases hc : p.o with
    | none => rw [hc] at ho; cases ho
    | some c =>
      rw [hc] at ho
      cases ho
      obtain ⟨_, e1⟩ | ⟨c', e0, e1, e2, e3⟩ := hI.qs
      · rename_i e; rw [hc] at e; cases e
      rw [hc] at e0; cases e0
      have hol := hz.ol c hc
      have h16 := hI.l16
      have hlo := hI.lo
      have hbef : befQ c.n n = decide (n < c.n) := by
        unfold befQ
        have hs : subK .u32 c.n n = c.n - n := sub32 (by omega)
        rw [hs]
        by_cases e : n < c.n
        · rw [eqK_f.2 (by omega), decide_eq_true e]
          exact decide_eq_true (by omega)
        · rw [eqK_t.2 (by omega), decide_eq_false e]
      rw [hbef, h.os, h.ps]
      have hss : 0 ≤ c.mo ∧ c.mo ≤ 65535 ∧ allLt p.out.length c.ss = true := by
        rcases e2 with ⟨k1, k2, k3⟩ | ⟨k1, k2, k3, k4⟩
        · exact ⟨by omega, by omega, allLt_ofR k3⟩
        · refine ⟨by omega, by omega, ?_⟩
          rw [k2]; rfl
      refine nd (by rw [hss.2.2, decide_eq_true (by omega)]; rfl) (brd (fun e => h1 (fun c' hc' => by rw [hc] at hc'; cases hc'; omega) _ (h.kl l)) (fun e => bre (fun e4 => ?_) (fun e4 => absurd (by omega) e4)))
      rw [hn.2, eqK_t.2 rfl]
      have := h2 c hc e4
      refine bre (fun e5 => ?_) (fun e5 => ?_)
      · refine this _ ?_
        rw [if_pos e5, if_pos e5]
        exact ⟨h.ff, h.bad, h.kp, h.o2, rfl, rfl, h.nx, rfl, h.qs, h.ex, h.kq, h.gi, h.xl, h.ts, h.t, rfl, h.ks, h.mts, h.mss, h.mns, h.cs, h.as_, h.bo⟩
      · refine this _ ?_
        rw [if_neg e5, if_neg e5, ← allOf_S, ← resetL_rst]
        exact ⟨h.ff, h.bad, h.kp, h.o2, rfl, h.ps, h.nx, rfl, h.qs, h.ex, h.kq, h.gi, h.xl, h.ts, h.t, rfl, h.ks, h.mts, h.mss, h.mns, h.cs, h.as_, h.bo⟩
theorem tc6a (h : Rel f w p) (hI : Ro.Inv p) (hz : SzO p m) {i : Nat} (hc : i ∈ p.cm) {l : List Ro.Bk}
    (h1 : i ∈ p.ak → ∀ w', Rel f w' { p with bk := l } → G w')
    (h2 : i ∉ p.ak → ∀ w', Rel f w' { p with bk := l, ak := i :: p.ak, op := p.op.set (Ro.sid p i) (p.op.getD (Ro.sid p i) 0 - 1) } → G w') :
    T_c6a w (Go.Ev.tn f (i + 1)) ((Ro.sid p i : Nat) : Int) 0 0 (bcOf (l.map (zB f p.ms))) G := by
  have hi := hI.cmN i hc
  have hm3 := hz.m3
  unfold T_c6a
  rw [h.akM hI hi]
  by_cases e : i ∈ p.ak
  · rw [decide_eq_true e]
    exact h1 e _ (h.kl l)
  · obtain ⟨o1, o2⟩ := hI.opens hc e
    have o3 := op_le hI hz o1
    have h16 := hI.l16
    have hlo := hI.lo
    rw [decide_eq_false e]
    simp only [bFe, Nat.zero_add, Int.toNat_natCast]
    rw [wr64 (by omega), h.os, h.ps]
    have hcm : ¬ (Ro.sid p i : Int) ≥ ((p.out.length : Nat) : Int) := by omega
    rw [decide_eq_false hcm, eqK_f.2 (by omega), sub16 (by omega)]
    simp only [bFe]
    refine ndd (by omega) (ndd (by omega) (ndd (by omega) (ndd (by omega) (ndd (by omega) (ndd (by omega) (ndd (by omega) (ndd (by omega) (ndd (by omega) (h2 e _ ?_)))))))))
    exact ⟨h.ff, h.bad, h.kp, h.o2, rfl, rfl, h.nx, h.o, h.qs, h.ex, h.kq, h.gi, h.xl, h.ts, h.t, rfl, h.ks, h.mts, h.mss, h.mns, h.cs, by show w.m.as_ ++ _ = _; rw [h.as_]; simp [tnL], h.bo⟩
theorem tc7r (h : Rel f w p) {n v : Int} {l : List Ro.Bk} (h1 : ∀ w', Rel f w' { p with bk := l } → G w') : T_c7r w 0 0 n v (bcOf (l.map (zB f p.ms))) G := h1 _ (h.kl l)
theorem tc7a (h : Rel f w p) (hI : Ro.Inv p) (hz : SzO p m) {i : Nat} (hi : i < p.ms.length) {l : List Ro.Bk}
    (h1 : ∀ w', Rel f w' { p with bk := l, th := p.th ++ [.m i] } → G w') : T_c7a w (Go.Ev.tn f (i + 1)) ((Ro.sid p i : Nat) : Int) 0 0 (bcOf (l.map (zB f p.ms))) G := by
  have h3 := hI.n3
  have hm3 := hz.m3
  have htb := hz.tb
  have htn := h.tn
  have hid := tnL_idx (f := f) hi (by omega)
  unfold T_c7a
  rw [h.mts, h.mss, h.mns, h.ks, hid]
  have hk : (tnL f (List.range p.ms.length)).getD i 0 = Go.Ev.tn f (i + 1) := by
    rw [List.getD_eq_getElem?_getD, tnL, List.getElem?_map, List.getElem?_range hi]; rfl
  have hs : (p.ms.map fun x : Nat × Int => (x.1 : Int)).getD i 0 = ((p.ms.getD i (0, 0)).1 : Int) := getDm (fun x : Nat × Int => (x.1 : Int)) p.ms i (0, 0)
  have hn : (p.ms.map fun x : Nat × Int => x.2).getD i 0 = (p.ms.getD i (0, 0)).2 := getDm (fun x : Nat × Int => x.2) p.ms i (0, 0)
  rw [hk, hs, hn]
  have hlen : (tnL f (List.range p.ms.length)).length = p.ms.length := by simp [tnL]
  rw [hlen]
  refine brt hi (ndd (by omega) (h1 _ ?_))
  have ht := h.tapp (.m i)
  exact ⟨h.ff, h.bad, h.kp, h.o2, h.os, h.ps, h.nx, h.o, h.qs, h.ex, h.kq, h.gi, h.xl, h.ts, ht, rfl, h.ks, h.mts, h.mss, h.mns, h.cs, h.as_, h.bo⟩
end
end Go.Ev
end
