/- ResetOrder: texts RoM0, RoM1, RoM2, RoV, RoX, RoY, RoH, RoI, RoC3n, RoZ, RoL, RoF, RoT0, one behind the other. No conditions. -/
import Derived.Test.YtjeinfbicgpkiaaRzC
import Derived.Test.YtjeinfbicgpkiaaEvD
set_option linter.unusedVariables false
set_option linter.unusedSimpArgs false
section
namespace Go.Ev
open Go Go.Proofs Go.Spec
def T_m0 (w : Wy) (nn : Int) (sd : Int) (wk : Int) (wm : Int) (ws : List Int) (G : Wy → Prop) : Prop := match w.a.o with
  | none => (branch (decide (((IntKind.wrap .i64 sd) ≥ (((List.length w.a.os) : Nat) : Int)))) (G w) (need (decide (((0) ≤ sd))) (need (decide ((sd < (((List.length w.a.os) : Nat) : Int)))) (need (decide (((0 + (Int.toNat sd)) < (List.length w.a.os)))) (need (decide (((0) ≤ sd))) (need (decide ((sd < (((List.length w.a.os) : Nat) : Int)))) (need (decide (((0 + (Int.toNat sd)) < (List.length w.a.os)))) (need (decide (((0) ≤ sd))) (need (decide ((sd < (((List.length w.a.os) : Nat) : Int)))) (need (decide (((0 + (Int.toNat sd)) < (List.length w.a.os)))) (need (decide (((0) ≤ sd))) (need (decide ((sd < (((List.length w.a.ps) : Nat) : Int)))) (need (decide (((0 + (Int.toNat sd)) < (List.length w.a.ps)))) (need (decide (((0) ≤ sd))) (need (decide ((sd < (((List.length w.a.ps) : Nat) : Int)))) (need (decide (((0 + (Int.toNat sd)) < (List.length w.a.ps)))) (branch (decide (((idxI (addK .u32 w.ts (1)) w.m.ks) < (List.length w.m.ks)))) (need (decide ((((w.t.n + 1) * 64) ≤ 140737488355328))) (G { w with a := { w.a with os := (List.set w.a.os (0 + (Int.toNat sd)) (addK .u16 (List.getD w.a.os (0 + (Int.toNat sd)) (0)) (1))), ps := (List.set w.a.ps (0 + (Int.toNat sd)) (addK .u16 (List.getD w.a.ps (0 + (Int.toNat sd)) (0)) (1))) }, ts := (addK .u32 w.ts (1)), t := (Tc.app w.t ⟨true, (addK .u32 w.ts (1)), sd, (List.getD w.a.os (0 + (Int.toNat sd)) (0)), (0), (0), [], (0)⟩), m := { w.m with ts := (List.set (fitL (0) (List.length w.m.ks) w.m.ts) (idxI (addK .u32 w.ts (1)) w.m.ks) (addK .u32 w.ts (1))), ss := (List.set (fitL (0) (List.length w.m.ks) w.m.ss) (idxI (addK .u32 w.ts (1)) w.m.ks) sd), ns := (List.set (fitL (0) (List.length w.m.ks) w.m.ns) (idxI (addK .u32 w.ts (1)) w.m.ks) (List.getD w.a.os (0 + (Int.toNat sd)) (0))) } })) (need (decide ((((w.t.n + 1) * 64) ≤ 140737488355328))) (G { w with a := { w.a with os := (List.set w.a.os (0 + (Int.toNat sd)) (addK .u16 (List.getD w.a.os (0 + (Int.toNat sd)) (0)) (1))), ps := (List.set w.a.ps (0 + (Int.toNat sd)) (addK .u16 (List.getD w.a.ps (0 + (Int.toNat sd)) (0)) (1))) }, ts := (addK .u32 w.ts (1)), t := (Tc.app w.t ⟨true, (addK .u32 w.ts (1)), sd, (List.getD w.a.os (0 + (Int.toNat sd)) (0)), (0), (0), [], (0)⟩), m := { w.m with ks := (w.m.ks ++ [(addK .u32 w.ts (1))]), ts := ((fitL (0) (List.length w.m.ks) w.m.ts) ++ [(addK .u32 w.ts (1))]), ss := ((fitL (0) (List.length w.m.ks) w.m.ss) ++ [sd]), ns := ((fitL (0) (List.length w.m.ks) w.m.ns) ++ [(List.getD w.a.os (0 + (Int.toNat sd)) (0))]), bs := (w.m.bs ++ [((w.m.cl : Nat) : Int)]), cl := (w.m.cl + 1) } })))))))))))))))))))
  | some (on, ok, oss, om) => (branch (decide (((IntKind.wrap .i64 sd) ≥ (((List.length w.a.os) : Nat) : Int)))) (G w) (branch (eqK ok (1)) (need (decide ((((0) ≤ (((List.length w.a.os) : Nat) : Int)) ∧ ((((List.length w.a.os) : Nat) : Int) ≤ (65535))))) (branch (decide ((0 < (List.length oss)))) (need (decide (((0 + (List.length oss)) ≤ (List.length oss)))) (need (decide (((List.length (List.take (List.length oss) oss)) ≤ 70368744177664))) (branch (hasL (List.take (List.length oss) oss) sd) (G w) (need (decide (((0) ≤ sd))) (need (decide ((sd < (((List.length w.a.os) : Nat) : Int)))) (need (decide (((0 + (Int.toNat sd)) < (List.length w.a.os)))) (need (decide (((0) ≤ sd))) (need (decide ((sd < (((List.length w.a.os) : Nat) : Int)))) (need (decide (((0 + (Int.toNat sd)) < (List.length w.a.os)))) (need (decide (((0) ≤ sd))) (need (decide ((sd < (((List.length w.a.os) : Nat) : Int)))) (need (decide (((0 + (Int.toNat sd)) < (List.length w.a.os)))) (need (decide (((0) ≤ sd))) (need (decide ((sd < (((List.length w.a.ps) : Nat) : Int)))) (need (decide (((0 + (Int.toNat sd)) < (List.length w.a.ps)))) (need (decide (((0) ≤ sd))) (need (decide ((sd < (((List.length w.a.ps) : Nat) : Int)))) (need (decide (((0 + (Int.toNat sd)) < (List.length w.a.ps)))) (branch (decide (((idxI (addK .u32 w.ts (1)) w.m.ks) < (List.length w.m.ks)))) (need (decide ((((w.t.n + 1) * 64) ≤ 140737488355328))) (G { w with a := { w.a with os := (List.set w.a.os (0 + (Int.toNat sd)) (addK .u16 (List.getD w.a.os (0 + (Int.toNat sd)) (0)) (1))), ps := (List.set w.a.ps (0 + (Int.toNat sd)) (addK .u16 (List.getD w.a.ps (0 + (Int.toNat sd)) (0)) (1))) }, ts := (addK .u32 w.ts (1)), t := (Tc.app w.t ⟨true, (addK .u32 w.ts (1)), sd, (List.getD w.a.os (0 + (Int.toNat sd)) (0)), (0), (0), [], (0)⟩), m := { w.m with ts := (List.set (fitL (0) (List.length w.m.ks) w.m.ts) (idxI (addK .u32 w.ts (1)) w.m.ks) (addK .u32 w.ts (1))), ss := (List.set (fitL (0) (List.length w.m.ks) w.m.ss) (idxI (addK .u32 w.ts (1)) w.m.ks) sd), ns := (List.set (fitL (0) (List.length w.m.ks) w.m.ns) (idxI (addK .u32 w.ts (1)) w.m.ks) (List.getD w.a.os (0 + (Int.toNat sd)) (0))) } })) (need (decide ((((w.t.n + 1) * 64) ≤ 140737488355328))) (G { w with a := { w.a with os := (List.set w.a.os (0 + (Int.toNat sd)) (addK .u16 (List.getD w.a.os (0 + (Int.toNat sd)) (0)) (1))), ps := (List.set w.a.ps (0 + (Int.toNat sd)) (addK .u16 (List.getD w.a.ps (0 + (Int.toNat sd)) (0)) (1))) }, ts := (addK .u32 w.ts (1)), t := (Tc.app w.t ⟨true, (addK .u32 w.ts (1)), sd, (List.getD w.a.os (0 + (Int.toNat sd)) (0)), (0), (0), [], (0)⟩), m := { w.m with ks := (w.m.ks ++ [(addK .u32 w.ts (1))]), ts := ((fitL (0) (List.length w.m.ks) w.m.ts) ++ [(addK .u32 w.ts (1))]), ss := ((fitL (0) (List.length w.m.ks) w.m.ss) ++ [sd]), ns := ((fitL (0) (List.length w.m.ks) w.m.ns) ++ [(List.getD w.a.os (0 + (Int.toNat sd)) (0))]), bs := (w.m.bs ++ [((w.m.cl : Nat) : Int)]), cl := (w.m.cl + 1) } }))))))))))))))))))))) (need (decide (((0 + (List.length (upI (0) (Int.toNat (((List.length w.a.os) : Nat) : Int))))) ≤ (List.length (upI (0) (Int.toNat (((List.length w.a.os) : Nat) : Int))))))) (need (decide (((List.length (List.take (List.length (upI (0) (Int.toNat (((List.length w.a.os) : Nat) : Int)))) (upI (0) (Int.toNat (((List.length w.a.os) : Nat) : Int))))) ≤ 70368744177664))) (branch (hasL (List.take (List.length (upI (0) (Int.toNat (((List.length w.a.os) : Nat) : Int)))) (upI (0) (Int.toNat (((List.length w.a.os) : Nat) : Int)))) sd) (G w) (need (decide (((0) ≤ sd))) (need (decide ((sd < (((List.length w.a.os) : Nat) : Int)))) (need (decide (((0 + (Int.toNat sd)) < (List.length w.a.os)))) (need (decide (((0) ≤ sd))) (need (decide ((sd < (((List.length w.a.os) : Nat) : Int)))) (need (decide (((0 + (Int.toNat sd)) < (List.length w.a.os)))) (need (decide (((0) ≤ sd))) (need (decide ((sd < (((List.length w.a.os) : Nat) : Int)))) (need (decide (((0 + (Int.toNat sd)) < (List.length w.a.os)))) (need (decide (((0) ≤ sd))) (need (decide ((sd < (((List.length w.a.ps) : Nat) : Int)))) (need (decide (((0 + (Int.toNat sd)) < (List.length w.a.ps)))) (need (decide (((0) ≤ sd))) (need (decide ((sd < (((List.length w.a.ps) : Nat) : Int)))) (need (decide (((0 + (Int.toNat sd)) < (List.length w.a.ps)))) (branch (decide (((idxI (addK .u32 w.ts (1)) w.m.ks) < (List.length w.m.ks)))) (need (decide ((((w.t.n + 1) * 64) ≤ 140737488355328))) (G { w with a := { w.a with os := (List.set w.a.os (0 + (Int.toNat sd)) (addK .u16 (List.getD w.a.os (0 + (Int.toNat sd)) (0)) (1))), ps := (List.set w.a.ps (0 + (Int.toNat sd)) (addK .u16 (List.getD w.a.ps (0 + (Int.toNat sd)) (0)) (1))) }, ts := (addK .u32 w.ts (1)), t := (Tc.app w.t ⟨true, (addK .u32 w.ts (1)), sd, (List.getD w.a.os (0 + (Int.toNat sd)) (0)), (0), (0), [], (0)⟩), m := { w.m with ts := (List.set (fitL (0) (List.length w.m.ks) w.m.ts) (idxI (addK .u32 w.ts (1)) w.m.ks) (addK .u32 w.ts (1))), ss := (List.set (fitL (0) (List.length w.m.ks) w.m.ss) (idxI (addK .u32 w.ts (1)) w.m.ks) sd), ns := (List.set (fitL (0) (List.length w.m.ks) w.m.ns) (idxI (addK .u32 w.ts (1)) w.m.ks) (List.getD w.a.os (0 + (Int.toNat sd)) (0))) } })) (need (decide ((((w.t.n + 1) * 64) ≤ 140737488355328))) (G { w with a := { w.a with os := (List.set w.a.os (0 + (Int.toNat sd)) (addK .u16 (List.getD w.a.os (0 + (Int.toNat sd)) (0)) (1))), ps := (List.set w.a.ps (0 + (Int.toNat sd)) (addK .u16 (List.getD w.a.ps (0 + (Int.toNat sd)) (0)) (1))) }, ts := (addK .u32 w.ts (1)), t := (Tc.app w.t ⟨true, (addK .u32 w.ts (1)), sd, (List.getD w.a.os (0 + (Int.toNat sd)) (0)), (0), (0), [], (0)⟩), m := { w.m with ks := (w.m.ks ++ [(addK .u32 w.ts (1))]), ts := ((fitL (0) (List.length w.m.ks) w.m.ts) ++ [(addK .u32 w.ts (1))]), ss := ((fitL (0) (List.length w.m.ks) w.m.ss) ++ [sd]), ns := ((fitL (0) (List.length w.m.ks) w.m.ns) ++ [(List.getD w.a.os (0 + (Int.toNat sd)) (0))]), bs := (w.m.bs ++ [((w.m.cl : Nat) : Int)]), cl := (w.m.cl + 1) } }))))))))))))))))))))))) (need (decide (((0) ≤ sd))) (need (decide ((sd < (((List.length w.a.os) : Nat) : Int)))) (need (decide (((0 + (Int.toNat sd)) < (List.length w.a.os)))) (need (decide (((0) ≤ sd))) (need (decide ((sd < (((List.length w.a.os) : Nat) : Int)))) (need (decide (((0 + (Int.toNat sd)) < (List.length w.a.os)))) (need (decide (((0) ≤ sd))) (need (decide ((sd < (((List.length w.a.os) : Nat) : Int)))) (need (decide (((0 + (Int.toNat sd)) < (List.length w.a.os)))) (need (decide (((0) ≤ sd))) (need (decide ((sd < (((List.length w.a.ps) : Nat) : Int)))) (need (decide (((0 + (Int.toNat sd)) < (List.length w.a.ps)))) (need (decide (((0) ≤ sd))) (need (decide ((sd < (((List.length w.a.ps) : Nat) : Int)))) (need (decide (((0 + (Int.toNat sd)) < (List.length w.a.ps)))) (branch (decide (((idxI (addK .u32 w.ts (1)) w.m.ks) < (List.length w.m.ks)))) (need (decide ((((w.t.n + 1) * 64) ≤ 140737488355328))) (G { w with a := { w.a with os := (List.set w.a.os (0 + (Int.toNat sd)) (addK .u16 (List.getD w.a.os (0 + (Int.toNat sd)) (0)) (1))), ps := (List.set w.a.ps (0 + (Int.toNat sd)) (addK .u16 (List.getD w.a.ps (0 + (Int.toNat sd)) (0)) (1))) }, ts := (addK .u32 w.ts (1)), t := (Tc.app w.t ⟨true, (addK .u32 w.ts (1)), sd, (List.getD w.a.os (0 + (Int.toNat sd)) (0)), (0), (0), [], (0)⟩), m := { w.m with ts := (List.set (fitL (0) (List.length w.m.ks) w.m.ts) (idxI (addK .u32 w.ts (1)) w.m.ks) (addK .u32 w.ts (1))), ss := (List.set (fitL (0) (List.length w.m.ks) w.m.ss) (idxI (addK .u32 w.ts (1)) w.m.ks) sd), ns := (List.set (fitL (0) (List.length w.m.ks) w.m.ns) (idxI (addK .u32 w.ts (1)) w.m.ks) (List.getD w.a.os (0 + (Int.toNat sd)) (0))) } })) (need (decide ((((w.t.n + 1) * 64) ≤ 140737488355328))) (G { w with a := { w.a with os := (List.set w.a.os (0 + (Int.toNat sd)) (addK .u16 (List.getD w.a.os (0 + (Int.toNat sd)) (0)) (1))), ps := (List.set w.a.ps (0 + (Int.toNat sd)) (addK .u16 (List.getD w.a.ps (0 + (Int.toNat sd)) (0)) (1))) }, ts := (addK .u32 w.ts (1)), t := (Tc.app w.t ⟨true, (addK .u32 w.ts (1)), sd, (List.getD w.a.os (0 + (Int.toNat sd)) (0)), (0), (0), [], (0)⟩), m := { w.m with ks := (w.m.ks ++ [(addK .u32 w.ts (1))]), ts := ((fitL (0) (List.length w.m.ks) w.m.ts) ++ [(addK .u32 w.ts (1))]), ss := ((fitL (0) (List.length w.m.ks) w.m.ss) ++ [sd]), ns := ((fitL (0) (List.length w.m.ks) w.m.ns) ++ [(List.getD w.a.os (0 + (Int.toNat sd)) (0))]), bs := (w.m.bs ++ [((w.m.cl : Nat) : Int)]), cl := (w.m.cl + 1) } }))))))))))))))))))))
theorem m0 (w : Wy) (ha : w.a.kp = none) (hc : w.c.o = none) (hb : w.bad = false) (nn sd wk wm i : Int) (v : Mv) (ws : List Int) (L : Nat) (k : Exit → Fr → St → Prop) : goA1 L k v i w ⟨0, nn, sd, wk, ws, wm⟩ = Again (T_m0 w nn sd wk wm ws (goZ1 L k v i)) := by
  rcases w with ⟨⟨os, ps, qs, cu, xs, bs, cl, nx, ex, o, kp0⟩, ⟨os2, ps2, qs2, cu2, xs2, bs2, cl2, nx2, ex2, o2, kp⟩, ts, t, b, mc, bad⟩
  cases ha; cases hc; cases hb
  rcases o with _ | ⟨_, _, _, _⟩ <;> rcases kp with _ | ⟨_, _⟩ <;> kernel_rfl
end Go.Ev
end
section
namespace Go.Ev
open Go Go.Proofs Go.Spec
def T_m1 (w : Wy) (nn : Int) (sd : Int) (wk : Int) (wm : Int) (ws : List Int) (G : Wy → Prop) : Prop := match w.a.o with
  | none => (need ((decide (((9 = 9) ∧ (((List.length w.a.os) ≤ 16) ∧ (((List.length w.a.os) = (List.length w.a.ps)) ∧ (((0) ≤ wm) ∧ ((wm ≤ (65535)) ∧ ((List.length ws) ≤ 70368744177664)))))))) && (okU16 ws)) (branch (Bool.not (eqK (mayR (Sr.mk w.a.os w.a.ps w.a.qs w.a.cum w.a.xs w.a.bs w.a.cl w.a.nx w.a.ex Option.none Option.none) wk ws wm) (0))) (branch (eqK (mayR (Sr.mk w.a.os w.a.ps w.a.qs w.a.cum w.a.xs w.a.bs w.a.cl w.a.nx w.a.ex Option.none Option.none) wk ws wm) (0)) (need (decide ((((w.t.n + 1) * 64) ≤ 140737488355328))) (G { w with t := (Tc.app w.t ⟨false, (0), (0), (0), (0), (0), [], (0)⟩) })) (G w)) (need (decide (((0 + (List.length ws)) ≤ (List.length ws)))) (need (decide (((List.length (List.take (List.length ws) ws)) ≤ 70368744177664))) (need (decide (((0 + (List.length (List.take (List.length ws) ws))) ≤ (List.length (List.take (List.length ws) ws))))) (need (decide ((((w.t.n + 1) * 64) ≤ 140737488355328))) (G { w with a := { w.a with nx := (addK .u32 w.a.nx (1)), o := some (w.a.nx, wk, (List.take (List.length ws) ws), wm) }, t := (Tc.app w.t ⟨false, (0), (0), (0), w.a.nx, wk, (List.take (List.length (List.take (List.length ws) ws)) (List.take (List.length ws) ws)), wm⟩) })))))))
  | some (on, ok, oss, om) => (need ((decide (((11 = 11) ∧ (((List.length w.a.os) ≤ 16) ∧ (((List.length w.a.os) = (List.length w.a.ps)) ∧ (((0) ≤ wm) ∧ ((wm ≤ (65535)) ∧ ((List.length ws) ≤ 70368744177664)))))))) && (okU16 ws)) (branch (Bool.not (eqK (mayR (Sr.mk w.a.os w.a.ps w.a.qs w.a.cum w.a.xs w.a.bs w.a.cl w.a.nx w.a.ex (some (on, (ok, (oss, om)))) Option.none) wk ws wm) (0))) (branch (eqK (mayR (Sr.mk w.a.os w.a.ps w.a.qs w.a.cum w.a.xs w.a.bs w.a.cl w.a.nx w.a.ex (some (on, (ok, (oss, om)))) Option.none) wk ws wm) (0)) (need (decide ((((w.t.n + 1) * 64) ≤ 140737488355328))) (G { w with t := (Tc.app w.t ⟨false, (0), (0), (0), (0), (0), [], (0)⟩) })) (G w)) (need (decide (((0 + (List.length ws)) ≤ (List.length ws)))) (need (decide (((List.length (List.take (List.length ws) ws)) ≤ 70368744177664))) (G w)))))
theorem m1 (w : Wy) (ha : w.a.kp = none) (hc : w.c.o = none) (hb : w.bad = false) (nn sd wk wm i : Int) (v : Mv) (ws : List Int) (L : Nat) (k : Exit → Fr → St → Prop) : goA1 L k v i w ⟨1, nn, sd, wk, ws, wm⟩ = Again (T_m1 w nn sd wk wm ws (goZ1 L k v i)) := by
  rcases w with ⟨⟨os, ps, qs, cu, xs, bs, cl, nx, ex, o, kp0⟩, ⟨os2, ps2, qs2, cu2, xs2, bs2, cl2, nx2, ex2, o2, kp⟩, ts, t, b, mc, bad⟩
  cases ha; cases hc; cases hb
  rcases o with _ | ⟨_, _, _, _⟩ <;> rcases kp with _ | ⟨_, _⟩ <;> kernel_rfl
end Go.Ev
end
section
namespace Go.Ev
open Go Go.Proofs Go.Spec
def T_m2 (w : Wy) (nn : Int) (sd : Int) (wk : Int) (wm : Int) (ws : List Int) (G : Wy → Prop) : Prop := match w.a.o with
  | none => (G w)
  | some (on, ok, oss, om) => (need (decide (((0 + (List.length oss)) ≤ (List.length oss)))) (need (decide ((((w.t.n + 1) * 64) ≤ 140737488355328))) (G { w with t := (Tc.app w.t ⟨false, (0), (0), (0), on, ok, (List.take (List.length oss) oss), om⟩) })))
theorem m2 (w : Wy) (ha : w.a.kp = none) (hc : w.c.o = none) (hb : w.bad = false) (nn sd wk wm i : Int) (v : Mv) (ws : List Int) (L : Nat) (k : Exit → Fr → St → Prop) : goA1 L k v i w ⟨2, nn, sd, wk, ws, wm⟩ = Again (T_m2 w nn sd wk wm ws (goZ1 L k v i)) := by
  rcases w with ⟨⟨os, ps, qs, cu, xs, bs, cl, nx, ex, o, kp0⟩, ⟨os2, ps2, qs2, cu2, xs2, bs2, cl2, nx2, ex2, o2, kp⟩, ts, t, b, mc, bad⟩
  cases ha; cases hc; cases hb
  rcases o with _ | ⟨_, _, _, _⟩ <;> rcases kp with _ | ⟨_, _⟩ <;> kernel_rfl
end Go.Ev
end
section
namespace Go.Ev
open Go Go.Proofs Go.Spec
theorem hasL_mem {xs : List Int} {x : Int} : hasL xs x = true ↔ x ∈ xs := by unfold hasL; exact List.contains_iff_mem
theorem upI_len2 : ∀ (c : Nat) (i : Int), (upI i c).length = c
  | 0, _ => rfl
  | c + 1, i => by rw [upI, List.length_cons, upI_len2 c]
section
variable {f : Int} {w : Wy} {p : Ro.P} {m : Nat} {G : Wy → Prop}
theorem bornB_next {bs : List Int} {cl : Nat} (h : bornB bs cl = true) : bornB (bs ++ [(cl : Int)]) (cl + 1) = true := by
  have h := of_decide_eq_true h
  unfold bornB
  refine decide_eq_true ?_
  rw [h, List.range_succ, List.map_append]; rfl
theorem idx_out {x : Int} {xs : List Int} (h : x ∉ xs) : ¬ idxI x xs < xs.length := fun e => h (idxI_mem.1 e)
theorem send_go (h : Rel f w p) (hI : Ro.Inv p) (hz : SzO p m) (hm : m < 300) {s : Nat} (hs : s < p.out.length)
    (h1 : ∀ w', Rel f w' { p with ms := p.ms ++ [(s, p.out.getD s 0)], out := p.out.set s (p.out.getD s 0 + 1), op := p.op.set s (p.op.getD s 0 + 1), th := p.th ++ [.m p.ms.length] } → G w') :
    need (decide (0 ≤ ((s : Nat) : Int))) (need (decide (((s : Nat) : Int) < ((w.a.os.length : Nat) : Int))) (need (decide (0 + Int.toNat ((s : Nat) : Int) < w.a.os.length)) (need (decide (0 ≤ ((s : Nat) : Int))) (need (decide (((s : Nat) : Int) < ((w.a.os.length : Nat) : Int))) (need (decide (0 + Int.toNat ((s : Nat) : Int) < w.a.os.length)) (need (decide (0 ≤ ((s : Nat) : Int))) (need (decide (((s : Nat) : Int) < ((w.a.os.length : Nat) : Int))) (need (decide (0 + Int.toNat ((s : Nat) : Int) < w.a.os.length)) (need (decide (0 ≤ ((s : Nat) : Int))) (need (decide (((s : Nat) : Int) < ((w.a.ps.length : Nat) : Int))) (need (decide (0 + Int.toNat ((s : Nat) : Int) < w.a.ps.length)) (need (decide (0 ≤ ((s : Nat) : Int))) (need (decide (((s : Nat) : Int) < ((w.a.ps.length : Nat) : Int))) (need (decide (0 + Int.toNat ((s : Nat) : Int) < w.a.ps.length))
      (branch (decide (idxI (addK .u32 w.ts 1) w.m.ks < w.m.ks.length))
        (need (decide ((w.t.n + 1) * 64 ≤ 140737488355328)) (G { w with a := { w.a with os := List.set w.a.os (0 + Int.toNat ((s : Nat) : Int)) (addK .u16 (List.getD w.a.os (0 + Int.toNat ((s : Nat) : Int)) 0) 1), ps := List.set w.a.ps (0 + Int.toNat ((s : Nat) : Int)) (addK .u16 (List.getD w.a.ps (0 + Int.toNat ((s : Nat) : Int)) 0) 1) }, ts := addK .u32 w.ts 1, t := Tc.app w.t ⟨true, addK .u32 w.ts 1, ((s : Nat) : Int), List.getD w.a.os (0 + Int.toNat ((s : Nat) : Int)) 0, 0, 0, [], 0⟩, m := { w.m with ts := List.set (fitL 0 w.m.ks.length w.m.ts) (idxI (addK .u32 w.ts 1) w.m.ks) (addK .u32 w.ts 1), ss := List.set (fitL 0 w.m.ks.length w.m.ss) (idxI (addK .u32 w.ts 1) w.m.ks) ((s : Nat) : Int), ns := List.set (fitL 0 w.m.ks.length w.m.ns) (idxI (addK .u32 w.ts 1) w.m.ks) (List.getD w.a.os (0 + Int.toNat ((s : Nat) : Int)) 0) } }))
        (need (decide ((w.t.n + 1) * 64 ≤ 140737488355328)) (G { w with a := { w.a with os := List.set w.a.os (0 + Int.toNat ((s : Nat) : Int)) (addK .u16 (List.getD w.a.os (0 + Int.toNat ((s : Nat) : Int)) 0) 1), ps := List.set w.a.ps (0 + Int.toNat ((s : Nat) : Int)) (addK .u16 (List.getD w.a.ps (0 + Int.toNat ((s : Nat) : Int)) 0) 1) }, ts := addK .u32 w.ts 1, t := Tc.app w.t ⟨true, addK .u32 w.ts 1, ((s : Nat) : Int), List.getD w.a.os (0 + Int.toNat ((s : Nat) : Int)) 0, 0, 0, [], 0⟩, m := { w.m with ks := w.m.ks ++ [addK .u32 w.ts 1], ts := fitL 0 w.m.ks.length w.m.ts ++ [addK .u32 w.ts 1], ss := fitL 0 w.m.ks.length w.m.ss ++ [((s : Nat) : Int)], ns := fitL 0 w.m.ks.length w.m.ns ++ [List.getD w.a.os (0 + Int.toNat ((s : Nat) : Int)) 0], bs := w.m.bs ++ [((w.m.cl : Nat) : Int)], cl := w.m.cl + 1 } }))))))))))))))))) := by
  have h3 := hI.n3
  have h16 := hI.l16
  have hlo := hI.lo
  have hms := hz.ms
  have htb := hz.tb
  have htn := h.tn
  have hop := op_le hI hz hs
  have hou := hz.ou s
  have hts : addK .u32 w.ts 1 = Go.Ev.tn f (p.ms.length + 1) := by rw [h.ts]; exact tn_add f p.ms.length 1
  have hlen : w.m.ks.length = p.ms.length := by rw [h.ks]; simp [tnL]
  have hnew : Go.Ev.tn f (p.ms.length + 1) ∉ w.m.ks := by
    rw [h.ks]
    intro e
    have := (tnL_mem (f := f) (i := p.ms.length) (by omega) (l := List.range p.ms.length) (fun j hj => by rw [List.mem_range] at hj; omega)).1 e
    rw [List.mem_range] at this; omega
  have hfit : fitL 0 w.m.ks.length w.m.ts = w.m.ks := by rw [h.mts]; exact fitL_same _ _ _ rfl
  have hfs : fitL 0 w.m.ks.length w.m.ss = w.m.ss := fitL_same _ _ _ (by rw [hlen, h.mss]; simp)
  have hfn : fitL 0 w.m.ks.length w.m.ns = w.m.ns := fitL_same _ _ _ (by rw [hlen, h.mns]; simp)
  have ho0 := hz.o0 s
  rw [h.os, h.ps, hts, Int.toNat_natCast, Nat.zero_add, hfit, hfs, hfn, hlen, add16 (by omega), add16 (by omega)]
  have hno : ¬ idxI (Go.Ev.tn f (p.ms.length + 1)) w.m.ks < p.ms.length := fun e => idx_out hnew (by rw [hlen]; exact e)
  refine ndd (by omega) (ndd (by omega) (ndd (by omega) (ndd (by omega) (ndd (by omega) (ndd (by omega) (ndd (by omega) (ndd (by omega) (ndd (by omega) (ndd (by omega) (ndd (by omega) (ndd (by omega) (ndd (by omega) (ndd (by omega) (ndd (by omega) (brf hno (ndd (by omega) (h1 _ ?_)))))))))))))))))
  have hyT : ∀ y ∈ p.th, yT f (p.ms ++ [(s, p.out.getD s 0)]) y = yT f p.ms y := fun y hy => by
    cases y with
    | q x => rfl
    | m i =>
      have := hI.tM i hy
      simp only [yT]
      rw [Ro.getD_append, if_neg (by omega)]
  have hzB : ∀ y ∈ p.bk, zB f (p.ms ++ [(s, p.out.getD s 0)]) y = zB f p.ms y := fun y hy => by
    cases y with
    | r n v => rfl
    | a i =>
      have := hI.cmN i (hI.bA i hy)
      simp only [zB]
      rw [Ro.getD_append, if_neg (by omega)]
  have hbo := h.bo
  rw [Bool.and_eq_true_iff] at hbo
  obtain ⟨hb1, hb2⟩ := hbo
  have hb1 := (of_decide_eq_true hb1).2
  refine ⟨h.ff, h.bad, h.kp, h.o2, rfl, rfl, h.nx, h.o, h.qs, h.ex, h.kq, h.gi, h.xl, by simp, ?_, ?_, ?_, rfl, ?_, ?_, h.cs, h.as_, ?_⟩
  · show Tc.app w.t _ = tcOf (List.map _ (p.th ++ [Ro.Th.m p.ms.length]))
    rw [h.t, tcOf_app, List.map_append, List.map_congr_left hyT]
    congr 1
    simp only [List.map_cons, List.map_nil, yT]
    rw [Ro.getD_append, if_pos rfl]
  · show w.k = bcOf (List.map _ p.bk)
    rw [h.k, List.map_congr_left hzB]
  · show w.m.ks ++ _ = _
    rw [h.ks]
    simp [tnL, List.range_succ]
  · show w.m.ss ++ _ = _
    rw [h.mss]; simp
  · show w.m.ns ++ _ = _
    rw [h.mns]; simp
  · rw [Bool.and_eq_true_iff]
    refine ⟨decide_eq_true ⟨trivial, ?_⟩, bornB_next hb2⟩
    show (w.m.ks ++ _).length = w.m.cl + 1
    rw [List.length_append, hb1]; rfl
end
end Go.Ev
end
section
namespace Go.Ev
open Go Go.Proofs Go.Spec
section
variable {f : Int} {w : Wy} {p : Ro.P} {m : Nat} {G : Wy → Prop}
theorem oP_some {o : Option Ro.Qu} {a b d : Int} {c : List Int} (h : some (a, b, c, d) = oP o) : ∃ q, o = some q ∧ a = q.n ∧ b = q.kd ∧ c = q.ss ∧ d = q.mo := by
  cases o with
  | none => cases h
  | some q => cases h; exact ⟨q, rfl, rfl, rfl, rfl, rfl⟩
theorem oP_none {o : Option Ro.Qu} (h : none = oP o) : o = none := by
  cases o with
  | none => rfl
  | some q => cases h
theorem tm0 (h : Rel f w p) (hI : Ro.Inv p) (hz : SzO p m) (hm : m < 300) {nn sd wk wm : Int} {ws : List Int} (hsd : 0 ≤ sd ∧ sd ≤ 65535)
    (h1 : G w) (h2 : ∀ s : Nat, s < p.out.length → (∀ c, p.o = some c → c.kd = 1 → (s : Int) ∉ Ro.allS c.ss p.out.length) → ∀ w', Rel f w' { p with ms := p.ms ++ [(s, p.out.getD s 0)], out := p.out.set s (p.out.getD s 0 + 1), op := p.op.set s (p.op.getD s 0 + 1), th := p.th ++ [.m p.ms.length] } → G w') :
    T_m0 w nn sd wk wm ws G := by
  obtain ⟨s, rfl⟩ : ∃ s : Nat, sd = (s : Int) := ⟨sd.toNat, by omega⟩
  have ho := h.o
  have hwr : IntKind.wrap .i64 (s : Int) = (s : Int) := wr64 (by omega)
  have hos : w.a.os.length = p.out.length := by rw [h.os]
  have h16 := hI.l16
  unfold T_m0
  split
  · rename_i hk
    rw [hk] at ho
    have ho := oP_none ho
    rw [hwr]
    refine brd (fun _ => h1) (fun e => send_go h hI hz hm (by omega) (h2 s (by omega) fun c hc => by rw [ho] at hc; cases hc))
  · rename_i on ok oss om hk
    rw [hk] at ho
    obtain ⟨q, hq, rfl, rfl, rfl, rfl⟩ := oP_some ho
    have hol := hz.ol q hq
    rw [hwr]
    refine brd (fun _ => h1) (fun e => bre (fun e1 => ?_) (fun e1 => send_go h hI hz hm (by omega) (h2 s (by omega) fun c hc hk => by rw [hq] at hc; cases hc; exact absurd hk e1)))
    rw [List.take_length, List.take_length, Int.toNat_natCast]
    refine ndd (by omega) (brd (fun e2 => ndd (by omega) (ndd hol (br (fun _ => h1) (fun e3 => send_go h hI hz hm (by omega) (h2 s (by omega) fun c hc _ => ?_))))) (fun e2 => ndd (by omega) (ndd (by rw [upI_len2]; omega) (br (fun _ => h1) (fun e3 => send_go h hI hz hm (by omega) (h2 s (by omega) fun c hc _ => ?_))))))
    · rw [hq] at hc; cases hc
      unfold Ro.allS
      rw [if_pos e2]
      intro e4
      rw [hasL_mem.2 e4] at e3; cases e3
    · rw [hq] at hc; cases hc
      rw [← allOf_S]
      unfold allOf
      rw [decide_eq_false e2]
      intro e4
      rw [← hos] at e4
      rw [Int.toNat_natCast] at e3
      have e5 : hasL (upI 0 w.a.os.length) (s : Int) = true := hasL_mem.2 e4
      rw [e5] at e3; cases e3
theorem may_zero {s : Sr} {wk wm : Int} {xs : List Int} (hwm : 0 ≤ wm) (h : mayR s wk xs wm = 0) : (s.os.length : Int) + wm ≤ 16 ∧ ((wk = 1 ∧ wm = 0 ∧ (∀ x ∈ xs, x < (s.os.length : Int)) ∧ ¬ idxOp s.ps (allOf xs s.os.length) 0 ≥ 0) ∨ (wk = 2 ∧ xs = [] ∧ 0 < wm)) := by
  unfold mayR at h
  split at h
  · cases h
  · rename_i ha
    split at h
    · cases h
    · rename_i hb
      have hb := of_decide_eq_false hb
      split at h
      · cases h
      · rename_i hc
        split at h
        · cases h
        · rename_i hd
          refine ⟨by omega, ?_⟩
          unfold argB at ha
          split at ha
          · rename_i e1
            have e1 := eqK_t.1 e1
            have e2 : wm = 0 := by
              cases e : eqK wm 0
              · rw [e] at ha; cases ha
              · exact eqK_t.1 e
            rw [e1, eqK_t.2 rfl, Bool.true_and] at hd
            exact .inl ⟨e1, e2, there_lt hc, of_decide_eq_false hd⟩
          · split at ha
            · rename_i e1
              split at ha
              · cases ha
              · rename_i e2
                have e2 := eqK_f.1 e2
                have e3 : (xs.length : Int) = 0 := by
                  cases e : eqK ((xs.length : Nat) : Int) 0
                  · rw [e] at ha; cases ha
                  · exact eqK_t.1 e
                exact .inr ⟨eqK_t.1 e1, List.eq_nil_of_length_eq_zero (by omega), by omega⟩
            · cases ha
theorem tm1 (h : Rel f w p) (hI : Ro.Inv p) (hz : SzO p m) {nn sd wk wm : Int} {ws : List Int} (hwm : 0 ≤ wm ∧ wm ≤ 65535) (hws : ∀ x ∈ ws, 0 ≤ x ∧ x ≤ 65535) (hwl : ws.length ≤ 70368744177664)
    (h1 : G w) (h2 : p.o = none → ∀ c : Ro.Qu, c.n = p.nx → Ro.Qok p c → (c.kd = 1 → ∀ s, s < p.out.length → (s : Int) ∈ Ro.allS c.ss p.out.length → p.op.getD s 0 = 0) → c.ss.length ≤ 70368744177664 → ∀ w', Rel f w' { p with nx := p.nx + 1, o := some c, th := p.th ++ [.q c] } → G w') :
    T_m1 w nn sd wk wm ws G := by
  have ho := h.o
  have hos : w.a.os.length = p.out.length := by rw [h.os]
  have hps : w.a.ps.length = p.op.length := by rw [h.ps]
  have h16 := hI.l16
  have hlo := hI.lo
  have hu : okU16 ws = true := okU16_of hws
  have hnx := hz.nx
  have hm3 := hz.m3
  have hx5 := hI.x5
  have hex : p.ex ≤ p.nx := by rcases hI.qs with ⟨_, e⟩ | ⟨c, _, _, _, e⟩ <;> omega
  have htb := hz.tb
  have htn := h.tn
  have hg1 : (decide (9 = 9 ∧ w.a.os.length ≤ 16 ∧ w.a.os.length = w.a.ps.length ∧ 0 ≤ wm ∧ wm ≤ 65535 ∧ ws.length ≤ 70368744177664) && okU16 ws) = true := by rw [hu, decide_eq_true ⟨rfl, by omega, by omega, by omega, by omega, hwl⟩]; rfl
  have hg2 : (decide (11 = 11 ∧ w.a.os.length ≤ 16 ∧ w.a.os.length = w.a.ps.length ∧ 0 ≤ wm ∧ wm ≤ 65535 ∧ ws.length ≤ 70368744177664) && okU16 ws) = true := by rw [hu, decide_eq_true ⟨rfl, by omega, by omega, by omega, by omega, hwl⟩]; rfl
  unfold T_m1
  split
  · rename_i hk
    rw [hk] at ho
    have ho' := oP_none ho
    refine nd hg1 ?_
    generalize hM : mayR _ wk ws wm = M
    by_cases e : M = 0
    · rw [eqK_t.2 e]
      rw [e] at hM
      obtain ⟨m1, m2⟩ := may_zero hwm.1 hM
      have hadd : addK .u32 w.a.nx 1 = p.nx + 1 := by rw [h.nx]; exact add32 (by omega)
      simp only [List.take_length]
      rw [hadd, h.nx]
      have hq : Ro.Qok p ⟨p.nx, wk, ws, wm⟩ := by
        rcases m2 with ⟨k1, k2, k3, k4⟩ | ⟨k1, k2, k3⟩
        · refine .inl ⟨k1, k2, fun s hs => ⟨(hws s hs).1, ?_⟩⟩
          have := k3 s hs
          simp only [hos] at this
          exact this
        · exact .inr ⟨k1, k2, k3, by simp only [hos] at m1; exact m1⟩
      have hop : (⟨p.nx, wk, ws, wm⟩ : Ro.Qu).kd = 1 → ∀ s, s < p.out.length → (s : Int) ∈ Ro.allS ws p.out.length → p.op.getD s 0 = 0 := fun hkd s hs hmem => by
        rcases m2 with ⟨k1, k2, k3, k4⟩ | ⟨k1, k2, k3⟩
        · have := op_le hI hz hs
          simp only [hos, h.ps] at k4
          rw [idxOp_iff (by omega)] at k4
          rcases Int.lt_or_le 0 (p.op.getD s 0) with e3 | e3
          · exfalso
            refine k4 ⟨(s : Int), ?_, ?_⟩
            · rw [allOf_S]; exact hmem
            · rw [Int.toNat_natCast]; exact e3
          · omega
        · have hkd : wk = 1 := hkd
          omega
      refine ndd (by omega) (ndd (by omega) (ndd (by omega) (ndd (by omega) (h2 ho' ⟨p.nx, wk, ws, wm⟩ rfl hq hop hwl _ ?_))))
      have ht := h.tapp (.q ⟨p.nx, wk, ws, wm⟩)
      exact ⟨h.ff, h.bad, h.kp, h.o2, h.os, h.ps, rfl, rfl, h.qs, h.ex, h.kq, h.gi, h.xl, h.ts, ht, h.k, h.ks, h.mts, h.mss, h.mns, h.cs, h.as_, h.bo⟩
    · rw [eqK_f.2 e]
      exact h1
  · rename_i on ok oss om hk
    rw [hk] at ho
    refine nd hg2 ?_
    generalize hM : mayR _ wk ws wm = M
    by_cases e : M = 0
    · rw [eqK_t.2 e, List.take_length]
      exact ndd (by omega) (ndd hwl h1)
    · rw [eqK_f.2 e]
      exact h1
theorem tm2 (h : Rel f w p) (hz : SzO p m) {nn sd wk wm : Int} {ws : List Int} (h1 : p.o = none → G w) (h2 : ∀ c, p.o = some c → ∀ w', Rel f w' { p with th := p.th ++ [.q c] } → G w') : T_m2 w nn sd wk wm ws G := by
  have ho := h.o
  have htb := hz.tb
  have hm3 := hz.m3
  have htn := h.tn
  unfold T_m2
  split
  · rename_i hk
    rw [hk] at ho
    exact h1 (oP_none ho)
  · rename_i on ok oss om hk
    rw [hk] at ho
    obtain ⟨q, hq, rfl, rfl, rfl, rfl⟩ := oP_some ho
    rw [List.take_length]
    refine ndd (by omega) (ndd (by omega) (h2 q hq _ ?_))
    have ht := h.tapp (.q q)
    exact ⟨h.ff, h.bad, h.kp, h.o2, h.os, h.ps, h.nx, h.o, h.qs, h.ex, h.kq, h.gi, h.xl, h.ts, ht, h.k, h.ks, h.mts, h.mss, h.mns, h.cs, h.as_, h.bo⟩
end
end Go.Ev
end
section
namespace Go.Ev
open Go Go.Proofs Go.Spec
section
variable {f : Int} {w : Wy} {p : Ro.P} {m : Nat} {G : Wy → Prop}
theorem SzO.up (hz : SzO p m) {m' : Nat} (h : m ≤ m') (h3 : m' ≤ 300) : SzO p m' :=
  ⟨h3, Nat.le_trans hz.ms h, Nat.le_trans hz.tb h, by have := hz.nx; omega, fun s => by have := hz.ou s; omega, hz.o0, hz.o5, hz.tq, hz.bq, hz.ol⟩
theorem SzO.th (hz : SzO p m) {l : List Ro.Th} (hl : l.length + p.bk.length ≤ m) (h : ∀ x, Ro.Th.q x ∈ l → 5 ≤ x.n) : SzO { p with th := l } m :=
  ⟨hz.m3, hz.ms, hl, hz.nx, hz.ou, hz.o0, hz.o5, h, hz.bq, hz.ol⟩
theorem SzO.bk (hz : SzO p m) {l : List Ro.Bk} (hl : p.th.length + l.length ≤ m) (h : ∀ n v, Ro.Bk.r n v ∈ l → 5 ≤ n) : SzO { p with bk := l } m :=
  ⟨hz.m3, hz.ms, hl, hz.nx, hz.ou, hz.o0, hz.o5, hz.tq, h, hz.ol⟩
theorem er_sub {α : Type} {l : List α} {i : Nat} : ∀ x ∈ l.eraseIdx i, x ∈ l := fun _ h => List.mem_of_mem_eraseIdx h
theorem er_or {α : Type} : ∀ {l : List α} {i : Nat} {d : α}, i < l.length → ∀ x ∈ l, x = l.getD i d ∨ x ∈ l.eraseIdx i
  | y :: r, 0, d, _, x, hx => by
    rcases List.mem_cons.1 hx with rfl | hx
    · exact .inl rfl
    · exact .inr hx
  | y :: r, i + 1, d, h, x, hx => by
    rcases List.mem_cons.1 hx with rfl | hx
    · exact .inr (List.mem_cons_self ..)
    · rcases er_or (d := d) (by simpa using h) x hx with e | e
      · exact .inl e
      · exact .inr (List.mem_cons_of_mem _ e)
theorem er_mem {α : Type} {l : List α} {i : Nat} {d : α} (h : i < l.length) : l.getD i d ∈ l := by
  rw [List.getD_eq_getElem?_getD, List.getElem?_eq_getElem h]; exact List.getElem_mem _
theorem er_len {α : Type} {l : List α} {i : Nat} (h : i < l.length) : (l.eraseIdx i).length = l.length - 1 := by rw [List.length_eraseIdx, if_pos h]
def Turn (p p' : Ro.P) (l : List Ro.Th) (y : Ro.Th) : Prop := p'.ms = p.ms ∧ ((p'.th = l ++ [y] ∧ p'.cm = p.cm ∧ p'.bk = p.bk ∧ Ro.goesB p.ms p.cm y = false) ∨ (p'.th = l ∧ p'.bk.length ≤ p.bk.length + 1))
theorem st3m (h : Rel f w p) (hI : Ro.Inv p) (hz : SzO p m) {i : Nat} {l : List Ro.Th} (hy : Ro.Th.m i ∈ p.th) (hs : ∀ x ∈ l, x ∈ p.th) (ho : ∀ x ∈ p.th, x = .m i ∨ x ∈ l) (hl : l.length + 1 ≤ p.th.length)
    (hG : ∀ w' p', Rel f w' p' → Ro.Inv p' → SzO p' m → Turn p p' l (.m i) → G w') :
    T_c3m w (Go.Ev.tn f (i + 1)) ((Ro.sid p i : Nat) : Int) (Ro.ssn p i) 0 0 0 [] (tcOf (l.map (yT f p.ms))) G := by
  have hi := hI.tM i hy
  have htb := hz.tb
  have hm3 := hz.m3
  have hlq : ∀ x, Ro.Th.q x ∈ l → 5 ≤ x.n := fun x hx => hz.tq x (hs _ hx)
  refine tc3m h hI hz hi (by omega) (fun e w' h' => ?_) (fun e ea w' h' => ?_) (fun e ea w' h' => ?_)
  · have h2 := hI.lessT (l := l) (y := .m i) hs ho fun j hj => by cases hj; exact e
    refine hG _ _ h' (h2.moreB (y := .a i) (.inr (.inl ⟨i, e, rfl⟩))) ?_ ⟨rfl, .inr ⟨rfl, by simp⟩⟩
    have z1 := hz.th (l := l) (by omega) hlq
    exact z1.bk (by simp; omega) fun n v hv => by
      rcases List.mem_append.1 hv with hv | hv
      · exact hz.bq n v hv
      · rw [List.mem_singleton] at hv; cases hv
  · have h2 := hI.lastT (l := l) (y := .m i) hs ho hy
    refine hG _ _ h' h2 (hz.th (by simp; omega) fun x hx => ?_) ⟨rfl, .inl ⟨rfl, rfl, rfl, ?_⟩⟩
    · rcases List.mem_append.1 hx with hx | hx
      · exact hlq x hx
      · rw [List.mem_singleton] at hx; cases hx
    · simp only [Ro.goesB, decide_eq_false e, ea]; rfl
  · have h1 := hI.comes hi e (Ro.ahead_no.1 ea)
    have h2 := h1.lessT (l := l) (y := .m i) hs ho fun j hj => by cases hj; exact List.mem_cons_self ..
    refine hG _ _ h' (h2.moreB (y := .a i) (.inr (.inl ⟨i, List.mem_cons_self .., rfl⟩))) ?_ ⟨rfl, .inr ⟨rfl, by simp⟩⟩
    refine ⟨hz.m3, hz.ms, by simp; omega, hz.nx, hz.ou, hz.o0, hz.o5, hlq, fun n v hv => ?_, hz.ol⟩
    rcases List.mem_append.1 hv with hv | hv
    · exact hz.bq n v hv
    · rw [List.mem_singleton] at hv; cases hv
theorem st3q (h : Rel f w p) (hI : Ro.Inv p) (hz : SzO p m) {x : Ro.Qu} {l : List Ro.Th} (hy : Ro.Th.q x ∈ p.th) (hs : ∀ y ∈ l, y ∈ p.th) (ho : ∀ y ∈ p.th, y = .q x ∨ y ∈ l) (hl : l.length + 1 ≤ p.th.length)
    (hG : ∀ w' p', Rel f w' p' → Ro.Inv p' → SzO p' m → Turn p p' l (.q x) → G w') :
    T_c3q w 0 0 0 x.n x.kd x.mo x.ss (tcOf (l.map (yT f p.ms))) G := by
  have htb := hz.tb
  have hm3 := hz.m3
  have hx := hI.tQ x hy
  have h5 := hz.tq x hy
  have hlq : ∀ x, Ro.Th.q x ∈ l → 5 ≤ x.n := fun x hx => hz.tq x (hs _ hx)
  have hb : ∀ n v, 5 ≤ n → ∀ n' v', Ro.Bk.r n' v' ∈ p.bk ++ [Ro.Bk.r n v] → 5 ≤ n' := fun n v hn n' v' hv => by
    rcases List.mem_append.1 hv with hv | hv
    · exact hz.bq n' v' hv
    · rw [List.mem_singleton] at hv; cases hv; exact hn
  refine tc3q h hI hz hx h5 (by omega) (fun e w' h' => ?_) (fun n v e ek w' h' => ?_) (fun e ek w' h' => ?_)
  · obtain ⟨_, _, _, h1⟩ := hI.done hx e
    have h2 := h1.lessT (l := l) (y := .q x) hs ho fun j hj => by cases hj
    refine hG _ _ h' (h2.moreB (y := .r x.n 1) (.inr (.inr ⟨x.n, by show x.n < p.ex + 1; omega, rfl⟩))) ?_ ⟨rfl, .inr ⟨rfl, by simp⟩⟩
    exact ⟨hz.m3, hz.ms, by simp; omega, hz.nx, hz.ou, hz.o0, hz.o5, hlq, hb _ _ h5, hz.ol⟩
  · have h2 := hI.lessT (l := l) (y := .q x) hs ho fun j hj => by cases hj
    obtain ⟨k1, k2⟩ := hI.ks n v ek
    subst k2
    refine hG _ _ h' (h2.moreB (y := .r n 1) (.inr (.inr ⟨n, by show n < p.ex; omega, rfl⟩))) ?_ ⟨rfl, .inr ⟨rfl, by simp⟩⟩
    exact ⟨hz.m3, hz.ms, by simp; omega, hz.nx, hz.ou, hz.o0, hz.o5, hlq, hb _ _ (by omega), hz.ol⟩
  · have h2 := hI.lessT (l := l) (y := .q x) hs ho fun j hj => by cases hj
    exact hG _ _ h' h2 (hz.th (by omega) hlq) ⟨rfl, .inr ⟨rfl, by simp⟩⟩
theorem st6r (h : Rel f w p) (hI : Ro.Inv p) (hz : SzO p m) {n v : Int} {l : List Ro.Bk} (hy : Ro.Bk.r n v ∈ p.bk) (hs : ∀ y ∈ l, y ∈ p.bk) (hl : l.length + 1 ≤ p.bk.length)
    (hG : ∀ w' p', Rel f w' p' → Ro.Inv p' → SzO p' m → p'.th = p.th → p'.bk = l → (∀ c, p.o = some c → n = c.n → p'.o = none) → p'.ms = p.ms → p'.cm = p.cm → G w') :
    T_c6r w 0 0 n v (bcOf (l.map (zB f p.ms))) G := by
  have htb := hz.tb
  have hm3 := hz.m3
  have hlb : ∀ n v, Ro.Bk.r n v ∈ l → 5 ≤ n := fun n v hv => hz.bq n v (hs _ hv)
  refine tc6r h hI hz (hI.bR n v hy) (hz.bq n v hy) (fun e w' h' => ?_) (fun c hc e w' h' => ?_)
  · exact hG _ _ h' (hI.lessB hs) (hz.bk (by omega) hlb) rfl rfl (fun c hc ec => absurd ec (e c hc)) rfl rfl
  · have hb := hI.bR n v hy
    obtain ⟨_, hq, h1⟩ := hI.told hc (by omega)
    refine hG _ _ h' (h1.lessB (l := l) hs) ⟨hz.m3, hz.ms, by show p.th.length + l.length ≤ m; omega, hz.nx, fun s => ?_, fun s => ?_, (fun c hc => by cases hc), hz.tq, hlb, (fun c hc => by cases hc)⟩ rfl rfl (fun _ _ _ => rfl) rfl rfl
    · show (if c.kd = 2 then _ else _ : List Int).getD s 0 ≤ m
      split
      · rw [Ro.getD_rep]; exact hz.ou s
      · rw [Ro.rst_get (Ro.allS_nn fun y hy => ?_)]
        · split
          · omega
          · exact hz.ou s
        · rcases hq with ⟨_, _, k3⟩ | ⟨k1, _⟩
          · exact (k3 y hy).1
          · omega
    · show 0 ≤ (if c.kd = 2 then _ else _ : List Int).getD s 0
      split
      · rw [Ro.getD_rep]; exact hz.o0 s
      · rw [Ro.rst_get (Ro.allS_nn fun y hy => ?_)]
        · split
          · omega
          · exact hz.o0 s
        · rcases hq with ⟨_, _, k3⟩ | ⟨k1, _⟩
          · exact (k3 y hy).1
          · omega
theorem st6a (h : Rel f w p) (hI : Ro.Inv p) (hz : SzO p m) {i : Nat} {l : List Ro.Bk} (hy : Ro.Bk.a i ∈ p.bk) (hs : ∀ y ∈ l, y ∈ p.bk) (hl : l.length + 1 ≤ p.bk.length)
    (hG : ∀ w' p', Rel f w' p' → Ro.Inv p' → SzO p' m → p'.th = p.th → p'.bk = l → p'.ms = p.ms → p'.cm = p.cm → G w') :
    T_c6a w (Go.Ev.tn f (i + 1)) ((Ro.sid p i : Nat) : Int) 0 0 (bcOf (l.map (zB f p.ms))) G := by
  have htb := hz.tb
  have hlb : ∀ n v, Ro.Bk.r n v ∈ l → 5 ≤ n := fun n v hv => hz.bq n v (hs _ hv)
  have hc := hI.bA i hy
  refine tc6a h hI hz hc (fun e w' h' => ?_) (fun e w' h' => ?_)
  · exact hG _ _ h' (hI.lessB hs) (hz.bk (by omega) hlb) rfl rfl rfl rfl
  · have h1 := hI.acked hc e
    exact hG _ _ h' (h1.lessB (l := l) hs) ⟨hz.m3, hz.ms, by show p.th.length + l.length ≤ m; omega, hz.nx, hz.ou, hz.o0, hz.o5, hz.tq, hlb, hz.ol⟩ rfl rfl rfl rfl
end
end Go.Ev
end
section
namespace Go.Ev
open Go Go.Proofs Go.Spec
theorem hd1 (w : Wy) (ha : w.a.kp = none) (hc : w.c.o = none) (hb : w.bad = false) (v : Mv) (i : Int) (L M : Nat) (K : SV → St → Prop) : goH1 (L + 1) (kE1 M K) v i w = Again (branch (decide (i < (v.n : Int))) (need (decide (0 ≤ i)) (need (decide (i < (v.n : Int))) (need (decide (0 + i.toNat < v.n)) (goA1 L (k1 L (kE1 M K)) v i w (atX v i))))) (goH2 (M + 4) (kE2 M K) v 0 w)) := by
  rcases w with ⟨⟨os, ps, qs, cu, xs, bs, cl, nx, ex, o, kp0⟩, ⟨os2, ps2, qs2, cu2, xs2, bs2, cl2, nx2, ex2, o2, kp⟩, ts, t, b, mc, bad⟩
  cases ha; cases hc; cases hb
  rcases o with _ | ⟨_, _, _, _⟩ <;> rcases kp with _ | ⟨_, _⟩ <;> kernel_rfl
theorem zd1 (w : Wy) (ha : w.a.kp = none) (hc : w.c.o = none) (hb : w.bad = false) (v : Mv) (i : Int) (L : Nat) (k : Exit → Fr → St → Prop) : goZ1 L (k1 L k) v i w = Again (goH1 L k v (addK .i64 i 1) w) := by
  rcases w with ⟨⟨os, ps, qs, cu, xs, bs, cl, nx, ex, o, kp0⟩, ⟨os2, ps2, qs2, cu2, xs2, bs2, cl2, nx2, ex2, o2, kp⟩, ts, t, b, mc, bad⟩
  cases ha; cases hc; cases hb
  rcases o with _ | ⟨_, _, _, _⟩ <;> rcases kp with _ | ⟨_, _⟩ <;> kernel_rfl
theorem dr1 (w : Wy) (ha : w.a.kp = none) (hc : w.c.o = none) (hb : w.bad = false) (v : Mv) (x : Int) (L M : Nat) (K : SV → St → Prop) : goH2 (L + 1) (kE2 M K) v x w = Again (branch (decide (addK .i64 (w.t.n : Int) (w.k.n : Int) > 0)) (branch (decide (x > 100000)) (K (.sa (.one (bv false))) [mvW v]) (branch (decide ((w.t.n : Int) > 0)) (goD3 L (kE2 M K) v x w) (goD6 L (kE2 M K) v x w))) (lf (goZ3 M (kE3 M K) v w))) := by
  rcases w with ⟨⟨os, ps, qs, cu, xs, bs, cl, nx, ex, o, kp0⟩, ⟨os2, ps2, qs2, cu2, xs2, bs2, cl2, nx2, ex2, o2, kp⟩, ts, t, b, mc, bad⟩
  cases ha; cases hc; cases hb
  rcases o with _ | ⟨_, _, _, _⟩ <;> rcases kp with _ | ⟨_, _⟩ <;> kernel_rfl
theorem dz1 (w : Wy) (ha : w.a.kp = none) (hc : w.c.o = none) (hb : w.bad = false) (ho : w.a.o = none) (v : Mv) (L M : Nat) (K : SV → St → Prop) : goZ3 M (kE3 M K) v w = Again (goF M (kE5 M K) v w) := by
  rcases w with ⟨⟨os, ps, qs, cu, xs, bs, cl, nx, ex, o, kp0⟩, ⟨os2, ps2, qs2, cu2, xs2, bs2, cl2, nx2, ex2, o2, kp⟩, ts, t, b, mc, bad⟩
  cases ha; cases hc; cases hb; cases ho
  rcases kp with _ | ⟨_, _⟩ <;> kernel_rfl
theorem de1 (w : Wy) (ha : w.a.kp = none) (hc : w.c.o = none) (hb : w.bad = false) (v : Mv) (L M : Nat) (K : SV → St → Prop) : goH3 (L + 1) (kE4 M K) v w = Again (branch (decide ((w.k.n : Int) > 0)) (goD4 L (kE4 M K) v w) (lf (goF M (kE5 M K) v w))) := by
  rcases w with ⟨⟨os, ps, qs, cu, xs, bs, cl, nx, ex, o, kp0⟩, ⟨os2, ps2, qs2, cu2, xs2, bs2, cl2, nx2, ex2, o2, kp⟩, ts, t, b, mc, bad⟩
  cases ha; cases hc; cases hb
  rcases o with _ | ⟨_, _, _, _⟩ <;> rcases kp with _ | ⟨_, _⟩ <;> kernel_rfl
def T_df (w : Wy) (KB : Bool → Prop) : Prop := (need (decide (((0 + (List.length w.a.os)) ≤ (List.length w.a.os)))) (need (decide (((List.length (List.take (List.length w.a.os) w.a.os)) ≤ 70368744177664))) (need (decide (((0 + (List.length w.c.qs)) ≤ (List.length w.c.qs)))) (need (decide (((List.length (List.take (List.length w.c.qs) w.c.qs)) ≤ 70368744177664))) (need (decide (((0 + (List.length (List.take (List.length w.a.os) w.a.os))) ≤ (List.length (List.take (List.length w.a.os) w.a.os))))) (need (decide (((0 + (List.length (List.take (List.length w.c.qs) w.c.qs))) ≤ (List.length (List.take (List.length w.c.qs) w.c.qs))))) (need (decide ((((List.length (List.take (List.length (List.take (List.length w.a.os) w.a.os)) (List.take (List.length w.a.os) w.a.os))) ≤ 70368744177664) ∧ ((List.length (List.take (List.length (List.take (List.length w.c.qs) w.c.qs)) (List.take (List.length w.c.qs) w.c.qs))) ≤ 70368744177664)))) (branch (eqLL (List.take (List.length (List.take (List.length w.a.os) w.a.os)) (List.take (List.length w.a.os) w.a.os)) (List.take (List.length (List.take (List.length w.c.qs) w.c.qs)) (List.take (List.length w.c.qs) w.c.qs))) (branch (eqK (((List.length w.m.cs) : Nat) : Int) (((List.length w.m.ks) : Nat) : Int)) (KB true) (KB false)) (KB false)))))))))
theorem df1 (w : Wy) (ha : w.a.kp = none) (hc : w.c.o = none) (hb : w.bad = false) (ho : w.a.o = none) (v : Mv) (L M : Nat) (K : SV → St → Prop) : goF M (kE5 M K) v w = Again (T_df w (fun b => K (.sa (.one (bv b))) [mvW v])) := by
  rcases w with ⟨⟨os, ps, qs, cu, xs, bs, cl, nx, ex, o, kp0⟩, ⟨os2, ps2, qs2, cu2, xs2, bs2, cl2, nx2, ex2, o2, kp⟩, ts, t, b, mc, bad⟩
  cases ha; cases hc; cases hb; cases ho
  rcases kp with _ | ⟨_, _⟩ <;> kernel_rfl
end Go.Ev
end
section
namespace Go.Ev
open Go Go.Proofs Go.Spec
theorem dz2 (w : Wy) (ha : w.a.kp = none) (hc : w.c.o = none) (hb : w.bad = false) (v : Mv) (on ok om : Int) (oss : List Int) (ho : w.a.o = some (on, ok, oss, om)) (L M : Nat) (K : SV → St → Prop) : goZ3 M (kE3 M K) v w = Again (T_c3q w 0 0 0 on ok om oss w.t (fun w => goH3 M (kE4 M K) v w)) := by
  rcases w with ⟨⟨os, ps, qs, cu, xs, bs, cl, nx, ex, o, kp0⟩, ⟨os2, ps2, qs2, cu2, xs2, bs2, cl2, nx2, ex2, o2, kp⟩, ts, t, b, mc, bad⟩
  cases ha; cases hc; cases hb; cases ho
  rcases kp with _ | ⟨_, _⟩ <;> kernel_rfl
end Go.Ev
end
section
namespace Go.Ev
open Go Go.Proofs Go.Spec
def S_c3m_2 (o : Option (Int × Int × List Int × Int)) (kp : Option (Int × Int)) : Prop := ∀ (os ps qs xs bs os2 ps2 qs2 xs2 bs2 : List Int) (cu nx ex cu2 nx2 ex2 ts : Int) (cl cl2 : Nat) (t : Tc) (b : Bc) (mc : Mc) (v : Mv) (x : Int) (yt ys yn yq yk ym : Int) (yw : List Int) (t1 : Tc) (L : Nat) (k : Exit → Fr → St → Prop), goY2 L k v x ⟨⟨os, ps, qs, cu, xs, bs, cl, nx, ex, o, none⟩, ⟨os2, ps2, qs2, cu2, xs2, bs2, cl2, nx2, ex2, none, kp⟩, ts, t, b, mc, false⟩ ⟨true, yt, ys, yn, yq, yk, yw, ym⟩ t1 = Again (T_c3m ⟨⟨os, ps, qs, cu, xs, bs, cl, nx, ex, o, none⟩, ⟨os2, ps2, qs2, cu2, xs2, bs2, cl2, nx2, ex2, none, kp⟩, ts, t, b, mc, false⟩ yt ys yn yq yk ym yw t1 (fun w1 => goH2 L k v (addK .i64 x 1) w1))
theorem c3m_2_nn : S_c3m_2 none none := by
  unfold S_c3m_2
  intros
  kernel_rfl
theorem c3m_2_nk (p1 p2 : Int) : S_c3m_2 none (some (p1, p2)) := by
  unfold S_c3m_2
  intros
  kernel_rfl
theorem c3m_2_sn (o1 o2 o4 : Int) (o3 : List Int) : S_c3m_2 (some (o1, o2, o3, o4)) none := by
  unfold S_c3m_2
  intros
  kernel_rfl
theorem c3m_2_sk (o1 o2 o4 : Int) (o3 : List Int) (p1 p2 : Int) : S_c3m_2 (some (o1, o2, o3, o4)) (some (p1, p2)) := by
  unfold S_c3m_2
  intros
  kernel_rfl
theorem c3m_2_all : ∀ (o : Option (Int × Int × List Int × Int)) (kp : Option (Int × Int)), S_c3m_2 o kp
  | none, none => c3m_2_nn
  | none, some (p1, p2) => c3m_2_nk p1 p2
  | some (o1, o2, o3, o4), none => c3m_2_sn o1 o2 o4 o3
  | some (o1, o2, o3, o4), some (p1, p2) => c3m_2_sk o1 o2 o4 o3 p1 p2
theorem c3m_2 (w : Wy) (ha : w.a.kp = none) (hc : w.c.o = none) (hb : w.bad = false) (v : Mv) (x : Int) (yt ys yn yq yk ym : Int) (yw : List Int) (t1 : Tc) (L : Nat) (k : Exit → Fr → St → Prop) : goY2 L k v x w ⟨true, yt, ys, yn, yq, yk, yw, ym⟩ t1 = Again (T_c3m w yt ys yn yq yk ym yw t1 (fun w => goH2 L k v (addK .i64 x 1) w)) := by
  rcases w with ⟨⟨os, ps, qs, cu, xs, bs, cl, nx, ex, o, kp0⟩, ⟨os2, ps2, qs2, cu2, xs2, bs2, cl2, nx2, ex2, o2, kp⟩, ts, t, b, mc, bad⟩
  cases ha; cases hc; cases hb
  exact c3m_2_all o kp os ps qs xs bs os2 ps2 qs2 xs2 bs2 cu nx ex cu2 nx2 ex2 ts cl cl2 t b mc v x yt ys yn yq yk ym yw t1 L k
end Go.Ev
end
section
namespace Go.Ev
open Go Go.Proofs Go.Spec
attribute [local irreducible] ev evCall branch need again
structure XOk (x : Xt) : Prop where
  kd : 0 ≤ x.kd ∧ x.kd ≤ 255
  nn : 0 ≤ x.nn ∧ x.nn ≤ 65535
  sd : 0 ≤ x.sd ∧ x.sd ≤ 65535
  wm : 0 ≤ x.wm ∧ x.wm ≤ 65535
  ws : ∀ y ∈ x.ws, 0 ≤ y ∧ y ≤ 65535
  wl : x.ws.length ≤ 70368744177664
section
variable {f : Int} {w : Wy} {p : Ro.P} {m : Nat}
theorem yGet {i : Nat} (hi : i < p.th.length) : (p.th.map (yT f p.ms)).getD i dY = yT f p.ms (p.th.getD i (.m 0)) := by
  rw [List.getD_eq_getElem?_getD, List.getElem?_map, List.getD_eq_getElem?_getD, List.getElem?_eq_getElem hi]; rfl
theorem zGet {i : Nat} (hi : i < p.bk.length) : (p.bk.map (zB f p.ms)).getD i dZ = zB f p.ms (p.bk.getD i (.a 0)) := by
  rw [List.getD_eq_getElem?_getD, List.getElem?_map, List.getD_eq_getElem?_getD, List.getElem?_eq_getElem hi]; rfl
theorem round1 (h : Rel f w p) (hI : Ro.Inv p) (hz : SzO p m) (hm : m < 300) {x : Xt} (hx : XOk x) {L : Nat} {k : Exit → Fr → St → Prop} {v : Mv} {i : Int}
    (hG : ∀ w' p', Rel f w' p' → Ro.Inv p' → SzO p' (m + 1) → goZ1 L k v i w') : goA1 L k v i w x := by
  obtain ⟨kd, nn, sd, wk, ws, wm⟩ := x
  obtain ⟨hkd, hnn, hsd, hwm, hws, hwl⟩ := hx
  dsimp only at hkd hnn hsd hwm hws hwl
  have htb := hz.tb
  have hm3 := hz.m3
  have h0 : goZ1 L k v i w := hG w p h hI (hz.up (by omega) (by omega))
  have hlt : (p.th.map (yT f p.ms)).length ≤ 600 := by rw [List.length_map]; omega
  have hlk : (p.bk.map (zB f p.ms)).length ≤ 600 := by rw [List.length_map]; omega
  have hG0 : ∀ w' p', Rel f w' p' → Ro.Inv p' → SzO p' m → goZ1 L k v i w' := fun w' p' a b c => hG w' p' a b (c.up (by omega) (by omega))
  have t1 : ∀ i, i < (p.th.map (yT f p.ms)).length → i < p.th.length := fun i hi => by rw [List.length_map] at hi; exact hi
  have k1 : ∀ i, i < (p.bk.map (zB f p.ms)).length → i < p.bk.length := fun i hi => by rw [List.length_map] at hi; exact hi
  have kq : ∀ l : List Ro.Bk, (∀ y ∈ l, y ∈ p.bk) → ∀ n v, Ro.Bk.r n v ∈ l → 5 ≤ n := fun l hl n v hv => hz.bq n v (hl _ hv)
  have tq : ∀ l : List Ro.Th, (∀ y ∈ l, y ∈ p.th) → ∀ x, Ro.Th.q x ∈ l → 5 ≤ x.n := fun l hl x hx => hz.tq x (hl _ hx)
  obtain ⟨n, rfl⟩ : ∃ n : Nat, kd = (n : Int) := ⟨kd.toNat, by omega⟩
  match n, hkd with
  | 0, _ =>
    refine Eq.mpr (m0 w h.kp h.o2 h.bad nn sd wk wm i v ws L k) (Again.mk (tm0 h hI hz hm hsd h0 fun s hs hn w' h' => ?_))
    have h3 := hz.ms
    refine hG _ _ h' (hI.send (by omega) hs hn) ⟨by omega, by simp; omega, by simp; omega, by have := hz.nx; show p.nx ≤ 5 + ((m + 1 : Nat) : Int); omega, fun u => ?_, fun u => ?_, hz.o5, fun x hx => ?_, hz.bq, hz.ol⟩
    · show (p.out.set s _).getD u 0 ≤ _
      rw [Ro.getD_set hs]
      have h1 := hz.ou u
      have h2 := hz.ou s
      split <;> omega
    · show 0 ≤ (p.out.set s _).getD u 0
      rw [Ro.getD_set hs]
      have h1 := hz.o0 u
      have h2 := hz.o0 s
      split <;> omega
    · rcases List.mem_append.1 hx with hx | hx
      · exact hz.tq x hx
      · rw [List.mem_singleton] at hx; cases hx
  | 1, _ =>
    refine Eq.mpr (m1 w h.kp h.o2 h.bad nn sd wk wm i v ws L k) (Again.mk (tm1 h hI hz hwm hws hwl h0 fun ho c hn hq hop hcl w' h' => ?_))
    have hx5 := hI.x5
    have hex : p.ex = p.nx := by
      rcases hI.qs with ⟨_, e⟩ | ⟨c', e, _⟩
      · exact e
      · rw [ho] at e; cases e
    have h3 := hz.ms
    refine hG _ _ h' (hI.ask ho hn hq hop) ⟨by omega, by show p.ms.length ≤ m + 1; omega, by simp; omega, by have := hz.nx; show p.nx + 1 ≤ 5 + ((m + 1 : Nat) : Int); omega, fun u => by have := hz.ou u; show p.out.getD u 0 ≤ _; omega, hz.o0, fun c' hc' => by show 6 ≤ p.nx + 1; omega, fun x hx => ?_, hz.bq, fun c' hc' => by cases hc'; exact hcl⟩
    rcases List.mem_append.1 hx with hx | hx
    · exact hz.tq x hx
    · rw [List.mem_singleton] at hx; cases hx; omega
  | 2, _ =>
    refine Eq.mpr (m2 w h.kp h.o2 h.bad nn sd wk wm i v ws L k) (Again.mk (tm2 h hz (fun _ => h0) fun c hc w' h' => ?_))
    refine hG _ _ h' (hI.moreT (y := .q c) (.inr (.inr ⟨c, hc, rfl⟩))) ((hz.up (m' := m + 1) (by omega) (by omega)).th (by simp; omega) fun x hx => ?_)
    rcases List.mem_append.1 hx with hx | hx
    · exact hz.tq x hx
    · rw [List.mem_singleton] at hx; cases hx
      have := hz.o5 c hc
      rcases hI.qs with ⟨e, _⟩ | ⟨c', e, e1, _⟩
      · rw [hc] at e; cases e
      · rw [hc] at e; cases e; omega
  | 3, _ =>
    refine Eq.mpr (m3 w h.kp h.o2 h.bad nn sd wk wm i v ws L k) (Again.mk (tm3 h.t hlt hnn (fun _ => h0) fun j old hj => ?_))
    have hj := t1 j hj
    have hmem := er_mem (d := Ro.Th.m 0) hj
    rw [yGet hj, ← map_er]
    cases hy : p.th.getD j (.m 0) with
    | m a =>
      rw [hy] at hmem
      refine Eq.mpr (c3m_1 w h.kp h.o2 h.bad nn sd wk wm i v ws _ _ _ _ _ _ _ _ old L k) (Again.mk (st3m h hI hz hmem er_sub (fun x hx => by have := er_or (d := Ro.Th.m 0) hj x hx; rw [hy] at this; exact this) (by rw [er_len hj]; omega) fun w' p' a b c _ => hG0 w' p' a b c))
    | q x =>
      rw [hy] at hmem
      refine Eq.mpr (c3q_1 w h.kp h.o2 h.bad nn sd wk wm i v ws _ _ _ _ _ _ _ _ old L k) (Again.mk (st3q h hI hz hmem er_sub (fun x hx => by have := er_or (d := Ro.Th.m 0) hj x hx; rw [hy] at this; exact this) (by rw [er_len hj]; omega) fun w' p' a b c _ => hG0 w' p' a b c))
  | 4, _ =>
    refine Eq.mpr (m4 w h.kp h.o2 h.bad nn sd wk wm i v ws L k) (Again.mk (tm3 h.t hlt hnn (fun _ => h0) fun j old hj => ?_))
    have hj := t1 j hj
    have hmem := er_mem (d := Ro.Th.m 0) hj
    rw [yGet hj, ← map_er]
    cases hy : p.th.getD j (.m 0) with
    | m a =>
      rw [hy] at hmem
      refine Eq.mpr (c4m_1 w h.kp h.o2 h.bad nn sd wk wm i v ws _ _ _ _ _ _ _ _ old L k) (Again.mk (tc4m h (by rw [er_len hj]; omega) fun w' h' => hG0 _ _ h' (hI.lastT (y := .m a) er_sub (fun x hx => by have := er_or (d := Ro.Th.m 0) hj x hx; rw [hy] at this; exact this) hmem) (hz.th (by have := er_len hj; simp; omega) fun x hx => ?_)))
      rcases List.mem_append.1 hx with hx | hx
      · exact tq _ er_sub x hx
      · rw [List.mem_singleton] at hx; cases hx
    | q x =>
      rw [hy] at hmem
      exact Eq.mpr (c4q_1 w h.kp h.o2 h.bad nn sd wk wm i v ws _ _ _ _ _ _ _ _ old L k) (Again.mk (tc4q h fun w' h' => hG0 _ _ h' (hI.lessT (y := .q x) er_sub (fun z hz => by have := er_or (d := Ro.Th.m 0) hj z hz; rw [hy] at this; exact this) (fun a ha => by cases ha)) (hz.th (by have := er_len hj; omega) (tq _ er_sub))))
  | 5, _ =>
    refine Eq.mpr (m5 w h.kp h.o2 h.bad nn sd wk wm i v ws L k) (Again.mk (tm5 h.t hlt hnn (fun _ => h0) fun j hj => ?_))
    have hj := t1 j hj
    have hmem := er_mem (d := Ro.Th.m 0) hj
    rw [yGet hj]
    have h' := h.tl (p.th ++ [p.th.getD j (.m 0)])
    rw [List.map_append, List.map_cons, List.map_nil] at h'
    refine hG _ _ h' (hI.moreT (.inl hmem)) ((hz.up (m' := m + 1) (by omega) (by omega)).th (by simp; omega) fun x hx => ?_)
    rcases List.mem_append.1 hx with hx | hx
    · exact hz.tq x hx
    · rw [List.mem_singleton] at hx; rw [← hx] at hmem; exact hz.tq x hmem
  | 6, _ =>
    refine Eq.mpr (m6 w h.kp h.o2 h.bad nn sd wk wm i v ws L k) (Again.mk (tm6 h.k hlk hnn (fun _ => h0) fun j old hj => ?_))
    have hj := k1 j hj
    have hmem := er_mem (d := Ro.Bk.a 0) hj
    rw [zGet hj, ← map_er]
    cases hy : p.bk.getD j (.a 0) with
    | a b =>
      rw [hy] at hmem
      exact Eq.mpr (c6a_1 w h.kp h.o2 h.bad nn sd wk wm i v ws _ _ _ _ _ old L k) (Again.mk (st6a h hI hz hmem er_sub (by rw [er_len hj]; omega) fun w' p' a b c _ _ _ _ => hG0 w' p' a b c))
    | r n v' =>
      rw [hy] at hmem
      exact Eq.mpr (c6r_1 w h.kp h.o2 h.bad nn sd wk wm i v ws _ _ _ _ _ old L k) (Again.mk (st6r h hI hz hmem er_sub (by rw [er_len hj]; omega) fun w' p' a b c _ _ _ _ _ => hG0 w' p' a b c))
  | 7, _ =>
    refine Eq.mpr (m7 w h.kp h.o2 h.bad nn sd wk wm i v ws L k) (Again.mk (tm6 h.k hlk hnn (fun _ => h0) fun j old hj => ?_))
    have hj := k1 j hj
    have hmem := er_mem (d := Ro.Bk.a 0) hj
    rw [zGet hj, ← map_er]
    cases hy : p.bk.getD j (.a 0) with
    | a b =>
      rw [hy] at hmem
      have hc := hI.bA b hmem
      have hi := hI.cmN b hc
      have hel := er_len hj
      refine Eq.mpr (c7a_1 w h.kp h.o2 h.bad nn sd wk wm i v ws _ _ _ _ _ old L k) (Again.mk (tc7a h hI hz hi fun w' h' => hG0 _ _ h' ((hI.lessB er_sub).moreT (y := .m b) (.inr (.inl ⟨b, hi, rfl⟩))) ?_))
      have z1 := hz.bk (l := p.bk.eraseIdx j) (by omega) (kq _ er_sub)
      exact z1.th (by simp; omega) fun x hx => by
        rcases List.mem_append.1 hx with hx | hx
        · exact hz.tq x hx
        · rw [List.mem_singleton] at hx; cases hx
    | r n v' =>
      rw [hy] at hmem
      exact Eq.mpr (c7r_1 w h.kp h.o2 h.bad nn sd wk wm i v ws _ _ _ _ _ old L k) (Again.mk (tc7r h fun w' h' => hG0 _ _ h' (hI.lessB er_sub) (hz.bk (by have := er_len hj; omega) (kq _ er_sub))))
  | 8, _ =>
    refine Eq.mpr (m8 w h.kp h.o2 h.bad nn sd wk wm i v ws L k) (Again.mk (tm8 h.k hlk hnn (fun _ => h0) fun j hj => ?_))
    have hj := k1 j hj
    have hmem := er_mem (d := Ro.Bk.a 0) hj
    rw [zGet hj]
    have h' := h.kl (p.bk ++ [p.bk.getD j (.a 0)])
    rw [List.map_append, List.map_cons, List.map_nil] at h'
    refine hG _ _ h' (hI.moreB (.inl hmem)) ((hz.up (m' := m + 1) (by omega) (by omega)).bk (by simp; omega) fun n v hv => ?_)
    rcases List.mem_append.1 hv with hv | hv
    · exact hz.bq n v hv
    · rw [List.mem_singleton] at hv; rw [← hv] at hmem; exact hz.bq n v hmem
  | n + 9, _ => exact Eq.mpr (m9 w h.kp h.o2 h.bad nn sd wk wm i v ws n L k) (Again.mk h0)
end
end Go.Ev
end
section
namespace Go.Ev
open Go Go.Proofs Go.Spec
attribute [local irreducible] ev evCall branch need again
theorem lf_i {p : Prop} (h : p) : lf p := h
theorem eqLL_self (l : List Int) : eqLL l l = true := decide_eq_true rfl
section
variable {f : Int} {v : Mv} {M : Nat} {K : SV → St → Prop}
theorem loop1 (hV : ∀ j : Nat, j < v.n → XOk (atX v j)) (hn : v.n ≤ 300) (hE : ∀ w p, Rel f w p → Ro.Inv p → SzO p 300 → goH2 (M + 4) (kE2 M K) v 0 w) :
    ∀ (d rem i : Nat) (w : Wy) (p : Ro.P), i + rem = v.n → Rel f w p → Ro.Inv p → SzO p i → goH1 (rem + d + 1) (kE1 M K) v (i : Int) w := by
  intro d rem
  induction rem with
  | zero =>
    intro i w p hi h hI hz
    refine Eq.mpr (hd1 w h.kp h.o2 h.bad v (i : Int) (0 + d) M K) (Again.mk (brf (by omega) (hE w p h hI (hz.up (by omega) (by omega)))))
  | succ rem ih =>
    intro i w p hi h hI hz
    refine Eq.mpr (hd1 w h.kp h.o2 h.bad v (i : Int) (rem + 1 + d) M K) (Again.mk (brt (by omega) (ndd (by omega) (ndd (by omega) (ndd (by omega) ?_)))))
    refine round1 h hI hz (by omega) (hV i (by omega)) fun w' p' h' hI' hz' => ?_
    refine Eq.mpr (zd1 w' h'.kp h'.o2 h'.bad v (i : Int) (rem + 1 + d) (kE1 M K)) (Again.mk ?_)
    rw [add64 (by omega), show ((i : Nat) : Int) + 1 = ((i + 1 : Nat) : Int) from rfl]
    rw [show rem + 1 + d = rem + d + 1 from by omega]
    exact ih (i + 1) w' p' (by omega) h' hI' hz'
theorem loop2 {m : Nat} (hE : ∀ w p, Rel f w p → Ro.Inv p → SzO p m → p.th = [] → p.bk = [] → goZ3 M (kE3 M K) v w) :
    ∀ (T x : Nat) (w : Wy) (p : Ro.P), Ro.turns p.ms p.cm p.th p.bk.length ≤ T → x + T ≤ 100001 → Rel f w p → Ro.Inv p → SzO p m → goH2 (T + 1) (kE2 M K) v (x : Int) w := by
  intro T
  induction T with
  | zero =>
    intro x w p ht
    unfold Ro.turns at ht
    omega
  | succ T ih =>
    intro x w p ht hx h hI hz
    have htn := h.tn
    have hkn := h.kn
    have htb := hz.tb
    have hm3 := hz.m3
    have hadd : addK .i64 (x : Int) 1 = ((x + 1 : Nat) : Int) := by rw [add64 (by omega)]; omega
    refine Eq.mpr (dr1 w h.kp h.o2 h.bad v (x : Int) (T + 1) M K) (Again.mk ?_)
    rw [htn, hkn, add64 (by omega)]
    refine brd (fun e => ?_) (fun e => lf_i (hE w p h hI hz (List.eq_nil_of_length_eq_zero (by omega)) (List.eq_nil_of_length_eq_zero (by omega))))
    refine brf (by omega) (brd (fun e1 => ?_) (fun e1 => ?_))
    · refine Eq.mpr (d3 w h.kp h.o2 h.bad v (x : Int) (T + 1) (kE2 M K)) (Again.mk (td3 h.t (by rw [List.length_map]; omega) (fun e2 => by have := congrArg List.length e2; rw [List.length_map] at this; exact absurd this (by simp only [List.length_nil]; omega)) fun _ => ?_))
      rw [yGet (by omega), ← map_er]
      obtain ⟨y, r, hyr⟩ : ∃ y r, p.th = y :: r := by
        cases hp : p.th with
        | nil => rw [hp] at e1; simp at e1
        | cons y r => exact ⟨y, r, rfl⟩
      have hgo := hI.goes (by rw [hyr]; simp)
      have next : ∀ w' p', Rel f w' p' → Ro.Inv p' → SzO p' m → Turn p p' r y → goH2 (T + 1) (kE2 M K) v (addK .i64 (x : Int) 1) w' := fun w' p' h' hI' hz' ht' => by
        rw [hadd]
        refine ih (x + 1) w' p' ?_ (by omega) h' hI' hz'
        obtain ⟨q1, q2⟩ := ht'
        rw [hyr] at ht
        rcases q2 with ⟨a1, a2, a3, a4⟩ | ⟨a1, a2⟩
        · rw [hyr] at hgo
          have := Ro.turns_wait (k := p.bk.length) a4 hgo
          rw [q1, a1, a2, a3]; omega
        · have := Ro.turns_go (ms := p.ms) (cm := p.cm) (cm' := p'.cm) (y := y) (r := r) a2
          rw [q1, a1]; omega
      have hsub : ∀ z ∈ r, z ∈ p.th := fun z hz => by rw [hyr]; exact List.mem_cons_of_mem _ hz
      have hor : ∀ z ∈ p.th, z = y ∨ z ∈ r := fun z hz => by rw [hyr] at hz; exact List.mem_cons.1 hz
      have hle : r.length + 1 ≤ p.th.length := by rw [hyr]; simp
      have hmem : y ∈ p.th := by rw [hyr]; exact List.mem_cons_self ..
      rw [show p.th.getD 0 (.m 0) = y from by rw [hyr]; rfl, show p.th.eraseIdx 0 = r from by rw [hyr]; rfl]
      cases y with
      | m a => exact Eq.mpr (c3m_2 w h.kp h.o2 h.bad v (x : Int) _ _ _ _ _ _ _ _ (T + 1) (kE2 M K)) (Again.mk (st3m h hI hz hmem hsub hor hle next))
      | q c => exact Eq.mpr (c3q_2 w h.kp h.o2 h.bad v (x : Int) _ _ _ _ _ _ _ _ (T + 1) (kE2 M K)) (Again.mk (st3q h hI hz hmem hsub hor hle next))
    · have hth : p.th = [] := List.eq_nil_of_length_eq_zero (by omega)
      refine Eq.mpr (d6 w h.kp h.o2 h.bad v (x : Int) (T + 1) (kE2 M K)) (Again.mk (td6 h.k (by rw [List.length_map]; omega) (fun e2 => by have := congrArg List.length e2; rw [List.length_map] at this; exact absurd this (by simp only [List.length_nil]; omega)) fun _ => ?_))
      rw [zGet (by omega), ← map_er]
      obtain ⟨y, r, hyr⟩ : ∃ y r, p.bk = y :: r := by
        cases hp : p.bk with
        | nil => rw [hp] at e; simp at e; omega
        | cons y r => exact ⟨y, r, rfl⟩
      have next : ∀ w' p', Rel f w' p' → Ro.Inv p' → SzO p' m → p'.th = p.th → p'.bk = r → p'.ms = p.ms → p'.cm = p.cm → goH2 (T + 1) (kE2 M K) v (addK .i64 (x : Int) 1) w' := fun w' p' h' hI' hz' q1 q2 q3 q4 => by
        rw [hadd]
        refine ih (x + 1) w' p' ?_ (by omega) h' hI' hz'
        rw [hth, hyr] at ht
        have := Ro.turns_back (ms := p.ms) (cm := p.cm) (k := r.length)
        rw [q1, q2, q3, q4, hth]
        simp only [List.length_cons] at ht
        omega
      have hsub : ∀ z ∈ r, z ∈ p.bk := fun z hz => by rw [hyr]; exact List.mem_cons_of_mem _ hz
      have hle : r.length + 1 ≤ p.bk.length := by rw [hyr]; simp
      have hmem : y ∈ p.bk := by rw [hyr]; exact List.mem_cons_self ..
      rw [show p.bk.getD 0 (.a 0) = y from by rw [hyr]; rfl, show p.bk.eraseIdx 0 = r from by rw [hyr]; rfl]
      cases y with
      | a b => exact Eq.mpr (c6a_2 w h.kp h.o2 h.bad v (x : Int) _ _ _ _ _ (T + 1) (kE2 M K)) (Again.mk (st6a h hI hz hmem hsub hle next))
      | r n v' => exact Eq.mpr (c6r_2 w h.kp h.o2 h.bad v (x : Int) _ _ _ _ _ (T + 1) (kE2 M K)) (Again.mk (st6r h hI hz hmem hsub hle fun w' p' a b c d e _ g i => next w' p' a b c d e g i))
end
end Go.Ev
end
section
namespace Go.Ev
open Go Go.Proofs Go.Spec
attribute [local irreducible] ev evCall branch need again
section
variable {f : Int} {w : Wy} {p : Ro.P} {v : Mv} {M m : Nat} {K : SV → St → Prop}
theorem goF_end (h : Rel f w p) (hI : Ro.Inv p) (ht : p.th = []) (ho : p.o = none) (hK : K (.sa (.one (bv true))) [mvW v]) : goF M (kE5 M K) v w := by
  have hwo : w.a.o = none := by rw [h.o, ho]; rfl
  obtain ⟨e1, e2⟩ := hI.final ht ho
  have h16 := hI.l16
  have hcs : w.m.cs.length = p.cm.length := by rw [h.cs]; simp [tnL]
  have hks : w.m.ks.length = p.ms.length := by rw [h.ks]; simp [tnL]
  refine Eq.mpr (df1 w h.kp h.o2 h.bad hwo v 0 M K) (Again.mk ?_)
  unfold T_df
  rw [h.os, h.qs, ← e1]
  simp only [List.take_length]
  rw [eqLL_self, eqK_t.2 (by omega), bTe, bTe]
  exact ndd (by omega) (ndd (by omega) (ndd (by omega) (ndd (by omega) (ndd (by omega) (ndd (by omega) (ndd (by omega) hK))))))
theorem goZ3_end (h : Rel f w p) (hI : Ro.Inv p) (hz : SzO p 300) (ht : p.th = []) (hb : p.bk = []) (hK : K (.sa (.one (bv true))) [mvW v]) : goZ3 (M + 2) (kE3 (M + 2) K) v w := by
  cases ho : p.o with
  | none =>
    have hwo : w.a.o = none := by rw [h.o, ho]; rfl
    exact Eq.mpr (dz1 w h.kp h.o2 h.bad hwo v 0 (M + 2) K) (Again.mk (goF_end h hI ht ho hK))
  | some c =>
    have hwo : w.a.o = some (c.n, c.kd, c.ss, c.mo) := by rw [h.o, ho]; rfl
    have h6 := hz.o5 c ho
    rcases hI.qs with ⟨e, _⟩ | ⟨c', e0, e1, e2, e3⟩
    · rw [ho] at e; cases e
    rw [ho] at e0; cases e0
    have hx : c.n < p.nx ∧ ∀ c', p.o = some c' → c.n = c'.n → c = c' := ⟨by omega, fun c' hc _ => by rw [ho] at hc; cases hc; rfl⟩
    have hm3 := hz.m3
    -- the reply is on its way back
    have back : ∀ w' p', Rel f w' p' → Ro.Inv p' → SzO p' 300 → p'.th = [] → p'.o = some c → (∃ v', p'.bk = [.r c.n v']) → goH3 (M + 2) (kE4 (M + 2) K) v w' := fun w' p' h' hI' hz' ht' ho' ⟨v', hb'⟩ => by
      have hkn := h'.kn
      rw [hb'] at hkn
      refine Eq.mpr (de1 w' h'.kp h'.o2 h'.bad v (M + 1) (M + 2) K) (Again.mk (brt (by rw [hkn]; simp) ?_))
      refine Eq.mpr (d4 w' h'.kp h'.o2 h'.bad v (M + 1) (kE4 (M + 2) K)) (Again.mk (td6 h'.k (by rw [hb']; simp) (fun e => by rw [hb'] at e; simp at e) fun _ => ?_))
      rw [zGet (by rw [hb']; simp), ← map_er]
      rw [show p'.bk.getD 0 (.a 0) = .r c.n v' from by rw [hb']; rfl, show p'.bk.eraseIdx 0 = [] from by rw [hb']; rfl]
      refine Eq.mpr (c6r_3 w' h'.kp h'.o2 h'.bad v _ _ _ _ _ (M + 1) (kE4 (M + 2) K)) (Again.mk (st6r h' hI' hz' (by rw [hb']; simp) (fun y hy => by simp at hy) (by rw [hb']; simp) fun w2 p2 q1 q2 q3 q4 q5 q6 _ _ => ?_))
      have hkn2 := q1.kn
      rw [q5] at hkn2
      refine Eq.mpr (de1 w2 q1.kp q1.o2 q1.bad v M (M + 2) K) (Again.mk (brf (by rw [hkn2]; simp) (lf_i ?_)))
      exact goF_end q1 q2 (by rw [q4, ht']) (q6 c ho' rfl) hK
    have hwt : w.t = tcOf (([] : List Ro.Th).map (yT f p.ms)) := by rw [h.t, ht]
    refine Eq.mpr (dz2 w h.kp h.o2 h.bad v _ _ _ _ hwo 0 (M + 2) K) (Again.mk ?_)
    rw [hwt]
    have hbq : ∀ n v, 5 ≤ n → ∀ n' v', Ro.Bk.r n' v' ∈ p.bk ++ [Ro.Bk.r n v] → 5 ≤ n' := fun n v hn n' v' hv => by
      rcases List.mem_append.1 hv with hv | hv
      · exact hz.bq n' v' hv
      · rw [List.mem_singleton] at hv; cases hv; exact hn
    have hno : ∀ y : Ro.Th, y ∉ p.th := fun y hy => by rw [ht] at hy; simp at hy
    have hbl : ∀ b : Ro.Bk, p.bk ++ [b] = [b] := fun b => by rw [hb]; rfl
    refine tc3q (l := []) h hI hz hx (by omega) (by rw [hb]; simp) (fun e w' h' => ?_) (fun n v' e ek w' h' => ?_) (fun e ek w' h' => ?_)
    · obtain ⟨_, _, _, i1⟩ := hI.done hx e
      have i2 := i1.lessT (l := []) (y := .q c) (fun x hx => by simp at hx) (fun x hx => absurd hx (hno x)) (fun j hj => by cases hj)
      refine back _ _ h' (i2.moreB (y := .r c.n 1) (.inr (.inr ⟨c.n, by show c.n < p.ex + 1; omega, rfl⟩))) ?_ rfl ho ⟨1, hbl _⟩
      exact ⟨hz.m3, hz.ms, by show 0 + (p.bk ++ [Ro.Bk.r c.n 1]).length ≤ 300; rw [hbl]; simp, hz.nx, hz.ou, hz.o0, hz.o5, (fun x hx => by simp at hx), hbq _ _ (by omega), hz.ol⟩
    · obtain ⟨k1, k2⟩ := hI.ks n v' ek
      subst k2
      have i2 := hI.lessT (l := []) (y := .q c) (fun x hx => by simp at hx) (fun x hx => absurd hx (hno x)) (fun j hj => by cases hj)
      refine back _ _ h' (i2.moreB (y := .r n 1) (.inr (.inr ⟨n, by show n < p.ex; omega, rfl⟩))) ?_ rfl ho ⟨1, by show p.bk ++ _ = _; rw [hbl, show n = c.n from by omega]⟩
      exact ⟨hz.m3, hz.ms, by show 0 + (p.bk ++ [Ro.Bk.r n 1]).length ≤ 300; rw [hbl]; simp, hz.nx, hz.ou, hz.o0, hz.o5, (fun x hx => by simp at hx), hbq _ _ (by omega), hz.ol⟩
    · exfalso
      have hex : p.ex = p.nx := by omega
      exact hI.ke (by omega) (ek (by omega))
end
end Go.Ev
end
section
namespace Go.Ev
open Go Go.Proofs Go.Spec
theorem t_ro0 (s c : Int) (L n : Nat) (kds ns sids wks : List Int) (wss : List (List Int)) (wms : List Int) (k : SV → St → Prop) : evCall cxRo (ev cxRo (L + 100)) 5 [.one (iv .u16 s), .one (iv .u32 c), .one (.ref 0)] [mvO n kds ns sids wks wss wms] k =
    (branch (decide ((s < (1)))) (k (.sa (.one (bv true))) [(some (SO.own false MK.ext 0 6 (Ct.tab n [(Col.ints .u8 kds), (Col.ints .u16 ns), (Col.ints .u16 sids), (Col.ints .u8 wks), (Col.data .u16 wss), (Col.ints .u16 wms)])))]) (branch (decide ((s > (16)))) (k (.sa (.one (bv true))) [(some (SO.own false MK.ext 0 6 (Ct.tab n [(Col.ints .u8 kds), (Col.ints .u16 ns), (Col.ints .u16 sids), (Col.ints .u8 wks), (Col.data .u16 wss), (Col.ints .u16 wms)])))]) (branch (decide ((((n : Nat) : Int) > (300)))) (k (.sa (.one (bv true))) [(some (SO.own false MK.ext 0 6 (Ct.tab n [(Col.ints .u8 kds), (Col.ints .u16 ns), (Col.ints .u16 sids), (Col.ints .u8 wks), (Col.data .u16 wss), (Col.ints .u16 wms)])))]) (branch (decide (((if ((0) > s) then (0) else s) > (16)))) (branch (decide (((if (s > (0)) then s else (0)) > (16)))) (k (.sa (.one (bv false))) [(some (SO.own false MK.ext 0 6 (Ct.tab n [(Col.ints .u8 kds), (Col.ints .u16 ns), (Col.ints .u16 sids), (Col.ints .u8 wks), (Col.data .u16 wss), (Col.ints .u16 wms)])))]) (need (decide (((0) ≤ s))) (need (decide ((s ≤ s))) (need (decide (((s * (2)) ≤ (140737488355328)))) (need (decide ((s < (9223372036854775808)))) (k (.sa (.one (bv false))) [(some (SO.own false MK.ext 0 6 (Ct.tab n [(Col.ints .u8 kds), (Col.ints .u16 ns), (Col.ints .u16 sids), (Col.ints .u8 wks), (Col.data .u16 wss), (Col.ints .u16 wms)])))])))))) (need (decide (((0) ≤ s))) (need (decide ((s ≤ s))) (need (decide (((s * (2)) ≤ (140737488355328)))) (need (decide ((s < (9223372036854775808)))) (need (decide (((0) ≤ s))) (need (decide ((s ≤ s))) (need (decide (((s * (2)) ≤ (140737488355328)))) (need (decide ((s < (9223372036854775808)))) (branch (decide (((if (s > (0)) then s else (0)) > (16)))) (k (.sa (.one (bv false))) [(some (SO.own false MK.ext 0 6 (Ct.tab n [(Col.ints .u8 kds), (Col.ints .u16 ns), (Col.ints .u16 sids), (Col.ints .u8 wks), (Col.data .u16 wss), (Col.ints .u16 wms)])))]) (need (decide (((0) ≤ s))) (need (decide ((s ≤ s))) (need (decide (((s * (2)) ≤ (140737488355328)))) (need (decide ((s < (9223372036854775808)))) (need (true || (decide ((0 < (Int.toNat s))))) (need (decide (((0 + (Int.toNat s)) ≤ (List.length (List.replicate (Int.toNat s) (0 : Int)))))) (need (true || (decide ((0 < (Int.toNat s))))) (need (decide (((0 + (Int.toNat s)) ≤ (List.length (List.replicate (Int.toNat s) (0 : Int)))))) (need (true || (decide ((0 < (Int.toNat s))))) (need (decide (((0 + (Int.toNat s)) ≤ (List.length (List.replicate (Int.toNat s) (0 : Int)))))) (ev cxRo (L + 93) 1 5 (codeAt Try.prog 5 [1, 1, 1, 1, 0, 1, 0]) (frm 142 [(7, (.sa (.one (SC.ptr 1 0 0)))), (32, (.sa (.one (SC.ref 0)))), (33, (.sa (.one (iv .i64 ((n : Nat) : Int))))), (34, (.sa (.one (iv .i64 (0)))))]) [(some (SO.own false MK.ext 0 6 (Ct.tab n [(Col.ints .u8 kds), (Col.ints .u16 ns), (Col.ints .u16 sids), (Col.ints .u8 wks), (Col.data .u16 wss), (Col.ints .u16 wms)]))), (obj 78 9 [(SC.ptr 2 0 0), (SC.ptr 11 0 0), (iv .u32 c), (SC.ref 20), (SC.ref 21), (SC.ref 22), (SC.ref 23), (SC.ref 24), (bv false)]), (obj 92 6 [(SC.ref 3), (SC.ref 4), (SC.ref 5), (SC.ptr 6 0 0), (SC.ptr 8 0 0), (SC.ptr 9 0 0)]), (some (SO.own true MK.row 22 1 (Ct.ints .u16 (List.take (Int.toNat s) (List.replicate (Int.toNat s) (0 : Int)))))), (some (SO.own true MK.row 22 1 (Ct.ints .u16 (List.take (Int.toNat s) (List.replicate (Int.toNat s) (0 : Int)))))), (some (SO.own true MK.row 22 1 (Ct.ints .u16 (List.take 0 (List.replicate 0 (0 : Int)))))), (obj 112 3 [(iv .u32 (0)), (SC.ref 7), (SC.raw (Value.slice Option.none 0 0))]), (some (SO.mt true (KC.ints .u32 []) true [] [] 0)), (obj 115 2 [(iv .u32 (5)), (SC.raw (Value.pointer Option.none))]), (obj 118 3 [(iv .u32 (0)), (SC.ref 10), (SC.raw (Value.pointer Option.none))]), (some (SO.clo (Fn.func 33) [(.one (SC.ptr 2 0 0))] [])), (obj 92 6 [(SC.ref 12), (SC.ref 13), (SC.ref 14), (SC.ptr 15 0 0), (SC.ptr 17 0 0), (SC.ptr 18 0 0)]), (some (SO.own true MK.row 22 1 (Ct.ints .u16 (List.take 0 (List.replicate 0 (0 : Int)))))), (some (SO.own true MK.row 22 1 (Ct.ints .u16 (List.take 0 (List.replicate 0 (0 : Int)))))), (some (SO.own true MK.row 22 1 (Ct.ints .u16 (List.take (Int.toNat s) (List.replicate (Int.toNat s) (0 : Int)))))), (obj 112 3 [(iv .u32 c), (SC.ref 16), (SC.raw (Value.slice Option.none 0 0))]), (some (SO.mt true (KC.ints .u32 []) true [] [] 0)), (obj 115 2 [(iv .u32 (0)), (SC.raw (Value.pointer Option.none))]), (obj 118 3 [(iv .u32 (5)), (SC.ref 19), (SC.raw (Value.pointer Option.none))]), (some (SO.clo (Fn.func 33) [(.one (SC.ptr 11 0 0))] [])), (some (SO.own true MK.row 83 8 (Ct.tab 0 [(Col.bools []), (Col.ints .u32 []), (Col.ints .u16 []), (Col.ints .u16 []), (Col.ints .u32 []), (Col.ints .u8 []), (Col.data .u16 []), (Col.ints .u16 [])]))), (some (SO.own true MK.row 106 5 (Ct.tab 0 [(Col.bools []), (Col.ints .u32 []), (Col.ints .u16 []), (Col.ints .u32 []), (Col.ints .u8 [])]))), (some (SO.mt true (KC.ints .u32 []) true [(Col.ints .u32 []), (Col.ints .u16 []), (Col.ints .u16 [])] [] 0)), (some (SO.mt true (KC.ints .u32 []) true [] [] 0)), (some (SO.mt true (KC.ints .u32 []) true [] [] 0))] (kBlock 0 (kSeq (ev cxRo (L + 95) 1 5 (codeAt Try.prog 5 [1, 1, 1, 1, 1])) (kRet (Cx.P cxRo) [(ResultVar.tmp 6)] 1 k))))))))))))))))))))))))))) := by kernel_rfl
end Go.Ev
end
