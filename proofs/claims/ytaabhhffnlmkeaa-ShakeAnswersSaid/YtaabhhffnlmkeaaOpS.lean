/- cookie.Open: what it does. No conditions. -/
import Derived.Test.YtaabhhffnlmkeaaOpBT
import Derived.Test.YtaabhhffnlmkeaaOp52T
import Derived.Test.YtaabhhffnlmkeaaOp56T
import Derived.Test.YtaabhhffnlmkeaaOp60T
import Derived.Test.YtaabhhffnlmkeaaOp64T
import Derived.Test.YtaabhhffnlmkeaaCkS
namespace Go.Ev
open Go Go.Proofs Go.Spec
attribute [local irreducible] ev evCall branch need again
def tcbAt (t : Tc) (r : SC) : SA := .agg [iv .u32 t.a0, iv .u32 t.a1, iv .u32 t.a2, iv .u32 t.a3, iv .u32 t.a4, iv .u16 t.a5, iv .u16 t.a6, r, iv .u32 t.a8, iv .u32 t.a9, iv .u64 t.a10]
def opRhs (key b : List Int) (now life : Int) (leaf : Prop) (k : SV → St → Prop) : Prop :=
  need (decide (total [b.take (b.length - 8)] 1 ≤ 4611686018427387904 ∧ 1 ≤ 4611686018427387904))
    (branch (!macOk key b) (k (.tup [zeroTcb, .one (iv .i64 160)]) [rd b])
      (branch (!cntOk b) (k (.tup [zeroTcb, .one (iv .i64 160)]) [rd b])
        (branch (decide ((readT b).a10 > now)) (k (.tup [zeroTcb, .one (iv .i64 161)]) [rd b])
          (branch (decide (subK .u64 now (readT b).a10 > life)) (k (.tup [zeroTcb, .one (iv .i64 161)]) [rd b]) leaf))))
theorem as_list (n : Nat) (b : List Int) (h : b.length = n) : b = (List.range n).map (fun i => b.getD i 0) := by
  apply List.ext_getElem (by simp [h])
  intro i h1 h2
  simp [List.getD_eq_getElem?_getD, List.getElem?_eq_getElem h1]

theorem u_open52 (k0 k1 k2 k3 k4 k5 k6 k7 k8 k9 ka kb kc kd ke kf b0 b1 b2 b3 b4 b5 b6 b7 b8 b9 b10 b11 b12 b13 b14 b15 b16 b17 b18 b19 b20 b21 b22 b23 b24 b25 b26 b27 b28 b29 b30 b31 b32 b33 b34 b35 b36 b37 b38 b39 b40 b41 b42 b43 b44 b45 b46 b47 b48 b49 b50 b51 now life : Int) (k : SV → St → Prop) : evCall cxOp (ev cxOp 60) 31 [.agg [iv .u8 k0, iv .u8 k1, iv .u8 k2, iv .u8 k3, iv .u8 k4, iv .u8 k5, iv .u8 k6, iv .u8 k7, iv .u8 k8, iv .u8 k9, iv .u8 ka, iv .u8 kb, iv .u8 kc, iv .u8 kd, iv .u8 ke, iv .u8 kf], .one (.ref 0), .one (iv .u64 now), .one (iv .u64 life)] [rd [b0, b1, b2, b3, b4, b5, b6, b7, b8, b9, b10, b11, b12, b13, b14, b15, b16, b17, b18, b19, b20, b21, b22, b23, b24, b25, b26, b27, b28, b29, b30, b31, b32, b33, b34, b35, b36, b37, b38, b39, b40, b41, b42, b43, b44, b45, b46, b47, b48, b49, b50, b51]] k =
    opRhs [k0, k1, k2, k3, k4, k5, k6, k7, k8, k9, ka, kb, kc, kd, ke, kf] [b0, b1, b2, b3, b4, b5, b6, b7, b8, b9, b10, b11, b12, b13, b14, b15, b16, b17, b18, b19, b20, b21, b22, b23, b24, b25, b26, b27, b28, b29, b30, b31, b32, b33, b34, b35, b36, b37, b38, b39, b40, b41, b42, b43, b44, b45, b46, b47, b48, b49, b50, b51] now life (k (.tup [tcbNil (readT [b0, b1, b2, b3, b4, b5, b6, b7, b8, b9, b10, b11, b12, b13, b14, b15, b16, b17, b18, b19, b20, b21, b22, b23, b24, b25, b26, b27, b28, b29, b30, b31, b32, b33, b34, b35, b36, b37, b38, b39, b40, b41, b42, b43, b44, b45, b46, b47, b48, b49, b50, b51]), .one (iv .i64 0)]) [rd [b0, b1, b2, b3, b4, b5, b6, b7, b8, b9, b10, b11, b12, b13, b14, b15, b16, b17, b18, b19, b20, b21, b22, b23, b24, b25, b26, b27, b28, b29, b30, b31, b32, b33, b34, b35, b36, b37, b38, b39, b40, b41, b42, b43, b44, b45, b46, b47, b48, b49, b50, b51]]) k := (t_open52 k0 k1 k2 k3 k4 k5 k6 k7 k8 k9 ka kb kc kd ke kf b0 b1 b2 b3 b4 b5 b6 b7 b8 b9 b10 b11 b12 b13 b14 b15 b16 b17 b18 b19 b20 b21 b22 b23 b24 b25 b26 b27 b28 b29 b30 b31 b32 b33 b34 b35 b36 b37 b38 b39 b40 b41 b42 b43 b44 b45 b46 b47 b48 b49 b50 b51 now life k).trans (by kernel_rfl)
theorem v_open52 (k0 k1 k2 k3 k4 k5 k6 k7 k8 k9 ka kb kc kd ke kf now life : Int) (b : List Int) (h : b.length = 52) (k : SV → St → Prop) : evCall cxOp (ev cxOp 60) 31 [.agg [iv .u8 k0, iv .u8 k1, iv .u8 k2, iv .u8 k3, iv .u8 k4, iv .u8 k5, iv .u8 k6, iv .u8 k7, iv .u8 k8, iv .u8 k9, iv .u8 ka, iv .u8 kb, iv .u8 kc, iv .u8 kd, iv .u8 ke, iv .u8 kf], .one (.ref 0), .one (iv .u64 now), .one (iv .u64 life)] [rd b] k =
    opRhs [k0, k1, k2, k3, k4, k5, k6, k7, k8, k9, ka, kb, kc, kd, ke, kf] b now life (k (.tup [tcbNil (readT b), .one (iv .i64 0)]) [rd b]) k := by
  have hb : b = [b.getD 0 0, b.getD 1 0, b.getD 2 0, b.getD 3 0, b.getD 4 0, b.getD 5 0, b.getD 6 0, b.getD 7 0, b.getD 8 0, b.getD 9 0, b.getD 10 0, b.getD 11 0, b.getD 12 0, b.getD 13 0, b.getD 14 0, b.getD 15 0, b.getD 16 0, b.getD 17 0, b.getD 18 0, b.getD 19 0, b.getD 20 0, b.getD 21 0, b.getD 22 0, b.getD 23 0, b.getD 24 0, b.getD 25 0, b.getD 26 0, b.getD 27 0, b.getD 28 0, b.getD 29 0, b.getD 30 0, b.getD 31 0, b.getD 32 0, b.getD 33 0, b.getD 34 0, b.getD 35 0, b.getD 36 0, b.getD 37 0, b.getD 38 0, b.getD 39 0, b.getD 40 0, b.getD 41 0, b.getD 42 0, b.getD 43 0, b.getD 44 0, b.getD 45 0, b.getD 46 0, b.getD 47 0, b.getD 48 0, b.getD 49 0, b.getD 50 0, b.getD 51 0] := as_list 52 b h
  have u := u_open52 k0 k1 k2 k3 k4 k5 k6 k7 k8 k9 ka kb kc kd ke kf (b.getD 0 0) (b.getD 1 0) (b.getD 2 0) (b.getD 3 0) (b.getD 4 0) (b.getD 5 0) (b.getD 6 0) (b.getD 7 0) (b.getD 8 0) (b.getD 9 0) (b.getD 10 0) (b.getD 11 0) (b.getD 12 0) (b.getD 13 0) (b.getD 14 0) (b.getD 15 0) (b.getD 16 0) (b.getD 17 0) (b.getD 18 0) (b.getD 19 0) (b.getD 20 0) (b.getD 21 0) (b.getD 22 0) (b.getD 23 0) (b.getD 24 0) (b.getD 25 0) (b.getD 26 0) (b.getD 27 0) (b.getD 28 0) (b.getD 29 0) (b.getD 30 0) (b.getD 31 0) (b.getD 32 0) (b.getD 33 0) (b.getD 34 0) (b.getD 35 0) (b.getD 36 0) (b.getD 37 0) (b.getD 38 0) (b.getD 39 0) (b.getD 40 0) (b.getD 41 0) (b.getD 42 0) (b.getD 43 0) (b.getD 44 0) (b.getD 45 0) (b.getD 46 0) (b.getD 47 0) (b.getD 48 0) (b.getD 49 0) (b.getD 50 0) (b.getD 51 0) now life k
  rw [← hb] at u
  exact u

theorem u_open56 (k0 k1 k2 k3 k4 k5 k6 k7 k8 k9 ka kb kc kd ke kf b0 b1 b2 b3 b4 b5 b6 b7 b8 b9 b10 b11 b12 b13 b14 b15 b16 b17 b18 b19 b20 b21 b22 b23 b24 b25 b26 b27 b28 b29 b30 b31 b32 b33 b34 b35 b36 b37 b38 b39 b40 b41 b42 b43 b44 b45 b46 b47 b48 b49 b50 b51 b52 b53 b54 b55 now life : Int) (k : SV → St → Prop) : evCall cxOp (ev cxOp 60) 31 [.agg [iv .u8 k0, iv .u8 k1, iv .u8 k2, iv .u8 k3, iv .u8 k4, iv .u8 k5, iv .u8 k6, iv .u8 k7, iv .u8 k8, iv .u8 k9, iv .u8 ka, iv .u8 kb, iv .u8 kc, iv .u8 kd, iv .u8 ke, iv .u8 kf], .one (.ref 0), .one (iv .u64 now), .one (iv .u64 life)] [rd [b0, b1, b2, b3, b4, b5, b6, b7, b8, b9, b10, b11, b12, b13, b14, b15, b16, b17, b18, b19, b20, b21, b22, b23, b24, b25, b26, b27, b28, b29, b30, b31, b32, b33, b34, b35, b36, b37, b38, b39, b40, b41, b42, b43, b44, b45, b46, b47, b48, b49, b50, b51, b52, b53, b54, b55]] k =
    opRhs [k0, k1, k2, k3, k4, k5, k6, k7, k8, k9, ka, kb, kc, kd, ke, kf] [b0, b1, b2, b3, b4, b5, b6, b7, b8, b9, b10, b11, b12, b13, b14, b15, b16, b17, b18, b19, b20, b21, b22, b23, b24, b25, b26, b27, b28, b29, b30, b31, b32, b33, b34, b35, b36, b37, b38, b39, b40, b41, b42, b43, b44, b45, b46, b47, b48, b49, b50, b51, b52, b53, b54, b55] now life (k (.tup [tcbAt (readT [b0, b1, b2, b3, b4, b5, b6, b7, b8, b9, b10, b11, b12, b13, b14, b15, b16, b17, b18, b19, b20, b21, b22, b23, b24, b25, b26, b27, b28, b29, b30, b31, b32, b33, b34, b35, b36, b37, b38, b39, b40, b41, b42, b43, b44, b45, b46, b47, b48, b49, b50, b51, b52, b53, b54, b55]) (.ref 1), .one (iv .i64 0)]) [rd [b0, b1, b2, b3, b4, b5, b6, b7, b8, b9, b10, b11, b12, b13, b14, b15, b16, b17, b18, b19, b20, b21, b22, b23, b24, b25, b26, b27, b28, b29, b30, b31, b32, b33, b34, b35, b36, b37, b38, b39, b40, b41, b42, b43, b44, b45, b46, b47, b48, b49, b50, b51, b52, b53, b54, b55], some (.own true .row 24 1 (.ints .u32 (readT [b0, b1, b2, b3, b4, b5, b6, b7, b8, b9, b10, b11, b12, b13, b14, b15, b16, b17, b18, b19, b20, b21, b22, b23, b24, b25, b26, b27, b28, b29, b30, b31, b32, b33, b34, b35, b36, b37, b38, b39, b40, b41, b42, b43, b44, b45, b46, b47, b48, b49, b50, b51, b52, b53, b54, b55]).xs))]) k := (t_open56 k0 k1 k2 k3 k4 k5 k6 k7 k8 k9 ka kb kc kd ke kf b0 b1 b2 b3 b4 b5 b6 b7 b8 b9 b10 b11 b12 b13 b14 b15 b16 b17 b18 b19 b20 b21 b22 b23 b24 b25 b26 b27 b28 b29 b30 b31 b32 b33 b34 b35 b36 b37 b38 b39 b40 b41 b42 b43 b44 b45 b46 b47 b48 b49 b50 b51 b52 b53 b54 b55 now life k).trans (by kernel_rfl)
theorem v_open56 (k0 k1 k2 k3 k4 k5 k6 k7 k8 k9 ka kb kc kd ke kf now life : Int) (b : List Int) (h : b.length = 56) (k : SV → St → Prop) : evCall cxOp (ev cxOp 60) 31 [.agg [iv .u8 k0, iv .u8 k1, iv .u8 k2, iv .u8 k3, iv .u8 k4, iv .u8 k5, iv .u8 k6, iv .u8 k7, iv .u8 k8, iv .u8 k9, iv .u8 ka, iv .u8 kb, iv .u8 kc, iv .u8 kd, iv .u8 ke, iv .u8 kf], .one (.ref 0), .one (iv .u64 now), .one (iv .u64 life)] [rd b] k =
    opRhs [k0, k1, k2, k3, k4, k5, k6, k7, k8, k9, ka, kb, kc, kd, ke, kf] b now life (k (.tup [tcbAt (readT b) (.ref 1), .one (iv .i64 0)]) [rd b, some (.own true .row 24 1 (.ints .u32 (readT b).xs))]) k := by
  have hb : b = [b.getD 0 0, b.getD 1 0, b.getD 2 0, b.getD 3 0, b.getD 4 0, b.getD 5 0, b.getD 6 0, b.getD 7 0, b.getD 8 0, b.getD 9 0, b.getD 10 0, b.getD 11 0, b.getD 12 0, b.getD 13 0, b.getD 14 0, b.getD 15 0, b.getD 16 0, b.getD 17 0, b.getD 18 0, b.getD 19 0, b.getD 20 0, b.getD 21 0, b.getD 22 0, b.getD 23 0, b.getD 24 0, b.getD 25 0, b.getD 26 0, b.getD 27 0, b.getD 28 0, b.getD 29 0, b.getD 30 0, b.getD 31 0, b.getD 32 0, b.getD 33 0, b.getD 34 0, b.getD 35 0, b.getD 36 0, b.getD 37 0, b.getD 38 0, b.getD 39 0, b.getD 40 0, b.getD 41 0, b.getD 42 0, b.getD 43 0, b.getD 44 0, b.getD 45 0, b.getD 46 0, b.getD 47 0, b.getD 48 0, b.getD 49 0, b.getD 50 0, b.getD 51 0, b.getD 52 0, b.getD 53 0, b.getD 54 0, b.getD 55 0] := as_list 56 b h
  have u := u_open56 k0 k1 k2 k3 k4 k5 k6 k7 k8 k9 ka kb kc kd ke kf (b.getD 0 0) (b.getD 1 0) (b.getD 2 0) (b.getD 3 0) (b.getD 4 0) (b.getD 5 0) (b.getD 6 0) (b.getD 7 0) (b.getD 8 0) (b.getD 9 0) (b.getD 10 0) (b.getD 11 0) (b.getD 12 0) (b.getD 13 0) (b.getD 14 0) (b.getD 15 0) (b.getD 16 0) (b.getD 17 0) (b.getD 18 0) (b.getD 19 0) (b.getD 20 0) (b.getD 21 0) (b.getD 22 0) (b.getD 23 0) (b.getD 24 0) (b.getD 25 0) (b.getD 26 0) (b.getD 27 0) (b.getD 28 0) (b.getD 29 0) (b.getD 30 0) (b.getD 31 0) (b.getD 32 0) (b.getD 33 0) (b.getD 34 0) (b.getD 35 0) (b.getD 36 0) (b.getD 37 0) (b.getD 38 0) (b.getD 39 0) (b.getD 40 0) (b.getD 41 0) (b.getD 42 0) (b.getD 43 0) (b.getD 44 0) (b.getD 45 0) (b.getD 46 0) (b.getD 47 0) (b.getD 48 0) (b.getD 49 0) (b.getD 50 0) (b.getD 51 0) (b.getD 52 0) (b.getD 53 0) (b.getD 54 0) (b.getD 55 0) now life k
  rw [← hb] at u
  exact u

theorem u_open60 (k0 k1 k2 k3 k4 k5 k6 k7 k8 k9 ka kb kc kd ke kf b0 b1 b2 b3 b4 b5 b6 b7 b8 b9 b10 b11 b12 b13 b14 b15 b16 b17 b18 b19 b20 b21 b22 b23 b24 b25 b26 b27 b28 b29 b30 b31 b32 b33 b34 b35 b36 b37 b38 b39 b40 b41 b42 b43 b44 b45 b46 b47 b48 b49 b50 b51 b52 b53 b54 b55 b56 b57 b58 b59 now life : Int) (k : SV → St → Prop) : evCall cxOp (ev cxOp 60) 31 [.agg [iv .u8 k0, iv .u8 k1, iv .u8 k2, iv .u8 k3, iv .u8 k4, iv .u8 k5, iv .u8 k6, iv .u8 k7, iv .u8 k8, iv .u8 k9, iv .u8 ka, iv .u8 kb, iv .u8 kc, iv .u8 kd, iv .u8 ke, iv .u8 kf], .one (.ref 0), .one (iv .u64 now), .one (iv .u64 life)] [rd [b0, b1, b2, b3, b4, b5, b6, b7, b8, b9, b10, b11, b12, b13, b14, b15, b16, b17, b18, b19, b20, b21, b22, b23, b24, b25, b26, b27, b28, b29, b30, b31, b32, b33, b34, b35, b36, b37, b38, b39, b40, b41, b42, b43, b44, b45, b46, b47, b48, b49, b50, b51, b52, b53, b54, b55, b56, b57, b58, b59]] k =
    opRhs [k0, k1, k2, k3, k4, k5, k6, k7, k8, k9, ka, kb, kc, kd, ke, kf] [b0, b1, b2, b3, b4, b5, b6, b7, b8, b9, b10, b11, b12, b13, b14, b15, b16, b17, b18, b19, b20, b21, b22, b23, b24, b25, b26, b27, b28, b29, b30, b31, b32, b33, b34, b35, b36, b37, b38, b39, b40, b41, b42, b43, b44, b45, b46, b47, b48, b49, b50, b51, b52, b53, b54, b55, b56, b57, b58, b59] now life (k (.tup [tcbAt (readT [b0, b1, b2, b3, b4, b5, b6, b7, b8, b9, b10, b11, b12, b13, b14, b15, b16, b17, b18, b19, b20, b21, b22, b23, b24, b25, b26, b27, b28, b29, b30, b31, b32, b33, b34, b35, b36, b37, b38, b39, b40, b41, b42, b43, b44, b45, b46, b47, b48, b49, b50, b51, b52, b53, b54, b55, b56, b57, b58, b59]) (.ref 1), .one (iv .i64 0)]) [rd [b0, b1, b2, b3, b4, b5, b6, b7, b8, b9, b10, b11, b12, b13, b14, b15, b16, b17, b18, b19, b20, b21, b22, b23, b24, b25, b26, b27, b28, b29, b30, b31, b32, b33, b34, b35, b36, b37, b38, b39, b40, b41, b42, b43, b44, b45, b46, b47, b48, b49, b50, b51, b52, b53, b54, b55, b56, b57, b58, b59], some (.own true .row 24 1 (.ints .u32 (readT [b0, b1, b2, b3, b4, b5, b6, b7, b8, b9, b10, b11, b12, b13, b14, b15, b16, b17, b18, b19, b20, b21, b22, b23, b24, b25, b26, b27, b28, b29, b30, b31, b32, b33, b34, b35, b36, b37, b38, b39, b40, b41, b42, b43, b44, b45, b46, b47, b48, b49, b50, b51, b52, b53, b54, b55, b56, b57, b58, b59]).xs))]) k := (t_open60 k0 k1 k2 k3 k4 k5 k6 k7 k8 k9 ka kb kc kd ke kf b0 b1 b2 b3 b4 b5 b6 b7 b8 b9 b10 b11 b12 b13 b14 b15 b16 b17 b18 b19 b20 b21 b22 b23 b24 b25 b26 b27 b28 b29 b30 b31 b32 b33 b34 b35 b36 b37 b38 b39 b40 b41 b42 b43 b44 b45 b46 b47 b48 b49 b50 b51 b52 b53 b54 b55 b56 b57 b58 b59 now life k).trans (by kernel_rfl)
theorem v_open60 (k0 k1 k2 k3 k4 k5 k6 k7 k8 k9 ka kb kc kd ke kf now life : Int) (b : List Int) (h : b.length = 60) (k : SV → St → Prop) : evCall cxOp (ev cxOp 60) 31 [.agg [iv .u8 k0, iv .u8 k1, iv .u8 k2, iv .u8 k3, iv .u8 k4, iv .u8 k5, iv .u8 k6, iv .u8 k7, iv .u8 k8, iv .u8 k9, iv .u8 ka, iv .u8 kb, iv .u8 kc, iv .u8 kd, iv .u8 ke, iv .u8 kf], .one (.ref 0), .one (iv .u64 now), .one (iv .u64 life)] [rd b] k =
    opRhs [k0, k1, k2, k3, k4, k5, k6, k7, k8, k9, ka, kb, kc, kd, ke, kf] b now life (k (.tup [tcbAt (readT b) (.ref 1), .one (iv .i64 0)]) [rd b, some (.own true .row 24 1 (.ints .u32 (readT b).xs))]) k := by
  have hb : b = [b.getD 0 0, b.getD 1 0, b.getD 2 0, b.getD 3 0, b.getD 4 0, b.getD 5 0, b.getD 6 0, b.getD 7 0, b.getD 8 0, b.getD 9 0, b.getD 10 0, b.getD 11 0, b.getD 12 0, b.getD 13 0, b.getD 14 0, b.getD 15 0, b.getD 16 0, b.getD 17 0, b.getD 18 0, b.getD 19 0, b.getD 20 0, b.getD 21 0, b.getD 22 0, b.getD 23 0, b.getD 24 0, b.getD 25 0, b.getD 26 0, b.getD 27 0, b.getD 28 0, b.getD 29 0, b.getD 30 0, b.getD 31 0, b.getD 32 0, b.getD 33 0, b.getD 34 0, b.getD 35 0, b.getD 36 0, b.getD 37 0, b.getD 38 0, b.getD 39 0, b.getD 40 0, b.getD 41 0, b.getD 42 0, b.getD 43 0, b.getD 44 0, b.getD 45 0, b.getD 46 0, b.getD 47 0, b.getD 48 0, b.getD 49 0, b.getD 50 0, b.getD 51 0, b.getD 52 0, b.getD 53 0, b.getD 54 0, b.getD 55 0, b.getD 56 0, b.getD 57 0, b.getD 58 0, b.getD 59 0] := as_list 60 b h
  have u := u_open60 k0 k1 k2 k3 k4 k5 k6 k7 k8 k9 ka kb kc kd ke kf (b.getD 0 0) (b.getD 1 0) (b.getD 2 0) (b.getD 3 0) (b.getD 4 0) (b.getD 5 0) (b.getD 6 0) (b.getD 7 0) (b.getD 8 0) (b.getD 9 0) (b.getD 10 0) (b.getD 11 0) (b.getD 12 0) (b.getD 13 0) (b.getD 14 0) (b.getD 15 0) (b.getD 16 0) (b.getD 17 0) (b.getD 18 0) (b.getD 19 0) (b.getD 20 0) (b.getD 21 0) (b.getD 22 0) (b.getD 23 0) (b.getD 24 0) (b.getD 25 0) (b.getD 26 0) (b.getD 27 0) (b.getD 28 0) (b.getD 29 0) (b.getD 30 0) (b.getD 31 0) (b.getD 32 0) (b.getD 33 0) (b.getD 34 0) (b.getD 35 0) (b.getD 36 0) (b.getD 37 0) (b.getD 38 0) (b.getD 39 0) (b.getD 40 0) (b.getD 41 0) (b.getD 42 0) (b.getD 43 0) (b.getD 44 0) (b.getD 45 0) (b.getD 46 0) (b.getD 47 0) (b.getD 48 0) (b.getD 49 0) (b.getD 50 0) (b.getD 51 0) (b.getD 52 0) (b.getD 53 0) (b.getD 54 0) (b.getD 55 0) (b.getD 56 0) (b.getD 57 0) (b.getD 58 0) (b.getD 59 0) now life k
  rw [← hb] at u
  exact u

theorem u_open64 (k0 k1 k2 k3 k4 k5 k6 k7 k8 k9 ka kb kc kd ke kf b0 b1 b2 b3 b4 b5 b6 b7 b8 b9 b10 b11 b12 b13 b14 b15 b16 b17 b18 b19 b20 b21 b22 b23 b24 b25 b26 b27 b28 b29 b30 b31 b32 b33 b34 b35 b36 b37 b38 b39 b40 b41 b42 b43 b44 b45 b46 b47 b48 b49 b50 b51 b52 b53 b54 b55 b56 b57 b58 b59 b60 b61 b62 b63 now life : Int) (k : SV → St → Prop) : evCall cxOp (ev cxOp 60) 31 [.agg [iv .u8 k0, iv .u8 k1, iv .u8 k2, iv .u8 k3, iv .u8 k4, iv .u8 k5, iv .u8 k6, iv .u8 k7, iv .u8 k8, iv .u8 k9, iv .u8 ka, iv .u8 kb, iv .u8 kc, iv .u8 kd, iv .u8 ke, iv .u8 kf], .one (.ref 0), .one (iv .u64 now), .one (iv .u64 life)] [rd [b0, b1, b2, b3, b4, b5, b6, b7, b8, b9, b10, b11, b12, b13, b14, b15, b16, b17, b18, b19, b20, b21, b22, b23, b24, b25, b26, b27, b28, b29, b30, b31, b32, b33, b34, b35, b36, b37, b38, b39, b40, b41, b42, b43, b44, b45, b46, b47, b48, b49, b50, b51, b52, b53, b54, b55, b56, b57, b58, b59, b60, b61, b62, b63]] k =
    opRhs [k0, k1, k2, k3, k4, k5, k6, k7, k8, k9, ka, kb, kc, kd, ke, kf] [b0, b1, b2, b3, b4, b5, b6, b7, b8, b9, b10, b11, b12, b13, b14, b15, b16, b17, b18, b19, b20, b21, b22, b23, b24, b25, b26, b27, b28, b29, b30, b31, b32, b33, b34, b35, b36, b37, b38, b39, b40, b41, b42, b43, b44, b45, b46, b47, b48, b49, b50, b51, b52, b53, b54, b55, b56, b57, b58, b59, b60, b61, b62, b63] now life (k (.tup [tcbAt (readT [b0, b1, b2, b3, b4, b5, b6, b7, b8, b9, b10, b11, b12, b13, b14, b15, b16, b17, b18, b19, b20, b21, b22, b23, b24, b25, b26, b27, b28, b29, b30, b31, b32, b33, b34, b35, b36, b37, b38, b39, b40, b41, b42, b43, b44, b45, b46, b47, b48, b49, b50, b51, b52, b53, b54, b55, b56, b57, b58, b59, b60, b61, b62, b63]) (.ref 1), .one (iv .i64 0)]) [rd [b0, b1, b2, b3, b4, b5, b6, b7, b8, b9, b10, b11, b12, b13, b14, b15, b16, b17, b18, b19, b20, b21, b22, b23, b24, b25, b26, b27, b28, b29, b30, b31, b32, b33, b34, b35, b36, b37, b38, b39, b40, b41, b42, b43, b44, b45, b46, b47, b48, b49, b50, b51, b52, b53, b54, b55, b56, b57, b58, b59, b60, b61, b62, b63], some (.own true .row 24 1 (.ints .u32 (readT [b0, b1, b2, b3, b4, b5, b6, b7, b8, b9, b10, b11, b12, b13, b14, b15, b16, b17, b18, b19, b20, b21, b22, b23, b24, b25, b26, b27, b28, b29, b30, b31, b32, b33, b34, b35, b36, b37, b38, b39, b40, b41, b42, b43, b44, b45, b46, b47, b48, b49, b50, b51, b52, b53, b54, b55, b56, b57, b58, b59, b60, b61, b62, b63]).xs))]) k := (t_open64 k0 k1 k2 k3 k4 k5 k6 k7 k8 k9 ka kb kc kd ke kf b0 b1 b2 b3 b4 b5 b6 b7 b8 b9 b10 b11 b12 b13 b14 b15 b16 b17 b18 b19 b20 b21 b22 b23 b24 b25 b26 b27 b28 b29 b30 b31 b32 b33 b34 b35 b36 b37 b38 b39 b40 b41 b42 b43 b44 b45 b46 b47 b48 b49 b50 b51 b52 b53 b54 b55 b56 b57 b58 b59 b60 b61 b62 b63 now life k).trans (by kernel_rfl)
theorem v_open64 (k0 k1 k2 k3 k4 k5 k6 k7 k8 k9 ka kb kc kd ke kf now life : Int) (b : List Int) (h : b.length = 64) (k : SV → St → Prop) : evCall cxOp (ev cxOp 60) 31 [.agg [iv .u8 k0, iv .u8 k1, iv .u8 k2, iv .u8 k3, iv .u8 k4, iv .u8 k5, iv .u8 k6, iv .u8 k7, iv .u8 k8, iv .u8 k9, iv .u8 ka, iv .u8 kb, iv .u8 kc, iv .u8 kd, iv .u8 ke, iv .u8 kf], .one (.ref 0), .one (iv .u64 now), .one (iv .u64 life)] [rd b] k =
    opRhs [k0, k1, k2, k3, k4, k5, k6, k7, k8, k9, ka, kb, kc, kd, ke, kf] b now life (k (.tup [tcbAt (readT b) (.ref 1), .one (iv .i64 0)]) [rd b, some (.own true .row 24 1 (.ints .u32 (readT b).xs))]) k := by
  have hb : b = [b.getD 0 0, b.getD 1 0, b.getD 2 0, b.getD 3 0, b.getD 4 0, b.getD 5 0, b.getD 6 0, b.getD 7 0, b.getD 8 0, b.getD 9 0, b.getD 10 0, b.getD 11 0, b.getD 12 0, b.getD 13 0, b.getD 14 0, b.getD 15 0, b.getD 16 0, b.getD 17 0, b.getD 18 0, b.getD 19 0, b.getD 20 0, b.getD 21 0, b.getD 22 0, b.getD 23 0, b.getD 24 0, b.getD 25 0, b.getD 26 0, b.getD 27 0, b.getD 28 0, b.getD 29 0, b.getD 30 0, b.getD 31 0, b.getD 32 0, b.getD 33 0, b.getD 34 0, b.getD 35 0, b.getD 36 0, b.getD 37 0, b.getD 38 0, b.getD 39 0, b.getD 40 0, b.getD 41 0, b.getD 42 0, b.getD 43 0, b.getD 44 0, b.getD 45 0, b.getD 46 0, b.getD 47 0, b.getD 48 0, b.getD 49 0, b.getD 50 0, b.getD 51 0, b.getD 52 0, b.getD 53 0, b.getD 54 0, b.getD 55 0, b.getD 56 0, b.getD 57 0, b.getD 58 0, b.getD 59 0, b.getD 60 0, b.getD 61 0, b.getD 62 0, b.getD 63 0] := as_list 64 b h
  have u := u_open64 k0 k1 k2 k3 k4 k5 k6 k7 k8 k9 ka kb kc kd ke kf (b.getD 0 0) (b.getD 1 0) (b.getD 2 0) (b.getD 3 0) (b.getD 4 0) (b.getD 5 0) (b.getD 6 0) (b.getD 7 0) (b.getD 8 0) (b.getD 9 0) (b.getD 10 0) (b.getD 11 0) (b.getD 12 0) (b.getD 13 0) (b.getD 14 0) (b.getD 15 0) (b.getD 16 0) (b.getD 17 0) (b.getD 18 0) (b.getD 19 0) (b.getD 20 0) (b.getD 21 0) (b.getD 22 0) (b.getD 23 0) (b.getD 24 0) (b.getD 25 0) (b.getD 26 0) (b.getD 27 0) (b.getD 28 0) (b.getD 29 0) (b.getD 30 0) (b.getD 31 0) (b.getD 32 0) (b.getD 33 0) (b.getD 34 0) (b.getD 35 0) (b.getD 36 0) (b.getD 37 0) (b.getD 38 0) (b.getD 39 0) (b.getD 40 0) (b.getD 41 0) (b.getD 42 0) (b.getD 43 0) (b.getD 44 0) (b.getD 45 0) (b.getD 46 0) (b.getD 47 0) (b.getD 48 0) (b.getD 49 0) (b.getD 50 0) (b.getD 51 0) (b.getD 52 0) (b.getD 53 0) (b.getD 54 0) (b.getD 55 0) (b.getD 56 0) (b.getD 57 0) (b.getD 58 0) (b.getD 59 0) (b.getD 60 0) (b.getD 61 0) (b.getD 62 0) (b.getD 63 0) now life k
  rw [← hb] at u
  exact u

theorem cxOp_ok : CxOk Try.prog cxOp := mkCx_ok namesS mixedS (by
  intro x h
  simp only [List.mem_cons, List.not_mem_nil, or_false] at h
  subst h
  exact of_sum)
theorem op_ok {key b : List Int} {now life : Int} {K : SV → St → Prop} {leaf : Prop} (hl : lenOk b = true) (hb : b.length ≤ 64) (h : kOpen key b now life K)
    (hleaf : branch (emptyL (readT b).xs) (K (.tup [tcbNil (readT b), .one (iv .i64 0)]) []) (K (.tup [tcbRef (readT b), .one (iv .i64 0)]) [some (.own true .row 24 1 (.ints .u32 (readT b).xs))]) → leaf) :
    opRhs key b now life leaf (pureK 1 K) := by
  unfold opRhs
  unfold kOpen openOk openErr lateB at h
  rw [hl] at h
  refine nd (decide_eq_true ⟨by rw [total_one, List.length_take]; omega, by omega⟩) ?_
  cases hm : macOk key b with
  | false =>
    rw [hm] at h
    refine br (fun _ => ?_) (fun e => absurd e (by simp))
    rcases branch_iff.1 h with ⟨e, _⟩ | ⟨_, h⟩
    · exact absurd e (by simp)
    · exact h
  | true =>
    rw [hm] at h
    refine br (fun e => absurd e (by simp)) (fun _ => ?_)
    cases hc : cntOk b with
    | false =>
      rw [hc] at h
      refine br (fun _ => ?_) (fun e => absurd e (by simp))
      rcases branch_iff.1 h with ⟨e, _⟩ | ⟨_, h⟩
      · exact absurd e (by simp)
      · exact h
    | true =>
      rw [hc] at h
      refine br (fun e => absurd e (by simp)) (fun _ => ?_)
      refine br (fun e => ?_) (fun e1 => br (fun e2 => ?_) (fun e2 => ?_))
      · rw [e] at h
        rcases branch_iff.1 h with ⟨e, _⟩ | ⟨_, h⟩
        · exact absurd e (by simp)
        · exact h
      · rw [e1, e2] at h
        rcases branch_iff.1 h with ⟨e, _⟩ | ⟨_, h⟩
        · exact absurd e (by simp)
        · exact h
      · rw [e1, e2] at h
        rcases branch_iff.1 h with ⟨_, h⟩ | ⟨e, _⟩
        · exact hleaf h
        · exact absurd e (by simp)
theorem many_of (b : List Int) (n : Nat) (h : b.length = 52 + 4 * n) : (readT b).xs = xsFrom b 44 n := by
  have : manyOf b = n := by unfold manyOf; omega
  show xsFrom b 44 (manyOf b) = _
  rw [this]
theorem emptyL_cons (x : Int) (r : List Int) : emptyL (x :: r) = false := rfl
theorem lin_fOpen (vas : List VA) : Lin (fOpen vas) := by
  intro k h
  unfold fOpen kOpen at h ⊢
  split at h
  · exact (Lin.need (Lin.branch (Lin.branch (Lin.ret _ _) (Lin.ret _ _)) (Lin.ret _ _))) k h
  · exact h.elim
theorem lenOk_of {b : List Int} (h : b.length = 52 ∨ b.length = 56 ∨ b.length = 60 ∨ b.length = 64) : lenOk b = true := by
  unfold lenOk
  rcases h with h | h | h | h <;> rw [h] <;> rfl
theorem of_lenOk {b : List Int} (h : lenOk b = true) : b.length = 52 ∨ b.length = 56 ∨ b.length = 60 ∨ b.length = 64 := by
  unfold lenOk at h
  simp only [Bool.or_eq_true, Nat.beq_eq] at h
  omega
theorem open_sum : SumOk Try.prog 31 sOpen := by
  refine pureSum_ok cxOp_ok lin_fOpen ?_
  intro vas K h
  unfold fOpen at h
  split at h
  · rename_i k0 k1 k2 k3 k4 k5 k6 k7 k8 k9 ka kb kc kd ke kf b now life
    obtain ⟨hn, h⟩ := need_iff.1 h
    have hn := of_decide_eq_true hn
    cases hl : lenOk b with
    | true =>
      refine ⟨60, ?_⟩
      show evCall cxOp (ev cxOp 60) _ [.agg [iv .u8 k0, iv .u8 k1, iv .u8 k2, iv .u8 k3, iv .u8 k4, iv .u8 k5, iv .u8 k6, iv .u8 k7, iv .u8 k8, iv .u8 k9, iv .u8 ka, iv .u8 kb, iv .u8 kc, iv .u8 kd, iv .u8 ke, iv .u8 kf], .one (.ref 0), .one (iv .u64 now), .one (iv .u64 life)] [rd b] (pureK 1 K)
      rcases of_lenOk hl with e | e | e | e
      · rw [v_open52 _ _ _ _ _ _ _ _ _ _ _ _ _ _ _ _ _ _ b e]
        refine op_ok hl (by omega) h fun h => ?_
        rw [many_of b 0 e] at h
        rcases branch_iff.1 h with ⟨_, h⟩ | ⟨e, _⟩
        · exact h
        · exact absurd e (by simp [xsFrom, emptyL])
      · rw [v_open56 _ _ _ _ _ _ _ _ _ _ _ _ _ _ _ _ _ _ b e]
        refine op_ok hl (by omega) h fun h => ?_
        rcases branch_iff.1 h with ⟨e2, _⟩ | ⟨_, h⟩
        · rw [many_of b 1 e] at e2; exact absurd e2 (by simp [xsFrom, emptyL])
        · exact h
      · rw [v_open60 _ _ _ _ _ _ _ _ _ _ _ _ _ _ _ _ _ _ b e]
        refine op_ok hl (by omega) h fun h => ?_
        rcases branch_iff.1 h with ⟨e2, _⟩ | ⟨_, h⟩
        · rw [many_of b 2 e] at e2; exact absurd e2 (by simp [xsFrom, emptyL])
        · exact h
      · rw [v_open64 _ _ _ _ _ _ _ _ _ _ _ _ _ _ _ _ _ _ b e]
        refine op_ok hl (by omega) h fun h => ?_
        rcases branch_iff.1 h with ⟨e2, _⟩ | ⟨_, h⟩
        · rw [many_of b 3 e] at e2; exact absurd e2 (by simp [xsFrom, emptyL])
        · exact h
    | false =>
      refine ⟨10, ?_⟩
      show evCall cxOp (ev cxOp 10) _ [.agg [iv .u8 k0, iv .u8 k1, iv .u8 k2, iv .u8 k3, iv .u8 k4, iv .u8 k5, iv .u8 k6, iv .u8 k7, iv .u8 k8, iv .u8 k9, iv .u8 ka, iv .u8 kb, iv .u8 kc, iv .u8 kd, iv .u8 ke, iv .u8 kf], .one (.ref 0), .one (iv .u64 now), .one (iv .u64 life)] [rd b] (pureK 1 K)
      have hz : K (.tup [zeroTcb, .one (iv .i64 160)]) [] := by
        unfold kOpen openOk openErr at h
        rw [hl] at h
        rcases branch_iff.1 h with ⟨e, _⟩ | ⟨_, h⟩
        · exact absurd e (by simp)
        · exact h
      rw [t_openB]
      refine br (fun _ => hz) (fun e1 => br (fun _ => hz) (fun e2 => br (fun _ => hz) (fun e3 => ?_)))
      exfalso
      have e1 := of_decide_eq_false e1
      have e2 := of_decide_eq_false e2
      have e3 := neK_f.1 e3
      have hs : subK .i64 (subK .i64 ((b.length : Nat) : Int) 44) 8 = ((b.length : Nat) : Int) - 52 := by
        simp only [subK_eq, IntKind.wrap_i64]; omega
      rw [hs] at e2 e3
      have hq : quoK .i64 (((b.length : Nat) : Int) - 52) 4 = (((b.length : Nat) : Int) - 52) / 4 := by
        rw [quoK_eq, Int.tdiv_eq_ediv_of_nonneg (by omega), IntKind.wrap_i64]; omega
      rw [hq] at e2 e3
      simp only [addK_eq, mulK_eq, IntKind.wrap_i64] at e3
      have := lenOk_of (b := b) (by omega)
      rw [hl] at this
      cases this
  · exact h.elim
end Go.Ev
