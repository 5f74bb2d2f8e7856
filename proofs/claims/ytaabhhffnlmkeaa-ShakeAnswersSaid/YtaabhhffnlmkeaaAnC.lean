/- The law ShakeAnswers, run: whatever host, peer, numbers and bytes are. No conditions. -/
import Derived.Test.YtaabhhffnlmkeaaAnU0
import Derived.Test.YtaabhhffnlmkeaaAnU1
import Derived.Test.YtaabhhffnlmkeaaAnJ
import Derived.Test.YtaabhhffnlmkeaaCl32S
import Derived.Test.YtaabhhffnlmkeaaWkS
set_option linter.unusedVariables false
set_option maxRecDepth 100000
set_option maxHeartbeats 4000000
namespace Go.Ev
open Go Go.Proofs Go.Spec
attribute [local irreducible] ev evCall branch need again
theorem true_sum : SumOk Try.prog 7 sTrue := works_sum
theorem cxAm_ok : CxOk Try.prog cxAm := mkCx_ok namesS mixedS (by
  intro x h
  simp only [List.mem_cons, List.not_mem_nil, or_false] at h
  rcases h with rfl | rfl | rfl | rfl | rfl | rfl | rfl | rfl
  · exact true_sum
  · exact make_sum
  · exact open2_sum
  · exact clone32_sum
  · exact rmake_sum
  · exact ropen2_sum
  · exact rsame_sum
  · exact sam_sum)
theorem nbt {c : Bool} {p q : Prop} (h : c = true) (hq : q) : branch (Bool.not c) p q := br (fun e => by rw [h] at e; cases e) (fun _ => hq)
theorem cbt {c : Bool} {p q : Prop} (h : c = true) (hp : p) : branch c p q := br (fun _ => hp) (fun e => by rw [h] at e; cases e)
theorem eqL_refl (a : List Int) : eqL a a = true := by simp [eqL]
theorem eqL_take (a : List Int) : eqL (List.take 0 (List.take 0 a)) (List.take 0 a) = true := by simp [eqL]
theorem resT_len (key b : List Int) (now life : Int) : (resT key b now life).xs.length ≤ 3 := by
  unfold resT
  cases ho : openOk key b now life with
  | false => simp [zT]
  | true =>
    have hl : lenOk b = true := by
      unfold openOk at ho
      simp only [Bool.and_eq_true_iff] at ho
      exact ho.1.1.1
    have := of_lenOk hl
    show (readT b).xs.length ≤ 3
    rw [xs_len]
    unfold manyOf
    omega
theorem bytes_cons {x : Int} {l : List Int} (h : 0 ≤ x ∧ x ≤ 255) (hl : Bytes l) : Bytes (x :: l) := fun y hy => by
  rcases List.mem_cons.1 hy with rfl | hy
  · exact h
  · exact hl y hy
theorem bytes_nil : Bytes [] := fun y hy => by cases hy
attribute [local irreducible] eqK strEq eqL strOf openErr resT makeOf makeRf plainOf bytesB sipOf subK IntKind.wrap
theorem ans_run0 (k0 k1 k2 k3 k4 k5 k6 k7 k8 k9 ka kb kc kd ke kf port mtu streams sroom rroom mmax rini rmin rmax itr ptr atr beat clife seed ptag ptsn prwnd pstr lport tag tsn tie now : Int) (listen : Bool) (ys b : List Int) (k : SV → St → Prop)
    (hk : Bytes [k0, k1, k2, k3, k4, k5, k6, k7, k8, k9, ka, kb, kc, kd, ke, kf]) (hb : Bytes b) (hT : ∀ st, k (.sa (.one (bv true))) st) :
    evCall cxAm (ev cxAm 60) 3 [.agg [.ref 0, iv .u16 port, bv listen, iv .i64 mtu, iv .u16 streams, iv .i64 sroom, iv .i64 rroom, iv .i64 mmax, iv .u32 rini, iv .u32 rmin, iv .u32 rmax, iv .u8 itr, iv .u8 ptr, iv .u8 atr, iv .u32 beat, iv .u32 clife, iv .u64 seed, iv .u8 k0, iv .u8 k1, iv .u8 k2, iv .u8 k3, iv .u8 k4, iv .u8 k5, iv .u8 k6, iv .u8 k7, iv .u8 k8, iv .u8 k9, iv .u8 ka, iv .u8 kb, iv .u8 kc, iv .u8 kd, iv .u8 ke, iv .u8 kf], .agg [iv .u32 ptag, iv .u32 ptsn, iv .u32 prwnd, iv .u16 pstr, .ref 1], .one (iv .u16 lport), .one (iv .u32 tag), .one (iv .u32 tsn), .one (iv .u32 tie), .one (iv .u64 now), .one (.ref 2)] [some (.own false .ext 0 1 (.ints .u32 [])), some (.own false .ext 0 1 (.ints .u32 ys)), some (.own false .ext 0 1 (.ints .u8 b))] k := by
  have hkB := bytesB_iff.2 hk
  have hbB := bytesB_iff.2 hb
  have hRB := resT_len [k0, k1, k2, k3, k4, k5, k6, k7, k8, k9, ka, kb, kc, kd, ke, kf] b now (IntKind.wrap .u64 clife)
  have hRM := resT_len [k0, k1, k2, k3, k4, k5, k6, k7, k8, k9, ka, kb, kc, kd, ke, kf] (makeOf [k0, k1, k2, k3, k4, k5, k6, k7, k8, k9, ka, kb, kc, kd, ke, kf] (Spec.Tc.mk tag ptag tsn ptsn prwnd pstr lport ys tie (IntKind.wrap .u32 (((BitVec.toNat ((BitVec.ofInt 32 (4294967295)) ^^^ (BitVec.ofInt 32 tie))) : Nat) : Int)) now)) now (IntKind.wrap .u64 clife)
  have hML := make_length [k0, k1, k2, k3, k4, k5, k6, k7, k8, k9, ka, kb, kc, kd, ke, kf] (Spec.Tc.mk tag ptag tsn ptsn prwnd pstr lport ys tie (IntKind.wrap .u32 (((BitVec.toNat ((BitVec.ofInt 32 (4294967295)) ^^^ (BitVec.ofInt 32 tie))) : Nat) : Int)) now)
  have hMb := bytesB_iff.2 (make_bytes [k0, k1, k2, k3, k4, k5, k6, k7, k8, k9, ka, kb, kc, kd, ke, kf] (Spec.Tc.mk tag ptag tsn ptsn prwnd pstr lport ys tie (IntKind.wrap .u32 (((BitVec.toNat ((BitVec.ofInt 32 (4294967295)) ^^^ (BitVec.ofInt 32 tie))) : Nat) : Int)) now))
  have hTx : (Spec.Tc.mk tag ptag tsn ptsn prwnd pstr lport ys tie (IntKind.wrap .u32 (((BitVec.toNat ((BitVec.ofInt 32 (4294967295)) ^^^ (BitVec.ofInt 32 tie))) : Nat) : Int)) now).xs.length = ys.length := rfl
  rw [hTx] at hML
  rw [t_ans0]
  simp only [List.take_length]
  refine brd (fun _ => hT _) (fun g2 => brd (fun _ => hT _) (fun g3 => ?_))
  have hmk := make_rf hk rfl (Spec.Tc.mk tag ptag tsn ptsn prwnd pstr lport ys tie (IntKind.wrap .u32 (((BitVec.toNat ((BitVec.ofInt 32 (4294967295)) ^^^ (BitVec.ofInt 32 tie))) : Nat) : Int)) now) (by rw [hTx]; omega)
  rw [← hmk]
  repeat' first
    | exact hT _
    | refine ndd (by omega) ?_
    | refine nd (by rw [hkB]; rfl) ?_
    | refine nd (by rw [hbB, hkB, decide_eq_true (by omega)]; rfl) ?_
    | refine nd (by rw [hMb, hkB, decide_eq_true (by omega)]; rfl) ?_
    | refine nbt (eqK_t.2 rfl) ?_
    | refine nbt (strEq_refl _) ?_
    | refine nbt (eqL_refl _) ?_
    | refine nbt (eqL_take _) ?_
    | refine cbt (eqK_t.2 rfl) ?_
    | refine cbt (strEq_refl _) ?_
    | refine cbt (eqL_refl _) ?_
    | refine brt (by omega) ?_
    | refine brf (by omega) ?_
    | refine brd (fun _ => ?_) (fun _ => ?_)
theorem ans_run1 (k0 k1 k2 k3 k4 k5 k6 k7 k8 k9 ka kb kc kd ke kf port mtu streams sroom rroom mmax rini rmin rmax itr ptr atr beat clife seed ptag ptsn prwnd pstr lport tag tsn tie now : Int) (listen : Bool) (x0 : Int) (xs : List Int) (ys b : List Int) (k : SV → St → Prop)
    (hk : Bytes [k0, k1, k2, k3, k4, k5, k6, k7, k8, k9, ka, kb, kc, kd, ke, kf]) (hb : Bytes b) (hT : ∀ st, k (.sa (.one (bv true))) st) :
    evCall cxAm (ev cxAm 60) 3 [.agg [.ref 0, iv .u16 port, bv listen, iv .i64 mtu, iv .u16 streams, iv .i64 sroom, iv .i64 rroom, iv .i64 mmax, iv .u32 rini, iv .u32 rmin, iv .u32 rmax, iv .u8 itr, iv .u8 ptr, iv .u8 atr, iv .u32 beat, iv .u32 clife, iv .u64 seed, iv .u8 k0, iv .u8 k1, iv .u8 k2, iv .u8 k3, iv .u8 k4, iv .u8 k5, iv .u8 k6, iv .u8 k7, iv .u8 k8, iv .u8 k9, iv .u8 ka, iv .u8 kb, iv .u8 kc, iv .u8 kd, iv .u8 ke, iv .u8 kf], .agg [iv .u32 ptag, iv .u32 ptsn, iv .u32 prwnd, iv .u16 pstr, .ref 1], .one (iv .u16 lport), .one (iv .u32 tag), .one (iv .u32 tsn), .one (iv .u32 tie), .one (iv .u64 now), .one (.ref 2)] [some (.own false .ext 0 1 (.ints .u32 (x0 :: xs))), some (.own false .ext 0 1 (.ints .u32 ys)), some (.own false .ext 0 1 (.ints .u8 b))] k := by
  have hkB := bytesB_iff.2 hk
  have hbB := bytesB_iff.2 hb
  have hRB := resT_len [k0, k1, k2, k3, k4, k5, k6, k7, k8, k9, ka, kb, kc, kd, ke, kf] b now (IntKind.wrap .u64 clife)
  have hRM := resT_len [k0, k1, k2, k3, k4, k5, k6, k7, k8, k9, ka, kb, kc, kd, ke, kf] (makeOf [k0, k1, k2, k3, k4, k5, k6, k7, k8, k9, ka, kb, kc, kd, ke, kf] (Spec.Tc.mk tag ptag tsn ptsn prwnd pstr lport ys tie (IntKind.wrap .u32 (((BitVec.toNat ((BitVec.ofInt 32 (4294967295)) ^^^ (BitVec.ofInt 32 tie))) : Nat) : Int)) now)) now (IntKind.wrap .u64 clife)
  have hML := make_length [k0, k1, k2, k3, k4, k5, k6, k7, k8, k9, ka, kb, kc, kd, ke, kf] (Spec.Tc.mk tag ptag tsn ptsn prwnd pstr lport ys tie (IntKind.wrap .u32 (((BitVec.toNat ((BitVec.ofInt 32 (4294967295)) ^^^ (BitVec.ofInt 32 tie))) : Nat) : Int)) now)
  have hMb := bytesB_iff.2 (make_bytes [k0, k1, k2, k3, k4, k5, k6, k7, k8, k9, ka, kb, kc, kd, ke, kf] (Spec.Tc.mk tag ptag tsn ptsn prwnd pstr lport ys tie (IntKind.wrap .u32 (((BitVec.toNat ((BitVec.ofInt 32 (4294967295)) ^^^ (BitVec.ofInt 32 tie))) : Nat) : Int)) now))
  have hTx : (Spec.Tc.mk tag ptag tsn ptsn prwnd pstr lport ys tie (IntKind.wrap .u32 (((BitVec.toNat ((BitVec.ofInt 32 (4294967295)) ^^^ (BitVec.ofInt 32 tie))) : Nat) : Int)) now).xs.length = ys.length := rfl
  rw [hTx] at hML
  rw [t_ans1]
  simp only [List.take_length]
  refine brd (fun _ => hT _) (fun g1 => brd (fun _ => hT _) (fun g2 => brd (fun _ => hT _) (fun g3 => ?_)))
  have hmk := make_rf hk rfl (Spec.Tc.mk tag ptag tsn ptsn prwnd pstr lport ys tie (IntKind.wrap .u32 (((BitVec.toNat ((BitVec.ofInt 32 (4294967295)) ^^^ (BitVec.ofInt 32 tie))) : Nat) : Int)) now) (by rw [hTx]; omega)
  rw [← hmk]
  repeat' first
    | exact hT _
    | refine ndd (by omega) ?_
    | refine nd (by rw [hkB]; rfl) ?_
    | refine nd (by rw [hbB, hkB, decide_eq_true (by omega)]; rfl) ?_
    | refine nd (by rw [hMb, hkB, decide_eq_true (by omega)]; rfl) ?_
    | refine nbt (eqK_t.2 rfl) ?_
    | refine nbt (strEq_refl _) ?_
    | refine nbt (eqL_refl _) ?_
    | refine nbt (eqL_take _) ?_
    | refine cbt (eqK_t.2 rfl) ?_
    | refine cbt (strEq_refl _) ?_
    | refine cbt (eqL_refl _) ?_
    | refine brt (by omega) ?_
    | refine brf (by omega) ?_
    | refine brd (fun _ => ?_) (fun _ => ?_)
theorem ans_run (k0 k1 k2 k3 k4 k5 k6 k7 k8 k9 ka kb kc kd ke kf port mtu streams sroom rroom mmax rini rmin rmax itr ptr atr beat clife seed ptag ptsn prwnd pstr lport tag tsn tie now : Int) (listen : Bool) (xs ys b : List Int) (k : SV → St → Prop)
    (hk : Bytes [k0, k1, k2, k3, k4, k5, k6, k7, k8, k9, ka, kb, kc, kd, ke, kf]) (hb : Bytes b) (hT : ∀ st, k (.sa (.one (bv true))) st) :
    ∃ N, evCall cxAm (ev cxAm N) 3 [.agg [.ref 0, iv .u16 port, bv listen, iv .i64 mtu, iv .u16 streams, iv .i64 sroom, iv .i64 rroom, iv .i64 mmax, iv .u32 rini, iv .u32 rmin, iv .u32 rmax, iv .u8 itr, iv .u8 ptr, iv .u8 atr, iv .u32 beat, iv .u32 clife, iv .u64 seed, iv .u8 k0, iv .u8 k1, iv .u8 k2, iv .u8 k3, iv .u8 k4, iv .u8 k5, iv .u8 k6, iv .u8 k7, iv .u8 k8, iv .u8 k9, iv .u8 ka, iv .u8 kb, iv .u8 kc, iv .u8 kd, iv .u8 ke, iv .u8 kf], .agg [iv .u32 ptag, iv .u32 ptsn, iv .u32 prwnd, iv .u16 pstr, .ref 1], .one (iv .u16 lport), .one (iv .u32 tag), .one (iv .u32 tsn), .one (iv .u32 tie), .one (iv .u64 now), .one (.ref 2)] [some (.own false .ext 0 1 (.ints .u32 xs)), some (.own false .ext 0 1 (.ints .u32 ys)), some (.own false .ext 0 1 (.ints .u8 b))] k := by
  cases xs with
  | nil => exact ⟨60, ans_run0 k0 k1 k2 k3 k4 k5 k6 k7 k8 k9 ka kb kc kd ke kf port mtu streams sroom rroom mmax rini rmin rmax itr ptr atr beat clife seed ptag ptsn prwnd pstr lport tag tsn tie now listen ys b k hk hb hT⟩
  | cons x0 xs => exact ⟨60, ans_run1 k0 k1 k2 k3 k4 k5 k6 k7 k8 k9 ka kb kc kd ke kf port mtu streams sroom rroom mmax rini rmin rmax itr ptr atr beat clife seed ptag ptsn prwnd pstr lport tag tsn tie now listen x0 xs ys b k hk hb hT⟩
end Go.Ev
