/- The law OutqJoins, run: giving and taking, then taking what is left. No conditions. -/
import Derived.Test.YtipmphkcbhjinaaOjT0
import Derived.Test.YtipmphkcbhjinaaOjT1
import Derived.Test.YtipmphkcbhjinaaOjT2
import Derived.Test.YtipmphkcbhjinaaOjQ
import Derived.Test.YtipmphkcbhjinaaFkS
import Derived.Test.YtipmphkcbhjinaaOrS
set_option linter.unusedVariables false
set_option linter.unusedSimpArgs false
namespace Go.Ev
open Go Go.Proofs Go.Spec
attribute [local irreducible] ev evCall branch need again
def tsnA (x : Inp) (q : Nat) : Int := (x.tsn + (q : Int)) % 4294967296
def dq (x : Inp) (t : Nat) : List (List Int) := qc (fun g => (x.G g).d) t (x.st x.n)
def qO (x : Inp) (t : Nat) : Option SO := piecesO (x.st x.n - t) (qc (fun g => (x.G g).t) t (x.st x.n)) (qc (fun g => (x.G g).f) t (x.st x.n)) (qc (fun g => (x.G g).s) t (x.st x.n)) (qc (fun g => (x.G g).n) t (x.st x.n)) (qc (fun g => (x.G g).p) t (x.st x.n)) (qc (fun g => (x.G g).d) t (x.st x.n))
def ojA (c : Cfg) (n : Nat) (kinds nums sids ppids : List Int) (unos : List Bool) (dss : List (List Int)) (x : Inp) (t : Nat) (sF : Nat → Int) (tk : Int) (kk : Nat) (nx : List Int) (l : List Pc) (cl i f M : Nat) (k : SV → St → Prop) : Prop :=
  ev cxOj f 1 6 (codeAt Try.prog 6 [1, 1, 1, 1, 1, 1, 1, 1, 1, 1, 0, 1, 0]) (frm 120 [(3, (.sa (.one (SC.ptr 1 0 0)))), (4, (.sa (.one (SC.ptr 2 0 0)))), (7, (.sa (.one (SC.ptr 3 0 0)))), (9, (.sa (.one (SC.ptr 6 0 0)))), (10, (.sa (.one (SC.ptr 8 0 0)))), (11, (.sa (.one (SC.sl 10 0 65536 Option.none)))), (12, (.sa (.one (SC.ptr 11 0 0)))), (13, (.sa (.one (SC.ptr 14 0 0)))), (14, (.sa (.one (SC.ref 15)))), (34, (.sa (.one (SC.ref 0)))), (35, (.sa (.one (iv .i64 ((n : Nat) : Int))))), (36, (.sa (.one (iv .i64 ((i : Nat) : Int)))))]) [(some (.own false .ext 0 6 (.tab n [.ints .u8 kinds, .ints .i64 nums, .ints .u16 sids, .bools unos, .ints .u32 ppids, .data .u8 dss]))), obj 25 13 [iv .i64 c.mtu, iv .u16 c.st, iv .i64 c.sr, iv .i64 c.rr, iv .i64 c.mm, iv .u32 c.ri, iv .u32 c.rmin, iv .u32 c.rmax, iv .u8 c.it, iv .u8 c.pt, iv .u8 c.al, iv .u32 c.beat, iv .u32 c.life], obj 23 1 [iv .u32 (tsnA x t)], obj 29 1 [SC.ptr 4 0 0], obj 66 33 (iv .i64 (c.mtu) :: iv .u16 (c.st) :: iv .i64 (c.sr) :: iv .i64 (c.rr) :: iv .i64 (c.mm) :: iv .u32 (c.ri) :: iv .u32 (c.rmin) :: iv .u32 (c.rmax) :: iv .u8 (c.it) :: iv .u8 (c.pt) :: iv .u8 (c.al) :: iv .u32 (c.beat) :: iv .u32 (c.life) :: iv .u32 (tsnA x (x.st x.n)) :: iv .u16 (sF 0) :: iv .u16 (sF 1) :: iv .u16 (sF 2) :: iv .u16 (sF 3) :: iv .u16 (sF 4) :: iv .u16 (sF 5) :: iv .u16 (sF 6) :: iv .u16 (sF 7) :: iv .u16 (sF 8) :: iv .u16 (sF 9) :: iv .u16 (sF 10) :: iv .u16 (sF 11) :: iv .u16 (sF 12) :: iv .u16 (sF 13) :: iv .u16 (sF 14) :: iv .u16 (sF 15) :: .ref 5 :: iv .i64 ((lensL (dq x t) : Nat) : Int) :: iv .i64 (tk) :: []), qO x t, obj 57 1 [SC.ref 7], some (.own true .row 35 4 (.tab x.n [.ints .u16 x.ss, .bools x.us, .ints .u32 x.ps, .data .u8 x.ds])), obj 52 1 [SC.ref 9], some (.own true .row 22 1 (.ints .u16 x.ns)), some (.mem true .whole 22 1 (.ints .u16 nx)), obj 58 1 [SC.ptr 12 0 0], obj 76 2 [.ref 13, iv .i64 ((lenD l : Nat) : Int)], keptL l cl, obj 3 1 [iv .i64 ((kk : Nat) : Int)], some (SO.clo (Fn.func 27) [] [(.one (SC.ptr 3 0 0)), (.one (SC.ptr 2 0 0)), (.one (SC.ptr 1 0 0)), (.one (SC.ptr 11 0 0)), (.one (SC.ptr 14 0 0)), (.one (SC.ptr 6 0 0)), (.one (SC.ptr 8 0 0))])] (kBlock 0 (kSeq (ev cxOj (M + 49) 1 6 (codeAt Try.prog 6 [1, 1, 1, 1, 1, 1, 1, 1, 1, 1, 1])) (kRet (Cx.P cxOj) [(ResultVar.tmp 6)] 1 k)))
def ojB (c : Cfg) (n : Nat) (kinds nums sids ppids : List Int) (unos : List Bool) (dss : List (List Int)) (x : Inp) (t : Nat) (sF : Nat → Int) (tk : Int) (kk : Nat) (l : List Pc) (cl f M : Nat) (k : SV → St → Prop) : Prop :=
  ev cxOj f 1 6 (codeAt Try.prog 6 [1, 1, 1, 1, 1, 1, 1, 1, 1, 1, 1, 0, 0]) (frm 120 [(3, (.sa (.one (SC.ptr 1 0 0)))), (4, (.sa (.one (SC.ptr 2 0 0)))), (7, (.sa (.one (SC.ptr 3 0 0)))), (9, (.sa (.one (SC.ptr 6 0 0)))), (10, (.sa (.one (SC.ptr 8 0 0)))), (12, (.sa (.one (SC.ptr 10 0 0)))), (13, (.sa (.one (SC.ptr 13 0 0)))), (14, (.sa (.one (SC.ref 14))))]) [(some (.own false .ext 0 6 (.tab n [.ints .u8 kinds, .ints .i64 nums, .ints .u16 sids, .bools unos, .ints .u32 ppids, .data .u8 dss]))), obj 25 13 [iv .i64 c.mtu, iv .u16 c.st, iv .i64 c.sr, iv .i64 c.rr, iv .i64 c.mm, iv .u32 c.ri, iv .u32 c.rmin, iv .u32 c.rmax, iv .u8 c.it, iv .u8 c.pt, iv .u8 c.al, iv .u32 c.beat, iv .u32 c.life], obj 23 1 [iv .u32 (tsnA x t)], obj 29 1 [SC.ptr 4 0 0], obj 66 33 (iv .i64 (c.mtu) :: iv .u16 (c.st) :: iv .i64 (c.sr) :: iv .i64 (c.rr) :: iv .i64 (c.mm) :: iv .u32 (c.ri) :: iv .u32 (c.rmin) :: iv .u32 (c.rmax) :: iv .u8 (c.it) :: iv .u8 (c.pt) :: iv .u8 (c.al) :: iv .u32 (c.beat) :: iv .u32 (c.life) :: iv .u32 (tsnA x (x.st x.n)) :: iv .u16 (sF 0) :: iv .u16 (sF 1) :: iv .u16 (sF 2) :: iv .u16 (sF 3) :: iv .u16 (sF 4) :: iv .u16 (sF 5) :: iv .u16 (sF 6) :: iv .u16 (sF 7) :: iv .u16 (sF 8) :: iv .u16 (sF 9) :: iv .u16 (sF 10) :: iv .u16 (sF 11) :: iv .u16 (sF 12) :: iv .u16 (sF 13) :: iv .u16 (sF 14) :: iv .u16 (sF 15) :: .ref 5 :: iv .i64 ((lensL (dq x t) : Nat) : Int) :: iv .i64 (tk) :: []), qO x t, obj 57 1 [SC.ref 7], some (.own true .row 35 4 (.tab x.n [.ints .u16 x.ss, .bools x.us, .ints .u32 x.ps, .data .u8 x.ds])), obj 52 1 [SC.ref 9], some (.own true .row 22 1 (.ints .u16 x.ns)), obj 58 1 [SC.ptr 11 0 0], obj 76 2 [.ref 12, iv .i64 ((lenD l : Nat) : Int)], keptL l cl, obj 3 1 [iv .i64 ((kk : Nat) : Int)], some (SO.clo (Fn.func 27) [] [(.one (SC.ptr 3 0 0)), (.one (SC.ptr 2 0 0)), (.one (SC.ptr 1 0 0)), (.one (SC.ptr 10 0 0)), (.one (SC.ptr 13 0 0)), (.one (SC.ptr 6 0 0)), (.one (SC.ptr 8 0 0))])] (kBlock 3 (kSeq (ev cxOj (M + 48) 1 6 (codeAt Try.prog 6 [1, 1, 1, 1, 1, 1, 1, 1, 1, 1, 1, 1])) (kRet (Cx.P cxOj) [(ResultVar.tmp 6)] 1 k)))
theorem brF {b : Bool} {y z : Prop} (h : b = false) (h1 : z) : branch b y z := br (fun h' => by rw [h] at h'; cases h') (fun _ => h1)
theorem brT {b : Bool} {y z : Prop} (h : b = true) (h1 : y) : branch b y z := br (fun _ => h1) (fun h' => by rw [h] at h'; cases h')
theorem add32' (x y : Int) : addK .u32 x y = (x + y) % 4294967296 := by rw [addK_eq]; rfl
theorem tsn_next (x : Inp) (q : Nat) : addK .u32 (tsnA x q) 1 = tsnA x (q + 1) := by unfold tsnA; rw [add32']; omega
theorem sl16 (sF : Nat → Int) {j : Nat} (h : j < 16) : [sF 0, sF 1, sF 2, sF 3, sF 4, sF 5, sF 6, sF 7, sF 8, sF 9, sF 10, sF 11, sF 12, sF 13, sF 14, sF 15].getD j 0 = sF j := by
  match j, h with
  | 0, _ => rfl
  | 1, _ => rfl
  | 2, _ => rfl
  | 3, _ => rfl
  | 4, _ => rfl
  | 5, _ => rfl
  | 6, _ => rfl
  | 7, _ => rfl
  | 8, _ => rfl
  | 9, _ => rfl
  | 10, _ => rfl
  | 11, _ => rfl
  | 12, _ => rfl
  | 13, _ => rfl
  | 14, _ => rfl
  | 15, _ => rfl
  | j + 16, h => exact absurd h (by omega)
theorem qc_end {α : Type} (f : Nat → α) {t m : Nat} (h : m ≤ t) : qc f t m = [] := by unfold qc; rw [show m - t = 0 by omega]; rfl
theorem qd_bound (f : Nat → List Int) (m : Nat) : ∀ (d t : Nat), t + d = m → (∀ g, t ≤ g → g < m → 1 ≤ (f g).length ∧ (f g).length ≤ 1472) → d ≤ lensL (qc f t m) ∧ lensL (qc f t m) ≤ d * 1472
  | 0, t, h, _ => by rw [qc_end f (by omega), lensL_nil]; omega
  | d + 1, t, h, hb => by
    have h1 := qd_bound f m d (t + 1) (by omega) (fun g a b => hb g (by omega) b)
    have h2 := hb t (Nat.le_refl _) (by omega)
    rw [qc_cons f (by omega), lensL_cons]
    omega
theorem _root_.Go.Spec.OjI.len {z : Int} {x : Inp} {t kk : Nat} {l : List Pc} (h : OjI z x t kk l) (hz : 1 ≤ z) {g : Nat} (hg : g < x.st x.n) : 1 ≤ (x.G g).d.length ∧ (((x.G g).d.length : Nat) : Int) ≤ z := by
  obtain ⟨a, b, c⟩ := x.O_in hg
  have hzk := h.zs _ a
  have := x.pieceLen hg (h.ne _ a) (by omega)
  rw [hzk] at this
  exact this
theorem _root_.Go.Spec.OjI.dq_bound {z : Int} {x : Inp} {t kk : Nat} {l : List Pc} (h : OjI z x t kk l) (hz : 1 ≤ z) (hz2 : z ≤ 1472) : x.st x.n - t ≤ lensL (dq x t) ∧ lensL (dq x t) ≤ (x.st x.n - t) * 1472 :=
  qd_bound _ _ (x.st x.n - t) t (by have := h.ht; omega) (fun g _ hg => by
    have := h.len hz hg
    omega)
theorem tsnL_get {t : Int} {n j : Nat} (hj : j < (tsnL t n).length) : (tsnL t n)[j] = tsnAdd t j := by simp [tsnL]
theorem cutF_get {u : Bool} {n j : Nat} (hj : j < (cutF u n).length) : (cutF u n)[j] = cutF1 u n j := by simp [cutF]
theorem qO_grow {tsn z : Int} {ss : List Int} {us : List Bool} {ps : List Int} {ds : List (List Int)} {ns : List Int} {s p nn : Int} {u : Bool} {d : List Int} {t : Nat} (h2 : us.length = ss.length) (h3 : ps.length = ss.length) (h4 : ds.length = ss.length) (h5 : ns.length = ss.length) (ht : t ≤ (mkI tsn z ss us ps ds ns).st ss.length) {N : Nat} (hN : cutN (cutS z d.length) d.length = N) :
    let x := mkI tsn z ss us ps ds ns
    let y := mkI tsn z (ss ++ [s]) (us ++ [u]) (ps ++ [p]) (ds ++ [d]) (ns ++ [nn])
    y.st y.n = x.st x.n + N ∧ dq y t = dq x t ++ cutD z d ∧
    qO y t = piecesO ((x.st x.n - t) + N) (qc (fun g => (x.G g).t) t (x.st x.n) ++ tsnL (tsnA x (x.st x.n)) N) (qc (fun g => (x.G g).f) t (x.st x.n) ++ cutF u N) (qc (fun g => (x.G g).s) t (x.st x.n) ++ List.replicate N s) (qc (fun g => (x.G g).n) t (x.st x.n) ++ List.replicate N nn) (qc (fun g => (x.G g).p) t (x.st x.n) ++ List.replicate N p) (qc (fun g => (x.G g).d) t (x.st x.n) ++ cutD z d) := by
  intro x y
  have ht : t ≤ x.st x.n := ht
  have hn : y.n = ss.length + 1 := by
    show (ss ++ [s]).length = _
    simp
  have e : y.st y.n = x.st x.n + N := by
    rw [hn]
    show Inp.st _ ss.length + Inp.ct _ ss.length = _
    rw [grow_st tsn z ss us ps ds ns s p nn u d h4 (Nat.le_refl _), grow_ctn tsn z ss us ps ds ns s p nn u d h4, hN]; rfl
  have ho : ∀ g, t ≤ g → g < x.st x.n → y.G g = x.G g := fun g _ hg => grow_G tsn z ss us ps ds ns s p nn u d h2 h3 h4 h5 hg
  have hw : ∀ j, j < N → y.G (x.st x.n + j) = ⟨(tsn + ((x.st x.n + j : Nat) : Int)) % 4294967296, cutF1 u N j, s, nn, p, 0, (cutD z d).getD j []⟩ := fun j hj => by
    have := grow_new tsn z ss us ps ds ns s p nn u d h2 h3 h4 h5 (j := j) (by rw [hN]; exact hj)
    rw [hN] at this
    exact this
  have lt1 : (tsnL (tsnA x (x.st x.n)) N).length = N := tsnL_len _ _
  have lt6 : (cutD z d).length = N := by rw [cutD_len, hN]
  have c6 : qc (fun g => (y.G g).d) t (x.st x.n + N) = qc (fun g => (x.G g).d) t (x.st x.n) ++ cutD z d :=
    qc_app (m := x.st x.n) ht (fun g a b => by rw [ho g a b]) lt6 (fun j hj => by rw [hw j (by omega), List.getD_eq_getElem?_getD, List.getElem?_eq_getElem hj]; rfl)
  refine ⟨e, by unfold dq; rw [e]; exact c6, ?_⟩
  unfold qO
  rw [e, c6, show x.st x.n + N - t = (x.st x.n - t) + N from by omega]
  rw [qc_app (f := fun g => (x.G g).t) (f' := fun g => (y.G g).t) (m := x.st x.n) ht (fun g a b => by rw [ho g a b]) lt1 (fun j hj => by
      rw [hw j (by omega)]
      rw [tsnL_get hj]
      unfold tsnAdd
      rw [IntKind.wrap_u32]
      show (tsn + ((x.st x.n + j : Nat) : Int)) % 4294967296 = ((tsn + ((x.st x.n : Nat) : Int)) % 4294967296 + (j : Int)) % 4294967296
      omega)]
  rw [qc_app (f := fun g => (x.G g).f) (f' := fun g => (y.G g).f) (m := x.st x.n) ht (fun g a b => by rw [ho g a b]) (cutF_len u N) (fun j hj => by
      rw [hw j (by rw [cutF_len] at hj; exact hj), cutF_get hj])]
  rw [qc_app (f := fun g => (x.G g).s) (f' := fun g => (y.G g).s) (l := List.replicate N s) (m := x.st x.n) ht (fun g a b => by rw [ho g a b]) (List.length_replicate ..) (fun j hj => by
      rw [hw j (by rw [List.length_replicate] at hj; exact hj), List.getElem_replicate])]
  rw [qc_app (f := fun g => (x.G g).n) (f' := fun g => (y.G g).n) (l := List.replicate N nn) (m := x.st x.n) ht (fun g a b => by rw [ho g a b]) (List.length_replicate ..) (fun j hj => by
      rw [hw j (by rw [List.length_replicate] at hj; exact hj), List.getElem_replicate])]
  rw [qc_app (f := fun g => (x.G g).p) (f' := fun g => (y.G g).p) (l := List.replicate N p) (m := x.st x.n) ht (fun g a b => by rw [ho g a b]) (List.length_replicate ..) (fun j hj => by
      rw [hw j (by rw [List.length_replicate] at hj; exact hj), List.getElem_replicate])]
theorem oj_loop2 (c : Cfg) (n : Nat) (kinds nums sids ppids : List Int) (unos : List Bool) (dss : List (List Int)) (M : Nat) (k : SV → St → Prop) (hT : ∀ st, k (.sa (.one (bv true))) st) (hm : 64 ≤ c.mtu ∧ c.mtu ≤ 1500) (x : Inp) (sF : Nat → Int) (hm6 : x.st x.n ≤ 60000) (hn5 : x.n ≤ 500) (hns : x.ns.length = x.n) :
    ∀ (rem t kk : Nat) (tk : Int) (l : List Pc) (cl d : Nat), t + rem = x.st x.n → OjI (c.mtu - 28) x t kk l → ojB c n kinds nums sids ppids unos dss x t sF tk kk l cl (rem + d + 47) M k := by
  have hz : 1 ≤ c.mtu - 28 ∧ c.mtu - 28 ≤ 1472 := by omega
  intro rem
  induction rem with
  | zero =>
    intro t kk tk l cl d h1 hI
    have hby := hI.dq_bound hz.1 hz.2
    obtain ⟨e1, e2⟩ := hI.fin hz.1 (by omega)
    subst e2
    unfold ojB qO piecesO
    rw [show 0 + d + 47 = (0 + d) + 47 from rfl, t_oj2]
    refine Again.mk (brf (by omega) (bret (by omega) (bret rfl (bret ?_ (hT _)))))
    rw [show x.st x.n = t by omega]
  | succ rem ih =>
    intro t kk tk l cl d h1 hI
    unfold ojB qO piecesO
    rw [show rem + 1 + d + 47 = (rem + 1 + d) + 47 from rfl, t_oj2]
    simp only [tP, toP_map]
    have htm : t < x.st x.n := by omega
    obtain ⟨ln1, ln2⟩ := hI.len hz.1 htm
    have ht := qc_head (fun g => (x.G g).t) 0 htm
    have hf := qc_head (fun g => (x.G g).f) 0 htm
    have hs' := qc_head (fun g => (x.G g).s) 0 htm
    have hnn := qc_head (fun g => (x.G g).n) 0 htm
    have hp := qc_head (fun g => (x.G g).p) 0 htm
    have hdd := qc_head (fun g => (x.G g).d) [] htm
    have eG : (x.G t).t = tsnA x t := rfl
    have hok1 := hI.okP hm6 htm (by omega)
    rw [eG] at hok1
    have hP : nb ⟨tsnA x t, (x.G t).f, (x.G t).s, (x.G t).n, (x.G t).p, (cl : Int), (x.G t).d⟩ = x.G t := rfl
    have hnew : putNo l (tsnA x t) = false := hI.new hm6 htm hP
    have hby := hI.dq_bound hz.1 hz.2
    have hcons : lensL (dq x t) = (x.G t).d.length + lensL (dq x (t + 1)) := by unfold dq; rw [qc_cons _ htm, lensL_cons]
    have hld := hI.ld
    have ebt : subK .i64 ((lensL (dq x t) : Nat) : Int) (((x.G t).d.length : Nat) : Int) = ((lensL (dq x (t + 1)) : Nat) : Int) := by rw [sub64 (by omega)]; omega
    have ea : addK .i64 ((lenD l : Nat) : Int) (((x.G t).d.length : Nat) : Int) = ((lenD l + (x.G t).d.length : Nat) : Int) := by rw [add64 (by omega)]; omega
    have em : subK .i64 c.mtu 28 = c.mtu - 28 := sub64 (by omega)
    have hqo : decide ((qc (fun g => (x.G g).t) t (x.st x.n)).length = x.st x.n - t ∧ (qc (fun g => (x.G g).f) t (x.st x.n)).length = x.st x.n - t ∧ (qc (fun g => (x.G g).s) t (x.st x.n)).length = x.st x.n - t ∧ (qc (fun g => (x.G g).n) t (x.st x.n)).length = x.st x.n - t ∧ (qc (fun g => (x.G g).p) t (x.st x.n)).length = x.st x.n - t ∧ (qc (fun g => (x.G g).d) t (x.st x.n)).length = x.st x.n - t ∧ x.st x.n - t ≤ 1000000) = true := decide_eq_true ⟨qc_len _ _ _, qc_len _ _ _, qc_len _ _ _, qc_len _ _ _, qc_len _ _ _, qc_len _ _ _, by omega⟩
    rw [ht, hf, hs', hnn, hp, hdd, qc_drop _ htm, qc_drop _ htm, qc_drop _ htm, qc_drop _ htm, qc_drop _ htm, qc_drop _ htm, Nat.sub_sub, eG, ebt, ea, em, tsn_next]
    refine Again.mk (brt (by omega) ?_)
    refine nd (by rw [hqo, decide_eq_true (show (x.G t).d.length ≤ 140737488355328 by omega)]; rfl) (brf (by omega) ?_)
    refine brF (by rw [eqK_t.2 rfl]; rfl) (bref (by omega) (brf (by omega) ?_))
    refine nd (Bool.and_eq_true_iff.2 ⟨decide_eq_true (by simp), hok1⟩) (brF hnew ?_)
    rcases hI.take hz hm6 htm hP with ⟨a, l', W, hj, has, hap, haf, hW, hsn, hlen, hI'⟩ | ⟨hj, hlen, hI'⟩
    · have hB : whB (l ++ [⟨tsnA x t, (x.G t).f, (x.G t).s, (x.G t).n, (x.G t).p, (cl : Int), (x.G t).d⟩]) ⟨tsnA x t, (x.G t).f, (x.G t).s, (x.G t).n, (x.G t).p, (cl : Int), (x.G t).d⟩ = true := by unfold whB; rw [hj]; rfl
      have hA : whA (l ++ [⟨tsnA x t, (x.G t).f, (x.G t).s, (x.G t).n, (x.G t).p, (cl : Int), (x.G t).d⟩]) ⟨tsnA x t, (x.G t).f, (x.G t).s, (x.G t).n, (x.G t).p, (cl : Int), (x.G t).d⟩ = a := by unfold whA; rw [hj]; rfl
      have hL : whL (l ++ [⟨tsnA x t, (x.G t).f, (x.G t).s, (x.G t).n, (x.G t).p, (cl : Int), (x.G t).d⟩]) ⟨tsnA x t, (x.G t).f, (x.G t).s, (x.G t).n, (x.G t).p, (cl : Int), (x.G t).d⟩ = l' := by unfold whL; rw [hj]; rfl
      have hM : whM (l ++ [⟨tsnA x t, (x.G t).f, (x.G t).s, (x.G t).n, (x.G t).p, (cl : Int), (x.G t).d⟩]) ⟨tsnA x t, (x.G t).f, (x.G t).s, (x.G t).n, (x.G t).p, (cl : Int), (x.G t).d⟩ = W := by unfold whM; rw [hj]; rfl
      obtain ⟨_, hkk⟩ := hI.O htm
      have ek : 0 + ((kk : Nat) : Int).toNat = kk := by omega
      have ek1 : addK .i64 ((kk : Nat) : Int) 1 = ((kk + 1 : Nat) : Int) := by rw [add64 (by omega)]; omega
      have es : subK .i64 ((lenD l + (x.G t).d.length : Nat) : Int) ((W.length : Nat) : Int) = ((lenD l' : Nat) : Int) := by rw [sub64 (by omega)]; omega
      refine brT hB ?_
      rw [hA, hL, hM, es, ek, ek1, has, hap, haf, hW, hsn]
      refine brf (by omega) (ndd (by omega) (ndd (by omega) (ndd (by omega) (bret rfl (brT (by simp) (bret rfl (ndd (by omega) (ndd (by omega) (brF (by simp [strEq]) ?_)))))))))
      refine ndd (by omega) (ndd (by omega) (ndd (by omega) (brF (by rw [eqK_t.2 rfl]; rfl) ?_)))
      refine brf (by omega) ?_
      have h := ih (t + 1) (kk + 1) (addK .i64 tk (((x.G t).d.length : Nat) : Int)) l' (cl + 1) d (by omega) hI'
      unfold ojB qO piecesO at h
      exact evFuel h (by omega)
    · have hB : whB (l ++ [⟨tsnA x t, (x.G t).f, (x.G t).s, (x.G t).n, (x.G t).p, (cl : Int), (x.G t).d⟩]) ⟨tsnA x t, (x.G t).f, (x.G t).s, (x.G t).n, (x.G t).p, (cl : Int), (x.G t).d⟩ = false := by unfold whB; rw [hj]; rfl
      refine brF hB ?_
      refine brf (by omega) ?_
      have h := ih (t + 1) kk (addK .i64 tk (((x.G t).d.length : Nat) : Int)) _ (cl + 1) d (by omega) hI'
      unfold ojB qO piecesO at h
      rw [hlen] at h
      exact evFuel h (by omega)
theorem oj_loop1 (c : Cfg) (n : Nat) (kinds nums sids ppids : List Int) (unos : List Bool) (dss : List (List Int)) (M : Nat) (k : SV → St → Prop) (hT : ∀ st, k (.sa (.one (bv true))) st) (hm : 64 ≤ c.mtu ∧ c.mtu ≤ 1500) (hst : 0 ≤ c.st ∧ c.st ≤ 16)
    (hl : dss.length = n) (hn : n ≤ 500) (hs : ∀ i, 0 ≤ sids.getD i 0) (tsn : Int) (hM : 60000 ≤ M) :
    ∀ (rem i : Nat) (ss : List Int) (us : List Bool) (ps : List Int) (ds : List (List Int)) (ns : List Int) (t kk : Nat) (sF : Nat → Int) (tk : Int) (nx : List Int) (l : List Pc) (cl d : Nat), i + rem = n → us.length = ss.length → ps.length = ss.length → ds.length = ss.length → ns.length = ss.length → OjI (c.mtu - 28) (mkI tsn (c.mtu - 28) ss us ps ds ns) t kk l →
      (mkI tsn (c.mtu - 28) ss us ps ds ns).st ss.length + lensL (dss.drop i) ≤ 60000 → ss.length ≤ i → nx.length = 65536 → (∀ j, j < 16 → nx.getD j 0 = sF j) → ojA c n kinds nums sids ppids unos dss (mkI tsn (c.mtu - 28) ss us ps ds ns) t sF tk kk nx l cl i (rem + d + 47) M k := by
  have hz : 1 ≤ c.mtu - 28 ∧ c.mtu - 28 ≤ 1472 := by omega
  intro rem
  induction rem with
  | zero =>
    intro i ss us ps ds ns t kk sF tk nx l cl d h1 h2 h3 h4 h5 hI h6 h7 h8 h9
    have h := oj_loop2 c n kinds nums sids ppids unos dss M k hT hm (mkI tsn (c.mtu - 28) ss us ps ds ns) sF (by show (mkI tsn (c.mtu - 28) ss us ps ds ns).st ss.length ≤ 60000; omega) (by show ss.length ≤ 500; omega) h5 ((mkI tsn (c.mtu - 28) ss us ps ds ns).st ss.length - t) t kk tk l cl (M - ((mkI tsn (c.mtu - 28) ss us ps ds ns).st ss.length - t)) (by
      have h0 : t ≤ (mkI tsn (c.mtu - 28) ss us ps ds ns).st ss.length := hI.ht
      show _ = (mkI tsn (c.mtu - 28) ss us ps ds ns).st ss.length
      omega) hI
    unfold ojB qO piecesO at h
    unfold ojA qO piecesO
    rw [show 0 + d + 47 = (0 + d) + 47 from rfl, t_oj1]
    refine Again.mk (brf (by omega) ?_)
    exact evFuel h (by omega)
  | succ rem ih =>
    intro i ss us ps ds ns t kk sF tk nx l cl d h1 h2 h3 h4 h5 hI h6 h7 h8 h9
    have hdr := lensL_drop (l := dss) (i := i) (by omega)
    have hsi := hs i
    have e0 : 0 + ((i : Nat) : Int).toNat = i := by omega
    have e6 : addK .i64 ((i : Nat) : Int) 1 = ((i + 1 : Nat) : Int) := by rw [add64 (by omega)]; omega
    have stay : ∀ tk', ojA c n kinds nums sids ppids unos dss (mkI tsn (c.mtu - 28) ss us ps ds ns) t sF tk' kk nx l cl (i + 1) (rem + d + 47) M k := fun tk' => ih (i + 1) ss us ps ds ns t kk sF tk' nx l cl d (by omega) h2 h3 h4 h5 hI (by omega) (by omega) h8 h9
    have grow : ∀ nn nx', (dss.getD i []).length ≠ 0 → nx'.length = 65536 → (∀ j, j < 16 → nx'.getD j 0 = bmp (unos.getD i false) (sids.getD i 0) j (sF j)) → ojA c n kinds nums sids ppids unos dss (mkI tsn (c.mtu - 28) (ss ++ [sids.getD i 0]) (us ++ [unos.getD i false]) (ps ++ [ppids.getD i 0]) (ds ++ [dss.getD i []]) (ns ++ [nn])) t (fun j => bmp (unos.getD i false) (sids.getD i 0) j (sF j)) tk kk nx' l cl (i + 1) (rem + d + 47) M k := fun nn nx' hd hl2 hx => by
      refine ih (i + 1) _ _ _ _ _ t kk _ tk nx' l cl d (by omega) (by simp [h2]) (by simp [h3]) (by simp [h4]) (by simp [h5]) (hI.grow hz.1 h2 h3 h4 h5 hd) ?_ (by simp; omega) hl2 hx
      have hc := cutN_le' (s := cutS (c.mtu - 28) (dss.getD i []).length) (len := (dss.getD i []).length) (by unfold cutS; omega)
      have e : (mkI tsn (c.mtu - 28) (ss ++ [sids.getD i 0]) (us ++ [unos.getD i false]) (ps ++ [ppids.getD i 0]) (ds ++ [dss.getD i []]) (ns ++ [nn])).st (ss ++ [sids.getD i 0]).length = _ := (qO_grow (s := sids.getD i 0) (p := ppids.getD i 0) (nn := nn) (u := unos.getD i false) (d := dss.getD i []) h2 h3 h4 h5 hI.ht rfl).1
      rw [e]
      show (mkI tsn (c.mtu - 28) ss us ps ds ns).st ss.length + _ + _ ≤ 60000
      omega
    have hgr := fun nn => qO_grow (s := sids.getD i 0) (p := ppids.getD i 0) (nn := nn) (u := unos.getD i false) (d := dss.getD i []) h2 h3 h4 h5 (show t ≤ (mkI tsn (c.mtu - 28) ss us ps ds ns).st ss.length from hI.ht) rfl
    have hm6 : (mkI tsn (c.mtu - 28) ss us ps ds ns).st (mkI tsn (c.mtu - 28) ss us ps ds ns).n ≤ 60000 := by
      show (mkI tsn (c.mtu - 28) ss us ps ds ns).st ss.length ≤ 60000
      omega
    have hn5 : (mkI tsn (c.mtu - 28) ss us ps ds ns).n ≤ 500 := by
      show ss.length ≤ 500
      omega
    have hns : (mkI tsn (c.mtu - 28) ss us ps ds ns).ns.length = (mkI tsn (c.mtu - 28) ss us ps ds ns).n := h5
    have hls : (mkI tsn (c.mtu - 28) ss us ps ds ns).n = ss.length := rfl
    have hfs : (mkI tsn (c.mtu - 28) ss us ps ds ns).ss.length = (mkI tsn (c.mtu - 28) ss us ps ds ns).n := rfl
    have hfu : (mkI tsn (c.mtu - 28) ss us ps ds ns).us.length = (mkI tsn (c.mtu - 28) ss us ps ds ns).n := h2
    have hfp : (mkI tsn (c.mtu - 28) ss us ps ds ns).ps.length = (mkI tsn (c.mtu - 28) ss us ps ds ns).n := h3
    have hfd : (mkI tsn (c.mtu - 28) ss us ps ds ns).ds.length = (mkI tsn (c.mtu - 28) ss us ps ds ns).n := h4
    have tsb : 0 ≤ tsnA (mkI tsn (c.mtu - 28) ss us ps ds ns) ((mkI tsn (c.mtu - 28) ss us ps ds ns).st (mkI tsn (c.mtu - 28) ss us ps ds ns).n) ∧ tsnA (mkI tsn (c.mtu - 28) ss us ps ds ns) ((mkI tsn (c.mtu - 28) ss us ps ds ns).st (mkI tsn (c.mtu - 28) ss us ps ds ns).n) ≤ 4294967295 := by unfold tsnA; omega
    have fin : ∀ nn, (mkI tsn (c.mtu - 28) (ss ++ [sids.getD i 0]) (us ++ [unos.getD i false]) (ps ++ [ppids.getD i 0]) (ds ++ [dss.getD i []]) (ns ++ [nn])).ss = (mkI tsn (c.mtu - 28) ss us ps ds ns).ss ++ [sids.getD i 0] ∧ (mkI tsn (c.mtu - 28) (ss ++ [sids.getD i 0]) (us ++ [unos.getD i false]) (ps ++ [ppids.getD i 0]) (ds ++ [dss.getD i []]) (ns ++ [nn])).us = (mkI tsn (c.mtu - 28) ss us ps ds ns).us ++ [unos.getD i false] ∧ (mkI tsn (c.mtu - 28) (ss ++ [sids.getD i 0]) (us ++ [unos.getD i false]) (ps ++ [ppids.getD i 0]) (ds ++ [dss.getD i []]) (ns ++ [nn])).ps = (mkI tsn (c.mtu - 28) ss us ps ds ns).ps ++ [ppids.getD i 0] ∧ (mkI tsn (c.mtu - 28) (ss ++ [sids.getD i 0]) (us ++ [unos.getD i false]) (ps ++ [ppids.getD i 0]) (ds ++ [dss.getD i []]) (ns ++ [nn])).ds = (mkI tsn (c.mtu - 28) ss us ps ds ns).ds ++ [dss.getD i []] ∧ (mkI tsn (c.mtu - 28) (ss ++ [sids.getD i 0]) (us ++ [unos.getD i false]) (ps ++ [ppids.getD i 0]) (ds ++ [dss.getD i []]) (ns ++ [nn])).ns = (mkI tsn (c.mtu - 28) ss us ps ds ns).ns ++ [nn] ∧ (mkI tsn (c.mtu - 28) (ss ++ [sids.getD i 0]) (us ++ [unos.getD i false]) (ps ++ [ppids.getD i 0]) (ds ++ [dss.getD i []]) (ns ++ [nn])).n = (mkI tsn (c.mtu - 28) ss us ps ds ns).n + 1 ∧ ∀ q, tsnA (mkI tsn (c.mtu - 28) (ss ++ [sids.getD i 0]) (us ++ [unos.getD i false]) (ps ++ [ppids.getD i 0]) (ds ++ [dss.getD i []]) (ns ++ [nn])) q = tsnA (mkI tsn (c.mtu - 28) ss us ps ds ns) q := fun nn => ⟨rfl, rfl, rfl, rfl, rfl, by show (ss ++ [sids.getD i 0]).length = ss.length + 1; simp, fun _ => rfl⟩
    generalize hx : mkI tsn (c.mtu - 28) ss us ps ds ns = x at *
    unfold ojA qO piecesO
    rw [show rem + 1 + d + 47 = (rem + 1 + d) + 47 from rfl, t_oj1]
    simp only [tP, toP_map]
    rw [e0, e6]
    unfold ojA qO piecesO at stay
    refine Again.mk (brt (by omega) (ndd (by omega) (ndd (by omega) (ndd (by omega) ?_))))
    refine bre (fun hk0 => ?_) (fun hk0 => bre (fun hk1 => ?_) (fun hk1 => bre (fun hk3 => ?_) (fun hk3 => ?_)))
    · -- given
      have hby := hI.dq_bound hz.1 hz.2
      have hqo : decide ((qc (fun g => (x.G g).t) t (x.st x.n)).length = x.st x.n - t ∧ (qc (fun g => (x.G g).f) t (x.st x.n)).length = x.st x.n - t ∧ (qc (fun g => (x.G g).s) t (x.st x.n)).length = x.st x.n - t ∧ (qc (fun g => (x.G g).n) t (x.st x.n)).length = x.st x.n - t ∧ (qc (fun g => (x.G g).p) t (x.st x.n)).length = x.st x.n - t ∧ (qc (fun g => (x.G g).d) t (x.st x.n)).length = x.st x.n - t ∧ x.st x.n - t ≤ 1000000) = true := decide_eq_true ⟨qc_len _ _ _, qc_len _ _ _, qc_len _ _ _, qc_len _ _ _, qc_len _ _ _, qc_len _ _ _, by omega⟩
      refine nd (by rw [hqo, decide_eq_true ⟨by omega, by omega, hm.1, hm.2, hst.1, hst.2, hsi, tsb.1, tsb.2⟩]; rfl) ?_
      refine brd (fun _ => evFuel (stay tk) (by omega)) (fun hd0 => ?_)
      refine brd (fun _ => evFuel (stay tk) (by omega)) (fun hsm => ?_)
      refine brd (fun _ => evFuel (stay tk) (by omega)) (fun _ => ?_)
      refine brd (fun _ => evFuel (stay tk) (by omega)) (fun _ => ?_)
      have hlc := lensL_cutD (size := c.mtu - 28) (xs := dss.getD i []) (by omega) (by omega)
      have hba : addK .i64 ((lensL (dq x t) : Nat) : Int) (((dss.getD i []).length : Nat) : Int) = ((lensL (dq x t ++ cutD (c.mtu - 28) (dss.getD i [])) : Nat) : Int) := by rw [add64 (by omega), lensL_app, hlc]; omega
      have e0s : 0 + (sids.getD i 0).toNat = (sids.getD i 0).toNat := Nat.zero_add _
      have ett : (dss.getD i []).take (dss.getD i []).length = dss.getD i [] := List.take_of_length_le (Nat.le_refl _)
      have htq : tsnA x (x.st x.n + cutN (cutS (c.mtu - 28) (dss.getD i []).length) (dss.getD i []).length) = tsnAdd (tsnA x (x.st x.n)) (cutN (cutS (c.mtu - 28) (dss.getD i []).length) (dss.getD i []).length) := by
        unfold tsnAdd tsnA
        rw [IntKind.wrap_u32]
        omega
      rw [hba, e0s, ett, fitL_same _ _ _ hfs, fitL_same _ _ _ hfu, fitL_same _ _ _ hfp, fitL_same _ _ _ hfd]
      refine br (fun hu => ?_) (fun hu => ?_)
      · have hu : unos.getD i false = false := by cases h : unos.getD i false <;> rw [h] at hu <;> first | rfl | cases hu
        have h := grow (sF (sids.getD i 0).toNat) (nx.set (sids.getD i 0).toNat (addK .u16 (nx.getD (sids.getD i 0).toNat 0) 1)) hd0 (by rw [List.length_set]; exact h8) (fun j hj => by
          have hj2 := h9 j hj
          unfold bmp
          rw [hu, List.getD_eq_getElem?_getD, List.getElem?_set]
          by_cases e : (sids.getD i 0).toNat = j
          · rw [if_pos e, if_pos (by omega), if_pos ⟨rfl, by omega⟩, e, hj2]; rfl
          · rw [if_neg e, if_neg (fun hc => e (by have := hc.2; omega)), ← hj2, List.getD_eq_getElem?_getD])
        obtain ⟨g1, g2, g3⟩ := hgr (sF (sids.getD i 0).toNat)
        obtain ⟨f1, f2, f3, f4, f5, f6, f7⟩ := fin (sF (sids.getD i 0).toNat)
        unfold ojA at h
        rw [f1, f2, f3, f4, f5, f7, f7, g1, g2, g3, f6, htq] at h
        unfold piecesO at h
        have hso : ssnOf (unos.getD i false) (sids.getD i 0) [sF 0, sF 1, sF 2, sF 3, sF 4, sF 5, sF 6, sF 7, sF 8, sF 9, sF 10, sF 11, sF 12, sF 13, sF 14, sF 15] = sF (sids.getD i 0).toNat := by
          unfold ssnOf
          rw [hu, if_neg (by decide), sl16 sF (by omega)]
        rw [hso, h9 _ (show (sids.getD i 0).toNat < 16 by omega)]
        rw [h9 _ (show (sids.getD i 0).toNat < 16 by omega)] at h
        repeat (refine ndd (by first | omega | (simp only [List.length_set]; omega)) ?_)
        exact evFuel h (by omega)
      · have hu : unos.getD i false = true := by cases h : unos.getD i false <;> rw [h] at hu <;> first | rfl | cases hu
        have h := grow 0 nx hd0 h8 (fun j hj => by
          unfold bmp
          rw [hu, if_neg (fun hc => by cases hc.1)]
          exact h9 j hj)
        obtain ⟨g1, g2, g3⟩ := hgr 0
        obtain ⟨f1, f2, f3, f4, f5, f6, f7⟩ := fin 0
        unfold ojA at h
        rw [f1, f2, f3, f4, f5, f7, f7, g1, g2, g3, f6, htq] at h
        unfold piecesO at h
        have hso : ssnOf (unos.getD i false) (sids.getD i 0) [sF 0, sF 1, sF 2, sF 3, sF 4, sF 5, sF 6, sF 7, sF 8, sF 9, sF 10, sF 11, sF 12, sF 13, sF 14, sF 15] = 0 := by
          unfold ssnOf
          rw [hu, if_pos rfl]
        rw [hso]
        repeat (refine ndd (by first | omega | (simp only [List.length_set]; omega)) ?_)
        exact evFuel h (by omega)
    · -- taken
      by_cases hq : x.st x.n - t = 0
      · have hqo : decide ((qc (fun g => (x.G g).t) t (x.st x.n)).length = x.st x.n - t ∧ (qc (fun g => (x.G g).f) t (x.st x.n)).length = x.st x.n - t ∧ (qc (fun g => (x.G g).s) t (x.st x.n)).length = x.st x.n - t ∧ (qc (fun g => (x.G g).n) t (x.st x.n)).length = x.st x.n - t ∧ (qc (fun g => (x.G g).p) t (x.st x.n)).length = x.st x.n - t ∧ (qc (fun g => (x.G g).d) t (x.st x.n)).length = x.st x.n - t ∧ x.st x.n - t ≤ 1000000) = true := decide_eq_true ⟨qc_len _ _ _, qc_len _ _ _, qc_len _ _ _, qc_len _ _ _, qc_len _ _ _, qc_len _ _ _, by omega⟩
        refine nd (by rw [hqo, decide_eq_true (show ((qc (fun g => (x.G g).d) t (x.st x.n)).getD 0 []).length ≤ 140737488355328 by
          rw [qc_end _ (by omega)]; simp)]; rfl) (brt hq ?_)
        exact evFuel (stay tk) (by omega)
      · have hht := hI.ht
        have htm : t < x.st x.n := by omega
        obtain ⟨ln1, ln2⟩ := hI.len hz.1 htm
        have ht := qc_head (fun g => (x.G g).t) 0 htm
        have hf := qc_head (fun g => (x.G g).f) 0 htm
        have hs' := qc_head (fun g => (x.G g).s) 0 htm
        have hnn := qc_head (fun g => (x.G g).n) 0 htm
        have hp := qc_head (fun g => (x.G g).p) 0 htm
        have hdd := qc_head (fun g => (x.G g).d) [] htm
        have eG : (x.G t).t = tsnA x t := rfl
        have hok1 := hI.okP hm6 htm (by omega)
        rw [eG] at hok1
        have hP : nb ⟨tsnA x t, (x.G t).f, (x.G t).s, (x.G t).n, (x.G t).p, (cl : Int), (x.G t).d⟩ = x.G t := rfl
        have hnew : putNo l (tsnA x t) = false := hI.new hm6 htm hP
        have hby := hI.dq_bound hz.1 hz.2
        have hcons : lensL (dq x t) = (x.G t).d.length + lensL (dq x (t + 1)) := by unfold dq; rw [qc_cons _ htm, lensL_cons]
        have hld := hI.ld
        have ebt : subK .i64 ((lensL (dq x t) : Nat) : Int) (((x.G t).d.length : Nat) : Int) = ((lensL (dq x (t + 1)) : Nat) : Int) := by rw [sub64 (by omega)]; omega
        have ea : addK .i64 ((lenD l : Nat) : Int) (((x.G t).d.length : Nat) : Int) = ((lenD l + (x.G t).d.length : Nat) : Int) := by rw [add64 (by omega)]; omega
        have em : subK .i64 c.mtu 28 = c.mtu - 28 := sub64 (by omega)
        have hqo : decide ((qc (fun g => (x.G g).t) t (x.st x.n)).length = x.st x.n - t ∧ (qc (fun g => (x.G g).f) t (x.st x.n)).length = x.st x.n - t ∧ (qc (fun g => (x.G g).s) t (x.st x.n)).length = x.st x.n - t ∧ (qc (fun g => (x.G g).n) t (x.st x.n)).length = x.st x.n - t ∧ (qc (fun g => (x.G g).p) t (x.st x.n)).length = x.st x.n - t ∧ (qc (fun g => (x.G g).d) t (x.st x.n)).length = x.st x.n - t ∧ x.st x.n - t ≤ 1000000) = true := decide_eq_true ⟨qc_len _ _ _, qc_len _ _ _, qc_len _ _ _, qc_len _ _ _, qc_len _ _ _, qc_len _ _ _, by omega⟩
        rw [ht, hf, hs', hnn, hp, hdd, qc_drop _ htm, qc_drop _ htm, qc_drop _ htm, qc_drop _ htm, qc_drop _ htm, qc_drop _ htm, Nat.sub_sub, eG, ebt, ea, em, tsn_next]
        refine nd (by rw [hqo, decide_eq_true (show (x.G t).d.length ≤ 140737488355328 by omega)]; rfl) (brf (by omega) ?_)
        refine brF (by rw [eqK_t.2 rfl]; rfl) (bref (by omega) (brf (by omega) ?_))
        refine nd (Bool.and_eq_true_iff.2 ⟨decide_eq_true (by simp), hok1⟩) (brF hnew ?_)
        rcases hI.take hz hm6 htm hP with ⟨a, l', W, hj, has, hap, haf, hW, hsn, hlen, hI'⟩ | ⟨hj, hlen, hI'⟩
        · have hB : whB (l ++ [⟨tsnA x t, (x.G t).f, (x.G t).s, (x.G t).n, (x.G t).p, (cl : Int), (x.G t).d⟩]) ⟨tsnA x t, (x.G t).f, (x.G t).s, (x.G t).n, (x.G t).p, (cl : Int), (x.G t).d⟩ = true := by unfold whB; rw [hj]; rfl
          have hA : whA (l ++ [⟨tsnA x t, (x.G t).f, (x.G t).s, (x.G t).n, (x.G t).p, (cl : Int), (x.G t).d⟩]) ⟨tsnA x t, (x.G t).f, (x.G t).s, (x.G t).n, (x.G t).p, (cl : Int), (x.G t).d⟩ = a := by unfold whA; rw [hj]; rfl
          have hL : whL (l ++ [⟨tsnA x t, (x.G t).f, (x.G t).s, (x.G t).n, (x.G t).p, (cl : Int), (x.G t).d⟩]) ⟨tsnA x t, (x.G t).f, (x.G t).s, (x.G t).n, (x.G t).p, (cl : Int), (x.G t).d⟩ = l' := by unfold whL; rw [hj]; rfl
          have hM : whM (l ++ [⟨tsnA x t, (x.G t).f, (x.G t).s, (x.G t).n, (x.G t).p, (cl : Int), (x.G t).d⟩]) ⟨tsnA x t, (x.G t).f, (x.G t).s, (x.G t).n, (x.G t).p, (cl : Int), (x.G t).d⟩ = W := by unfold whM; rw [hj]; rfl
          obtain ⟨_, hkk⟩ := hI.O htm
          have ek : 0 + ((kk : Nat) : Int).toNat = kk := by omega
          have ek1 : addK .i64 ((kk : Nat) : Int) 1 = ((kk + 1 : Nat) : Int) := by rw [add64 (by omega)]; omega
          have es : subK .i64 ((lenD l + (x.G t).d.length : Nat) : Int) ((W.length : Nat) : Int) = ((lenD l' : Nat) : Int) := by rw [sub64 (by omega)]; omega
          refine brT hB ?_
          rw [hA, hL, hM, es, ek, ek1, has, hap, haf, hW, hsn]
          refine brf (by omega) (ndd (by omega) (ndd (by omega) (ndd (by omega) (bret rfl (brT (by simp) (bret rfl (ndd (by omega) (ndd (by omega) (brF (by simp [strEq]) ?_)))))))))
          refine ndd (by omega) (ndd (by omega) (ndd (by omega) (brF (by rw [eqK_t.2 rfl]; rfl) ?_)))
          have h := ih (i + 1) ss us ps ds ns (t + 1) (kk + 1) sF (addK .i64 tk (((x.G t).d.length : Nat) : Int)) nx l' (cl + 1) d (by omega) h2 h3 h4 h5 (by rw [hx]; exact hI') (by rw [hx]; omega) (by omega) h8 h9
          rw [hx] at h
          unfold ojA qO piecesO at h
          exact evFuel h (by omega)
        · have hB : whB (l ++ [⟨tsnA x t, (x.G t).f, (x.G t).s, (x.G t).n, (x.G t).p, (cl : Int), (x.G t).d⟩]) ⟨tsnA x t, (x.G t).f, (x.G t).s, (x.G t).n, (x.G t).p, (cl : Int), (x.G t).d⟩ = false := by unfold whB; rw [hj]; rfl
          refine brF hB ?_
          have h := ih (i + 1) ss us ps ds ns (t + 1) kk sF (addK .i64 tk (((x.G t).d.length : Nat) : Int)) nx _ (cl + 1) d (by omega) h2 h3 h4 h5 (by rw [hx]; exact hI') (by rw [hx]; omega) (by omega) h8 h9
          rw [hx] at h
          unfold ojA qO piecesO at h
          rw [hlen] at h
          exact evFuel h (by omega)
    · exact brd (fun _ => evFuel (stay tk) (by omega)) (fun _ => brd (fun _ => evFuel (stay tk) (by omega)) (fun _ => evFuel (stay (subK .i64 tk (nums.getD i 0))) (by omega)))
    · exact evFuel (stay tk) (by omega)
end Go.Ev
