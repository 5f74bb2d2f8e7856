/- The law FragBack, run: cutting, and setting out of order. No conditions. -/
import Derived.Test.YtegiamjcdklijaaFbT0
import Derived.Test.YtegiamjcdklijaaFbT1
import Derived.Test.YtegiamjcdklijaaFbT2
import Derived.Test.YtegiamjcdklijaaFbT3
import Derived.Test.YtegiamjcdklijaaFbH
import Derived.Test.YtegiamjcdklijaaFcP
import Derived.Test.YtegiamjcdklijaaGrS
set_option linter.unusedVariables false
namespace Go.Ev
open Go Go.Proofs Go.Spec
attribute [local irreducible] ev evCall branch need again
def sInp (x : Inp) : Option SO := seO x.n x.ss x.us x.ps x.ds x.ns x.zs
def sAll (x : Inp) (q : Nat) (l : List Nat) : Option SO := piecesO q (l.map fun g => (x.G g).t) (l.map fun g => (x.G g).f) (l.map fun g => (x.G g).s) (l.map fun g => (x.G g).n) (l.map fun g => (x.G g).p) (l.map fun g => (x.G g).d)
def lOf (x : Inp) (l : List Nat) : List Int := l.map fun g => ((x.O g : Nat) : Int)
def lCt (x : Inp) (i : Nat) : List Int := (List.range i).map fun j => ((x.ct j : Nat) : Int)
def tsnA (x : Inp) (q : Nat) : Int := (x.tsn + (q : Int)) % 4294967296
def fb1 (x : Inp) (tu : List Int) (N : Nat) (k : SV → St → Prop) (f i : Nat) : Prop :=
  ev cxFb f 2 4 (codeAt Try.prog 4 [1, 1, 1, 1, 1, 1, 0, 1, 0]) (frm 215 [(0, (.sa (.one (SC.ref 0)))), (1, (.sa (.one (iv .u32 (tsnA x (x.st i)))))), (2, (.sa (.one (SC.ref 1)))), (7, (.sa (.one (SC.ref 2)))), (8, (.sa (.one (SC.ref 3)))), (9, (.sa (.one (SC.ref 4)))), (39, (.sa (.one (SC.ref 0)))), (40, (.sa (.one (iv .i64 ((x.n : Nat) : Int))))), (41, (.sa (.one (iv .i64 ((i : Nat) : Int)))))]) [sInp x, tuO tu, sAll x (x.st i) (List.range (x.st i)), inO (lOf x (List.range (x.st i))), inO (lCt x i)] (kBlock 0 (kSeq (ev cxFb (N + 53) 2 4 (codeAt Try.prog 4 [1, 1, 1, 1, 1, 1, 1])) (kRet (Cx.P cxFb) [(ResultVar.tmp 6)] 2 k)))
def fb2 (x : Inp) (tu : List Int) (M N : Nat) (k : SV → St → Prop) (f i j : Nat) : Prop :=
  ev cxFb f 2 4 (codeAt Try.prog 4 [1, 1, 1, 1, 1, 1, 0, 1, 0, 0, 1, 1, 0, 0, 1, 1, 1, 0, 1, 0]) (frm 215 [(0, (.sa (.one (SC.ref 0)))), (1, (.sa (.one (iv .u32 (tsnA x (x.st i + j)))))), (2, (.sa (.one (SC.ref 1)))), (7, (.sa (.one (SC.ref 2)))), (8, (.sa (.one (SC.ref 3)))), (9, (.sa (.one (SC.ref 4)))), (10, (.sa (.one (iv .i64 ((i : Nat) : Int))))), (11, (.sa (.one (SC.ptr 5 0 0)))), (12, (.sa (.one (SC.ref 7)))), (39, (.sa (.one (SC.ref 0)))), (40, (.sa (.one (iv .i64 ((x.n : Nat) : Int))))), (41, (.sa (.one (iv .i64 ((i : Nat) : Int))))), (66, (.sa (.one (SC.ref 7)))), (67, (.sa (.one (iv .i64 ((x.ct i : Nat) : Int))))), (68, (.sa (.one (iv .i64 ((j : Nat) : Int)))))])
    [sInp x, tuO tu, sAll x (x.st i + j) (List.range (x.st i + j)), inO (lOf x (List.range (x.st i + j))), inO (lCt x i), obj 40 6 [iv .u16 (x.ss.getD i 0), bv (x.us.getD i false), iv .u32 (x.ps.getD i 0), .ref 6, iv .u16 (x.ns.getD i 0), iv .i64 (x.zs.getD i 0)], rd8 0 (x.ds.getD i []), piecesO (x.ct i) (List.replicate (x.ct i) 0) (cutF (x.us.getD i false) (x.ct i)) (List.replicate (x.ct i) (x.ss.getD i 0)) (List.replicate (x.ct i) 0) (List.replicate (x.ct i) (x.ps.getD i 0)) (cutD (x.zs.getD i 0) (x.ds.getD i []))]
    (kBlock 2 (kSeq (ev cxFb (M + 42) 2 4 (codeAt Try.prog 4 [1, 1, 1, 1, 1, 1, 0, 1, 0, 0, 1, 1, 0, 0, 1, 1, 1, 1])) (kBlock 1 (kSeq (ev cxFb (M + 47) 2 4 (codeAt Try.prog 4 [1, 1, 1, 1, 1, 1, 0, 1, 0, 0, 1, 1, 1])) (kSeq (ev cxFb (M + 50) 2 4 (codeAt Try.prog 4 [1, 1, 1, 1, 1, 1, 0, 1, 0])) (kBlock 0 (kSeq (ev cxFb (N + 53) 2 4 (codeAt Try.prog 4 [1, 1, 1, 1, 1, 1, 1])) (kRet (Cx.P cxFb) [(ResultVar.tmp 6)] 2 k))))))))
def fb3 (x : Inp) (tu : List Int) (M : Nat) (k : SV → St → Prop) (f i : Nat) (l : List Nat) : Prop :=
  ev cxFb f 2 4 (codeAt Try.prog 4 [1, 1, 1, 1, 1, 1, 1, 0, 1, 0]) (frm 215 [(0, (.sa (.one (SC.ref 0)))), (7, (.sa (.one (SC.ref 2)))), (8, (.sa (.one (SC.ref 3)))), (9, (.sa (.one (SC.ref 4)))), (96, (.sa (.one (SC.ref 1)))), (97, (.sa (.one (iv .i64 (((List.length tu) : Nat) : Int))))), (98, (.sa (.one (iv .i64 ((i : Nat) : Int)))))]) [sInp x, tuO tu, sAll x (x.st x.n) l, inO (lOf x l), inO (lCt x x.n)] (kBlock 4 (kSeq (ev cxFb (M + 52) 2 4 (codeAt Try.prog 4 [1, 1, 1, 1, 1, 1, 1, 1])) (kRet (Cx.P cxFb) [(ResultVar.tmp 6)] 2 k)))
def fb4 (x : Inp) (tu : List Int) (M : Nat) (k : SV → St → Prop) (f i : Nat) (l : List Nat) (lv : List Int) (held : Int) (kp : List Pc) (cl : Nat) : Prop :=
  ev cxFb f 2 4 (codeAt Try.prog 4 [1, 1, 1, 1, 1, 1, 1, 1, 1, 0, 1, 0]) (frm 215 [(0, (.sa (.one (SC.ref 0)))), (8, (.sa (.one (SC.ref 2)))), (9, (.sa (.one (SC.ref 3)))), (19, (.sa (.one (SC.ptr 4 0 0)))), (142, (.sa (.one (SC.ref 6)))), (143, (.sa (.one (iv .i64 ((x.st x.n : Nat) : Int))))), (144, (.sa (.one (iv .i64 ((i : Nat) : Int)))))]) [sInp x, tuO tu, inO (lOf x l), inO lv, obj 56 2 [.ref 5, iv .i64 held], keptL kp cl, sAll x (x.st x.n) l] (kBlock 6 (kSeq (ev cxFb (M + 50) 2 4 (codeAt Try.prog 4 [1, 1, 1, 1, 1, 1, 1, 1, 1, 1])) (kRet (Cx.P cxFb) [(ResultVar.tmp 6)] 2 k)))
theorem take_all' (l : List Int) : l.take l.length = l := List.take_of_length_le (Nat.le_refl _)
theorem getD_repl {α : Type} {n j : Nat} (a d : α) (h : j < n) : (List.replicate n a).getD j d = a := by
  rw [List.getD_eq_getElem?_getD, List.getElem?_replicate, if_pos h]; rfl
theorem snocR {α : Type} (f : Nat → α) (d : α) (q : Nat) : (List.range (q + 1)).map f = fitL d q ((List.range q).map f) ++ [f q] := by
  rw [List.range_succ, List.map_append, fitL_same d q _ (by simp)]; rfl
theorem sAll_succ (x : Inp) (q : Nat) {t f s n p b : Int} {d : List Int} (h : x.G q = ⟨t, f, s, n, p, b, d⟩) : sAll x (q + 1) (List.range (q + 1)) = piecesO (q + 1) (fitL 0 q ((List.range q).map fun g => (x.G g).t) ++ [t]) (fitL 0 q ((List.range q).map fun g => (x.G g).f) ++ [f]) (fitL 0 q ((List.range q).map fun g => (x.G g).s) ++ [s]) (fitL 0 q ((List.range q).map fun g => (x.G g).n) ++ [n]) (fitL 0 q ((List.range q).map fun g => (x.G g).p) ++ [p]) (fitL [] q ((List.range q).map fun g => (x.G g).d) ++ [d]) := by
  unfold sAll
  rw [snocR (fun g => (x.G g).t) 0, snocR (fun g => (x.G g).f) 0, snocR (fun g => (x.G g).s) 0, snocR (fun g => (x.G g).n) 0, snocR (fun g => (x.G g).p) 0, snocR (fun g => (x.G g).d) [], h]
theorem lOf_succ (x : Inp) (q : Nat) {i : Nat} (h : x.O q = i) : lOf x (List.range (q + 1)) = lOf x (List.range q) ++ [((i : Nat) : Int)] := by
  unfold lOf
  rw [List.range_succ, List.map_append, List.map_cons, List.map_nil, h]
theorem G_at (x : Inp) {i j : Nat} (hi : i < x.n) (hj : j < x.ct i) : x.G (x.st i + j) = ⟨tsnA x (x.st i + j), (cutF (x.us.getD i false) (x.ct i)).getD j 0, (List.replicate (x.ct i) (x.ss.getD i 0)).getD j 0, x.ns.getD i 0, (List.replicate (x.ct i) (x.ps.getD i 0)).getD j 0, 0, ((cutD (x.zs.getD i 0) (x.ds.getD i [])).getD j []).take ((cutD (x.zs.getD i 0) (x.ds.getD i [])).getD j []).length⟩ := by
  have e : x.st (i + 1) = x.st i + x.ct i := rfl
  have ho : x.O (x.st i + j) = i := x.O_eq hi (by omega) (by omega)
  have hf : (cutF (x.us.getD i false) (x.ct i)).getD j 0 = cutF1 (x.us.getD i false) (x.ct i) j := by
    unfold cutF
    rw [List.getD_eq_getElem?_getD, List.getElem?_map, List.getElem?_range hj]; rfl
  rw [hf, getD_repl _ _ hj, getD_repl _ _ hj, take_all']
  unfold Inp.G
  rw [ho]
  unfold Inp.Gi tsnA
  rw [Nat.add_sub_cancel_left]
theorem cutN_le {s len : Nat} (h : 1 ≤ s) : cutN s len ≤ len := by
  unfold cutN
  have h1 := Nat.div_add_mod (len + s - 1) s
  have h2 := Nat.mod_lt (len + s - 1) (show 0 < s by omega)
  generalize (len + s - 1) / s = a at h1 ⊢
  generalize (len + s - 1) % s = b at h1 h2
  by_cases ha : a ≤ len
  · exact ha
  · have : s * (len + 1) ≤ s * a := Nat.mul_le_mul_left _ (by omega)
    rw [Nat.mul_add] at this
    have : len ≤ s * len := Nat.le_mul_of_pos_left _ (by omega)
    omega
theorem G_len (x : Inp) (g : Nat) : (x.G g).d.length ≤ (x.ds.getD (x.O g) []).length := by
  unfold Inp.G Inp.Gi cutD partsL
  simp only [List.getD_eq_getElem?_getD, List.getElem?_map]
  cases (List.range _)[g - x.st (x.O g)]? with
  | none => simp
  | some i =>
    simp only [Option.map_some, Option.getD_some, List.length_take, List.length_drop]
    omega
theorem add32' (x y : Int) : addK .u32 x y = (x + y) % 4294967296 := by rw [addK_eq]; rfl
theorem tsn_next (x : Inp) (q : Nat) : addK .u32 (tsnA x q) 1 = tsnA x (q + 1) := by unfold tsnA; rw [add32']; omega
theorem mem_sum {l : List (List Int)} {d : List Int} (h : d ∈ l) : d.length ≤ (l.map List.length).sum := by
  induction l with
  | nil => cases h
  | cons y l ih =>
    simp only [List.map_cons, List.sum_cons]
    rcases List.mem_cons.1 h with h | h
    · subst h; omega
    · have := ih h; omega
theorem fb_loop2 (x : Inp) (tu : List Int) (M N : Nat) (k : SV → St → Prop) {i : Nat} (hi : i < x.n) (hn : x.n ≤ 60) (hb : ∀ i, (x.ds.getD i []).length ≤ 4294967296) (h0 : (x.ds.getD i []).length ≠ 0) (hz : 1 ≤ x.zs.getD i 0) (hq : x.st i ≤ 60) (hT : ∀ st, k (.sa (.one (bv true))) st)
    (hnext : x.st (i + 1) ≤ 60 → (∀ g, g < x.st (i + 1) → (x.G g).d.length ≤ 20000) → fb1 x tu N k (M + 50) (i + 1)) :
    ∀ (rem j c : Nat), j + rem = x.ct i → fb2 x tu M N k (rem + c + 40) i j := by
  have hct : x.ct i ≤ 4294967296 := by
    have h1 := hb i
    have h2 : x.ct i ≤ (x.ds.getD i []).length := cutN_le (by unfold Inp.sz cutS; omega)
    omega
  have es : x.st (i + 1) = x.st i + x.ct i := rfl
  intro rem
  induction rem with
  | zero =>
    intro j c hj
    have hj : j = x.ct i := by omega
    subst hj
    unfold fb2 sAll sInp
    rw [t_fb2]
    refine Again.mk (brf (by omega) (ndd (by simp only [lCt, List.length_map, List.length_range]; omega) (ndd ⟨by omega, by simp, fun y hy => ?_⟩ (br (fun _ => hT _) (fun hg => ?_)))))
    · obtain ⟨g, hg, rfl⟩ := List.mem_map.1 hy
      exact Nat.le_trans (G_len x g) (Nat.le_trans (hb _) (by decide))
    · obtain ⟨g1, g2⟩ := great_false hg
      have h := hnext (by omega) (fun g hg => by
        have hm : (x.G g).d ∈ (List.range (x.st i + x.ct i)).map fun g => (x.G g).d := List.mem_map.2 ⟨g, List.mem_range.2 (by omega), rfl⟩
        have := mem_sum hm
        omega)
      have e6 : addK .i64 ((i : Nat) : Int) 1 = ((i + 1 : Nat) : Int) := by rw [add64 (by omega)]; omega
      have el : lCt x (i + 1) = lCt x i ++ [((x.ct i : Nat) : Int)] := by unfold lCt; rw [List.range_succ, List.map_append]; rfl
      unfold fb1 sAll sInp at h
      rw [el] at h
      rw [e6]
      exact h
  | succ rem ih =>
    intro j c hj
    have h := ih (j + 1) c (by omega)
    have hG := G_at x hi (show j < x.ct i by omega)
    have ho : x.O (x.st i + j) = i := x.O_eq hi (by omega) (by omega)
    have e0 : 0 + ((j : Nat) : Int).toNat = j := by omega
    have e6 : addK .i64 ((j : Nat) : Int) 1 = ((j + 1 : Nat) : Int) := by rw [add64 (by omega)]; omega
    unfold fb2 at h ⊢
    rw [show x.st i + (j + 1) = x.st i + j + 1 from rfl, sAll_succ x _ hG, lOf_succ x _ ho] at h
    unfold sInp at h
    unfold sAll sInp
    rw [show rem + 1 + c + 40 = (rem + 1 + c) + 40 from rfl, t_fb2, e0, e6, tsn_next]
    refine Again.mk (brt (by omega) (ndd (by omega) (ndd (by omega) (ndd (by omega) (ndd (by omega) (ndd (by omega) (ndd (by simp only [lOf, List.length_map, List.length_range]; omega) ?_)))))))
    exact evFuel h (by omega)
theorem fb_loop1 (x : Inp) (tu : List Int) (N : Nat) (k : SV → St → Prop) (hn : x.n ≤ 60) (hb : ∀ i, (x.ds.getD i []).length ≤ 4294967296) (hzm : ∀ i, x.zs.getD i 0 ≤ 9223372036854775807) (hT : ∀ st, k (.sa (.one (bv true))) st)
    (hexit : x.st x.n ≤ 60 → (∀ g, g < x.st x.n → (x.G g).d.length ≤ 20000) → (∀ j, j < x.n → (x.ds.getD j []).length ≠ 0 ∧ 1 ≤ x.zs.getD j 0) → fb3 x tu N k (N + 50) 0 (List.range (x.st x.n))) :
    ∀ (rem i c : Nat), i + rem = x.n → 5000000000 ≤ c → x.st i ≤ 60 → (∀ g, g < x.st i → (x.G g).d.length ≤ 20000) → (∀ j, j < i → (x.ds.getD j []).length ≠ 0 ∧ 1 ≤ x.zs.getD j 0) → fb1 x tu N k (rem + c + 51) i := by
  intro rem
  induction rem with
  | zero =>
    intro i c h1 h2 h3 h4 h5
    have h1 : i = x.n := by omega
    subst h1
    have h := hexit h3 h4 h5
    unfold fb3 sAll sInp at h
    unfold fb1 sAll sInp
    rw [show 0 + c + 51 = (0 + c) + 51 from rfl, t_fb1]
    exact Again.mk (brf (by omega) h)
  | succ rem ih =>
    intro i c h1 h2 h3 h4 h5
    have e0 : 0 + ((i : Nat) : Int).toNat = i := by omega
    have hbi := hb i
    have hzi := hzm i
    unfold fb1 sAll sInp
    rw [show rem + 1 + c + 51 = (rem + 1 + c) + 51 from rfl, t_fb1, e0]
    refine Again.mk (brt (by omega) (ndd (by omega) (ndd (by omega) (ndd (by omega) (ndd ⟨by omega, hzi⟩ (brd (fun hc => bre (fun _ => hT _) (fun he => ?_)) (fun hc => ?_)))))))
    · rw [decide_eq_true (show x.zs.getD i 0 < 1 by omega)]
      exact hT _
    · have hct : x.ct i ≤ 4294967296 := by
        have h2 : x.ct i ≤ (x.ds.getD i []).length := cutN_le (by unfold Inp.sz cutS; omega)
        omega
      have h := fb_loop2 x tu (rem + 1 + c) N k (i := i) (by omega) hn hb (by omega) (by omega) h3 hT (fun a b => by
        have h := ih (i + 1) c (by omega) h2 a b (fun j hj => by
          by_cases e : j = i
          · subst e; exact ⟨by omega, by omega⟩
          · exact h5 j (by omega))
        unfold fb1 at h ⊢
        exact evFuel h (by omega)) (x.ct i) 0 (rem + 1 + c - x.ct i) (by omega)
      unfold fb2 sAll sInp at h
      exact evFuel h (by omega)
theorem swp {β : Type} (f : Nat → β) (d : β) {m : Nat} {l : List Nat} {i k : Nat} (hl : l.length = m) (hi : i < m) (hk : k < m) : List.set (fitL d m (List.set (fitL d m (l.map f)) i ((l.map f).getD k d))) k ((l.map f).getD i d) = (swapL 0 l i k).map f := by
  rw [fitL_same d m (l.map f) (by simp [hl]), fitL_same d m _ (by simp [hl]), swap_map' f 0 d l (by omega) (by omega)]
theorem fb_loop3 (x : Inp) (tu : List Int) (M : Nat) (k : SV → St → Prop) (hm : x.st x.n ≤ 60) (htu : ∀ i, 0 ≤ tu.getD i 0 ∧ tu.getD i 0 ≤ 65535) (htl : tu.length ≤ 200)
    (hexit : ∀ l, l.Perm (List.range (x.st x.n)) → fb4 x tu M k (M + 48) 0 l (lCt x x.n) 0 [] 0) :
    ∀ (rem i : Nat) (l : List Nat) (c : Nat), i + rem = tu.length → l.Perm (List.range (x.st x.n)) → fb3 x tu M k (rem + c + 50) i l := by
  intro rem
  induction rem with
  | zero =>
    intro i l c h1 h2
    have h := hexit l h2
    unfold fb4 sAll sInp at h
    unfold fb3 sAll sInp
    rw [show 0 + c + 50 = (0 + c) + 50 from rfl, t_fb3]
    exact Again.mk (brf (by omega) h)
  | succ rem ih =>
    intro i l c h1 h2
    have hl : l.length = x.st x.n := by have := h2.length_eq; simpa using this
    have e0 : 0 + ((i : Nat) : Int).toNat = i := by omega
    have e6 : addK .i64 ((i : Nat) : Int) 1 = ((i + 1 : Nat) : Int) := by rw [add64 (by omega)]; omega
    have hti := htu i
    have hw : IntKind.wrap .i64 (tu.getD i 0) = tu.getD i 0 := Go.IntWalk.i64_in _ (by omega)
    unfold fb3 sAll sInp
    rw [show rem + 1 + c + 50 = (rem + 1 + c) + 50 from rfl, t_fb3, e0, e6, hw]
    refine Again.mk (brt (by omega) (ndd (by omega) (ndd (by omega) (ndd (by omega) (brd (fun hq => ?_) (fun hq => ?_))))))
    · obtain ⟨kN, ek, hk⟩ : ∃ kN : Nat, remK (tu.getD i 0) ((x.st x.n : Nat) : Int) = ((kN : Nat) : Int) ∧ kN < x.st x.n := by
        refine ⟨(remK (tu.getD i 0) ((x.st x.n : Nat) : Int)).toNat, ?_, ?_⟩ <;> rw [remK_eq] <;> generalize tu.getD i 0 = a at hti <;> generalize x.st x.n = m at hq hm
        · have := Int.tmod_nonneg (b := ((m : Nat) : Int)) hti.1
          omega
        · have := Int.tmod_nonneg (b := ((m : Nat) : Int)) hti.1
          have := Int.tmod_lt_of_pos a (show (0 : Int) < ((m : Nat) : Int) by omega)
          omega
      have e1 : 0 + ((kN : Nat) : Int).toNat = kN := by omega
      have hi : i < x.st x.n := by omega
      rw [ek, e1]
      have hlo : (lOf x l).length = x.st x.n := by simp [lOf, hl]
      have h := ih (i + 1) (swapL 0 l i kN) c (by omega) ((swap_perm (by omega) (by omega)).trans h2)
      unfold fb3 sAll sInp at h
      refine nd (by rw [decide_eq_false (by omega)]; rfl) ?_
      repeat (refine ndd (by first | omega | (simp only [List.length_set, hlo]; omega)) ?_)
      simp only [take_all']
      rw [swp (fun g => (x.G g).t) 0 hl hi hk, swp (fun g => (x.G g).f) 0 hl hi hk, swp (fun g => (x.G g).s) 0 hl hi hk, swp (fun g => (x.G g).n) 0 hl hi hk, swp (fun g => (x.G g).p) 0 hl hi hk, swp (fun g => (x.G g).d) [] hl hi hk]
      have ho : List.set (List.set (lOf x l) i ((lOf x l).getD kN 0)) kN ((lOf x l).getD i 0) = lOf x (swapL 0 l i kN) := swap_map' (fun g => ((x.O g : Nat) : Int)) 0 0 l (by omega) (by omega)
      rw [ho]
      exact evFuel h (by omega)
    · have h := ih (i + 1) l c (by omega) h2
      unfold fb3 sAll sInp at h
      exact evFuel h (by omega)
end Go.Ev
