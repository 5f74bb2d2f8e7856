/- RouteRound with 2 paths: the calls ahead; the rounds. No conditions. -/
import Derived.Test.YtcdakjhcnamncaaRoY2
import Derived.Test.YtcdakjhcnamncaaRrP
set_option linter.unusedVariables false
set_option linter.unusedSimpArgs false
set_option maxRecDepth 100000
set_option maxHeartbeats 4000000
namespace Go.Ev
open Go Go.Proofs Go.Spec
attribute [local irreducible] ev evCall branch need again
theorem md_loop2 (mtu ss sr rr mm ri rmin rmax it pt al beat life tr : Int) (n : Nat) (xs ys ks is : List Int) (c M : Nat) (k : SV → St → Prop) (hn : n ≤ 2000) (hk : ∀ (p0 p1 : Pa) (prim sil : Int), thereB prim 2 = true → k (.sa (.one (.ptr 5 0 0))) (BS2 p0 p1 mtu ss sr rr mm ri rmin rmax it pt al beat life prim sil tr n xs ys ks is)) :
    ∀ (rem i : Nat) (p0 p1 : Pa) (prim sil : Int), i + rem = n → thereB prim 2 = true → MD2 p0 p1 mtu ss sr rr mm ri rmin rmax it pt al beat life prim sil tr n xs ys ks is ((i : Nat) : Int) (rem + c + 70) M k := by
  intro rem
  induction rem with
  | zero =>
    intro i p0 p1 prim sil h hp
    have h2 := hk p0 p1 prim sil hp
    unfold BS2 at h2
    rw [show 0 + c + 70 = (0 + c) + 70 from rfl, t_md2]
    exact Again.mk (brf (by omega) h2)
  | succ rem ih =>
    intro i p0 p1 prim sil h hp
    have fin : ∀ (p0 p1 : Pa) (prim sil : Int), thereB prim 2 = true → MD2 p0 p1 mtu ss sr rr mm ri rmin rmax it pt al beat life prim sil tr n xs ys ks is ((i + 1 : Nat) : Int) (rem + c + 70) M k := fun p0 p1 prim sil hp => ih (i + 1) p0 p1 prim sil (by omega) hp
    unfold MD2 BS2 at fin
    have e0 : 0 + ((i : Nat) : Int).toNat = i := by omega
    have e6 : addK .i64 ((i : Nat) : Int) 1 = ((i + 1 : Nat) : Int) := by rw [add64 (by omega)]; omega
    rw [show rem + 1 + c + 70 = (rem + 1 + c) + 70 from rfl, t_md2, e0, e6]
    refine Again.mk (brt (by omega) (ndd (by omega) (ndd (by omega) (ndd (by omega) ?_))))
    refine br (fun _ => ?_) (fun _ => br (fun _ => ?_) (fun _ => br (fun _ => ?_) (fun _ => ?_)))
    · exact evF (fin (mP (is.getD i 0) 0 p0) (mP (is.getD i 0) 1 p1) prim _ hp) (by omega)
    · exact evF (fin (hP (is.getD i 0) 0 p0) (hP (is.getD i 0) 1 p1) prim _ hp) (by omega)
    · exact evF (fin p0 p1 (thI (is.getD i 0) 2 (is.getD i 0) prim) sil (thI_in hp)) (by omega)
    · exact evF (fin p0 p1 prim sil hp) (by omega)
theorem en2 (p0 p1 : Pa) (prim sil tr : Int) (n : Nat) (xs ys ks is : List Int) (any : Bool) (sn : List Bool) (M : Nat) (k : SV → St → Prop) (hT : ∀ st, k (.sa (.one (bv true))) st) (hp : thereB prim 2 = true) (ha : any = anyUp (downs [p0, p1])) : C24_2 p0 p1 prim sil tr n xs ys ks is any sn M k := by
  rw [t_en2 p0 p1 prim sil tr n xs ys ks is any sn M k]
  refine Again.mk (nd (by rw [hp]; rfl) ?_)
  refine br (fun e => br (fun _ => hT _) (fun e2 => br (fun _ => hT _) (fun e3 => (ch_good (n := 2) rfl (ds := downs [p0, p1]) rfl hp (j := 0) (eqK_t.1 e) (bN_t e2) (by rw [← ha]; exact bN_t e3)).elim))) (fun e0 => ?_)
  refine br (fun e => br (fun _ => hT _) (fun e2 => br (fun _ => hT _) (fun e3 => (ch_good (n := 2) rfl (ds := downs [p0, p1]) rfl hp (j := 1) (eqK_t.1 e) (bN_t e2) (by rw [← ha]; exact bN_t e3)).elim))) (fun e1 => ?_)
  obtain ⟨a, b⟩ := ch_at (n := 2) rfl (ds := downs [p0, p1]) rfl hp
  have f0 := eqK_f.1 e0
  have f1 := eqK_f.1 e1
  omega
theorem se2_2 (p0 p1 : Pa) (prim sil tr : Int) (n : Nat) (xs ys ks is : List Int) (any : Bool) (sn : List Bool) (M : Nat) (k : SV → St → Prop) (F : Nat) (hF : 0 ≤ F) (hg : ∀ j : Nat, j < 2 → (sn.getD j false || ((downs [p0, p1]).getD j false && any)) = true) (h24 : C24_2 p0 p1 prim sil tr n xs ys ks is any sn M k) : SE2 p0 p1 prim sil tr n xs ys ks is any sn M k 2 (F + 64) := by
  rw [t_se2_2]
  exact Again.mk (h24)
theorem se2_1 (p0 p1 : Pa) (prim sil tr : Int) (n : Nat) (xs ys ks is : List Int) (any : Bool) (sn : List Bool) (M : Nat) (k : SV → St → Prop) (F : Nat) (hF : 1 ≤ F) (hg : ∀ j : Nat, j < 2 → (sn.getD j false || ((downs [p0, p1]).getD j false && any)) = true) (h24 : C24_2 p0 p1 prim sil tr n xs ys ks is any sn M k) : SE2 p0 p1 prim sil tr n xs ys ks is any sn M k 1 (F + 64) := by
  obtain ⟨F, rfl⟩ : ∃ F', F = F' + 1 := ⟨F - 1, by omega⟩
  have hn := se2_2 p0 p1 prim sil tr n xs ys ks is any sn M k F (by omega) hg h24
  have hj := hg 1 (by omega)
  rw [t_se2_1]
  refine Again.mk (br (fun e1 => br (fun e2 => ?_) (fun e2 => br (fun e3 => ?_) (fun e3 => hn))) (fun e1 => hn))
  · rw [bN_f e1, show (downs [p0, p1]).getD 1 false = p1.d from rfl, bN_f e2] at hj; cases hj
  · rw [bN_f e1, bN_f e3, Bool.and_false] at hj; cases hj
theorem se2_0 (p0 p1 : Pa) (prim sil tr : Int) (n : Nat) (xs ys ks is : List Int) (any : Bool) (sn : List Bool) (M : Nat) (k : SV → St → Prop) (F : Nat) (hF : 2 ≤ F) (hg : ∀ j : Nat, j < 2 → (sn.getD j false || ((downs [p0, p1]).getD j false && any)) = true) (h24 : C24_2 p0 p1 prim sil tr n xs ys ks is any sn M k) : SE2 p0 p1 prim sil tr n xs ys ks is any sn M k 0 (F + 64) := by
  obtain ⟨F, rfl⟩ : ∃ F', F = F' + 1 := ⟨F - 1, by omega⟩
  have hn := se2_1 p0 p1 prim sil tr n xs ys ks is any sn M k F (by omega) hg h24
  have hj := hg 0 (by omega)
  rw [t_se2_0]
  refine Again.mk (br (fun e1 => br (fun e2 => ?_) (fun e2 => br (fun e3 => ?_) (fun e3 => hn))) (fun e1 => hn))
  · rw [bN_f e1, show (downs [p0, p1]).getD 0 false = p0.d from rfl, bN_f e2] at hj; cases hj
  · rw [bN_f e1, bN_f e3, Bool.and_false] at hj; cases hj
theorem c19_2 (p0 p1 : Pa) (prim sil tr : Int) (n : Nat) (xs ys ks is : List Int) (any : Bool) (sn : List Bool) (M : Nat) (k : SV → St → Prop) (h : SE2 p0 p1 prim sil tr n xs ys ks is any sn M k 0 (M + 64)) : C19_2 p0 p1 prim sil tr n xs ys ks is any sn M k := by
  rw [t_c19_2]
  exact Again.mk (h)
theorem lp_loop2 (p0 p1 : Pa) (prim sil tr : Int) (n : Nat) (xs ys ks is : List Int) (any : Bool) (M : Nat) (k : SV → St → Prop) (c : Nat) :
    ∀ (rem i : Nat) (at_ : Int) (sn : List Bool), i + rem = 2 → thereB at_ 2 = true → sn.length = 2 → C19_2 p0 p1 prim sil tr n xs ys ks is any (seenF (downs [p0, p1]) rem at_.toNat sn) M k → LP2 p0 p1 prim sil tr n xs ys ks is any M k ((i : Nat) : Int) at_ sn (rem + c + 69) := by
  intro rem
  induction rem with
  | zero =>
    intro i at_ sn h1 h2 h3 h
    unfold seenF at h
    rw [show 0 + c + 69 = (0 + c) + 69 from rfl, t_lp2]
    exact Again.mk (brf (by omega) h)
  | succ rem ih =>
    intro i at_ sn h1 h2 h3 h
    obtain ⟨n1, n2⟩ := next_at (n := 2) rfl (ds := downs [p0, p1]) rfl h2
    have e6 : addK .i64 ((i : Nat) : Int) 1 = ((i + 1 : Nat) : Int) := by rw [add64 (by omega)]; omega
    have e0 : 0 + ((nextN (downs [p0, p1]) at_.toNat : Nat) : Int).toNat = nextN (downs [p0, p1]) at_.toNat := by omega
    have hn := ih (i + 1) ((nextN (downs [p0, p1]) at_.toNat : Nat) : Int) (sn.set (nextN (downs [p0, p1]) at_.toNat) true) (by omega) (there_iff.2 ⟨by omega, by omega⟩) (by rw [List.length_set]; exact h3) (by rw [Int.toNat_natCast]; exact h)
    rw [show rem + 1 + c + 69 = (rem + 1 + c) + 69 from rfl, t_lp2, n1, e6, e0, fitL_same false 2 sn h3]
    refine Again.mk (brt (by omega) (brf (by omega) (brf (by omega) (ndd (by omega) (ndd (by omega) (ndd (by omega) ?_))))))
    exact evF hn (by omega)

theorem c10_2 (p0 p1 : Pa) (prim sil tr from_ : Int) (n : Nat) (xs ys ks is : List Int) (any : Bool) (L : Nat) (k : SV → St → Prop) (hL : 9 ≤ L) (hT : ∀ st, k (.sa (.one (bv true))) st) (hp : thereB prim 2 = true) (hf : thereB from_ 2 = true) (ha : any = anyUp (downs [p0, p1])) : C10_2 p0 p1 prim sil tr from_ n xs ys ks is any L k := by
  have hg := (good_at (n := 2) rfl (ds := downs [p0, p1]) rfl (i := from_.toNat) (by have := there_iff.1 hf; omega)).1
  unfold goodR at hg
  rw [← ha] at hg
  have hs := seenF_len (downs [p0, p1]) 2 from_.toNat (List.replicate 2 false)
  have h24 := en2 p0 p1 prim sil tr n xs ys ks is any (seenF (downs [p0, p1]) 2 from_.toNat (List.replicate 2 false)) L k hT hp ha
  have hse := se2_0 p0 p1 prim sil tr n xs ys ks is any (seenF (downs [p0, p1]) 2 from_.toNat (List.replicate 2 false)) L k (L + 0) (by omega) (fun j hj => seenOk_at hg j (by rw [hs, rep_len]; exact hj) hj) h24
  have hl := lp_loop2 p0 p1 prim sil tr n xs ys ks is any L k (L - 2) 2 0 from_ (List.replicate 2 false) rfl hf (rep_len 2) (c19_2 p0 p1 prim sil tr n xs ys ks is any _ L k hse)
  rw [t_c10_2]
  exact Again.mk (evF hl (by omega))
theorem an2_2 (p0 p1 : Pa) (prim sil tr from_ : Int) (n : Nat) (xs ys ks is : List Int) (any : Bool) (L : Nat) (k : SV → St → Prop) (F : Nat) (hF : 0 ≤ F) (h : C10_2 p0 p1 prim sil tr from_ n xs ys ks is (any || anyUp (downs [])) L k) : AN2 p0 p1 prim sil tr from_ n xs ys ks is any L k 2 (F + 68) := by
  rw [show (any || anyUp (downs [])) = any by cases any <;> rfl] at h
  rw [t_an2_2]
  exact Again.mk (h)
theorem an2_1 (p0 p1 : Pa) (prim sil tr from_ : Int) (n : Nat) (xs ys ks is : List Int) (any : Bool) (L : Nat) (k : SV → St → Prop) (F : Nat) (hF : 1 ≤ F) (h : C10_2 p0 p1 prim sil tr from_ n xs ys ks is (any || anyUp (downs [p1])) L k) : AN2 p0 p1 prim sil tr from_ n xs ys ks is any L k 1 (F + 68) := by
  obtain ⟨F, rfl⟩ : ∃ F', F = F' + 1 := ⟨F - 1, by omega⟩
  cases any with
  | true =>
    have hn := an2_2 p0 p1 prim sil tr from_ n xs ys ks is true L k F (by omega) h
    rw [t_an2_1]
    exact Again.mk (br (fun _ => hn) (fun e => by cases e))
  | false =>
    have hn := an2_2 p0 p1 prim sil tr from_ n xs ys ks is (Bool.not p1.d) L k F (by omega) h
    rw [t_an2_1]
    exact Again.mk (br (fun e => by cases e) (fun _ => hn))
theorem an2_0 (p0 p1 : Pa) (prim sil tr from_ : Int) (n : Nat) (xs ys ks is : List Int) (any : Bool) (L : Nat) (k : SV → St → Prop) (F : Nat) (hF : 2 ≤ F) (h : C10_2 p0 p1 prim sil tr from_ n xs ys ks is (any || anyUp (downs [p0, p1])) L k) : AN2 p0 p1 prim sil tr from_ n xs ys ks is any L k 0 (F + 68) := by
  obtain ⟨F, rfl⟩ : ∃ F', F = F' + 1 := ⟨F - 1, by omega⟩
  cases any with
  | true =>
    have hn := an2_1 p0 p1 prim sil tr from_ n xs ys ks is true L k F (by omega) h
    rw [t_an2_0]
    exact Again.mk (br (fun _ => hn) (fun e => by cases e))
  | false =>
    have hn := an2_1 p0 p1 prim sil tr from_ n xs ys ks is (Bool.not p0.d) L k F (by omega) h
    rw [t_an2_0]
    exact Again.mk (br (fun e => by cases e) (fun _ => hn))
theorem c7_2 (p0 p1 : Pa) (prim sil tr from_ : Int) (n : Nat) (xs ys ks is : List Int) (L : Nat) (k : SV → St → Prop) (hL : 9 ≤ L) (hT : ∀ st, k (.sa (.one (bv true))) st) (hp : thereB prim 2 = true) (hf : thereB from_ 2 = true) : C7_2 p0 p1 prim sil tr from_ n xs ys ks is L k := by
  have h := an2_0 p0 p1 prim sil tr from_ n xs ys ks is false L k (L + 0) (by omega) (c10_2 p0 p1 prim sil tr from_ n xs ys ks is (false || anyUp (downs [p0, p1])) L k hL hT hp hf rfl)
  rw [t_c7_2]
  exact Again.mk (h)
end Go.Ev
