/- The law NetOrder, run: whatever is sent, and from whichever end it is taken. No conditions. -/
import Derived.Test.YtocmcimaghjhiaaNoT0
import Derived.Test.YtocmcimaghjhiaaNoT1
import Derived.Test.YtocmcimaghjhiaaNoT2
import Derived.Test.YtocmcimaghjhiaaNoT3
import Derived.Test.YtocmcimaghjhiaaNtS
import Derived.Test.YtocmcimaghjhiaaWkN
set_option linter.unusedVariables false
namespace Go.Ev
open Go Go.Proofs Go.Spec
attribute [local irreducible] ev evCall branch need again
theorem cxO_ok : CxOk Try.prog cxO := mkCx_ok namesN mixedN (by
  intro x h
  simp only [List.mem_cons, List.not_mem_nil, or_false] at h
  rcases h with rfl | rfl | rfl | rfl
  · exact known_sum
  · exact send_sum
  · exact dlv_sum
  · exact min_sum)
/-- The elements from lo on, ahead of hi. -/
def win {α : Type} (l : List α) (lo hi : Nat) : List α := (l.take hi).drop lo
def idx (n : Nat) : List Int := (List.range n).map fun (i : Nat) => (i : Int)
theorem win_len {α : Type} {l : List α} {lo hi : Nat} (h : hi ≤ l.length) : (win l lo hi).length = hi - lo := by unfold win; rw [List.length_drop, List.length_take]; omega
theorem win_get {α : Type} {l : List α} {lo hi i : Nat} (h : hi ≤ l.length) (h2 : lo + i < hi) (d : α) : (win l lo hi).getD i d = l.getD (lo + i) d := by
  unfold win
  rw [List.getD_eq_getElem?_getD, List.getElem?_drop, List.getElem?_take, if_pos h2, ← List.getD_eq_getElem?_getD]
theorem win_last {α : Type} {l : List α} {lo hi : Nat} (h : hi ≤ l.length) (h2 : lo < hi) : (win l lo hi).take (hi - lo - 1) ++ (win l lo hi).drop (hi - lo - 1 + 1) = win l lo (hi - 1) := by
  have h3 : (win l lo hi).drop (hi - lo - 1 + 1) = [] := List.drop_of_length_le (by rw [win_len h]; omega)
  rw [h3, List.append_nil]
  unfold win
  rw [List.take_drop, List.take_take, show min (lo + (hi - lo - 1)) hi = hi - 1 by omega]
theorem win_first {α : Type} {l : List α} {lo hi : Nat} : (win l lo hi).take 0 ++ (win l lo hi).drop (0 + 1) = win l (lo + 1) hi := by
  unfold win
  rw [List.take_zero, List.nil_append, List.drop_drop]
theorem win_snoc {α : Type} {l : List α} {i : Nat} (h : i < l.length) (d : α) : win l 0 i ++ [l.getD i d] = win l 0 (i + 1) := by
  unfold win
  rw [List.drop_zero, List.drop_zero, List.take_add_one, List.getD_eq_getElem?_getD, List.getElem?_eq_getElem h]; rfl
theorem idx_len (n : Nat) : (idx n).length = n := by simp [idx]
theorem idx_get {n i : Nat} (h : i < n) : (idx n).getD i 0 = (i : Int) := by
  rw [List.getD_eq_getElem?_getD, List.getElem?_eq_getElem (by rw [idx_len]; exact h)]
  simp [idx]
theorem argM_zero {l : List Int} (h : ∀ i, 1 ≤ i → i < l.length → ¬ l.getD i 0 < l.getD 0 0) : ∀ c i, 1 ≤ i → i + c ≤ l.length → argM l c i 0 = 0
  | 0, _, _, _ => rfl
  | c + 1, i, h1, h2 => by rw [argM, if_neg (h i h1 (by omega)), argM_zero h c (i + 1) (by omega) (by omega)]
theorem minP_win {n lo hi : Nat} (h1 : lo < hi) (h2 : hi ≤ n) : minP (win (idx n) lo hi) = 0 := by
  have hl : hi ≤ (idx n).length := by rw [idx_len]; exact h2
  unfold minP
  refine argM_zero (fun i hi1 hi2 => ?_) _ 1 (Nat.le_refl _) (by rw [win_len hl]; omega)
  rw [win_len hl] at hi2
  rw [win_get hl (by omega), win_get hl (by omega), idx_get (by omega), idx_get (by omega)]
  omega
theorem placeN_zero {q : Nat} (h : 0 < q) (h2 : q ≤ 1000000) : placeN 0 q = 0 := by
  unfold placeN placeK
  have e1 : remK 0 (q : Int) = 0 := by rw [remK_eq, Int.zero_tmod]
  rw [e1, add64 (by omega), Int.zero_add, remK_eq, Int.tmod_self]; rfl
theorem placeN_last {q : Nat} (h : 0 < q) (h2 : q ≤ 1000000) : placeN (-(1)) q = q - 1 := by
  unfold placeN placeK
  by_cases h1 : q = 1
  · subst h1; decide
  · have e1 : remK (-(1)) (q : Int) = -1 := by rw [remK_eq, Int.neg_tmod, Int.tmod_eq_of_lt (by omega) (by omega)]
    rw [e1, add64 (by omega), remK_eq, Int.tmod_eq_of_lt (by omega) (by omega)]
    omega
theorem strEq_same (s : ByteArray) : strEq s s = true := by simp [strEq]
theorem okq {n lo hi : Nat} {fs ts : List Int} {bs : List (List Int)} (l1 : fs.length = n) (l2 : ts.length = n) (l3 : bs.length = n) (h : hi ≤ n) (hn : n ≤ 100) :
    decide ((win fs lo hi).length = hi - lo ∧ (win ts lo hi).length = hi - lo ∧ (win bs lo hi).length = hi - lo ∧ (win (idx n) lo hi).length = hi - lo ∧ hi - lo ≤ 1000000) = true :=
  decide_eq_true ⟨win_len (by omega), win_len (by omega), win_len (by omega), win_len (by rw [idx_len]; omega), by omega⟩
theorem ord_loop3 (n m : Nat) (fs ts : List Int) (bs : List (List Int)) (ks : List Bool) (M c : Nat) (k : SV → St → Prop) (l1 : fs.length = n) (l2 : ts.length = n) (l3 : bs.length = n) (hn : n ≤ 100) (hT : ∀ st, k (.sa (.one (bv true))) st) :
    ∀ (rem i lo hi : Nat), i + rem = n → lo + (n - hi) = i → lo ≤ hi → hi ≤ n → ev cxO (rem + c + 48) 2 5 (codeAt Try.prog 5 [1, 1, 1, 1, 1, 1, 1, 1, 1, 0, 1, 0]) (frm 128 [(0, (.sa (.one (SC.ref 0)))), (1, (.sa (.one (SC.ref 1)))), (8, (.sa (.one (SC.ptr 2 0 0)))), (11, (.sa (.one (iv .i64 (lo : Int))))), (12, (.sa (.one (iv .i64 (hi : Int))))), (65, (.sa (.one (iv .i64 ((n : Nat) : Int))))), (66, (.sa (.one (iv .i64 (i : Int)))))]) [lIn n fs ts bs, bkIn m ks, netO (n : Int) 3, netT (hi - lo) (win fs lo hi) (win ts lo hi) (win bs lo hi) (win (idx n) lo hi)] (kBlock 4 (kSeq (ev cxO (M + 50) 2 5 (codeAt Try.prog 5 [1, 1, 1, 1, 1, 1, 1, 1, 1, 1])) (kRet (Cx.P cxO) [(ResultVar.tmp 4)] 2 k))) := by
  intro rem
  induction rem with
  | zero =>
    intro i lo hi h1 h2 h3 h4
    have hq : hi - lo = 0 := by omega
    have ok := okq (lo := lo) l1 l2 l3 h4 hn
    rw [t_ord3]
    refine Again.mk (brf (by omega) (nd (by rw [ok]; rfl) (brt hq ?_)))
    rw [hq]
    exact hT _
  | succ rem ih =>
    intro i lo hi h1 h2 h3 h4
    have hlt : lo < hi := by omega
    have ok := okq (lo := lo) l1 l2 l3 h4 hn
    have hI : hi ≤ (idx n).length := by rw [idx_len]; exact h4
    rw [show rem + 1 + c + 48 = (rem + 1 + c) + 48 from rfl, t_ord3]
    have e0 : 0 + ((i : Nat) : Int).toNat = i := by omega
    have e1 : 0 + ((lo : Nat) : Int).toNat = lo := by omega
    have e2 : IntKind.wrap .u64 (lo : Int) = (lo : Int) := by rw [IntKind.wrap_u64]; omega
    have e3 : subK .i64 ((hi : Nat) : Int) 1 = ((hi - 1 : Nat) : Int) := by rw [sub64 (by omega)]; omega
    have e4 : 0 + ((hi - 1 : Nat) : Int).toNat = hi - 1 := by omega
    have e5 : addK .i64 ((lo : Nat) : Int) 1 = ((lo + 1 : Nat) : Int) := by rw [add64 (by omega)]; omega
    have e6 : addK .i64 ((i : Nat) : Int) 1 = ((i + 1 : Nat) : Int) := by rw [add64 (by omega)]; omega
    have z : ∀ {α : Type} (l : List α) (d : α), l.length = n → (win l lo hi).getD 0 d = l.getD lo d := fun l d h => by rw [win_get (by omega) (by omega), Nat.add_zero]
    have y : ∀ {α : Type} (l : List α) (d : α), l.length = n → (win l lo hi).getD (hi - lo - 1) d = l.getD (hi - 1) d := fun l d h => by rw [win_get (by omega) (by omega), show lo + (hi - lo - 1) = hi - 1 by omega]
    simp only [minP_win hlt h4, e0, e1, e2, e3, e4, e5, e6, placeN_zero (q := hi - lo) (by omega) (by omega), placeN_last (q := hi - lo) (by omega) (by omega), z fs 0 l1, z ts 0 l2, z bs [] l3, z (idx n) 0 (idx_len n), y fs 0 l1, y ts 0 l2, y bs [] l3, idx_get (show lo < n by omega), eqK_t.2 rfl, strEq_same, Bool.not_true]
    have front : need ((decide ((win fs lo hi).length = hi - lo ∧ (win ts lo hi).length = hi - lo ∧ (win bs lo hi).length = hi - lo ∧ (win (idx n) lo hi).length = hi - lo ∧ hi - lo ≤ 1000000)) && true) (branch (decide (hi - lo = 0)) (k (.sa (.one (bv false))) [some (SO.own false MK.ext 0 3 (Ct.tab n [(Col.ints .u32 fs), (Col.ints .u32 ts), (Col.data .u8 bs)])), some (SO.own false MK.ext 0 1 (Ct.tab m [(Col.bools ks)]))]) (need (decide (0 ≤ (lo : Int))) (need (decide ((lo : Int) < (n : Int))) (need (decide (lo < n)) (branch true (branch true (need (decide (0 + (bs.getD lo []).length ≤ (bs.getD lo []).length)) (need (decide (0 + (bs.getD lo []).length ≤ (bs.getD lo []).length)) (branch false (k (.sa (.one (bv false))) [some (SO.own false MK.ext 0 3 (Ct.tab n [(Col.ints .u32 fs), (Col.ints .u32 ts), (Col.data .u8 bs)])), some (SO.own false MK.ext 0 1 (Ct.tab m [(Col.bools ks)]))]) (ev cxO (rem + 1 + c + 47) 2 5 (codeAt Try.prog 5 [1, 1, 1, 1, 1, 1, 1, 1, 1, 0, 1, 0]) (frm 128 [(0, (.sa (.one (SC.ref 0)))), (1, (.sa (.one (SC.ref 1)))), (8, (.sa (.one (SC.ptr 2 0 0)))), (11, (.sa (.one (iv .i64 ((lo + 1 : Nat) : Int))))), (12, (.sa (.one (iv .i64 (hi : Int))))), (65, (.sa (.one (iv .i64 ((n : Nat) : Int))))), (66, (.sa (.one (iv .i64 ((i + 1 : Nat) : Int)))))]) [some (SO.own false MK.ext 0 3 (Ct.tab n [(Col.ints .u32 fs), (Col.ints .u32 ts), (Col.data .u8 bs)])), some (SO.own false MK.ext 0 1 (Ct.tab m [(Col.bools ks)])), (obj 59 2 [(iv .i64 (n : Int)), (SC.ref 3)]), (some (SO.own true MK.row 61 4 (Ct.tab (hi - lo - 1) [(Col.ints .u32 (Spec.woI 0 (win fs lo hi))), (Col.ints .u32 (Spec.woI 0 (win ts lo hi))), (Col.data .u8 (Spec.woD 0 (win bs lo hi))), (Col.ints .u64 (Spec.woI 0 (win (idx n) lo hi)))])))] (kBlock 4 (kSeq (ev cxO (M + 50) 2 5 (codeAt Try.prog 5 [1, 1, 1, 1, 1, 1, 1, 1, 1, 1])) (kRet (Cx.P cxO) [(ResultVar.tmp 4)] 2 k))))))) (k (.sa (.one (bv false))) [some (SO.own false MK.ext 0 3 (Ct.tab n [(Col.ints .u32 fs), (Col.ints .u32 ts), (Col.data .u8 bs)])), some (SO.own false MK.ext 0 1 (Ct.tab m [(Col.bools ks)]))])) (k (.sa (.one (bv false))) [some (SO.own false MK.ext 0 3 (Ct.tab n [(Col.ints .u32 fs), (Col.ints .u32 ts), (Col.data .u8 bs)])), some (SO.own false MK.ext 0 1 (Ct.tab m [(Col.bools ks)]))])))))) := by
      refine nd (by rw [ok]; rfl) (brf (by omega) (ndd (by omega) (ndd (by omega) (ndd (by omega) (br (fun _ => br (fun _ => ndd (by omega) (ndd (by omega) (br (fun h => by cases h) fun _ => ?_))) (fun h => by cases h)) (fun h => by cases h))))))
      refine evFuel (evFr (ih (i + 1) (lo + 1) hi (by omega) (by omega) (by omega) h4) rfl ?_) (by omega)
      unfold netT netO woI woD lIn bkIn
      rw [win_first, win_first, win_first, win_first, show hi - (lo + 1) = hi - lo - 1 by omega]
    refine Again.mk (brt (by omega) (bref (by omega) (nd (by rw [ok, decide_eq_true (by omega)]; rfl) (br (fun h => by cases h) fun _ => ?_))))
    refine brd (fun hm => ndd (by omega) (ndd (by omega) (ndd (by omega) (br (fun hk => ?_) (fun _ => front))))) (fun _ => front)
    refine nd (by rw [ok]; rfl) (brf (by omega) (ndd (by omega) (ndd (by omega) (ndd (by omega) (br (fun _ => br (fun _ => ndd (by omega) (ndd (by omega) (br (fun h => by cases h) fun _ => ?_))) (fun h => by cases h)) (fun h => by cases h))))))
    refine evFuel (evFr (ih (i + 1) lo (hi - 1) (by omega) (by omega) (by omega) (by omega)) rfl ?_) (by omega)
    unfold netT netO woI woD lIn bkIn
    rw [win_last (by omega) hlt, win_last (by omega) hlt, win_last (by omega) hlt, win_last hI hlt, show hi - 1 - lo = hi - lo - 1 by omega]
theorem ord_loop2 (n m : Nat) (fs ts : List Int) (bs : List (List Int)) (ks : List Bool) (M c : Nat) (k : SV → St → Prop) (l1 : fs.length = n) (l2 : ts.length = n) (l3 : bs.length = n) (hb : ∀ i, (bs.getD i []).length ≤ 140737488355328) (hn : n ≤ 100) (hM : n ≤ M) (hT : ∀ st, k (.sa (.one (bv true))) st) :
    ∀ (rem i : Nat), i + rem = n → ev cxO (rem + c + 51) 2 5 (codeAt Try.prog 5 [1, 1, 1, 1, 1, 1, 0, 1, 0]) (frm 128 [(0, (.sa (.one (SC.ref 0)))), (1, (.sa (.one (SC.ref 1)))), (8, (.sa (.one (SC.ptr 2 0 0)))), (44, (.sa (.one (SC.ref 0)))), (45, (.sa (.one (iv .i64 ((n : Nat) : Int))))), (46, (.sa (.one (iv .i64 (i : Int)))))]) [lIn n fs ts bs, bkIn m ks, netO (n : Int) 3, netT i (win fs 0 i) (win ts 0 i) (win bs 0 i) (win (idx n) 0 i)] (kBlock 2 (kSeq (ev cxO (M + 53) 2 5 (codeAt Try.prog 5 [1, 1, 1, 1, 1, 1, 1])) (kRet (Cx.P cxO) [(ResultVar.tmp 4)] 2 k))) := by
  intro rem
  induction rem with
  | zero =>
    intro i h1
    have e : i = n := by omega
    subst e
    rw [t_ord2]
    refine Again.mk (brf (by omega) (ndd (by omega) ?_))
    refine evFuel (evFr (ord_loop3 i m fs ts bs ks M (M - i) k l1 l2 l3 hn hT i 0 0 i (by omega) (by omega) (by omega) (Nat.le_refl _)) rfl ?_) (by omega)
    unfold netT netO lIn bkIn
    rw [Nat.sub_zero]
  | succ rem ih =>
    intro i h1
    rw [show rem + 1 + c + 51 = (rem + 1 + c) + 51 from rfl, t_ord2]
    have e0 : 0 + ((i : Nat) : Int).toNat = i := by omega
    have e2 : IntKind.wrap .u64 (i : Int) = (i : Int) := by rw [IntKind.wrap_u64]; omega
    have e6 : addK .i64 ((i : Nat) : Int) 1 = ((i + 1 : Nat) : Int) := by rw [add64 (by omega)]; omega
    have ok := okq (lo := 0) (hi := i) l1 l2 l3 (by omega) hn
    rw [Nat.sub_zero] at ok
    have hbi := hb i
    rw [e0, e2, e6]
    refine Again.mk (brt (by omega) (ndd (by omega) (ndd (by omega) (ndd (by omega) (nd (by rw [ok, decide_eq_true hbi]; rfl) (brf (by omega) ?_))))))
    refine evFuel (evFr (ih (i + 1) (by omega)) rfl ?_) (by omega)
    have hid : win (idx n) 0 i ++ [(i : Int)] = win (idx n) 0 (i + 1) := by
      have := win_snoc (l := idx n) (i := i) (by rw [idx_len]; omega) 0
      rwa [idx_get (by omega)] at this
    unfold netT netO lIn bkIn
    rw [win_snoc (by omega), win_snoc (by omega), win_snoc (by omega), hid]
theorem ord_loop1 (n m : Nat) (fs ts : List Int) (bs : List (List Int)) (ks : List Bool) (M c : Nat) (k : SV → St → Prop) (l1 : fs.length = n) (l2 : ts.length = n) (l3 : bs.length = n) (hb : ∀ i, (bs.getD i []).length ≤ 140737488355328) (hnn : n ≤ 140737488355328) (hM : 200 ≤ M) (hT : ∀ st, k (.sa (.one (bv true))) st) :
    ∀ (rem i s : Nat), i + rem = n → s ≤ 20000 → ev cxO (rem + c + 54) 2 5 (codeAt Try.prog 5 [1, 1, 1, 0, 1, 0]) (frm 128 [(0, (.sa (.one (SC.ref 0)))), (1, (.sa (.one (SC.ref 1)))), (5, (.sa (.one (iv .i64 (s : Int))))), (24, (.sa (.one (SC.ref 0)))), (25, (.sa (.one (iv .i64 ((n : Nat) : Int))))), (26, (.sa (.one (iv .i64 (i : Int)))))]) [lIn n fs ts bs, bkIn m ks] (kBlock 0 (kSeq (ev cxO (M + 56) 2 5 (codeAt Try.prog 5 [1, 1, 1, 1])) (kRet (Cx.P cxO) [(ResultVar.tmp 4)] 2 k))) := by
  intro rem
  induction rem with
  | zero =>
    intro i s h1 h2
    have e : i = n := by omega
    subst e
    rw [t_ord1]
    refine Again.mk (brf (by omega) (brd (fun _ => hT _) (fun h3 => ?_)))
    have e1 : (if (if (100000 : Int) < ((i : Nat) : Int) then (100000 : Int) else ((i : Nat) : Int)) > 0 then (if (100000 : Int) < ((i : Nat) : Int) then (100000 : Int) else ((i : Nat) : Int)) else 0) = ((i : Nat) : Int) := by
      rw [if_neg (show ¬ (100000 : Int) < ((i : Nat) : Int) by omega)]; split <;> omega
    rw [e1]
    refine evFuel (evFr (ord_loop2 i m fs ts bs ks M (M - i) k l1 l2 l3 hb (by omega) (by omega) hT i 0 (by omega)) rfl ?_) (by omega)
    simp [netT, netO, win, lIn, bkIn]
  | succ rem ih =>
    intro i s h1 h2
    rw [show rem + 1 + c + 54 = (rem + 1 + c) + 54 from rfl, t_ord1]
    have e0 : 0 + ((i : Nat) : Int).toNat = i := by omega
    have hbi := hb i
    have e6 : addK .i64 ((i : Nat) : Int) 1 = ((i + 1 : Nat) : Int) := by rw [add64 (by omega)]; omega
    rw [e0, e6, add64 (by omega)]
    refine Again.mk (brt (by omega) (ndd (by omega) (ndd (by omega) (ndd (by omega) (brd (fun _ => hT _) (fun h3 => ?_))))))
    refine evFuel (evFr (ih (i + 1) (s + (bs.getD i []).length) (by omega) (by omega)) ?_ rfl) (by omega)
    simp only [show ((s + (bs.getD i []).length : Nat) : Int) = (s : Int) + ((bs.getD i []).length : Int) by omega]
theorem ord_run (n m : Nat) (fs ts : List Int) (bs : List (List Int)) (ks : List Bool) (k : SV → St → Prop) (l1 : fs.length = n) (l2 : ts.length = n) (l3 : bs.length = n) (hb : ∀ i, (bs.getD i []).length ≤ 140737488355328) (hnn : n ≤ 140737488355328) (hT : ∀ st, k (.sa (.one (bv true))) st) :
    ∃ N, evCall cxO (ev cxO N) 5 [.one (.ref 0), .one (.ref 1)] [lIn n fs ts bs, bkIn m ks] k := by
  refine ⟨n + 200 + 60, ?_⟩
  rw [t_ord0]
  exact ord_loop1 n m fs ts bs ks (n + 200) 200 k l1 l2 l3 hb hnn (by omega) hT n 0 0 (by omega) (by omega)
end Go.Ev
