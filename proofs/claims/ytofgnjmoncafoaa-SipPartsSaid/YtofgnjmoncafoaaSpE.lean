/- The law SipParts, run: however the bytes are cut, the sum is one. No conditions. -/
import Derived.Test.YtofgnjmoncafoaaSpC
namespace Go.Ev
open Go Go.Proofs Go.Spec
attribute [local irreducible] ev evCall branch need again

theorem cat_app {xss : List (List Int)} {b : List Int} {m : Nat} (h : xss.length = m) : cat (xss ++ [b]) (m + 1) 0 = cat xss m 0 ++ b := by
  rw [cat_snoc, Nat.zero_add]
  congr 1
  · refine cat_congr m 0 fun j _ hj => ?_
    have hj : j < xss.length := by omega
    simp [List.getD_eq_getElem?_getD, List.getElem?_append_left hj]
  · simp [List.getD_eq_getElem?_getD, ← h]
theorem app_bytes {xss : List (List Int)} {b : List Int} (h : ∀ xs ∈ xss, Bytes xs) (hb : Bytes b) : ∀ xs ∈ xss ++ [b], Bytes xs := by
  intro xs hx
  rcases List.mem_append.1 hx with hx | hx
  · exact h xs hx
  · simp at hx; subst hx; exact hb
theorem parts_loop (k0 k1 k2 k3 k4 k5 k6 k7 k8 k9 ka kb kc kd ke kf : Int) (M : Nat) (xs cs : List Int) (hn : cs.length ≤ 100) (hl : xs.length ≤ 20000) (hx : Bytes xs) (hc : ∀ c ∈ cs, 0 ≤ c ∧ c ≤ 65535)
    (hk : Bytes [k0, k1, k2, k3, k4, k5, k6, k7, k8, k9, ka, kb, kc, kd, ke, kf]) (k : SV → St → Prop) (hT : ∀ st, k (.sa (.one (bv true))) st) :
    ∀ (rem i : Nat) (pss : List (List Int)) (rs : List Int), i + rem = cs.length → pss.length = i → cat pss i 0 ++ rs = xs → (∀ p ∈ pss, Bytes p) →
      ev cxS (rem + 31) 2 4 (codeAt Try.prog 4 [1, 1, 1, 1, 1, 1, 0, 1, 0]) (frm 86 [(1, (.sa (.one (SC.ref 0)))), (3, (.sa (.one (SC.ptr 2 0 0)))), (7, (.sa (.one (SC.raw (Value.string (strOf xs)))))), (8, (.sa (.one (SC.ref 3)))), (9, (.sa (.one (SC.ref 4)))), (28, (.sa (.one (SC.ref 1)))), (29, (.sa (.one (iv .i64 (((List.length cs) : Nat) : Int))))), (30, (.sa (.one (iv .i64 (i : Int)))))]) [(some (SO.own false MK.ext 0 1 (Ct.ints .u8 xs))), (some (SO.own false MK.ext 0 1 (Ct.ints .u16 cs))), (some (SO.mem true MK.whole 23 1 (Ct.lst [[(iv .u8 k0)], [(iv .u8 k1)], [(iv .u8 k2)], [(iv .u8 k3)], [(iv .u8 k4)], [(iv .u8 k5)], [(iv .u8 k6)], [(iv .u8 k7)], [(iv .u8 k8)], [(iv .u8 k9)], [(iv .u8 ka)], [(iv .u8 kb)], [(iv .u8 kc)], [(iv .u8 kd)], [(iv .u8 ke)], [(iv .u8 kf)]]))), (some (SO.own true MK.row 26 1 (Ct.tab i [(Col.data .u8 pss)]))), (some (SO.own false MK.ext 0 1 (Ct.ints .u8 rs)))] (kBlock 0 (kSeq (ev cxS (M + 33) 2 4 (codeAt Try.prog 4 [1, 1, 1, 1, 1, 1, 1])) (kRet (Cx.P cxS) [(ResultVar.tmp 6)] 2 k)))
  | 0, i, pss, rs, h1, h2, h3, h4 => by
    rw [t_partsStep]
    refine br (fun h => absurd (of_decide_eq_true h) (by omega)) (fun _ => ?_)
    have hrs : rs.length ≤ xs.length := by rw [← h3, List.length_append]; omega
    have hrB : Bytes rs := fun x hm => hx x (by rw [← h3]; exact List.mem_append_right _ hm)
    have t1 : total [xs] 1 = xs.length := by simp [total]
    have t3 : total [[], xs, []] 3 = xs.length := by simp [total]
    have hcat : cat (pss ++ [rs]) (i + 1) 0 = xs := by rw [cat_app h2, h3]
    have tm : total (pss ++ [rs]) (i + 1) = xs.length := by rw [← cat_len, hcat]
    have hB : ∀ j, Bytes ((pss ++ [rs]).getD j []) := getD_all (app_bytes h4 hrB) (fun x h => by cases h)
    have hB1 : ∀ j, Bytes ([xs].getD j []) := getD_all (fun y hy => by simp at hy; subst hy; exact hx) (fun x h => by cases h)
    have hB3 : ∀ j, Bytes ([[], xs, []].getD j []) := getD_all (fun y hy => by simp at hy; rcases hy with rfl | rfl | rfl <;> first | exact hx | (intro x h; cases h)) (fun x h => by cases h)
    have e1 := sip_ref (n := 1) hk rfl hB1 (by simp [cat]; omega)
    have e3 := sip_ref (n := 3) hk rfl hB3 (by simp [cat]; omega)
    have em := sip_ref (n := i + 1) hk rfl hB (by rw [hcat]; omega)
    simp only [cat, List.getD_cons_zero, List.append_nil, List.getD_cons_succ, List.nil_append] at e1 e3
    rw [hcat] at em
    rw [fitL_id [] i pss h2, List.take_of_length_le (Nat.le_refl rs.length), List.take_of_length_le (Nat.le_refl xs.length), fitL_id [] (i + 1) _ (by simp [h2]), strInts_of hx, Nat.zero_add (i + 1), t1, t3, tm, e1, e3, em, strEq_refl]
    refine nd (decide_eq_true (by omega)) (nd (decide_eq_true (by omega)) (nd (decide_eq_true (by omega)) (nd (decide_eq_true (by omega)) (nd (decide_eq_true (by omega)) (nd (decide_eq_true (by omega)) ?_)))))
    refine br (fun _ => ?_) (fun h => absurd h (by simp))
    refine nd (decide_eq_true (by omega)) (br (fun _ => ?_) (fun h => absurd h (by simp)))
    rw [List.take_of_length_le (Nat.le_refl xs.length), t1, e1]
    refine nd (decide_eq_true (by omega)) (nd (decide_eq_true (by omega)) (br (fun _ => ?_) (fun h => absurd h (by simp))))
    refine nd (decide_eq_true (by omega)) (nd (decide_eq_true (by omega)) ?_)
    rw [beq_self_eq_true]
    exact hT _
  | rem + 1, i, pss, rs, h1, h2, h3, h4 => by
    rw [t_partsStep]
    have hN : rem + 1 + 30 = rem + 31 := by omega
    have ei : 0 + Int.toNat (i : Int) = i := by simp
    rw [hN, ei, i64_add (by omega)]
    have hci : 0 ≤ cs.getD i 0 ∧ cs.getD i 0 ≤ 65535 := by
      rw [List.getD_eq_getElem?_getD, List.getElem?_eq_getElem (by omega)]
      exact hc _ (List.getElem_mem _)
    rw [Go.IntWalk.i64_in (cs.getD i 0) (by omega)]
    have hz : 0 ≤ (if ((rs.length : Nat) : Int) < cs.getD i 0 then ((rs.length : Nat) : Int) else cs.getD i 0) ∧ (if ((rs.length : Nat) : Int) < cs.getD i 0 then ((rs.length : Nat) : Int) else cs.getD i 0) ≤ rs.length := by split <;> omega
    generalize (if ((rs.length : Nat) : Int) < cs.getD i 0 then ((rs.length : Nat) : Int) else cs.getD i 0) = z at hz ⊢
    refine br (fun _ => ?_) (fun h => absurd (of_decide_eq_false h) (by omega))
    repeat' refine nd (decide_eq_true (by omega)) ?_
    have e1 : (i : Int) + 1 = ((i + 1 : Nat) : Int) := by omega
    rw [e1, fitL_id [] i pss h2]
    have hrs : rs.length ≤ xs.length := by rw [← h3, List.length_append]; omega
    have hrB : Bytes rs := fun x hm => hx x (by rw [← h3]; exact List.mem_append_right _ hm)
    have er : List.take (rs.length - z.toNat) (List.drop (0 + z.toNat) rs) = rs.drop z.toNat := by rw [Nat.zero_add]; exact List.take_of_length_le (by simp)
    rw [er, Nat.sub_zero]
    exact parts_loop k0 k1 k2 k3 k4 k5 k6 k7 k8 k9 ka kb kc kd ke kf M xs cs hn hl hx hc hk k hT rem (i + 1) (pss ++ [rs.take z.toNat]) (rs.drop z.toNat) (by omega) (by simp [h2])
      (by rw [cat_app h2, List.append_assoc, List.take_append_drop, h3]) (app_bytes h4 fun x hm => hrB x (List.mem_of_mem_take hm))
theorem parts_run (k0 k1 k2 k3 k4 k5 k6 k7 k8 k9 ka kb kc kd ke kf : Int) (hk : Bytes [k0, k1, k2, k3, k4, k5, k6, k7, k8, k9, ka, kb, kc, kd, ke, kf]) (xs cs : List Int) (hx : Bytes xs) (hc : ∀ c ∈ cs, 0 ≤ c ∧ c ≤ 65535) (k : SV → St → Prop) (hT : ∀ st, k (.sa (.one (bv true))) st) :
    ∃ N, evCall cxS (ev cxS N) 4 [.agg [iv .u8 k0, iv .u8 k1, iv .u8 k2, iv .u8 k3, iv .u8 k4, iv .u8 k5, iv .u8 k6, iv .u8 k7, iv .u8 k8, iv .u8 k9, iv .u8 ka, iv .u8 kb, iv .u8 kc, iv .u8 kd, iv .u8 ke, iv .u8 kf], .one (.ref 0), .one (.ref 1)] [rd xs, some (.own false .ext 0 1 (.ints .u16 cs))] k := by
  refine ⟨cs.length + 40, ?_⟩
  rw [t_parts]
  refine br (fun _ => hT _) (fun h => br (fun _ => hT _) (fun h2 => nd (decide_eq_true (by omega)) ?_))
  have h := of_decide_eq_false h
  have h2 := of_decide_eq_false h2
  rw [List.take_of_length_le (Nat.le_refl xs.length)]
  exact parts_loop k0 k1 k2 k3 k4 k5 k6 k7 k8 k9 ka kb kc kd ke kf cs.length xs cs (by omega) (by omega) hx hc hk k hT cs.length 0 [] xs (by omega) rfl rfl (fun p h => by cases h)
end Go.Ev
