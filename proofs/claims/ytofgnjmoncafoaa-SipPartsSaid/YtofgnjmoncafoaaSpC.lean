/- The laws of chapter 2, run: whatever the key, the parts, the cuts are. No conditions. -/
import Derived.Test.YtofgnjmoncafoaaSpT
import Derived.Test.YtofgnjmoncafoaaSpT2
import Derived.Test.YtofgnjmoncafoaaWkS
import Derived.Test.YtofgnjmoncafoaaSiQ
namespace Go.Ev
open Go Go.Proofs Go.Spec
attribute [local irreducible] ev evCall branch need again

theorem known_sum : SumOk Try.prog 5 sKnown := works_sum
theorem cxS_ok : CxOk Try.prog cxS := mkCx_ok namesS mixedS (by
  intro x h
  simp only [List.mem_cons, List.not_mem_nil, or_false] at h
  rcases h with rfl | rfl | rfl
  · exact known_sum
  · exact of_sum
  · exact rof_sum)
theorem evCast {c : Cx} {N m f : Nat} {co : Code} {fr : Fr} {st st' : St} {k : Exit → Fr → St → Prop} (h : ev c N m f co fr st k) (e : st = st') : ev c N m f co fr st' k := e ▸ h
theorem cat_snoc (xss : List (List Int)) : ∀ (n i : Nat), cat xss (n + 1) i = cat xss n i ++ xss.getD (i + n) []
  | 0, i => by simp [cat]
  | n + 1, i => by
    have := cat_snoc xss n (i + 1)
    rw [cat, this, cat, List.append_assoc, show i + 1 + n = i + (n + 1) by omega]
theorem cat_len (xss : List (List Int)) : ∀ n, (cat xss n 0).length = total xss n
  | 0 => rfl
  | n + 1 => by rw [cat_snoc, List.length_append, cat_len xss n, Nat.zero_add]; rfl
theorem cat_congr {xss yss : List (List Int)} : ∀ (n i : Nat), (∀ j, i ≤ j → j < i + n → xss.getD j [] = yss.getD j []) → cat xss n i = cat yss n i
  | 0, _, _ => rfl
  | n + 1, i, h => by
    rw [cat, cat, h i (Nat.le_refl _) (by omega), cat_congr n (i + 1) fun j h1 h2 => h j (by omega) (by omega)]
theorem fitL_id {α : Type} (d : α) : ∀ (n : Nat) (l : List α), l.length = n → fitL d n l = l
  | 0, [], _ => rfl
  | n + 1, x :: r, h => by rw [fitL, fitL_id d n r (by simpa using h)]
  | 0, _ :: _, h => by simp at h
  | _ + 1, [], h => by simp at h
theorem strEq_refl (s : ByteArray) : strEq s s = true := by simp [strEq]
theorem strInts_of {l : List Int} (h : Bytes l) : strInts (strOf l) = l := by
  unfold strInts strOf
  simp only [List.map_map]
  conv => rhs; rw [← List.map_id l]
  refine List.map_congr_left fun x hx => ?_
  have := h x hx
  simp only [Function.comp, byteOfInt, id]
  have e : (UInt8.ofNat x.toNat).toNat = x.toNat := by
    rw [UInt8.toNat_ofNat']; omega
  rw [e]; omega

/-! ### any parts -/
theorem sums_loop (k0 k1 k2 k3 k4 k5 k6 k7 k8 k9 ka kb kc kd ke kf : Int) (n M : Nat) (xss : List (List Int)) (hn : n ≤ 100) (hl : xss.length = n)
    (hk : Bytes [k0, k1, k2, k3, k4, k5, k6, k7, k8, k9, ka, kb, kc, kd, ke, kf]) (hx : ∀ j, Bytes (xss.getD j [])) (hlen : ∀ j, (xss.getD j []).length ≤ 140737488355328) (k : SV → St → Prop) (hT : ∀ st, k (.sa (.one (bv true))) st) :
    ∀ (rem i : Nat) (all : List Int), i + rem = n → all = cat xss i 0 → all.length ≤ 5000 →
      ev cxS (rem + 33) 1 3 (codeAt Try.prog 3 [1, 1, 1, 1, 0, 1, 0]) (frm 36 [(1, (.sa (.one (SC.ref 0)))), (2, (.sa (.one (SC.ptr 1 0 0)))), (5, (.sa (.one (SC.ref 2)))), (13, (.sa (.one (SC.ref 0)))), (14, (.sa (.one (iv .i64 ((n : Nat) : Int))))), (15, (.sa (.one (iv .i64 (i : Int)))))]) [(some (SO.own false MK.ext 0 1 (Ct.tab n [(Col.data .u8 xss)]))), (some (SO.mem true MK.whole 23 1 (Ct.lst [[(iv .u8 k0)], [(iv .u8 k1)], [(iv .u8 k2)], [(iv .u8 k3)], [(iv .u8 k4)], [(iv .u8 k5)], [(iv .u8 k6)], [(iv .u8 k7)], [(iv .u8 k8)], [(iv .u8 k9)], [(iv .u8 ka)], [(iv .u8 kb)], [(iv .u8 kc)], [(iv .u8 kd)], [(iv .u8 ke)], [(iv .u8 kf)]]))), (some (SO.own true MK.row 5 1 (Ct.ints .u8 all)))] (kBlock 0 (kSeq (ev cxS (M + 35) 1 3 (codeAt Try.prog 3 [1, 1, 1, 1, 1])) (kRet (Cx.P cxS) [(ResultVar.tmp 4)] 1 k)))
  | 0, i, all, h1, h2, h3 => by
    have : i = n := by omega
    subst this
    rw [t_sumsStep]
    refine br (fun h => absurd (of_decide_eq_true h) (by omega)) (fun _ => ?_)
    have ht : total xss i ≤ 5000 := by rw [← cat_len, ← h2]; exact h3
    have hm : total xss (0 + i) ≤ 4611686018427387904 ∧ 0 + i ≤ 4611686018427387904 := by rw [Nat.zero_add]; omega
    rw [fitL_id [] i xss hl, List.take_of_length_le (Nat.le_refl _)]
    refine nd (decide_eq_true (by omega)) (nd (decide_eq_true hm) (nd (decide_eq_true (by omega)) (nd (decide_eq_true (by omega)) ?_)))
    have e : Spec.sipOf [k0, k1, k2, k3, k4, k5, k6, k7, k8, k9, ka, kb, kc, kd, ke, kf] xss (0 + i) = Spec.refOf [k0, k1, k2, k3, k4, k5, k6, k7, k8, k9, ka, kb, kc, kd, ke, kf] all := by
      rw [Nat.zero_add, h2]
      exact sip_ref hk rfl hx (by rw [← h2]; omega)
    rw [e, beq_self_eq_true]
    exact hT _
  | rem + 1, i, all, h1, h2, h3 => by
    rw [t_sumsStep]
    have hN : rem + 1 + 32 = rem + 33 := by omega
    have ei : 0 + Int.toNat (i : Int) = i := by simp
    rw [hN, ei, i64_add (by omega), List.take_of_length_le (Nat.le_refl _)]
    refine br (fun _ => ?_) (fun h => absurd (of_decide_eq_false h) (by omega))
    refine nd (decide_eq_true (by omega)) (nd (decide_eq_true (by omega)) (nd (decide_eq_true (by omega)) (br (fun _ => hT _) (fun h => ?_))))
    have hle : all.length + (xss.getD i []).length ≤ 5000 := by
      have hB := hlen i
      rw [addK_eq, Go.IntWalk.i64_in _ (by omega)] at h
      have := of_decide_eq_false h
      omega
    refine nd (decide_eq_true (by omega)) (nd (decide_eq_true (by omega)) ?_)
    have e1 : (i : Int) + 1 = ((i + 1 : Nat) : Int) := by omega
    rw [e1]
    exact sums_loop k0 k1 k2 k3 k4 k5 k6 k7 k8 k9 ka kb kc kd ke kf n M xss hn hl hk hx hlen k hT rem (i + 1) _ (by omega) (by rw [cat_snoc, h2, Nat.zero_add]) (by rw [List.length_append]; omega)
theorem bytes_of {l : List Int} (h : ∀ x ∈ l, (Lit.int .u8 x).wf = true) : Bytes l := fun x hx => by
  have := h x hx
  simpa [Lit.wf, IntKind.min, IntKind.max, IntKind.signed, IntKind.bits] using this
theorem key_bytes {l : List Int} (h : ∀ x ∈ l, (Lit.int .u8 x).wf = true) : Bytes l := bytes_of h
theorem getD_all {xss : List (List Int)} {p : List Int → Prop} (h : ∀ xs ∈ xss, p xs) (h0 : p []) (j : Nat) : p (xss.getD j []) := by
  by_cases hj : j < xss.length
  · rw [List.getD_eq_getElem?_getD, List.getElem?_eq_getElem hj]; exact h _ (List.getElem_mem hj)
  · rw [List.getD_eq_getElem?_getD, List.getElem?_eq_none (by omega)]; exact h0
theorem sums_run (k0 k1 k2 k3 k4 k5 k6 k7 k8 k9 ka kb kc kd ke kf : Int) (hk : Bytes [k0, k1, k2, k3, k4, k5, k6, k7, k8, k9, ka, kb, kc, kd, ke, kf]) (n : Nat) (xss : List (List Int)) (hl : xss.length = n)
    (hb : ∀ xs ∈ xss, xs.length ≤ 140737488355328 ∧ ∀ x ∈ xs, (Lit.int .u8 x).wf = true) (k : SV → St → Prop) (hT : ∀ st, k (.sa (.one (bv true))) st) :
    ∃ N, evCall cxS (ev cxS N) 3 [.agg [iv .u8 k0, iv .u8 k1, iv .u8 k2, iv .u8 k3, iv .u8 k4, iv .u8 k5, iv .u8 k6, iv .u8 k7, iv .u8 k8, iv .u8 k9, iv .u8 ka, iv .u8 kb, iv .u8 kc, iv .u8 kd, iv .u8 ke, iv .u8 kf], .one (.ref 0)] [some (.own false .ext 0 1 (.tab n [.data .u8 xss]))] k := by
  refine ⟨n + 40, ?_⟩
  rw [t_sums]
  refine br (fun _ => hT _) (fun h => ?_)
  have h := of_decide_eq_false h
  exact sums_loop k0 k1 k2 k3 k4 k5 k6 k7 k8 k9 ka kb kc kd ke kf n n xss (by omega) hl hk (getD_all (fun xs hx => bytes_of (hb xs hx).2) (fun x hx => by cases hx)) (getD_all (fun xs hx => (hb xs hx).1) (by simp)) k hT n 0 [] (by omega) rfl (by simp)
end Go.Ev
