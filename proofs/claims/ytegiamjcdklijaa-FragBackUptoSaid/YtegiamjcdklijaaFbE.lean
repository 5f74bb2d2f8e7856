/- The law FragBack, run: putting the pieces in. No conditions. -/
import Derived.Test.YtegiamjcdklijaaFbC
import Derived.Test.YtegiamjcdklijaaFbT4
import Derived.Test.YtegiamjcdklijaaFkS
import Derived.Test.YtegiamjcdklijaaWkP
set_option linter.unusedVariables false
namespace Go.Ev
open Go Go.Proofs Go.Spec
attribute [local irreducible] ev evCall branch need again
theorem cxFb_ok : CxOk Try.prog cxFb := by
  have h := mkCx_ok (P := Try.prog) (sums := [(6, sTrue), (7, sCut), (10, sGreat), (12, sPut)])
    (live := [(4, 9, [0, 1, 2, 7, 8, 9, 39, 40, 41], [⟨7, [], 28⟩, ⟨8, [], 38⟩, ⟨9, [], 38⟩]),
   (4, 15, [0, 1, 2, 7, 8, 9, 10, 11, 12, 39, 40, 41, 66, 67, 68], [⟨7, [], 28⟩, ⟨8, [], 38⟩, ⟨9, [], 38⟩]),
   (4, 26, [0, 7, 8, 9, 96, 97, 98], [⟨7, [], 28⟩, ⟨8, [], 38⟩, ⟨9, [], 38⟩]),
   (4, 34, [0, 8, 9, 19, 142, 143, 144], [])]) (wr := [(12, 2)]) namesG mixedG (by
    intro x h
    simp only [List.mem_cons, List.not_mem_nil, or_false] at h
    rcases h with rfl | rfl | rfl | rfl
    · exact known_sum
    · exact cut_sum
    · exact great_sum
    · exact put_sum)
  exact ⟨h.prog, h.names, h.mixed, h.sum, h.ovl⟩
theorem brF {b : Bool} {y z : Prop} (h : b = false) (h1 : z) : branch b y z := br (fun h' => by rw [h] at h'; cases h') (fun _ => h1)
theorem brT {b : Bool} {y z : Prop} (h : b = true) (h1 : y) : branch b y z := br (fun _ => h1) (fun h' => by rw [h] at h'; cases h')
theorem put_facts {L : List Pc} {p a : Pc} {l2 : List Pc} {m : List Int} (hj : putJ L p = some (a, l2, m)) : lenD l2 + m.length = lenD L ∧ l2.length ≤ L.length := by
  unfold putJ at hj
  split at hj
  · cases hj
  · rename_i a' i hb
    split at hj
    · cases hj
    · rename_i b j hf
      simp only [Option.some.injEq, Prod.mk.injEq] at hj
      obtain ⟨_, e⟩ := hj
      have h1 := join_len b.t (i + j + 1) L a'.t []
      rw [e] at h1
      exact ⟨by simpa using h1.1, h1.2⟩
def lvT (x : Inp) (T : List Nat) : List Int := (List.range x.n).map fun j => ((x.ct j : Nat) : Int) - ((x.cnt T j : Nat) : Int)
theorem lvT_nil (x : Inp) : lvT x [] = lCt x x.n := by
  unfold lvT lCt Inp.cnt
  simp
theorem cnt_snoc (x : Inp) (T : List Nat) (g j : Nat) : x.cnt (T ++ [g]) j = x.cnt T j + if x.O g = j then 1 else 0 := by
  unfold Inp.cnt
  rw [List.countP_append, List.countP_singleton]
  by_cases h : x.O g = j
  · rw [if_pos (decide_eq_true h), if_pos h]
  · rw [if_neg (by rw [decide_eq_false h]; exact fun h => by cases h), if_neg h]
theorem lvT_getD (x : Inp) (T : List Nat) {j : Nat} (h : j < x.n) : (lvT x T).getD j 0 = ((x.ct j : Nat) : Int) - ((x.cnt T j : Nat) : Int) := by
  unfold lvT
  rw [List.getD_eq_getElem?_getD, List.getElem?_map, List.getElem?_range h]; rfl
theorem lvT_len (x : Inp) (T : List Nat) : (lvT x T).length = x.n := by unfold lvT; simp
theorem lvT_set (x : Inp) (T : List Nat) {g : Nat} (h : x.O g < x.n) : (lvT x T).set (x.O g) (((x.ct (x.O g) : Nat) : Int) - ((x.cnt T (x.O g) : Nat) : Int) - 1) = lvT x (T ++ [g]) := by
  refine List.ext_getElem (by simp [lvT]) fun j h1 h2 => ?_
  rw [List.getElem_set]
  unfold lvT
  simp only [List.getElem_map, List.getElem_range, cnt_snoc]
  by_cases e : x.O g = j
  · rw [if_pos e, if_pos e, ← e]; omega
  · rw [if_neg e, if_neg e]; omega
theorem Kp_keys {tsn : Int} {m : Nat} {G : Nat → Pc} {S E : Nat → Nat} (L : Lay tsn m G S E) {l : List Pc} {P : Nat → Prop} (h : Kp G l P) (hP : ∀ x, P x → x < m) : (keysP l).Nodup := by
  obtain ⟨K, h1, h2, h3⟩ := h
  have e : keysP l = K.map fun g => (G g).t := by
    have := congrArg (List.map Pc.t) h1
    rw [List.map_map, List.map_map] at this
    exact this
  rw [e, List.nodup_iff_pairwise_ne, List.pairwise_map]
  refine List.Pairwise.imp_of_mem ?_ (List.nodup_iff_pairwise_ne.1 h2)
  intro i j hi hj hne e
  exact hne (L.inj (hP i ((h3 i).1 hi)) (hP j ((h3 j).1 hj)) e)
theorem okP_of (x : Inp) (hm : x.st x.n ≤ 60) {l : List Pc} {P : Nat → Prop} (h : Kp x.G l P) (hP : ∀ y, P y → y < x.st x.n) {g : Nat} (hl : l.length ≤ 1000) (hd : lenD l + (x.G g).d.length ≤ 100000000) : okP l (x.G g).t (x.G g).d = true := by
  refine decide_eq_true ⟨by omega, hd, fun q hq => ?_, ?_, ?_, Kp_keys (x.lay (by omega)) h hP⟩
  · obtain ⟨y, _, e⟩ := h.mem hq
    have e2 : q.t = (x.G y).t := t_nb e
    rw [e2, (x.lay (by omega)).t]
    omega
  · rw [(x.lay (by omega)).t]; omega
  · rw [(x.lay (by omega)).t]; omega
theorem mg {α β : Type} (f : α → β) (d : β) {l : List α} {i : Nat} {g : α} (h : l[i]? = some g) : (l.map f).getD i d = f g := by
  rw [List.getD_eq_getElem?_getD, List.getElem?_map, h]; rfl
theorem fb_loop4 (x : Inp) (tu : List Int) (M : Nat) (k : SV → St → Prop) (hm : x.st x.n ≤ 60) (hd : ∀ g, g < x.st x.n → (x.G g).d.length ≤ 20000) (hok : ∀ j, j < x.n → (x.ds.getD j []).length ≠ 0 ∧ 1 ≤ x.zs.getD j 0) (hn : x.n ≤ 60) (hT : ∀ st, k (.sa (.one (bv true))) st) (l : List Nat) (hl : l.Perm (List.range (x.st x.n))) :
    ∀ (rem i : Nat) (kp : List Pc) (cl c : Nat), i + rem = x.st x.n → Kp x.G kp (x.PP (l.take i)) → kp.length ≤ i → lenD kp ≤ i * 20000 → fb4 x tu M k (rem + c + 48) i l (lvT x (l.take i)) ((lenD kp : Nat) : Int) kp cl := by
  have hll : l.length = x.st x.n := by have := hl.length_eq; simpa using this
  have hlt : ∀ g ∈ l, g < x.st x.n := fun g hg => List.mem_range.1 (hl.mem_iff.1 hg)
  have hnd : l.Nodup := hl.nodup_iff.2 List.nodup_range
  intro rem
  induction rem with
  | zero =>
    intro i kp cl c h1 h2 h3 h4
    rw [List.take_of_length_le (by omega)] at h2
    have hk : kp = [] := h2.empty fun g ⟨g1, y, g2, g3, g4⟩ => g4 (hl.mem_iff.2 (List.mem_range.2 (by
      obtain ⟨a, b, c⟩ := x.O_in (hlt g g1)
      have := x.st_mono (i := x.O g + 1) (j := x.n) (by omega)
      omega)))
    subst hk
    unfold fb4 sAll sInp
    rw [show 0 + c + 48 = (0 + c) + 48 from rfl, t_fb4]
    refine Again.mk (brf (by omega) (bret rfl ?_))
    exact hT _
  | succ rem ih =>
    intro i kp cl c h1 h2 h3 h4
    have hi : i < l.length := by omega
    obtain ⟨g, hgi⟩ : ∃ g, l[i]? = some g := ⟨l[i], List.getElem?_eq_getElem hi⟩
    have hgl : g ∈ l := List.mem_of_getElem? hgi
    have hg := hlt g hgl
    have htk : l.take (i + 1) = l.take i ++ [g] := by rw [List.take_add_one, hgi]; rfl
    have hnd' : (l.take i ++ [g]).Nodup := by rw [← htk]; exact hnd.sublist (List.take_sublist _ _)
    have hgn : g ∉ l.take i := fun hc => (List.nodup_append.1 hnd').2.2 g hc g (List.mem_singleton.2 rfl) rfl
    have hTt : ∀ y ∈ l.take i, y < x.st x.n := fun y hy => hlt y (List.mem_of_mem_take hy)
    have hTt' : ∀ y ∈ l.take i ++ [g], y < x.st x.n := fun y hy => by
      rw [← htk] at hy; exact hlt y (List.mem_of_mem_take hy)
    obtain ⟨o1, o2, o3⟩ := x.O_in hg
    have hdg := hd g hg
    have ht := mg (fun g => (x.G g).t) 0 hgi
    have hf := mg (fun g => (x.G g).f) 0 hgi
    have hs := mg (fun g => (x.G g).s) 0 hgi
    have hnn := mg (fun g => (x.G g).n) 0 hgi
    have hp := mg (fun g => (x.G g).p) 0 hgi
    have hdd := mg (fun g => (x.G g).d) [] hgi
    have hO : (lOf x l).getD i 0 = ((x.O g : Nat) : Int) := mg (fun g => ((x.O g : Nat) : Int)) 0 hgi
    have hlo : (lOf x l).length = x.st x.n := by simp [lOf, hll]
    have hlv := lvT_len x (l.take i)
    have hlv2 := lvT_len x (l.take i ++ [g])
    have e0 : 0 + ((i : Nat) : Int).toNat = i := by omega
    have eO : 0 + ((x.O g : Nat) : Int).toNat = x.O g := by omega
    have e6 : addK .i64 ((i : Nat) : Int) 1 = ((i + 1 : Nat) : Int) := by rw [add64 (by omega)]; omega
    have hcl := x.cnt_le (hnd.sublist (List.take_sublist i l)) hTt o1
    have hct : x.ct (x.O g) ≤ 60 := by
      have := x.st_mono (i := x.O g + 1) (j := x.n) (by omega)
      have e : x.st (x.O g + 1) = x.st (x.O g) + x.ct (x.O g) := rfl
      omega
    have hLV : List.set (lvT x (l.take i)) (x.O g) (subK .i64 (List.getD (lvT x (l.take i)) (x.O g) 0) 1) = lvT x (l.take i ++ [g]) := by
      rw [lvT_getD x _ o1, sub64 (by omega)]
      exact lvT_set x _ o1
    have hLVg := lvT_getD x (l.take i ++ [g]) o1
    have hcn := cnt_snoc x (l.take i) g (x.O g)
    rw [if_pos rfl] at hcn
    have hP : ∀ y, x.PP (l.take i) y → y < x.st x.n := fun y hy => hTt y hy.1
    have hok1 := okP_of x hm (g := g) h2 hP (by omega) (by omega)
    have hnew := put_new (x.lay (by omega)) h2 hP hg (fun hc => hgn hc.1) (p := ⟨(x.G g).t, (x.G g).f, (x.G g).s, (x.G g).n, (x.G g).p, (cl : Int), (x.G g).d⟩) rfl
    have ea : addK .i64 ((lenD kp : Nat) : Int) (((x.G g).d.length : Nat) : Int) = ((lenD kp + (x.G g).d.length : Nat) : Int) := by rw [add64 (by omega)]; omega
    unfold fb4 sAll sInp
    rw [show rem + 1 + c + 48 = (rem + 1 + c) + 48 from rfl, t_fb4]
    simp only [toP_map]
    rw [e0, e6, ht, hf, hs, hnn, hp, hdd, hO, eO, hLV, ea]
    refine Again.mk (brt (by omega) (ndd (by omega) (ndd (by omega) (ndd (by omega) (nd (Bool.and_eq_true_iff.2 ⟨decide_eq_true (by simp), hok1⟩) (brF hnew ?_))))))
    have hall := x.cnt_all hnd' hTt' o1
    by_cases hw : x.cnt (l.take i ++ [g]) (x.O g) = x.ct (x.O g)
    · obtain ⟨a, l', W, hj, ha, hW, hk'⟩ := step_whole x (by omega) hTt h2 hg hgn (p := ⟨(x.G g).t, (x.G g).f, (x.G g).s, (x.G g).n, (x.G g).p, (cl : Int), (x.G g).d⟩) rfl (fun y h1 h2 => by
        rcases List.mem_append.1 (hall.1 hw y h1 h2) with hc | hc
        · exact .inl hc
        · exact .inr (List.mem_singleton.1 hc))
      obtain ⟨f1, f2⟩ := put_facts hj
      rw [lenD_append] at f1
      have f3 : lenD [(⟨(x.G g).t, (x.G g).f, (x.G g).s, (x.G g).n, (x.G g).p, (cl : Int), (x.G g).d⟩ : Pc)] = (x.G g).d.length := by simp [lenD]
      rw [f3] at f1
      simp only [List.length_append, List.length_cons, List.length_nil] at f2
      have hB : whB (kp ++ [⟨(x.G g).t, (x.G g).f, (x.G g).s, (x.G g).n, (x.G g).p, (cl : Int), (x.G g).d⟩]) ⟨(x.G g).t, (x.G g).f, (x.G g).s, (x.G g).n, (x.G g).p, (cl : Int), (x.G g).d⟩ = true := by unfold whB; rw [hj]; rfl
      have hA : whA (kp ++ [⟨(x.G g).t, (x.G g).f, (x.G g).s, (x.G g).n, (x.G g).p, (cl : Int), (x.G g).d⟩]) ⟨(x.G g).t, (x.G g).f, (x.G g).s, (x.G g).n, (x.G g).p, (cl : Int), (x.G g).d⟩ = a := by unfold whA; rw [hj]; rfl
      have hL : whL (kp ++ [⟨(x.G g).t, (x.G g).f, (x.G g).s, (x.G g).n, (x.G g).p, (cl : Int), (x.G g).d⟩]) ⟨(x.G g).t, (x.G g).f, (x.G g).s, (x.G g).n, (x.G g).p, (cl : Int), (x.G g).d⟩ = l' := by unfold whL; rw [hj]; rfl
      have hM : whM (kp ++ [⟨(x.G g).t, (x.G g).f, (x.G g).s, (x.G g).n, (x.G g).p, (cl : Int), (x.G g).d⟩]) ⟨(x.G g).t, (x.G g).f, (x.G g).s, (x.G g).n, (x.G g).p, (cl : Int), (x.G g).d⟩ = W := by unfold whM; rw [hj]; rfl
      refine brT hB ?_
      rw [hA, hL, hM]
      have hWd : W = x.ds.getD (x.O g) [] := by rw [hW]; exact x.data hg (hok _ o1).1 (hok _ o1).2
      have hoS : x.O (x.S g) = x.O g := x.O_eq o1 (by unfold Inp.S; omega) (by unfold Inp.S; omega)
      have has : a.s = x.ss.getD (x.O g) 0 := by
        have : a.s = (x.G (x.S g)).s := by rw [← ha]; rfl
        rw [this]; unfold Inp.G; rw [hoS]; rfl
      have hap : a.p = x.ps.getD (x.O g) 0 := by
        have : a.p = (x.G (x.S g)).p := by rw [← ha]; rfl
        rw [this]; unfold Inp.G; rw [hoS]; rfl
      have haf : hasF a.f 4 = x.us.getD (x.O g) false := by
        rw [hasF_nb ha]; unfold Inp.G; rw [hoS]; exact cutF1_4 _ _ _
      have hz : eqK ((lvT x (l.take i ++ [g])).getD (x.O g) 0) 0 = true := eqK_t.2 (by omega)
      rw [hz, has, hap, haf]
      repeat (refine ndd (by first | omega | (simp only [hlv, hlv2, hlo]; omega)) ?_)
      refine brF rfl ?_
      repeat (refine ndd (by first | omega | (simp only [hlv, hlv2, hlo]; omega)) ?_)
      refine brF (by rw [show (x.G g).n = x.ns.getD (x.O g) 0 from rfl, eqK_t.2 rfl]; rfl) ?_
      refine bret rfl (brT (by simp) (bret rfl (ndd (by omega) (ndd (by omega) (brF (by rw [hWd]; simp [strEq]) ?_)))))
      have es : subK .i64 ((lenD kp + (x.G g).d.length : Nat) : Int) ((W.length : Nat) : Int) = ((lenD l' : Nat) : Int) := by rw [sub64 (by omega)]; omega
      rw [es]
      have h := ih (i + 1) l' (cl + 1) c (by omega) (by rw [htk]; exact hk') (by omega) (by omega)
      unfold fb4 sAll sInp at h
      rw [htk] at h
      exact evFuel h (by omega)
    · obtain ⟨y0, y1, y2, y3⟩ : ∃ y, x.st (x.O g) ≤ y ∧ y < x.st (x.O g + 1) ∧ y ∉ l.take i ++ [g] := by
        by_cases hc : ∃ y, x.st (x.O g) ≤ y ∧ y < x.st (x.O g + 1) ∧ y ∉ l.take i ++ [g]
        · exact hc
        · exact absurd (hall.2 fun y h1 h2 => by
            by_cases h3 : y ∈ l.take i ++ [g]
            · exact h3
            · exact absurd ⟨y, h1, h2, h3⟩ hc) hw
      obtain ⟨hj, hk'⟩ := step_part x (by omega) hTt h2 hg hgn (p := ⟨(x.G g).t, (x.G g).f, (x.G g).s, (x.G g).n, (x.G g).p, (cl : Int), (x.G g).d⟩) rfl y1 y2 (fun hc => y3 (List.mem_append_left _ hc)) (fun hc => y3 (List.mem_append_right _ (List.mem_singleton.2 hc)))
      have f1 : lenD (kp ++ [(⟨(x.G g).t, (x.G g).f, (x.G g).s, (x.G g).n, (x.G g).p, (cl : Int), (x.G g).d⟩ : Pc)]) = lenD kp + (x.G g).d.length := by rw [lenD_append]; simp [lenD]
      have f2 : (kp ++ [(⟨(x.G g).t, (x.G g).f, (x.G g).s, (x.G g).n, (x.G g).p, (cl : Int), (x.G g).d⟩ : Pc)]).length = kp.length + 1 := by simp
      have hB : whB (kp ++ [⟨(x.G g).t, (x.G g).f, (x.G g).s, (x.G g).n, (x.G g).p, (cl : Int), (x.G g).d⟩]) ⟨(x.G g).t, (x.G g).f, (x.G g).s, (x.G g).n, (x.G g).p, (cl : Int), (x.G g).d⟩ = false := by unfold whB; rw [hj]; rfl
      have hP' : ∀ y, x.PP (l.take i ++ [g]) y → y < x.st x.n := fun y hy => hTt' y hy.1
      have hold := put_old (x.lay (by omega)) hk' hP' (g := g) ⟨List.mem_append_right _ (List.mem_singleton.2 rfl), y0, y1, y2, y3⟩ (p := ⟨(x.G g).t, (x.G g).f, (x.G g).s, (x.G g).n, (x.G g).p, (cl : Int), (x.G g).d⟩) rfl
      have hok2 := okP_of x hm (g := g) hk' hP' (by omega) (by omega)
      have hz : eqK ((lvT x (l.take i ++ [g])).getD (x.O g) 0) 0 = false := eqK_f.2 (by have := x.cnt_le hnd' hTt' o1; omega)
      refine brF hB ?_
      rw [hz]
      repeat (refine ndd (by first | omega | (simp only [hlv, hlv2, hlo]; omega)) ?_)
      refine brF rfl ?_
      repeat (refine ndd (by first | omega | (simp only [hlv, hlv2, hlo]; omega)) ?_)
      refine nd (Bool.and_eq_true_iff.2 ⟨decide_eq_true (by simp), hok2⟩) (brT hold ?_)
      have h := ih (i + 1) _ (cl + 1) c (by omega) (by rw [htk]; exact hk') (by omega) (by omega)
      unfold fb4 sAll sInp at h
      rw [htk, f1] at h
      exact evFuel h (by omega)
end Go.Ev
