/- Messages that come one behind the other, and their pieces taken in order: one step. Plain facts. No conditions. -/
import Derived.Test.YtipmphkcbhjinaaOjP
set_option linter.unusedVariables false
namespace Go.Spec
open Go Go.Ev
theorem part_lt {s len r : Nat} (hs : 1 ≤ s) (h : r < cutN s len) : r * s < len := by
  unfold cutN at h
  have := (Nat.le_div_iff_mul_le (show 0 < s by omega)).1 (show r + 1 ≤ (len + s - 1) / s from h)
  rw [Nat.succ_mul] at this
  omega
theorem cutN_pos {s len : Nat} (hs : 1 ≤ s) (h : len ≠ 0) : 1 ≤ cutN s len := by
  unfold cutN
  exact (Nat.le_div_iff_mul_le (show 0 < s by omega)).2 (by omega)
theorem cutN_le' {s len : Nat} (h : 1 ≤ s) : cutN s len ≤ len := by
  have : ¬ len < cutN s len := fun hc => by
    have h1 := part_lt h hc
    have := Nat.le_mul_of_pos_right len (show 0 < s by omega)
    omega
  omega
theorem Inp.pieceLen (x : Inp) {g : Nat} (hg : g < x.st x.n) (h0 : (x.ds.getD (x.O g) []).length ≠ 0) (h1 : 1 ≤ x.zs.getD (x.O g) 0) : 1 ≤ (x.G g).d.length ∧ (((x.G g).d.length : Nat) : Int) ≤ x.zs.getD (x.O g) 0 := by
  obtain ⟨a, b, c⟩ := x.O_in hg
  have e : x.st (x.O g + 1) = x.st (x.O g) + x.ct (x.O g) := rfl
  have hr : g - x.st (x.O g) < x.ct (x.O g) := by omega
  have hd : (x.G g).d = ((x.ds.getD (x.O g) []).drop ((g - x.st (x.O g)) * x.sz (x.O g))).take (x.sz (x.O g)) := by
    show (cutD _ _).getD _ [] = _
    have hr2 : g - x.st (x.O g) < cutN (cutS (x.zs.getD (x.O g) 0) (x.ds.getD (x.O g) []).length) (x.ds.getD (x.O g) []).length := hr
    unfold cutD partsL
    rw [List.getD_eq_getElem?_getD, List.getElem?_map, List.getElem?_range hr2]; rfl
  have hs : 1 ≤ x.sz (x.O g) := by unfold Inp.sz cutS; omega
  have hl := part_lt hs hr
  rw [hd, List.length_take, List.length_drop]
  have : x.sz (x.O g) ≤ (x.zs.getD (x.O g) 0).toNat := by unfold Inp.sz cutS; omega
  omega
theorem putj_facts {L : List Pc} {p a : Pc} {l2 : List Pc} {m : List Int} (hj : putJ L p = some (a, l2, m)) : lenD l2 + m.length = lenD L ∧ l2.length ≤ L.length := by
  unfold putJ at hj
  split at hj
  · cases hj
  · rename_i a' i hb
    split at hj
    · cases hj
    · rename_i b j hf
      simp only [Option.some.injEq, Prod.mk.injEq] at hj
      obtain ⟨_, e⟩ := hj
      have h1 := join_len b.t (i + j + 1) L a'.t []
      rw [e] at h1
      exact ⟨by simpa using h1.1, h1.2⟩
theorem kp_nodup {tsn : Int} {m : Nat} {G : Nat → Pc} {S E : Nat → Nat} (L : Lay tsn m G S E) {l : List Pc} {P : Nat → Prop} (h : Kp G l P) (hP : ∀ x, P x → x < m) : (keysP l).Nodup := by
  obtain ⟨K, h1, h2, h3⟩ := h
  have e : keysP l = K.map fun g => (G g).t := by
    have := congrArg (List.map Pc.t) h1
    rw [List.map_map, List.map_map] at this
    exact this
  rw [e, List.nodup_iff_pairwise_ne, List.pairwise_map]
  refine List.Pairwise.imp_of_mem ?_ (List.nodup_iff_pairwise_ne.1 h2)
  intro i j hi hj hne e
  exact hne (L.inj (hP i ((h3 i).1 hi)) (hP j ((h3 j).1 hj)) e)
/-- Where the taking stands: t pieces are out, kk messages whole, l kept. -/
structure OjI (z : Int) (x : Inp) (t kk : Nat) (l : List Pc) : Prop where
  zs : ∀ j, j < x.n → x.zs.getD j 0 = z
  ne : ∀ j, j < x.n → (x.ds.getD j []).length ≠ 0
  kp : Kp x.G l (x.PP (List.range t))
  ht : t ≤ x.st x.n
  k1 : kk ≤ x.n
  k2 : x.st kk ≤ t
  k3 : kk < x.n → t < x.st (kk + 1)
  ll : l.length ≤ t
  ld : lenD l ≤ t * 1500
section
variable {z : Int} {x : Inp} {t kk : Nat} {l : List Pc}
theorem OjI.ct (h : OjI z x t kk l) (hz : 1 ≤ z) {j : Nat} (hj : j < x.n) : 1 ≤ x.ct j := by
  have h1 := h.zs j hj
  have h2 := h.ne j hj
  refine cutN_pos ?_ h2
  unfold Inp.sz cutS
  omega
theorem OjI.O (h : OjI z x t kk l) (ht : t < x.st x.n) : x.O t = kk ∧ kk < x.n := by
  have hk : kk < x.n := by
    by_cases e : kk < x.n
    · exact e
    · have := h.k1
      have := h.k2
      rw [show kk = x.n by omega] at this
      omega
  exact ⟨x.O_eq hk h.k2 (h.k3 hk), hk⟩
theorem OjI.okP (h : OjI z x t kk l) (hm : x.st x.n ≤ 60000) (ht : t < x.st x.n) (hd : (x.G t).d.length ≤ 1500) : okP l (x.G t).t (x.G t).d = true := by
  have h1 := h.ll
  have h2 := h.ld
  have hP : ∀ y, x.PP (List.range t) y → y < x.st x.n := fun y hy => by
    have := List.mem_range.1 hy.1
    omega
  refine decide_eq_true ⟨by omega, by omega, fun q hq => ?_, ?_, ?_, kp_nodup (x.lay (by omega)) h.kp hP⟩
  · obtain ⟨y, _, e⟩ := h.kp.mem hq
    have e2 : q.t = (x.G y).t := t_nb e
    rw [e2, (x.lay (by omega)).t]
    omega
  · rw [(x.lay (by omega)).t]; omega
  · rw [(x.lay (by omega)).t]; omega
theorem OjI.new (h : OjI z x t kk l) (hm : x.st x.n ≤ 60000) (ht : t < x.st x.n) {p : Pc} (ep : nb p = x.G t) : putNo l p.t = false :=
  put_new (x.lay (by omega)) h.kp (fun y hy => by
    have := List.mem_range.1 hy.1
    omega) ht (fun hc => by
    have := List.mem_range.1 hc.1
    omega) ep
theorem OjI.take (h : OjI z x t kk l) (hz : 1 ≤ z ∧ z ≤ 1472) (hm : x.st x.n ≤ 60000) (ht : t < x.st x.n) {p : Pc} (ep : nb p = x.G t) :
    (∃ a l' W, putJ (l ++ [p]) p = some (a, l', W) ∧ a.s = x.ss.getD kk 0 ∧ a.p = x.ps.getD kk 0 ∧ hasF a.f 4 = x.us.getD kk false ∧ W = x.ds.getD kk [] ∧ (x.G t).n = x.ns.getD kk 0 ∧ lenD l' + W.length = lenD l + (x.G t).d.length ∧ OjI z x (t + 1) (kk + 1) l')
    ∨ (putJ (l ++ [p]) p = none ∧ lenD (l ++ [p]) = lenD l + (x.G t).d.length ∧ OjI z x (t + 1) kk (l ++ [p])) := by
  obtain ⟨ho, hk⟩ := h.O ht
  have hTt : ∀ y ∈ List.range t, y < x.st x.n := fun y hy => by
    have := List.mem_range.1 hy
    omega
  have hn : t ∉ List.range t := fun hc => by
    have := List.mem_range.1 hc
    omega
  have hzk := h.zs kk hk
  have hnk := h.ne kk hk
  have hlen := x.pieceLen ht (by rw [ho]; exact hnk) (by rw [ho]; omega)
  rw [ho] at hlen
  have h3 := h.k3 hk
  have es : x.st (kk + 1) = x.st kk + x.ct kk := rfl
  have h2 := h.k2
  have hll := h.ll
  have hld := h.ld
  have hpd : p.d = (x.G t).d := by rw [← ep]; rfl
  have f1 : lenD (l ++ [p]) = lenD l + (x.G t).d.length := by rw [lenD_append, ← hpd]; simp [lenD]
  have f2 : (l ++ [p]).length = l.length + 1 := by simp
  by_cases hw : t + 1 = x.st (kk + 1)
  · refine .inl ?_
    obtain ⟨a, l', W, hj, ha, hW, hk'⟩ := step_whole x (by omega) hTt h.kp ht hn ep ((x.last ht).2 (by rw [ho]; exact hw))
    obtain ⟨g1, g2⟩ := putj_facts hj
    have hoS : x.O (x.S t) = kk := by
      refine x.O_eq hk ?_ ?_ <;> unfold Inp.S <;> rw [ho] <;> omega
    have hS : x.G (x.S t) = x.Gi kk (x.S t) := by unfold Inp.G; rw [hoS]
    refine ⟨a, l', W, hj, ?_, ?_, ?_, ?_, ?_, ?_, ?_⟩
    · have : a.s = (x.G (x.S t)).s := by rw [← ha]; rfl
      rw [this, hS]; rfl
    · have : a.p = (x.G (x.S t)).p := by rw [← ha]; rfl
      rw [this, hS]; rfl
    · rw [hasF_nb ha, hS]; exact cutF1_4 _ _ _
    · rw [hW]
      have := x.data ht (by rw [ho]; exact hnk) (by rw [ho]; omega)
      rw [ho] at this
      exact this
    · unfold Inp.G; rw [ho]; rfl
    · rw [← f1]; exact g1
    · refine ⟨h.zs, h.ne, ?_, by omega, by omega, by omega, fun hk2 => ?_, by omega, by omega⟩
      · rw [List.range_succ]; exact hk'
      · have := h.ct hz.1 hk2
        have e2 : x.st (kk + 1 + 1) = x.st (kk + 1) + x.ct (kk + 1) := rfl
        omega
  · refine .inr ?_
    obtain ⟨hj, hk'⟩ := step_part x (by omega) hTt h.kp ht hn ep (y0 := t + 1) (by rw [ho]; omega) (by rw [ho]; omega) (fun hc => by
      have := List.mem_range.1 hc
      omega) (by omega)
    refine ⟨hj, f1, h.zs, h.ne, ?_, by omega, h.k1, by omega, fun _ => by omega, by omega, by omega⟩
    rw [List.range_succ]; exact hk'
theorem OjI.fin (h : OjI z x t kk l) (hz : 1 ≤ z) (ht : t = x.st x.n) : kk = x.n ∧ l = [] := by
  constructor
  · by_cases e : kk < x.n
    · have := h.k3 e
      have := x.st_mono (i := kk + 1) (j := x.n) (by omega)
      omega
    · have := h.k1
      omega
  · refine h.kp.empty fun g hg => ?_
    obtain ⟨g1, y, g2, g3, g4⟩ := hg
    have g1 := List.mem_range.1 g1
    obtain ⟨a, b, c⟩ := x.O_in (show g < x.st x.n by omega)
    have := x.st_mono (i := x.O g + 1) (j := x.n) (by omega)
    exact g4 (List.mem_range.2 (by omega))
end
theorem OjI.nil (z tsn : Int) : OjI z (mkI tsn z [] [] [] [] []) 0 0 [] :=
  ⟨fun j hj => absurd hj (Nat.not_lt_zero _), fun j hj => absurd hj (Nat.not_lt_zero _), kp_nil.congr fun y => ⟨False.elim, fun h => by have := h.1; simp at this⟩, Nat.le_refl _, Nat.le_refl _, Nat.le_refl _, fun h => absurd h (Nat.not_lt_zero _), Nat.le_refl _, by simp [lenD]⟩
theorem OjI.grow {tsn z : Int} {ss : List Int} {us : List Bool} {ps : List Int} {ds : List (List Int)} {ns : List Int} {s p nn : Int} {u : Bool} {d : List Int} {t kk : Nat} {l : List Pc} (hz : 1 ≤ z) (h : OjI z (mkI tsn z ss us ps ds ns) t kk l) (h2 : us.length = ss.length) (h3 : ps.length = ss.length) (h4 : ds.length = ss.length) (h5 : ns.length = ss.length) (hd : d.length ≠ 0) :
    OjI z (mkI tsn z (ss ++ [s]) (us ++ [u]) (ps ++ [p]) (ds ++ [d]) (ns ++ [nn])) t kk l := by
  have hn : (mkI tsn z (ss ++ [s]) (us ++ [u]) (ps ++ [p]) (ds ++ [d]) (ns ++ [nn])).n = ss.length + 1 := by
    show (ss ++ [s]).length = _
    simp
  have hst := fun {i : Nat} (hi : i ≤ ss.length) => grow_st tsn z ss us ps ds ns s p nn u d h4 hi
  have ht := h.ht
  have k1 : kk ≤ ss.length := h.k1
  have hT : ∀ g ∈ List.range t, g < (mkI tsn z ss us ps ds ns).st ss.length := fun g hg => by
    have := List.mem_range.1 hg
    have ht : t ≤ (mkI tsn z ss us ps ds ns).st ss.length := ht
    omega
  have hzs : ∀ j, j < ss.length + 1 → (List.replicate (ss ++ [s]).length z).getD j 0 = z := fun j hj => getD_rep z 0 (by simpa using hj)
  have hne : ∀ j, j < ss.length + 1 → ((ds ++ [d]).getD j []).length ≠ 0 := fun j hj => by
    by_cases e : j < ss.length
    · rw [getD_app ds d [] (by omega)]; exact h.ne j e
    · rw [show j = ss.length by omega, getD_end ds d [] h4]; exact hd
  have e2 : (mkI tsn z (ss ++ [s]) (us ++ [u]) (ps ++ [p]) (ds ++ [d]) (ns ++ [nn])).st (ss.length + 1) = (mkI tsn z ss us ps ds ns).st ss.length + cutN (cutS z d.length) d.length := by
    show Inp.st _ ss.length + Inp.ct _ ss.length = _
    rw [hst (Nat.le_refl _), grow_ctn tsn z ss us ps ds ns s p nn u d h4]
  have hp : 1 ≤ cutN (cutS z d.length) d.length := cutN_pos (by unfold cutS; omega) hd
  have ht' : t ≤ (mkI tsn z ss us ps ds ns).st ss.length := ht
  refine ⟨fun j hj => hzs j (by omega), fun j hj => hne j (by omega), ?_, ?_, by omega, ?_, ?_, h.ll, h.ld⟩
  · refine (h.kp.congrG fun g hg => ?_).congr fun g => ?_
    · exact grow_G tsn z ss us ps ds ns s p nn u d h2 h3 h4 h5 (hT g hg.1)
    · exact (grow_PP tsn z ss us ps ds ns s p nn u d h4 hT g).symm
  · rw [hn, e2]; omega
  · rw [hst k1]; exact h.k2
  · intro _
    by_cases e : kk < ss.length
    · rw [hst (by omega)]; exact h.k3 e
    · rw [show kk = ss.length by omega, e2]; omega
end Go.Spec
