/- What a joiner does with a piece: the summary. No conditions. -/
import Derived.Test.YtipmphkcbhjinaaFkP
set_option linter.unusedVariables false
namespace Go.Ev
open Go Go.Proofs Go.Spec
attribute [local irreducible] ev evCall branch need again
theorem map_range_getD {α : Type} (d : α) (l : List α) (n : Nat) (h : l.length = n) : (List.range n).map (fun i => l.getD i d) = l := by
  subst h
  refine List.ext_getElem (by simp) fun i h1 h2 => ?_
  simp only [List.getElem_map, List.getElem_range, List.getD_eq_getElem?_getD, List.getElem?_eq_getElem h2, Option.getD_some]
theorem toP_cols {ks fs ss ns ps bs : List Int} {ds : List (List Int)} (e1 : fs.length = ks.length) (e2 : ss.length = ks.length) (e3 : ns.length = ks.length) (e4 : ps.length = ks.length) (e5 : bs.length = ks.length) (e6 : ds.length = ks.length) :
    ks = (toP ks fs ss ns ps bs ds).map Pc.t ∧ fs = (toP ks fs ss ns ps bs ds).map Pc.f ∧ ss = (toP ks fs ss ns ps bs ds).map Pc.s ∧ ns = (toP ks fs ss ns ps bs ds).map Pc.n ∧ ps = (toP ks fs ss ns ps bs ds).map Pc.p ∧ bs = (toP ks fs ss ns ps bs ds).map Pc.b ∧ ds = (toP ks fs ss ns ps bs ds).map Pc.d := by
  unfold toP
  simp only [List.map_map]
  refine ⟨(map_range_getD 0 ks _ rfl).symm, (map_range_getD 0 fs _ e1).symm, (map_range_getD 0 ss _ e2).symm, (map_range_getD 0 ns _ e3).symm, (map_range_getD 0 ps _ e4).symm, (map_range_getD 0 bs _ e5).symm, (map_range_getD [] ds _ e6).symm⟩
theorem sPut_lin (args : List SA) (st : St) : Lin (sPut args st) := by
  intro k h
  unfold sPut at h ⊢
  split at h
  · unfold putK at h ⊢
    exact (Lin.need (Lin.branch (Lin.ret _ _) (Lin.branch (Lin.ret _ _) (Lin.ret _ _)))) k h
  · exact h.elim
theorem putJ_run (M : Nat) (held : Int) (cl : Nat) (w : Bool) (kk : MK) (T8 : Nat) (xs : List Int) (p : Pc) (l : List Pc) (k : SV → St → Prop) (hM : 2 * l.length + 4 ≤ M) (hl : l.length ≤ 1000000) (hd : lenD l ≤ 100000000) (ht : 0 ≤ p.t ∧ p.t < 4294967296)
    (hS : whB l p = true → k (.tup [.agg [iv .u16 (whA l p).s, bv (hasF (whA l p).f 4), iv .u32 (whA l p).p, .ref 3], .one (iv .u16 p.n), .one (bv true)]) [joinO (subK .i64 held (((whM l p).length : Nat) : Int)), keptL (whL l p) cl, (some (.own w kk T8 1 (.ints .u8 xs))), own8 (whM l p)])
    (hF : whB l p = false → k noneV [joinO held, keptL l cl, (some (.own w kk T8 1 (.ints .u8 xs)))]) (T : Nat) : ev1 M held l cl (some (.own w kk T8 1 (.ints .u8 xs))) p T p T xs p T xs M k := by
  obtain ⟨C, rfl⟩ : ∃ C, M = (l.length + 1) + C := ⟨M - (l.length + 1), by omega⟩
  refine bk_run _ held l cl w kk T8 xs p T p T xs k (l.length + 1) C p T xs (bOk_of l p hl p.t _ 0 p (by omega) (fun i h => by omega) (by omega)) (fun hb => hF ?_) (fun r i hb T1 zs => ?_)
  · unfold whB putJ; rw [hb]; rfl
  · obtain ⟨r1, r2, r3, r4⟩ := back_t hb ht.1 ht.2
    refine fw_run _ held l cl w kk T8 xs p T r T1 zs k (l.length + 1) C p T xs (fOk_of l p hl p.t _ 0 p (by omega) (fun i h => by omega) (by omega)) (fun hf => hF ?_) (fun q j hf T2 us => ?_)
    · unfold whB putJ; rw [hb]; dsimp only; rw [hf]; rfl
    · obtain ⟨q1, q2⟩ := forw_t hf ht.1 ht.2
      have hj : putJ l p = some (r, joinP q.t (i + j + 1) l r.t []) := by unfold putJ; rw [hb]; dsimp only; rw [hf]
      obtain ⟨D, hD⟩ : ∃ D, (l.length + 1) + C = (i + j) + D := ⟨(l.length + 1) + C - (i + j), by omega⟩
      have h := hS (by unfold whB; rw [hj]; rfl)
      unfold whA whL whM at h
      rw [hj] at h
      have := jn_run (l.length + 1 + C) held cl w kk T8 xs p T r q T2 us k (i + j) D l r.t [] r3 r4 (by omega) (by simpa using hd) h
      rw [← hD] at this
      exact this
theorem put_sum : SumOk Try.prog 28 sPut := by
  refine sumOk_of cxK_ok sPut_lin fun args st k h => ?_
  unfold sPut at h
  split at h
  · rename_i t f s n p held ks ts fs ss ns ps ds bs cl w kk T8 xs
    obtain ⟨h1, hK⟩ := need_iff.1 h
    clear h
    obtain ⟨h1, h2⟩ := Bool.and_eq_true_iff.1 h1
    obtain ⟨e0, e1, e2, e3, e4, e5, e6⟩ := of_decide_eq_true h1
    obtain ⟨c0, c1, c2, c3, c4, c5, c6⟩ := toP_cols e1 e2 e3 e4 e5 e6
    subst e0
    generalize toP ts fs ss ns ps bs ds = l at hK h2 c0 c1 c2 c3 c4 c5 c6
    subst c0 c1 c2 c3 c4 c5 c6
    obtain ⟨o1, o2, o3, o4, o5, o6⟩ := of_decide_eq_true h2
    refine ⟨(2 * l.length + 10) + 60, ?_⟩
    have hput := t_put w kk T8 held t f s n p xs (l.map Pc.t) (l.map Pc.t) (l.map Pc.f) (l.map Pc.s) (l.map Pc.n) (l.map Pc.p) (l.map Pc.b) (l.map Pc.d) cl (2 * l.length + 10) k
    unfold joinO keptT iv obj at hput
    rw [hput]
    unfold putK at hK
    rcases branch_or hK with ⟨e, h⟩ | ⟨e, h⟩
    · have e := of_decide_eq_true e
      refine brt (lookLt.2 e) ?_
      exact h
    · have e := of_decide_eq_false e
      have e' : ¬ idxI t (l.map Pc.t) < (l.map Pc.t).length := fun h => e (lookLt.1 h)
      have hx : xs.length ≤ 100000000 := by omega
      refine brf e' (ndd (by omega) (ndd (by rw [take_all]; omega) (ndd (by omega) (brf e' ?_))))
      have hk := putJ_run (2 * l.length + 10) (addK .i64 held ((xs.length : Nat) : Int)) (cl + 1) w kk T8 xs ⟨t, f, s, n, p, (cl : Int), xs⟩ (l ++ [⟨t, f, s, n, p, (cl : Int), xs⟩]) k (by simp; omega) (by simp; omega)
        (by rw [lenD_append]; simp [lenD] at o2 ⊢; omega) ⟨o4, o5⟩ (fun hb => by
          rcases branch_or h with ⟨_, h⟩ | ⟨e, h⟩
          · exact h
          · rw [e] at hb; cases hb) (fun hb => by
          rcases branch_or h with ⟨e, h⟩ | ⟨_, h⟩
          · rw [e] at hb; cases hb
          · exact h) 5
      unfold ev1 k3 frK stL stK keptT joinO iv obj at hk
      simp only [List.map_append, List.map_cons, List.map_nil] at hk
      simp only [take_all, List.length_map]
      rw [fitL_same 0 l.length (l.map Pc.t) (by simp), fitL_same 0 l.length (l.map Pc.f) (by simp), fitL_same 0 l.length (l.map Pc.s) (by simp), fitL_same 0 l.length (l.map Pc.n) (by simp), fitL_same 0 l.length (l.map Pc.p) (by simp), fitL_same [] l.length (l.map Pc.d) (by simp)]
      exact hk
  · exact h.elim
end Go.Ev
