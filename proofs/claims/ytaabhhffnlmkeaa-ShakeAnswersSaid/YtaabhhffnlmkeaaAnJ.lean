/- Opening cookies, told without branches. No conditions. -/
import Derived.Test.YtaabhhffnlmkeaaAnE
import Derived.Test.YtaabhhffnlmkeaaAnR
set_option linter.unusedVariables false
set_option linter.unusedSimpArgs false
set_option maxRecDepth 100000
set_option linter.all false
namespace Go.Ev
open Go Go.Proofs Go.Spec
attribute [local irreducible] ev evCall branch need again
/-- What is handed on in place of what a summary hands on: of a nil list, a list of no elements. -/
def joinK (k : SV → St → Prop) : SV → St → Prop := fun v st => ∃ v2 st2, k v2 st2 ∧ ((v2 = v ∧ st2 = st) ∨
  ∃ (t : Tc) (e : Int), v = .tup [tcbNil t, .one (iv .i64 e)] ∧ v2 = .tup [tcbAt t (.ref (lenL st)), .one (iv .i64 e)] ∧ st2 = st ++ [some (.own true .row 24 1 (.ints .u32 []))])
theorem own_nil (st : St) (k : SC → St → Prop) : ownOf Try.prog 22 st (.raw (.slice none 0 0)) k = k (.ref (lenL st)) (st ++ [some (.own true .row 24 1 (.ints .u32 []))]) := by kernel_rfl
theorem join_sum {g : FuncId} {ps : List VP} {f1 f2 : List VA → (SV → St → Prop) → Prop} (h1 : SumOk Try.prog g (pureSum ps f1)) (hl : ∀ vas, Lin (f2 vas))
    (hf : ∀ (vas : List VA) (st : St) (k : SV → St → Prop), f2 vas (fun v new => match v.ren (upBy (lenL st)), mapO (OO.ren (upBy (lenL st))) new with
      | some v', some new' => k v' (st ++ new')
      | _, _ => False) → f1 vas (fun v new => match v.ren (upBy (lenL st)), mapO (OO.ren (upBy (lenL st))) new with
      | some v', some new' => joinK k v' (st ++ new')
      | _, _ => False)) : SumOk Try.prog g (pureSum ps f2) := by
  refine fun args st => ⟨lin_pureSum hl args st, fun k hk α w vals hR ha => ?_⟩
  unfold pureSum at hk
  obtain ⟨vas, hv1, hv2⟩ := lin_views _ hk
  have h2 : pureSum ps f1 args st (joinK k) := by
    unfold pureSum
    exact hv2 _ (hf vas st k hv1)
  refine ((h1 args st).2 _ h2 α w vals hR ha).mono fun e w' ⟨v, st', β, val, he, hvr, hk', hto⟩ => ?_
  obtain ⟨v2, st2, hk2, h⟩ := hk'
  rcases h with ⟨rfl, rfl⟩ | ⟨t, e', rfl, rfl, rfl⟩
  · exact ⟨v2, st2, β, val, he, hvr, hk2, hto⟩
  · have ho : ownOf Try.prog 22 st' (.raw (.slice none 0 0)) (fun c s => c = .ref (lenL st') ∧ s = st' ++ [some (.own true .row 24 1 (.ints .u32 []))]) := by rw [own_nil]; exact ⟨rfl, rfl⟩
    obtain ⟨β2, c', st3, ⟨rfl, rfl⟩, g2, g3, _⟩ := ownOf_sound (P := Try.prog) (T := 22) (c := .raw (.slice none 0 0)) (v := .slice none 0 0) hto.rep rfl ho
    refine ⟨_, _, β2, val, he, ?_, hk2, hto.trans g2⟩
    obtain ⟨vs, hvs, rfl⟩ := hvr
    match vs, hvs with
    | [a, b], hvs =>
      obtain ⟨⟨us, hus, rfl⟩, hb, _⟩ := hvs
      refine ⟨[.agg us.toArray, b], ⟨⟨us, ?_, rfl⟩, hb, trivial⟩, rfl⟩
      match us, hus with
      | [u0, u1, u2, u3, u4, u5, u6, u7, u8, u9, ua], hus =>
        obtain ⟨q0, q1, q2, q3, q4, q5, q6, q7, q8, q9, qa, _⟩ := hus
        refine ⟨q0, q1, q2, q3, q4, q5, q6, ?_, q8, q9, qa, trivial⟩
        have e7 : (Value.slice none 0 0) = u7 := Option.some.inj q7
        rw [← e7]
        exact g3
theorem fOpen2_lin (vas : List VA) : Lin (fOpen2 vas) := by
  intro k h
  unfold fOpen2 kOpen2 at h ⊢
  split at h
  · exact (Lin.need (Lin.ret _ _)) k h
  · exact h.elim
theorem fROpen2_lin (vas : List VA) : Lin (fROpen2 vas) := by
  intro k h
  unfold fROpen2 kOpen2 at h ⊢
  split at h
  · exact (Lin.need (Lin.ret _ _)) k h
  · exact h.elim
theorem kOpen_join {key b : List Int} {now life : Int} {st : St} {k : SV → St → Prop} (h : kOpen2 (resT key b now life) (openErr key b now life) (fun v new => match v.ren (upBy (lenL st)), mapO (OO.ren (upBy (lenL st))) new with
      | some v', some new' => k v' (st ++ new')
      | _, _ => False)) : kOpen key b now life (fun v new => match v.ren (upBy (lenL st)), mapO (OO.ren (upBy (lenL st))) new with
      | some v', some new' => joinK k v' (st ++ new')
      | _, _ => False) := by
  have h : k (.tup [tcbAt (resT key b now life) (.ref (lenL st)), .one (iv .i64 (openErr key b now life))]) (st ++ [some (.own true .row 24 1 (.ints .u32 (resT key b now life).xs))]) := h
  unfold kOpen
  cases ho : openOk key b now life with
  | false =>
    refine br (fun e => by cases e) (fun _ => ?_)
    have ez : resT key b now life = zT := by unfold resT; rw [ho]
    rw [ez] at h
    show joinK k (.tup [tcbNil zT, .one (iv .i64 (openErr key b now life))]) (st ++ [])
    rw [List.append_nil]
    exact ⟨_, _, h, Or.inr ⟨_, _, rfl, rfl, rfl⟩⟩
  | true =>
    have er : resT key b now life = readT b := by unfold resT; rw [ho]
    have e0 : openErr key b now life = 0 := by
      unfold openOk at ho
      obtain ⟨h1, h2⟩ := Bool.and_eq_true_iff.1 ho
      have h2 : lateB (readT b) now life = false := by simpa using h2
      unfold openErr
      rw [h1, h2]
      rfl
    rw [er, e0] at h
    refine br (fun _ => br (fun hE => ?_) (fun hE => ?_)) (fun e => by cases e)
    · have hxs : (readT b).xs = [] := by simpa [emptyL] using hE
      rw [hxs] at h
      show joinK k (.tup [tcbNil (readT b), .one (iv .i64 0)]) (st ++ [])
      rw [List.append_nil]
      exact ⟨_, _, h, Or.inr ⟨_, _, rfl, rfl, rfl⟩⟩
    · show joinK k (.tup [tcbAt (readT b) (.ref (lenL st)), .one (iv .i64 0)]) (st ++ [some (.own true .row 24 1 (.ints .u32 (readT b).xs))])
      exact ⟨_, _, h, Or.inl ⟨rfl, rfl⟩⟩
theorem open2_sum : SumOk Try.prog 31 sOpen2 := join_sum open_sum fOpen2_lin fun vas st k h => by
  unfold fOpen2 at h
  split at h
  · obtain ⟨h1, h⟩ := need_iff.1 h
    exact nd h1 (kOpen_join h)
  · exact h.elim
theorem ropen2_sum : SumOk Try.prog 12 sROpen2 := join_sum ropen_sum fROpen2_lin fun vas st k h => by
  unfold fROpen2 at h
  split at h
  · obtain ⟨h1, h⟩ := need_iff.1 h
    exact nd h1 (kOpen_join h)
  · exact h.elim
end Go.Ev
