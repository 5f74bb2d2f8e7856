/- Part D of a checked reader of the program form: what it computes on an abstract state is what the model does, in any order of a region. No conditions. -/
import Derived.Test.YtjeinfbicgpkiaaEvC
import Derived.LoopNIn
import Derived.Below
import Derived.IntWalk
import Derived.WalkKit
import Derived.ProofKit
import Derived.ChangeOld
import Derived.OpenShut
import Derived.SizedLaws
set_option linter.unusedSimpArgs false
set_option linter.unusedVariables false
/- THE ENGINE, part 24: an evaluation hands on one thing alone, and more fuel does no harm; code, sound. -/
namespace Go.Ev
open Go
variable {P : Program}
def LinG {β : Type} (f : (β → Prop) → Prop) : Prop := ∀ k, f k → ∃ b, k b ∧ ∀ k2 : β → Prop, k2 b → f k2
def FLin (f : (Fr → St → Prop) → Prop) : Prop := ∀ k, f k → ∃ v s, k v s ∧ ∀ k2 : Fr → St → Prop, k2 v s → f k2
def XLin (f : (Exit → Fr → St → Prop) → Prop) : Prop := ∀ k, f k → ∃ e v s, k e v s ∧ ∀ k2 : Exit → Fr → St → Prop, k2 e v s → f k2
theorem evGuard_or {ops : List Oper} {o : Oper} {fr : Fr} {run skip : Fr → Prop} (h : evGuard ops o fr run skip) :
    (∃ fr', run fr' ∧ ∀ run2 skip2 : Fr → Prop, run2 fr' → evGuard ops o fr run2 skip2) ∨ (∃ fr', skip fr' ∧ ∀ run2 skip2 : Fr → Prop, skip2 fr' → evGuard ops o fr run2 skip2) := by
  unfold evGuard at h ⊢
  split at h
  · exact .inl ⟨_, h, fun _ _ x => x⟩
  · split at h
    · exact .inr ⟨_, h, fun _ _ x => x⟩
    · split at h
      · exact .inr ⟨_, h, fun _ _ x => x⟩
      · split at h
        · split at h
          · rcases branch_or h with ⟨e, h⟩ | ⟨e, h⟩
            · exact .inl ⟨_, h, fun _ _ x => branch_iff.2 (.inl ⟨e, x⟩)⟩
            · exact .inr ⟨_, h, fun _ _ x => branch_iff.2 (.inr ⟨e, x⟩)⟩
          · rcases branch_or h with ⟨e, h⟩ | ⟨e, h⟩
            · exact .inr ⟨_, h, fun _ _ x => branch_iff.2 (.inl ⟨e, x⟩)⟩
            · exact .inl ⟨_, h, fun _ _ x => branch_iff.2 (.inr ⟨e, x⟩)⟩
        · exact .inr ⟨_, h, fun _ _ x => x⟩
        · exact h.elim
theorem lin_ops {cx : Cx} {call : CallT} (hc : CallLin call) {all : List Oper} : ∀ {rest : List Oper} {fr : Fr} {st : St}, FLin (evOps cx call all rest fr st)
  | [], fr, st, k, h => ⟨fr, st, h, fun _ h => h⟩
  | o :: r, fr, st, k, h => by
    simp only [evOps, forceV_eq] at h ⊢
    rcases evGuard_or h with ⟨fr', h, hg⟩ | ⟨fr', h, hg⟩
    · obtain ⟨v, s, h1, h2⟩ := lin_op hc _ h
      obtain ⟨v', s', h3, h4⟩ := lin_ops hc _ h1
      exact ⟨v', s', h3, fun k2 hk => hg _ _ (h2 _ (h4 _ hk))⟩
    · obtain ⟨v', s', h3, h4⟩ := lin_ops hc _ h
      exact ⟨v', s', h3, fun k2 hk => hg _ _ (h4 _ hk)⟩
theorem lin_draw {cx : Cx} {call : CallT} (hc : CallLin call) {all : List Oper} : ∀ {rest : List Oper} {fr : Fr} {st : St} {log : List Rec}, FLin (evDraw cx call all rest fr st log)
  | [], fr, st, log, k, h => by
    simp only [evDraw, forceV_eq, forceL_eq, forceS_eq] at h ⊢
    split at h
    · exact ⟨fr, st, h, fun _ h => h⟩
    · exact h.elim
  | o :: r, fr, st, log, k, h => by
    simp only [evDraw, forceV_eq, forceL_eq, forceS_eq] at h ⊢
    rcases evGuard_or h with ⟨fr', h, hg⟩ | ⟨fr', h, hg⟩
    · split at h
      · rename_i hb
        obtain ⟨v, s, h1, h2⟩ := lin_op hc _ h
        obtain ⟨hs, h1⟩ := stillIf_iff.1 h1
        obtain ⟨v', s', h3, h4⟩ := lin_draw hc _ h1
        refine ⟨v', s', h3, fun k2 hk => hg _ _ ?_⟩
        rw [hb]
        exact h2 _ (stillIf_iff.2 ⟨hs, h4 _ hk⟩)
      · exact h.elim
    · obtain ⟨v', s', h3, h4⟩ := lin_draw hc _ h
      exact ⟨v', s', h3, fun k2 hk => hg _ _ (h4 _ hk)⟩
theorem lin_results {fr : Fr} : ∀ {rs : List ResultVar} {st : St}, Lin2 (evResults P fr rs st)
  | [], st => Lin2.ret _ _
  | .tmp t :: r, st => by
    intro k h
    simp only [evResults] at h ⊢
    split at h
    · obtain ⟨l, s, h1, h2⟩ := lin_results _ h
      exact ⟨_, s, h1, fun k2 hk => h2 _ hk⟩
    · exact h.elim
  | .cell t T :: r, st => by
    intro k h
    simp only [evResults] at h ⊢
    split at h
    · obtain ⟨v, s1, h1, h2⟩ := lin_load _ h
      split at h1
      · obtain ⟨l, s, h3, h4⟩ := lin_results _ h1
        exact ⟨_, s, h3, fun k2 hk => h2 _ (h4 _ hk)⟩
      · exact h1.elim
    · exact h.elim
theorem lin_collect {n0 : Nat} {v : SV} {st : St} : Lin (collect n0 v st) := by
  intro k h
  unfold collect at h ⊢
  split at h
  · exact Lin.ret _ _ k h
  · dsimp only at h ⊢
    split at h
    · exact Lin.ret _ _ k h
    · exact h.elim
theorem step_scopeR {b : Frame} {a : Act} {k : List Item} {cs : List Frame} {w : World} {c : Code} : step P (lone (b.atR a (.code (.scope c) :: k)) cs w) = .next (lone (b.atR a (.code c :: .inScope c :: k)) cs w) :=
  step_lone_go (by simp [stepG, stepG.exec, Frame.atR])
theorem step_inScopeR {b : Frame} {a : Act} {k : List Item} {cs : List Frame} {w : World} {c : Code} : step P (lone (b.atR a (.inScope c :: k)) cs w) = .next (lone (b.atR a k) cs w) :=
  step_lone_go (by simp [stepG, stepG.exec, Frame.atR])
theorem wpIn_scope {F : Fence} {n : Nat} {Q : Exit → Act → World → Prop} {a : Act} {w : World} {c : Code} (h : c.wpIn F n P (fun e a w => match e with | .goto _ => False | e => Q e a w) a w) : (Code.scope c).wpIn F n P Q a w := by
  intro b k cs hro hb hr
  have h0 : (lone (b.atR a (.code (.scope c) :: k)) cs w).fenced P F := fenced_calm hb hr rfl
  obtain ⟨e, a₁, w₁, hq, harr⟩ := h b (.inScope c :: k) cs hro hb hr
  cases e with
  | normal => exact ⟨.normal, a₁, w₁, hq, .head h0 step_scopeR (StepsIn.trans harr (.one (fenced_calm hb hr rfl) step_inScopeR))⟩
  | exit id =>
    have hx : exitTo id (.inScope c :: k) = exitTo id k := by simp [exitTo]
    exact ⟨_, a₁, w₁, hq, fun k' hk => .head h0 step_scopeR (harr.1 k' (by rw [hx]; exact hk)),
      fun hr' hk => let ⟨k₁, h1, h2⟩ := harr.2 hr' (by rw [hx]; exact hk); ⟨k₁, h1, .head h0 step_scopeR h2⟩⟩
  | goto l => exact hq.elim
  | ret => exact ⟨_, a₁, w₁, hq, .of_steps (.one h0 step_scopeR) harr⟩
  | panic ch => exact ⟨_, a₁, w₁, hq, .of_steps (.one h0 step_scopeR) harr⟩
  | outgrown => exact ⟨_, a₁, w₁, hq, .of_steps (.one h0 step_scopeR) harr⟩
def RunLin (run : RunT) : Prop := ∀ n0 f c fr st, XLin (run n0 f c fr st)
def SumLin (cx : Cx) : Prop := (∀ g s, cx.sum g = some s → ∀ args st, Lin (s args st)) ∧ ∀ f i h, cx.hand f i = some h → ∀ args st, Lin (h.s args st)
theorem lin_onPart {s : List SA → St → (SV → St → Prop) → Prop} (hs : ∀ args st, Lin (s args st)) {args : List SA} {st : St} : Lin (onPart s args st) := by
  intro k h
  unfold onPart at h ⊢
  dsimp only at h ⊢
  split at h
  · obtain ⟨v, loc, h1, h2⟩ := hs _ _ _ h
    split at h1
    · rename_i v' loc2 h3 h4
      refine ⟨_, _, h1, fun k2 hk => h2 _ ?_⟩
      rw [h3, h4]
      exact hk
    · exact h1.elim
  · exact h.elim
theorem XLin.ret (e : Exit) (v : Fr) (s : St) : XLin (fun k => k e v s) := fun _ h => ⟨e, v, s, h, fun _ h => h⟩
theorem XLin.branch {b : Bool} {f g : (Exit → Fr → St → Prop) → Prop} (hf : XLin f) (hg : XLin g) : XLin (fun k => Ev.branch b (f k) (g k)) := fun k h => by
  rcases branch_or h with ⟨hb, h⟩ | ⟨hb, h⟩
  · obtain ⟨e, v, s, h1, h2⟩ := hf k h
    exact ⟨e, v, s, h1, fun k2 h => branch_iff.2 (.inl ⟨hb, h2 k2 h⟩)⟩
  · obtain ⟨e, v, s, h1, h2⟩ := hg k h
    exact ⟨e, v, s, h1, fun k2 h => branch_iff.2 (.inr ⟨hb, h2 k2 h⟩)⟩
theorem lin_endRound {q n0 : Nat} {j : Option Code} {st : St} : Lin (endRound q n0 j st) := by
  intro k h
  unfold endRound at h ⊢
  split at h
  · exact lin_collect k h
  · exact h.elim
theorem lin_kRound {q n0 : Nat} {ex : Exit} {fr : Fr} {st : St} : Lin (fun k => kRound q n0 k ex fr st) := by
  intro k h
  cases ex with
  | normal => exact lin_endRound k h
  | ret => exact lin_endRound k h
  | exit id => exact lin_endRound k h
  | goto _ => exact h.elim
  | panic _ => exact h.elim
  | outgrown => exact h.elim
theorem lin_kAssign {run : RunT} (hr : RunLin run) {q n0 f : Nat} {b : Code} {ex : Exit} {fr : Fr} {st : St} : Lin (fun k => kAssign run q n0 f b k ex fr st) := by
  intro k h
  unfold kAssign at h ⊢
  split at h
  · split at h
    · obtain ⟨e2, v2, s2, h1, h2⟩ := hr _ _ _ _ _ _ h
      obtain ⟨v, s, h3, h4⟩ := lin_kRound k h1
      exact ⟨v, s, h3, fun k2 hk => h2 _ (h4 _ hk)⟩
    · exact h.elim
  · exact h.elim
theorem lin_round {run : RunT} (hr : RunLin run) {q : Nat} {args : List SA} {st : St} : Lin (evRound run q args st) := by
  intro k h
  unfold evRound at h ⊢
  split at h
  · obtain ⟨fr1, hp, h⟩ := opt_iff.1 h
    obtain ⟨e2, v2, s2, h1, h2⟩ := hr _ _ _ _ _ _ h
    obtain ⟨v, s, h3, h4⟩ := lin_kAssign hr k h1
    exact ⟨v, s, h3, fun k2 hk => opt_iff.2 ⟨_, hp, h2 _ (h4 _ hk)⟩⟩
  · exact h.elim
theorem lin_call {cx : Cx} (hsum : SumLin cx) {run : RunT} (hr : RunLin run) : CallLin (evCall cx run) := by
  intro g args st k h
  unfold evCall at h ⊢
  split at h
  · exact lin_round hr k h
  split at h
  · split at h
    · rename_i fn _ _ _ _
      split at h
      · rename_i s hs
        exact lin_onPart (hsum.1 g s hs) k h
      obtain ⟨ex, fr, s, h1, h2⟩ := hr _ _ _ _ _ _ h
      have fin : evResults cx.P fr fn.results.toList s (fun l s2 => collect (lenL st) (resultV l) s2 k) → ∃ v s', k v s' ∧ ∀ k2 : SV → St → Prop, k2 v s' → evResults cx.P fr fn.results.toList s (fun l s2 => collect (lenL st) (resultV l) s2 k2) := by
        intro h
        obtain ⟨l, s2, h3, h4⟩ := lin_results _ h
        obtain ⟨v, s', h5, h6⟩ := lin_collect _ h3
        exact ⟨v, s', h5, fun k2 hk => h4 _ (h6 _ hk)⟩
      cases ex with
      | normal => obtain ⟨v, s', h3, h4⟩ := fin h1; exact ⟨v, s', h3, fun k2 hk => h2 _ (h4 _ hk)⟩
      | ret => obtain ⟨v, s', h3, h4⟩ := fin h1; exact ⟨v, s', h3, fun k2 hk => h2 _ (h4 _ hk)⟩
      | exit _ => exact h1.elim
      | goto _ => exact h1.elim
      | panic _ => exact h1.elim
      | outgrown => exact h1.elim
    · exact h.elim
  · exact h.elim
theorem lin_ownPart {E : Option Ct} {st : St} {o i n : Nat} {c : Option Nat} : Lin2 (ownPart E st o i n c) := by
  intro k h
  unfold ownPart at h ⊢
  split at h
  · obtain ⟨h1, h⟩ := need_iff.1 h
    obtain ⟨h2, h⟩ := need_iff.1 h
    exact ⟨_, _, h, fun k2 hk => need_iff.2 ⟨h1, need_iff.2 ⟨h2, hk⟩⟩⟩
  · split at h
    · obtain ⟨h1, h⟩ := need_iff.1 h
      obtain ⟨h2, h⟩ := need_iff.1 h
      exact ⟨_, _, h, fun k2 hk => need_iff.2 ⟨h1, need_iff.2 ⟨h2, hk⟩⟩⟩
    · exact h.elim
  · exact h.elim
theorem lin_ownOf {T : TypeId} {st : St} {c : SC} : Lin2 (ownOf P T st c) := by
  intro k h
  unfold ownOf at h ⊢
  split at h
  · split at h
    · split at h
      · split at h
        · exact ⟨_, _, h, fun _ hk => hk⟩
        · exact h.elim
      · exact h.elim
    · exact h.elim
  · split at h
    · exact ⟨_, _, h, fun _ hk => hk⟩
    · exact ⟨_, _, h, fun _ hk => hk⟩
    · split at h
      · exact lin_ownPart k h
      · exact h.elim
    · exact h.elim
  · obtain ⟨h1, h⟩ := need_iff.1 h
    obtain ⟨v, s, h2, h3⟩ := lin_ownPart k h
    exact ⟨v, s, h2, fun k2 hk => need_iff.2 ⟨h1, h3 k2 hk⟩⟩
  · exact h.elim
theorem lin_iceC {st : St} {c : SC} : Lin2 (iceC st c) := by
  intro k h
  unfold iceC at h ⊢
  split at h
  · split at h
    · exact ⟨_, _, h, fun _ hk => hk⟩
    · exact ⟨_, _, h, fun _ hk => hk⟩
    · exact h.elim
  · exact h.elim
theorem lin_ownOfT {T : TypeId} {st : St} {c : SC} : Lin2 (ownOfT P T st c) := by
  intro k h
  unfold ownOfT at h ⊢
  split at h
  · exact lin_ownOf k h
  · obtain ⟨v, s, h1, h2⟩ := lin_ownOf _ h
    obtain ⟨v', s', h3, h4⟩ := lin_iceC _ h1
    exact ⟨v', s', h3, fun k2 hk => h2 _ (h4 _ hk)⟩
theorem lin_tidyCell {T : TypeId} {st : St} {o i j : Nat} : LinG (tidyCell P T st o i j) := by
  intro k h
  unfold tidyCell at h ⊢
  split at h
  · dsimp only at h ⊢
    split at h
    · rename_i hj hi
      obtain ⟨c, s, h1, h2⟩ := lin_ownOfT _ h
      split at h1
      · rename_i hs
        refine ⟨_, h1, fun k2 hk => h2 _ ?_⟩
        rw [hs]
        exact hk
      · exact h1.elim
    · exact h.elim
  · exact h.elim
theorem lin_tidyAt {T : TypeId} {st : St} : ∀ {path : List Nat} {c : SC}, LinG (tidyAt P T st c path)
  | path, c, k, h => by
    unfold tidyAt at h ⊢
    split at h
    · exact lin_tidyCell k h
    · split at h
      · exact lin_tidyAt k h
      · exact h.elim
    · split at h
      · exact lin_tidyAt k h
      · exact h.elim
    · exact h.elim
theorem lin_tidy1 {x : Tidy} {fr : Fr} {st : St} : FLin (tidy1 P x fr st) := by
  intro k h
  unfold tidy1 at h ⊢
  split at h
  · obtain ⟨c, s, h1, h2⟩ := lin_ownOfT _ h
    exact ⟨_, _, h1, fun k2 hk => h2 _ hk⟩
  · obtain ⟨s, h1, h2⟩ := lin_tidyAt _ h
    exact ⟨_, _, h1, fun k2 hk => h2 _ hk⟩
  · exact h.elim
theorem lin_tidyAll : ∀ {ts : List Tidy} {fr : Fr} {st : St}, FLin (tidyAll P ts fr st)
  | [], fr, st, k, h => ⟨fr, st, h, fun _ h => h⟩
  | x :: r, fr, st, k, h => by
    simp only [tidyAll] at h ⊢
    obtain ⟨v, s, h1, h2⟩ := lin_tidy1 _ h
    obtain ⟨v', s', h3, h4⟩ := lin_tidyAll _ h1
    exact ⟨v', s', h3, fun k2 hk => h2 _ (h4 _ hk)⟩
theorem lin_forget {n0 : Nat} {live : List Nat} {fr : Fr} {st : St} : FLin (forget n0 live fr st) := by
  intro k h
  unfold forget at h ⊢
  dsimp only at h ⊢
  split at h
  · exact ⟨_, _, h, fun _ h => h⟩
  · exact h.elim
theorem lin_key {cx : Cx} {f i : Nat} {c : Code} {n0 : Nat} {fr : Fr} {st : St} {K : Fr → St → Prop} (h : atKey cx f i c n0 fr st K) :
    ∃ fr' st', K fr' st' ∧ ∀ K2 : Fr → St → Prop, K2 fr' st' → atKey cx f i c n0 fr st K2 := by
  unfold atKey at h ⊢
  split at h
  · obtain ⟨v, s, h1, h2⟩ := lin_tidyAll _ h
    obtain ⟨v', s', h3, h4⟩ := lin_forget _ h1
    exact ⟨v', s', h3.h, fun k2 hk => h2 _ (h4 _ ⟨hk⟩)⟩
  · exact ⟨_, _, h, fun _ h => h⟩
theorem lin_head {cx : Cx} {f : FuncId} {c : Code} {n0 : Nat} {fr : Fr} {st : St} {K : Fr → St → Prop} (h : atHead cx f c n0 fr st K) :
    ∃ fr' st', K fr' st' ∧ ∀ K2 : Fr → St → Prop, K2 fr' st' → atHead cx f c n0 fr st K2 := by
  unfold atHead at h ⊢
  split at h
  · exact lin_key h
  · exact ⟨_, _, h, fun _ h => h⟩
theorem lin_atCut {cx : Cx} {f id : Nat} {c : Code} {n0 : Nat} {fr : Fr} {st : St} {K : Fr → St → Prop} (h : atCut cx f id c n0 fr st K) :
    ∃ fr' st', K fr' st' ∧ ∀ K2 : Fr → St → Prop, K2 fr' st' → atCut cx f id c n0 fr st K2 := by
  unfold atCut at h ⊢
  exact lin_key h
theorem regRun_hand {cx : Cx} {run : RunT} {n0 f id : Nat} {ops : Array Oper} {draw : Bool} {k : Exit → Fr → St → Prop} {fr : Fr} {st : St} {h : Hand} (hh : cx.hand f id = some h) :
    regRun cx run n0 f (.region id ops draw) k fr st = evHand cx.P f h (.region id ops draw) fr st fun fr st => k .normal fr st := by
  simp only [regRun, hh]
theorem regRun_none {cx : Cx} {run : RunT} {n0 f id : Nat} {ops : Array Oper} {draw : Bool} {k : Exit → Fr → St → Prop} {fr : Fr} {st : St} (hh : cx.hand f id = none) :
    regRun cx run n0 f (.region id ops draw) k fr st = match draw with
      | true => evDraw cx (evCall cx run) ops.toList ops.toList fr st [] fun fr st => k .normal fr st
      | false => evOps cx (evCall cx run) ops.toList ops.toList fr st fun fr st => k .normal fr st := by
  cases draw <;> simp only [regRun, hh]
theorem lin_hand {P : Program} {f : FuncId} {h : Hand} (hl : ∀ args st, Lin (h.s args st)) {c : Code} {fr : Fr} {st : St} : FLin (evHand P f h c fr st) := by
  intro k hk
  unfold evHand at hk ⊢
  split at hk
  case h_2 => exact hk.elim
  split at hk
  · obtain ⟨hc, hk⟩ := hk
    obtain ⟨v, s, h1, h2⟩ := lin_onPart hl _ hk
    unfold kHand at h1
    split at h1
    · split at h1
      · rename_i fr' h5
        exact ⟨fr', s, h1, fun k2 hk2 => ⟨hc, h2 _ (by unfold kHand; dsimp only; rw [h5]; exact hk2)⟩⟩
      · exact h1.elim
    · exact h1.elim
  · exact hk.elim
theorem ev_succ (cx : Cx) (n : Nat) : ev cx (n + 1) = evStep cx (ev cx n) := rfl
theorem lin_ev {cx : Cx} (hsum : SumLin cx) : ∀ n, RunLin (ev cx n)
  | 0, n0, f, c, fr, st, k, h => h.elim
  | n + 1, n0, f, c, fr, st, k, h => by
    have ih := lin_ev hsum n
    cases c with
    | skip => exact XLin.ret _ _ _ k h
    | label _ => exact XLin.ret _ _ _ k h
    | exit id => exact XLin.ret _ _ _ k h
    | ret => exact XLin.ret _ _ _ k h
    | region id ops draw =>
      have h' : atCut cx f id (.region id ops draw) n0 fr st (regRun cx (ev cx n) n0 f (.region id ops draw) k) := h
      obtain ⟨fr1, st1, h, hc⟩ := lin_atCut h'
      cases hh : cx.hand f id with
      | some hd =>
        rw [regRun_hand hh] at h
        obtain ⟨v, s, h1, h2⟩ := lin_hand (hsum.2 f id hd hh) _ h
        refine ⟨_, v, s, h1, fun k2 hk => hc (regRun cx (ev cx n) n0 f (.region id ops _) k2) ?_⟩
        rw [regRun_hand hh]
        exact h2 _ hk
      | none =>
        rw [regRun_none hh] at h
        cases draw with
        | true =>
          obtain ⟨v, s, h1, h2⟩ := lin_draw (lin_call hsum ih) _ h
          refine ⟨_, v, s, h1, fun k2 hk => hc (regRun cx (ev cx n) n0 f (.region id ops _) k2) ?_⟩
          rw [regRun_none hh]
          exact h2 _ hk
        | false =>
          obtain ⟨v, s, h1, h2⟩ := lin_ops (lin_call hsum ih) _ h
          refine ⟨_, v, s, h1, fun k2 hk => hc (regRun cx (ev cx n) n0 f (.region id ops _) k2) ?_⟩
          rw [regRun_none hh]
          exact h2 _ hk
    | seq a b =>
      obtain ⟨ex, v, s, h1, h2⟩ := ih _ _ _ _ _ _ h
      cases ex with
      | normal =>
        obtain ⟨ex', v', s', h3, h4⟩ := ih _ _ _ _ _ _ h1
        exact ⟨ex', v', s', h3, fun k2 hk => h2 _ (h4 _ hk)⟩
      | exit _ => exact ⟨_, v, s, h1, fun k2 hk => h2 _ hk⟩
      | goto _ => exact ⟨_, v, s, h1, fun k2 hk => h2 _ hk⟩
      | ret => exact ⟨_, v, s, h1, fun k2 hk => h2 _ hk⟩
      | panic _ => exact ⟨_, v, s, h1, fun k2 hk => h2 _ hk⟩
      | outgrown => exact ⟨_, v, s, h1, fun k2 hk => h2 _ hk⟩
    | cond o a b =>
      simp only [ev_succ, evStep] at h ⊢
      split at h
      · split at h
        · exact (XLin.branch (ih _ _ _ _ _) (ih _ _ _ _ _)) k h
        · exact h.elim
      · exact (XLin.branch (ih _ _ _ _ _) (ih _ _ _ _ _)) k h
      · exact h.elim
    | block id c =>
      obtain ⟨ex, v, s, h1, h2⟩ := ih _ _ _ _ _ _ h
      cases ex with
      | exit id' =>
        unfold kBlock at h1
        dsimp only at h1
        cases hb : Nat.beq id' id with
        | true => rw [hb] at h1; exact ⟨.normal, v, s, h1, fun k2 hk => h2 _ (by unfold kBlock; dsimp only; rw [hb]; exact hk)⟩
        | false => rw [hb] at h1; exact ⟨.exit id', v, s, h1, fun k2 hk => h2 _ (by unfold kBlock; dsimp only; rw [hb]; exact hk)⟩
      | normal => exact ⟨_, v, s, h1, fun k2 hk => h2 _ hk⟩
      | goto _ => exact ⟨_, v, s, h1, fun k2 hk => h2 _ hk⟩
      | ret => exact ⟨_, v, s, h1, fun k2 hk => h2 _ hk⟩
      | panic _ => exact ⟨_, v, s, h1, fun k2 hk => h2 _ hk⟩
      | outgrown => exact ⟨_, v, s, h1, fun k2 hk => h2 _ hk⟩
    | loop c =>
      obtain ⟨fr0, st0, h, hg⟩ := lin_head h
      obtain ⟨ex, v, s, h1, h2⟩ := ih _ _ _ _ _ _ h
      cases ex with
      | normal =>
        obtain ⟨ex', v', s', h3, h4⟩ := ih _ _ _ _ _ _ h1
        exact ⟨ex', v', s', h3, fun k2 hk => hg _ (h2 _ (h4 _ hk))⟩
      | exit _ => exact ⟨_, v, s, h1, fun k2 hk => hg _ (h2 _ hk)⟩
      | goto _ => exact ⟨_, v, s, h1, fun k2 hk => hg _ (h2 _ hk)⟩
      | ret => exact ⟨_, v, s, h1, fun k2 hk => hg _ (h2 _ hk)⟩
      | panic _ => exact ⟨_, v, s, h1, fun k2 hk => hg _ (h2 _ hk)⟩
      | outgrown => exact ⟨_, v, s, h1, fun k2 hk => hg _ (h2 _ hk)⟩
    | scope c =>
      obtain ⟨ex, v, s, h1, h2⟩ := ih _ _ _ _ _ _ h
      cases ex with
      | goto _ => exact h1.elim
      | normal => exact ⟨_, v, s, h1, fun k2 hk => h2 _ hk⟩
      | exit _ => exact ⟨_, v, s, h1, fun k2 hk => h2 _ hk⟩
      | ret => exact ⟨_, v, s, h1, fun k2 hk => h2 _ hk⟩
      | panic _ => exact ⟨_, v, s, h1, fun k2 hk => h2 _ hk⟩
      | outgrown => exact ⟨_, v, s, h1, fun k2 hk => h2 _ hk⟩
    | rangeFunc g ps a b =>
      simp only [ev_succ, evStep] at h ⊢
      split at h
      · obtain ⟨gv, hgv, h⟩ := opt_iff.1 h
        obtain ⟨v, s, h1, h2⟩ := lin_iter (lin_call hsum ih) _ h
        unfold kRange at h1
        split at h1
        · rename_i f' fr' ps' a' b' s' j hq
          split at h1
          · exact h1.elim
          · rename_i hb
            split at h1
            · refine ⟨_, _, _, h1, fun k2 hk => opt_iff.2 ⟨gv, hgv, h2 _ ?_⟩⟩
              unfold kRange
              rw [hq]
              dsimp only
              rw [hb]
              exact hk
            · obtain ⟨ex, v2, s2, h3, h4⟩ := ih _ _ _ _ _ _ h1
              refine ⟨ex, v2, s2, h3, fun k2 hk => opt_iff.2 ⟨gv, hgv, h2 _ ?_⟩⟩
              unfold kRange
              rw [hq]
              dsimp only
              rw [hb]
              exact h4 _ hk
        · exact h1.elim
      · exact h.elim
    | _ => exact h.elim
theorem CxOk.lin {cx : Cx} (hx : CxOk P cx) : SumLin cx := ⟨fun g s hs args st => (hx.sum g s hs args st).1, fun f i h hh args st => (hx.hand f i h hh args st).1⟩
theorem AfterX.of {α : Al} {st : St} {w : World} {ds : List Deferred} {k : Exit → Fr → St → Prop} {N : Exit → Act → World → Prop} (hK : AfterX α st w k N) {α1 : Al} {st1 : St} {w1 : World}
    (hto : To α st w α1 st1 w1) (hm : MarksOk w α1 st1 w1 ds) : After α1 st1 w1 ds (fun fr st => k .normal fr st) (N .normal) :=
  fun fr' st' α' a' w' x1 x2 x3 x4 => hK _ _ _ _ _ _ x1 x2 (hto.trans x3) (by rw [x4]; exact hm.to x3)
theorem MarksOk.enter {w0 w : World} {α : Al} {st : St} {ds : List Deferred} (hm : MarksOk w0 α st w ds) (hR : R α st w) (hle : w0.heap.size ≤ w.heap.size) :
    MarksOk w0 α st (w.alloc (.deferred (some []))) ({ target := .collected w.heap.size, args := #[] } :: ds) := by
  obtain ⟨ms, m1, m2, m3⟩ := hm
  have hlt : ∀ b ∈ ms, b < w.heap.size := fun b hb => (Array.getElem?_eq_some_iff.1 (m3 b hb).2.1).1
  refine ⟨w.heap.size :: ms, ?_, by rw [m2]; rfl, fun b hb => ?_⟩
  · rw [List.nodup_cons]
    exact ⟨fun hin => by have := hlt _ hin; omega, m1⟩
  · rcases List.mem_cons.1 hb with rfl | hb
    · refine ⟨hle, heap_alloc_eq _ _, fun o so d ho hd hf => ?_⟩
      obtain ⟨d', h1, h2⟩ := hR.good o so ho
      rw [hd] at h1; cases h1
      have := h2.lt ((h2.kept (Al.le.refl _) (fun c hc => heap_alloc_lt w _ (h2.lt hc)) (by simp)).2 _ hf)
      omega
    · obtain ⟨x1, x2, x3⟩ := m3 b hb
      refine ⟨x1, by rw [heap_alloc_lt w _ (hlt b hb)]; exact x2, fun o so d ho hd hf => ?_⟩
      obtain ⟨d', h1, h2⟩ := hR.good o so ho
      rw [hd] at h1; cases h1
      exact x3 o so d ho hd ((h2.kept (Al.le.refl _) (fun c hc => heap_alloc_lt w _ (h2.lt hc)) (by simp)).2 _ hf)
theorem enter_record {α : Al} {st : St} {w : World} (hR : R α st w) {fr : Fr} {tmps : Array Value} (hf : FrOk α fr tmps) (f : Nat) (ps : Array Tmp) (x y : Code) (fn : FuncId) :
    ∃ (α1 : Al) (l : Nat) (w1 : World) (m : Deferred) (d : Den), (Instr.enterLoop fn tmps ps x y none).run P w = .ok (l, [m]) w1 ∧ To α st w α1 (st ++ [some (.lp true f fr ps.toList x y 0 none)]) w1 ∧
      α1 st.length = some d ∧ d.blk = l ∧ d.val = .func (.yield l) #[] #[] ∧
      (∀ w0 ds, w0.heap.size ≤ w.heap.size → MarksOk w0 α st w ds → MarksOk w0 α1 (st ++ [some (.lp true f fr ps.toList x y 0 none)]) w1 ([m] ++ ds)) := by
  have hto1 : To α st w α st (w.alloc (.deferred (some []))) := To.alloc hR
  have hrec := To.new (ob := .loop { state := .ready, pending := none, fn, tmps := tmps, params := ps, assign := x, body := y, defers := w.heap.size }) (so := .lp true f fr ps.toList x y 0 none)
    (d := ⟨(w.alloc (.deferred (some []))).heap.size, 0, 0, 0, .func (.yield (w.alloc (.deferred (some []))).heap.size) #[] #[], true⟩) hto1.rep (fun _ h => h) (fun _ h => h.elim) rfl
    ⟨rfl, _, heap_alloc_eq _ _, hf.mono (Al.le_add (hR.none _ (Nat.le_refl _))), by simp, rfl, rfl, rfl, rfl⟩
  have hsz : (w.alloc (.deferred (some []))).heap.size = w.heap.size + 1 := by simp
  refine ⟨_, w.heap.size + 1, _, _, _, run_enterLoop_outer fn tmps ps x y, hto1.trans hrec, Al.add_same, hsz, by rw [hsz], fun w0 ds hle hm => ?_⟩
  exact MarksOk.to (hm.enter hR hle) hrec
theorem ev_sound {cx : Cx} (hx : CxOk P cx) : ∀ n, RunOk P (ev cx n) ∧
    ∀ {f : FuncId} {c : Code} {fr : Fr} {st : St} {k : Exit → Fr → St → Prop} {r : Option Nat} {Q : Exit → Act → World → Prop} {α0 α : Al} {st0 : St} {a : Act} {w0 w : World},
    (f < big → r = none) → To α0 st0 w0 α st w → FrOk α fr a.tmps → MarksOk w0 α st w a.defers → ev cx n st0.length f (.loop c) fr st k → AfterX α0 st0 w0 k Q → Code.roundsIn (Wide r) 0 P c Q n a w
  | 0 => ⟨fun _ _ _ _ h _ => h.elim, fun _ _ _ _ h _ => h.elim⟩
  | n + 1 => by
    obtain ⟨ih, ihl⟩ := ev_sound hx n
    have hL := lin_call hx.lin (lin_ev hx.lin n)
    have hC : CallOk P (evCall cx (ev cx n)) := evCall_ok (run := ev cx n) hx @ih
    have loopCase : ∀ {f : FuncId} {c : Code} {fr : Fr} {st : St} {k : Exit → Fr → St → Prop} {r : Option Nat} {Q : Exit → Act → World → Prop} {α0 α : Al} {st0 : St} {a : Act} {w0 w : World},
        (f < big → r = none) → To α0 st0 w0 α st w → FrOk α fr a.tmps → MarksOk w0 α st w a.defers → ev cx (n + 1) st0.length f (.loop c) fr st k → AfterX α0 st0 w0 k Q → Code.roundsIn (Wide r) 0 P c Q (n + 1) a w := by
      intro f c fr st k r Q α0 α st0 a w0 w hfr hto hf hm h hK
      obtain ⟨α2, fr2, st2, h, hf, hto, hsrc⟩ := atHead_sound hto hf h
      have hm := hm.src hsrc
      rw [roundsIn_succ]
      refine ih hfr hto hf hm h fun ex fr' st' α' a' w' hk hf' hto hd => ?_
      cases ex with
      | normal => exact ihl hfr hto hf' hd hk hK
      | exit _ => exact hK _ _ _ _ _ _ hk hf' hto hd
      | goto _ => exact hK _ _ _ _ _ _ hk hf' hto hd
      | ret => exact hK _ _ _ _ _ _ hk hf' hto hd
      | panic _ => exact hK _ _ _ _ _ _ hk hf' hto hd
      | outgrown => exact hK _ _ _ _ _ _ hk hf' hto hd
    refine ⟨?_, loopCase⟩
    intro f c fr st k r Q α0 α st0 a w0 w hfr hto hf hm h hK
    cases c with
    | skip => exact wpIn_skip (hK _ _ _ _ _ _ h hf hto hm)
    | label _ => exact wpIn_label (hK _ _ _ _ _ _ h hf hto hm)
    | exit id => exact wpIn_exit (hK _ _ _ _ _ _ h hf hto hm)
    | ret => exact wpIn_ret (hK _ _ _ _ _ _ h hf hto hm)
    | region id ops draw =>
      have h' : atCut cx f id (.region id ops draw) st0.length fr st (regRun cx (ev cx n) st0.length f (.region id ops draw) k) := h
      obtain ⟨α2, fr2, st2, h, hf, hto, hsrc⟩ := atCut_sound hto hf h'
      have hm := hm.src hsrc
      cases hh : cx.hand f id with
      | some hd =>
        rw [regRun_hand hh, hx.prog] at h
        refine wpIn_mono (evHand_sound (hx.hand f id hd hh) h r hfr hto.rep hf) fun ex a' w' ⟨he, hdf, fr', st', α', hk, hf', hto'⟩ => ?_
        subst he
        exact hK _ _ _ _ _ _ hk hf' (hto.trans hto') (by rw [hdf]; exact hm.to hto')
      | none =>
      rw [regRun_none hh] at h
      cases draw with
      | true => exact evDraw_sound hx.prog hx.ops hC hL hx.mixed hto.rep hf h (hK.of hto hm)
      | false =>
        refine wpIn_region ?_
        have := evOps_sound (r := r) (Q := Q) hx.prog hx.ops hC ops.toList 0 rfl hto.rep hf h (hK.of hto hm)
        simpa [List.range_eq_range'] using this
    | seq x y =>
      refine wpIn_seq (ih hfr hto hf hm h fun ex fr' st' α' a' w' hk hf' hto hd => ?_)
      cases ex with
      | normal => exact ih hfr hto hf' hd hk hK
      | exit _ => exact hK _ _ _ _ _ _ hk hf' hto hd
      | goto _ => exact hK _ _ _ _ _ _ hk hf' hto hd
      | ret => exact hK _ _ _ _ _ _ hk hf' hto hd
      | panic _ => exact hK _ _ _ _ _ _ hk hf' hto hd
      | outgrown => exact hK _ _ _ _ _ _ hk hf' hto hd
    | cond o x y =>
      simp only [ev_succ, evStep] at h
      split at h
      · rename_i t
        split at h
        · rename_i b hb
          obtain ⟨v, h1, h2⟩ := hf.2 t _ hb
          simp only [SV.rep, SA.rep, SC.val?, Option.some.injEq] at h2
          subst h2
          have he : a.eval (.tmp t) = .bool b := by simp [Act.eval, h1]
          rcases branch_or h with ⟨e, h⟩ | ⟨e, h⟩
          · subst e; exact wpIn_cond_true he (ih hfr hto (hf.say h1 (by simp [SV.rep, SA.rep, SC.val?])) hm h hK)
          · subst e; exact wpIn_cond_false he (ih hfr hto (hf.say h1 (by simp [SV.rep, SA.rep, SC.val?])) hm h hK)
        · exact h.elim
      · rename_i b
        rcases branch_or h with ⟨e, h⟩ | ⟨e, h⟩
        · subst e; exact wpIn_cond_true rfl (ih hfr hto hf hm h hK)
        · subst e; exact wpIn_cond_false rfl (ih hfr hto hf hm h hK)
      · exact h.elim
    | block id c =>
      refine wpIn_block (ih hfr hto hf hm h fun ex fr' st' α' a' w' hk hf' hto hd => ?_)
      cases ex with
      | exit id' =>
        unfold kBlock at hk
        dsimp only at hk
        simp only [Exit.inBlock]
        cases hb : Nat.beq id' id with
        | true =>
          rw [hb] at hk
          rw [if_pos (Nat.eq_of_beq_eq_true hb)]
          exact hK _ _ _ _ _ _ hk hf' hto hd
        | false =>
          rw [hb] at hk
          rw [if_neg (Nat.ne_of_beq_eq_false hb)]
          exact hK _ _ _ _ _ _ hk hf' hto hd
      | normal => exact hK _ _ _ _ _ _ hk hf' hto hd
      | goto _ => exact hK _ _ _ _ _ _ hk hf' hto hd
      | ret => exact hK _ _ _ _ _ _ hk hf' hto hd
      | panic _ => exact hK _ _ _ _ _ _ hk hf' hto hd
      | outgrown => exact hK _ _ _ _ _ _ hk hf' hto hd
    | loop c => exact wpIn_loop_rounds (n + 1) (loopCase hfr hto hf hm h hK)
    | scope c =>
      refine wpIn_scope (ih hfr hto hf hm h fun ex fr' st' α' a' w' hk hf' hto hd => ?_)
      cases ex with
      | goto _ => exact hk.elim
      | normal => exact hK _ _ _ _ _ _ hk hf' hto hd
      | exit _ => exact hK _ _ _ _ _ _ hk hf' hto hd
      | ret => exact hK _ _ _ _ _ _ hk hf' hto hd
      | panic _ => exact hK _ _ _ _ _ _ hk hf' hto hd
      | outgrown => exact hK _ _ _ _ _ _ hk hf' hto hd
    | rangeFunc g ps x y =>
      simp only [ev_succ, evStep] at h
      split at h
      · rename_i hb
        have hr0 := hfr (Nat.le_of_ble_eq_true hb)
        subst hr0
        obtain ⟨gv, hgv, h⟩ := opt_iff.1 h
        refine wpIn_rangeFunc fun fn _ => ?_
        obtain ⟨α1, l, w1, m, d, he, hto1, hd1, hdb, hdv, hm1⟩ := enter_record (P := P) hto.rep hf f ps x y fn
        have hmk := hm1 w0 a.defers hto.size hm
        have hgr : SA.rep α gv (a.eval g) := by
          have : rhoSA (evOperand fr) g = some gv := hgv
          exact rhoSA_rep (evOperand_rep hf) this
        have hle1 : α.le α1 := hto1.le hto.rep
        have hlast : (SA.one (.ref st.length)).rep α1 (.func (.yield l) #[] #[]) := by simp [SA.rep, SC.val?, hd1, hdv]
        -- the call of the function
        have fin : ∀ (g' : FuncId) (first cap : Array Value) (fs cs : List SA), a.eval g = .func (.func g') first cap → RepsA α1 fs first.toList → RepsA α1 cs cap.toList → g' < big →
            evCall cx (ev cx n) g' (fs ++ [.one (.ref (lenL st))] ++ cs) (st ++ [some (.lp true f fr ps.toList x y 0 none)]) (kRange (ev cx n) st0.length f (lenL st) fr k) →
            ∃ (l : Nat) (mark : List Deferred) (w₁ : World) (d : Deferred) (w₁' : World) (f' : FuncId) (args : Array Value) (w₂ : World),
              (Instr.enterLoop fn a.tmps ps x y (Wide none).round).run P w = .ok (l, mark) w₁ ∧
              (resolve a.eval (rangeCall g l) 0).run P w₁ = .ok d w₁' ∧
              (∀ f'', Target.leads P w₁' d.target d.args = some f'' → (Wide none).fn f'') ∧
              (invoke d.target d.args).run P w₁' = .ok (.enter f' args) w₂ ∧
              ((Wide none).depth.isSome = true → 1 ≤ 0) ∧
              CallsIn (Wide none) (0 - 1) P f' args w₂ (rangePost (Wide none) 0 P l Q { a with defers := mark ++ a.defers }) := by
          intro g' first cap fs cs hev hfs hcs hgb hcall
          obtain ⟨⟨fn', body, g1, g2⟩, hcc⟩ := hC.1 g' _ _ _ hgb hcall
          have hargs : RepsA α1 (fs ++ [.one (.ref (lenL st))] ++ cs) (first ++ #[Value.func (.yield l) #[] #[]] ++ cap).toList := by
            simp only [Array.toList_append, lenL_eq]
            exact (RepsA.append hfs (l' := [SA.one (.ref st.length)]) (vs' := [Value.func (.yield l) #[] #[]]) ⟨hlast, trivial⟩).append hcs
          have hci := hcc α1 w1 _ hto1.rep hargs
          refine ⟨l, [m], w1, { target := .fn (.func g') cap, args := first ++ #[Value.func (.yield l) #[] #[]] }, w1, g', first ++ #[Value.func (.yield l) #[] #[]] ++ cap, w1, he, ?_, fun _ _ => trivial, ?_, fun hdp => by simp [Wide] at hdp, ?_⟩
          · have hr1 : resolve a.eval (rangeCall g l) 0 = Deferred.ofValue (a.eval g) #[Value.func (.yield l) #[] #[]] := by
              simp [rangeCall, resolve, Act.eval]
            rw [hr1, hev]
            rfl
          · have hn := hx.names g' fn' g1 (by simp [g2])
            simp only [invoke, callFunc, Sem.run_bind, run_program, Result.andThen_ok, g1]
            simp [hn, g2]
          · have hci' : CallsIn (Wide none) 0 P g' (first ++ #[Value.func (.yield l) #[] #[]] ++ cap) w1 (CallPost α1 (st ++ [some (.lp true f fr ps.toList x y 0 none)]) w1 (kRange (ev cx n) st0.length f (lenL st) fr k)) := by
              have : (first ++ #[Value.func (.yield l) #[] #[]] ++ cap).toList.toArray = first ++ #[Value.func (.yield l) #[] #[]] ++ cap := Array.toArray_toList
              rw [this] at hci
              exact hci
            refine CallsIn.mono hci' ?_
            rintro e w2 ⟨v, st2, α2, vl, rfl, q1, q2, q3⟩
            -- behind the call
            unfold kRange at q2
            split at q2
            · rename_i f' fr' ps' a' b' s' j hq
              split at q2
              · exact q2.elim
              · rename_i hs
                rw [lenL_eq] at hq q2
                have hd2 : α2 st.length = some d := by rw [q3.ext _ (by simp)]; exact hd1
                obtain ⟨d', hd2', hval2, l2, hl2, c1, c2, c3, c4, c5, c6⟩ := q3.rep.good _ _ hq
                rw [hd2] at hd2'; cases hd2'
                rw [hdb] at hl2
                have hnb : l2.state ≠ .busy := by
                  rw [c5]
                  have hne : s' ≠ 1 := fun e => by subst e; simp at hs
                  match s', hne with
                  | 0, _ => simp [stOf]
                  | 1, h => exact absurd rfl h
                  | 2, _ => simp [stOf]
                  | n + 3, _ => simp [stOf]
                have hend := run_endLoop (P := P) hl2 hnb
                subst c6
                have hrec := To.record (s' := 3) (j' := l2.pending) q3.rep hq hd2 (by rw [hdb]; exact hl2)
                rw [hdb] at hrec
                have hall := hto.trans (hto1.trans (q3.trans hrec))
                have hmf := hmk.to (q3.trans hrec)
                have hff : FrOk α2 fr a.tmps := (hf.mono hle1).mono ((q3.trans hrec).le hto1.rep)
                refine ⟨l2.pending, _, hend, ?_⟩
                split at q2
                · rename_i hp
                  rw [hp] at hall hmf ⊢
                  exact hK _ _ _ _ { a with defers := [m] ++ a.defers } _ q2 hff hall hmf
                · rename_i c hp
                  rw [hp] at hall hmf ⊢
                  exact ih (fun _ => rfl) hall (a := { a with defers := [m] ++ a.defers }) hff hmf q2 hK
            · exact q2.elim
        unfold evIter at h
        split at h
        · rename_i g' first cap
          simp only [SA.rep, SC.val?, Option.some.injEq] at hgr
          split at h
          · rename_i hgb
            exact fin g' first cap _ _ hgr.symm (RepsA.ofValues _) (RepsA.ofValues _) (Nat.le_of_ble_eq_true hgb) h
          · exact h.elim
        · rename_i q
          split at h
          · rename_i g' first cap hst
            obtain ⟨dq, hdq, va, vb, x1, x2, x3⟩ := hto1.rep.good q _ hst
            have hgr1 := SA.rep_mono hle1 hgr
            simp only [SA.rep, SC.val?, hdq, Option.some.injEq] at hgr1
            split at h
            · rename_i hgb
              exact fin g' va.toArray vb.toArray _ _ (by rw [← hgr1, x3]) (by simpa using x1) (by simpa using x2) (Nat.le_of_ble_eq_true hgb) h
            · exact h.elim
          · exact h.elim
        · exact h.elim
      · exact h.elim
    | _ => exact h.elim
end Go.Ev

/- THE ENGINE, part 25: from an evaluation to a call. -/
namespace Go.Ev
open Go Go.RowKit
variable {P : Program}
def theCx (P : Program) (wr : FuncId → Nat) : Cx := { P := P, sum := fun _ => none, loop := fun _ _ => none, wr := wr, force := true }
def namesB (P : Program) : Bool := P.funcs.toList.all fun fn => match fn.body with | some _ => !(fn.name == "runtime.NumGoroutine") | none => true
theorem namesOk_of {P : Program} (h : namesB P = true) : NamesOk P := by
  intro f fn hf hb
  unfold namesB at h
  rw [List.all_eq_true] at h
  have := h fn (by rw [Array.mem_toList_iff]; exact Array.mem_of_getElem? hf)
  cases hbb : fn.body with
  | none => rw [hbb] at hb; cases hb
  | some c => rw [hbb] at this; simpa using this
theorem theCx_ok {P : Program} {wr : FuncId → Nat} (h1 : namesB P = true) (h2 : P.follows .mixedOrders = true) : CxOk P (theCx P wr) :=
  ⟨rfl, namesOk_of h1, h2, fun _ _ h => (by cases h), fun _ h => (by cases h), fun _ _ _ h => (by cases h)⟩
theorem R.empty (w : World) : R (fun _ => Option.none) [] w :=
  ⟨fun o so h => by cases o <;> simp [St.get, getL] at h, fun o o' so so' d d' _ _ h => by cases o <;> simp [St.get, getL] at h, fun o so d b h => by cases o <;> simp [St.get, getL] at h, fun _ _ => rfl, fun _ _ h => by cases h⟩
theorem To.below {α α' : Al} {st st' : St} {w w' : World} (h : To α st w α' st' w') (hn : ∀ b, ¬ Wr α st w b) : Below w.heap.size w w' :=
  ⟨h.os, h.tape.tape, h.output, h.size, fun k hk => h.kept k hk (hn k)⟩
theorem call_top {cx : Cx} (hx : CxOk P cx) {n : Nat} {f : FuncId} {args : List SA} {vals : List Value} {st : St} {α : Al} {w : World} {k : SV → St → Prop} (hR : R α st w) (ha : RepsA α args vals)
    (hn : ∀ b, ¬ Wr α st w b) (h : evCall cx (ev cx n) f args st k) (hk : ∀ v st', k v st' → v = .sa (.one (.raw (.bool true)))) (hb : f < big := by decide) :
    Calls P f vals.toArray w fun e w' => e = .returned (.bool true) ∧ Below w.heap.size w w' := by
  have hC : CallOk P (evCall cx (ev cx n)) := evCall_ok (run := ev cx n) hx (ev_sound hx n).1
  refine callsIn_wide.1 (((hC.1 f args st k hb h).2 α w vals hR ha).mono fun e w' ⟨v, st', α', val, he, hv, hk', hto⟩ => ?_)
  have := hk _ _ hk'
  subst this
  simp only [SV.rep, SA.rep, SC.val?, Option.some.injEq] at hv
  subst hv
  exact ⟨he, hto.below hn⟩
theorem closed_top {P : Program} {wr : FuncId → Nat} {n : Nat} {f : FuncId} (h1 : namesB P = true) (h2 : P.follows .mixedOrders = true)
    (h : evCall (theCx P wr) (ev (theCx P wr) n) f [] [] (fun v _ => v = .sa (.one (.raw (.bool true)))) = (SV.sa (.one (.raw (.bool true))) = SV.sa (.one (.raw (.bool true))))) (w : World) (hb : f < big := by decide) :
    Calls P f #[] w fun e w' => e = .returned (.bool true) ∧ Below w.heap.size w w' := by
  refine call_top (theCx_ok h1 h2) (R.empty w) (args := []) (vals := []) trivial ?_ (by rw [h]) (fun _ _ h => h) hb
  rintro b ⟨o, so, d, h, _⟩
  cases o <;> simp [St.get, getL] at h
end Go.Ev

/- THE ENGINE, part 25b: contexts with summaries; parts of code by their ways; words for states. Definitions alone. -/
namespace Go.Ev
open Go
abbrev SumT := List SA → St → (SV → St → Prop) → Prop
def lookSum : List (FuncId × SumT) → FuncId → Option SumT
  | [], _ => none
  | (g, s) :: r, f => match Nat.beq g f with | true => some s | false => lookSum r f
def lookLive : List (FuncId × Nat × List Nat × List Tidy) → FuncId → Nat → Option (List Nat × List Tidy)
  | [], _, _ => none
  | (g, i, l) :: r, f, j => match Nat.beq g f && Nat.beq i j with | true => some l | false => lookLive r f j
def lookWr : List (FuncId × Nat) → FuncId → Nat
  | [], _ => 0
  | (g, n) :: r, f => match Nat.beq g f with | true => n | false => lookWr r f
def mkCx (P : Program) (sums : List (FuncId × SumT)) (live : List (FuncId × Nat × List Nat × List Tidy)) (wr : List (FuncId × Nat)) : Cx :=
  { P := P, sum := lookSum sums, loop := lookLive live, wr := lookWr wr }
def lookHand : List (FuncId × Nat × Hand) → FuncId → Nat → Option Hand
  | [], _, _ => none
  | (g, i, l) :: r, f, j => match Nat.beq g f && Nat.beq i j with | true => some l | false => lookHand r f j
def mkCxF (P : Program) (sums : List (FuncId × SumT)) (wr : FuncId → Nat) : Cx :=
  { P := P, sum := lookSum sums, loop := fun _ _ => none, wr := wr, force := true }
def iv (k : IntKind) (x : Int) : SC := .raw (.int k x)
def bv (b : Bool) : SC := .raw (.bool b)
def obj (T : TypeId) (m : Nat) (l : List SC) : Option SO := some (.mem true .whole T m (.lst [l]))
def fnone (n : Nat) : Fr := repL n none
def frmAt (i : Nat) : List (Nat × SV) → Option SV
  | [] => none
  | (j, v) :: r => match Nat.beq j i with | true => some v | false => frmAt i r
def frmFrom (l : List (Nat × SV)) (i : Nat) : Nat → Fr
  | 0 => []
  | n + 1 => frmAt i l :: frmFrom l (i + 1) n
def frm (n : Nat) (l : List (Nat × SV)) : Fr := frmFrom l 0 n
end Go.Ev

/- THE ENGINE, part 26: summaries of functions; parts of code by their ways; words for states. -/
namespace Go.Ev
open Go Go.RowKit
variable {P : Program}
theorem mkCx_ok {P : Program} {sums : List (FuncId × SumT)} {live : List (FuncId × Nat × List Nat × List Tidy)} {wr : List (FuncId × Nat)} (h1 : namesB P = true) (h2 : P.follows .mixedOrders = true)
    (hs : ∀ x ∈ sums, SumOk P x.1 x.2) : CxOk P (mkCx P sums live wr) := by
  refine ⟨rfl, namesOk_of h1, h2, fun g s h => ?_, fun _ h => (by cases h), fun _ _ _ h => (by cases h)⟩
  simp only [mkCx] at h
  induction sums with
  | nil => cases h
  | cons x r ih =>
    obtain ⟨f, t⟩ := x
    simp only [lookSum] at h
    split at h
    · rename_i hb
      have := Nat.eq_of_beq_eq_true hb
      subst this
      cases h
      exact hs (f, s) (by simp)
    · exact ih (fun x hx => hs x (by simp [hx])) h
theorem CxOk.withOvl {P : Program} {cx : Cx} (hx : CxOk P cx) {f : FuncId → Bool} (h : ∀ g, f g = true → OvlFn P g) : CxOk P { cx with ovl := f } := ⟨hx.prog, hx.names, hx.mixed, hx.sum, h, hx.hand⟩
theorem CxOk.withHand {P : Program} {cx : Cx} (hx : CxOk P cx) {hs : List (FuncId × Nat × Hand)} (h : ∀ x ∈ hs, HandOk P x.1 x.2.2) : CxOk P { cx with hand := lookHand hs } := by
  refine ⟨hx.prog, hx.names, hx.mixed, hx.sum, hx.ovl, fun f i s hl => ?_⟩
  simp only at hl
  induction hs with
  | nil => cases hl
  | cons x r ih =>
    obtain ⟨g, j, t⟩ := x
    simp only [lookHand] at hl
    split at hl
    · rename_i hb
      have := Nat.eq_of_beq_eq_true (Bool.and_eq_true_iff.1 hb).1
      subst this
      cases hl
      exact h (g, j, s) (by simp)
    · exact ih (fun x hx => h x (by simp [hx])) hl
theorem hereI {P : Program} {f : FuncId} {way : List Nat} {p : Prop} (h : p) : here P f way (codeAt P f way) p := ⟨rfl, h⟩
theorem mkCxF_ok {P : Program} {sums : List (FuncId × SumT)} {wr : FuncId → Nat} (h1 : namesB P = true) (h2 : P.follows .mixedOrders = true)
    (hs : ∀ x ∈ sums, SumOk P x.1 x.2) : CxOk P (mkCxF P sums wr) :=
  have h := mkCx_ok (live := []) (wr := []) h1 h2 hs
  ⟨rfl, h.names, h.mixed, h.sum, fun _ h => (by cases h), fun _ _ _ h => (by cases h)⟩
theorem closed_cx {P : Program} {cx : Cx} (hx : CxOk P cx) {n : Nat} {f : FuncId}
    (h : evCall cx (ev cx n) f [] [] (fun v _ => v = .sa (.one (.raw (.bool true)))) = (SV.sa (.one (.raw (.bool true))) = SV.sa (.one (.raw (.bool true))))) (w : World) (hb : f < big := by decide) :
    Calls P f #[] w fun e w' => e = .returned (.bool true) ∧ Below w.heap.size w w' := by
  refine call_top hx (R.empty w) (args := []) (vals := []) trivial ?_ (by rw [h]) (fun _ _ h => h) hb
  rintro b ⟨o, so, d, h, _⟩
  cases o <;> simp [St.get, getL] at h
theorem sumOk_of {cx : Cx} (hx : CxOk P cx) {g : FuncId} {s : SumT} (hl : ∀ args st, Lin (s args st)) (h : ∀ args st k, s args st k → ∃ n, evCall cx (ev cx n) g args st k) (hb : g < big := by decide) : SumOk P g s := by
  refine fun args st => ⟨hl args st, fun k hk α w vals hR ha => ?_⟩
  obtain ⟨n, hn⟩ := h args st k hk
  have hC : CallOk P (evCall cx (ev cx n)) := evCall_ok (run := ev cx n) hx (ev_sound hx n).1
  exact (hC.1 g args st k hb hn).2 α w vals hR ha
theorem br {b : Bool} {p q : Prop} (h1 : b = true → p) (h2 : b = false → q) : branch b p q := by
  cases b
  · exact h2 rfl
  · exact h1 rfl
theorem Again_eq (p : Prop) : Again p = p := propext ⟨fun h => h.h, Again.mk⟩
theorem nd {b : Bool} {p : Prop} (h1 : b = true) (h2 : p) : need b p := by subst h1; exact h2
end Go.Ev

/- THE ENGINE, part 27: functions of data alone. Definitions. -/
namespace Go.Ev
open Go
inductive VP where
  | cells (p : Pat)
  | rows (m : Nat) (p : Pat) (base : Ct)
inductive VA where
  | a (x : SA)
  | t (m : Nat) (ct : Ct)
def SC.rawDat : SC → Bool
  | .raw _ => true
  | .dat _ _ => true
  | _ => false
def rawDats : List SC → Bool
  | [] => true
  | c :: r => match c.rawDat with | true => rawDats r | false => false
def Ct.flat : Ct → Bool
  | .lst _ => false
  | .ext _ _ _ => false
  | .at1 _ _ _ _ => false
  | _ => true
def vAt (kk : IntKind) (st : St) (o i n : Nat) (c : Option Nat) (k : List Int → Prop) : Prop :=
  match st.get o with
  | some so => match so.rows with
    | some (1, ct) => need (so.capped c n) (need (decide (i + n ≤ ct.len)) (opt (ctInts kk (ct.sub i n)) k))
    | _ => False
  | none => False
def vInt (kk : IntKind) (st : St) (c : SC) (k : List Int → Prop) : Prop :=
  match c with
  | .raw (.slice none 0 _) => k []
  | .dat k' xs => match decide (kk = k') with
    | true => k xs
    | false => False
  | .sl o i n c => vAt kk st o i n c k
  | .ref q => match st.list q with
    | some (o, i, n) => vAt kk st o i n none k
    | none => False
  | _ => False
def vRow : Pat → List SC → St → (List SC → Prop) → Prop
  | none :: p, c :: r, st, k => vRow p r st fun l => k (c :: l)
  | some kk :: p, c :: r, st, k => vInt kk st c fun x => vRow p r st fun l => k (.dat kk x :: l)
  | _, cs, _, k => k cs
def vRows (p : Pat) : List (List SC) → St → (List (List SC) → Prop) → Prop
  | [], _, k => k []
  | e :: r, st, k => vRow p e st fun e' => vRows p r st fun r' => k (e' :: r')
def vCt (p : Pat) (ct : Ct) (st : St) (k : Ct → Prop) : Prop :=
  match ct with
  | .lst vs => vRows p vs st fun vs' => k (.lst vs')
  | ct => k ct
def viewAt (m : Nat) (p : Pat) (base : Ct) (st : St) (o i n : Nat) (c : Option Nat) (k : VA → Prop) : Prop :=
  match st.get o with
  | some so => match so.rows with
    | some (m', ct) => match decide (m' = m ∧ base.len = 0) with
      | true => need (so.capped c n) (need (decide (i + n ≤ ct.len)) (vCt p (ct.sub i n) st fun ct' => opt (base.app ct') fun ct2 =>
          match ct2.flat with | true => k (.t m ct2) | false => False))
      | false => False
    | _ => False
  | none => False
def viewRows (m : Nat) (p : Pat) (base : Ct) (st : St) (c : SC) (k : VA → Prop) : Prop :=
  match c with
  | .raw (.slice none 0 _) => match decide (0 < m ∧ base.len = 0) with
    | true => k (.t m base)
    | false => False
  | .sl o i n c => viewAt m p base st o i n c k
  | .ref q => match st.list q with
    | some (o, i, n) => viewAt m p base st o i n none k
    | none => False
  | _ => False
def view1 (p : VP) (x : SA) (st : St) (k : VA → Prop) : Prop :=
  match p, x with
  | .cells p, .one c => vRow p [c] st fun l => match l with
    | [c'] => match c'.rawDat with | true => k (.a (.one c')) | false => False
    | _ => False
  | .cells p, .agg l => vRow p l st fun l' => match rawDats l' with | true => k (.a (.agg l')) | false => False
  | .rows m p base, .one c => viewRows m p base st c k
  | _, _ => False
def views : List VP → List SA → St → (List VA → Prop) → Prop
  | [], [], _, k => k []
  | p :: ps, x :: xs, st, k => view1 p x st fun a => views ps xs st fun l => k (a :: l)
  | _, _, _, _ => False
def canV : VA → St → SA × St
  | .a (.one (.dat k xs)), st => (.one (.ref (lenL st)), st ++ [some (.own false .ext 0 1 (.ints k xs))])
  | .a (.one c), st => (.one c, st)
  | .a (.agg l), st => match ghosts l st with | (l', s) => (.agg l', s)
  | .t m ct, st => (.one (.ref (lenL st)), st ++ [some (.own false .ext 0 m ct)])
def canVs : List VA → St → List SA × St
  | [], st => ([], st)
  | x :: r, st => match canV x st with
    | (a, s) => match canVs r s with
      | (l, s') => (a :: l, s')
def upBy (L o : Nat) : Option Nat := some (L + o)
def downBy (m o : Nat) : Option Nat := match Nat.blt o m with | true => none | false => some (o - m)
def noDat : SC → Bool
  | .dat _ _ => false
  | _ => true
def noDats : List SC → Bool
  | [] => true
  | c :: r => match noDat c with | true => noDats r | false => false
def noDatR : List (List SC) → Bool
  | [] => true
  | c :: r => match noDats c with | true => noDatR r | false => false
def noDatCols : List Col → Bool
  | [] => true
  | .data _ _ :: _ => false
  | _ :: r => noDatCols r
def plainO : Option SO → Bool
  | none => true
  | some (.own true .row _ _ (.ints _ _)) => true
  | some (.own true .row _ _ (.tab _ cs)) => noDatCols cs
  | some (.mem true .whole _ _ (.lst vs)) => noDatR vs
  | _ => false
def plainL : St → Bool
  | [] => true
  | x :: r => match plainO x with | true => plainL r | false => false
def pureSum (ps : List VP) (f : List VA → (SV → St → Prop) → Prop) : SumT := fun args st k =>
  views ps args st fun vas => f vas fun v new => match v.ren (upBy (lenL st)), mapO (OO.ren (upBy (lenL st))) new with
    | some v', some new' => k v' (st ++ new')
    | _, _ => False
def pureK (m : Nat) (K : SV → St → Prop) : SV → St → Prop := fun v st' =>
  match v.ren (downBy m), mapO (OO.ren (downBy m)) (dropL m st'), plainL (dropL m st') with
  | some v0, some new, true => K v0 new
  | _, _, _ => False
def tidyK (P : Program) (T : TypeId) (m : Nat) (K : SV → St → Prop) : SV → St → Prop := fun v st => match v with
  | .sa (.one c) => ownOf P T st c fun c' st' => collect m (.sa (.one c')) st' K
  | _ => False
def tidyL (P : Program) (T : TypeId) (j : Nat) (st : St) (l : List SC) (k : List SC → St → Prop) : Prop :=
  match Nat.blt j (lenL l) with
  | true => ownOf P T st (getL (.raw undef) l j) fun c' st' => k (setL l j c') st'
  | false => False
def tidyC (P : Program) (T : TypeId) (j m : Nat) (K : SV → St → Prop) : SV → St → Prop := fun v st => match v with
  | .sa (.agg l) => tidyL P T j st l fun l' st' => collect m (.sa (.agg l')) st' K
  | .tup (.agg l :: r) => tidyL P T j st l fun l' st' => collect m (.tup (.agg l' :: r)) st' K
  | _ => False
end Go.Ev

/- THE ENGINE, part 28: functions of data alone: what they read they get as data, and what they hand back is new. -/
namespace Go.Ev
open Go Go.RowKit
variable {P : Program}
theorem CellOk.rawOrDat {w : World} {α β : Al} {c : SC} {v : Value} (h : CellOk w α c v) (hc : c.rawDat = true) : CellOk w β c v := by
  cases c <;> first | exact h | simp [SC.rawDat] at hc
def VOks (w : World) : List SC → List Value → Prop
  | [], [] => True
  | c :: l, v :: vs => CellOk w (fun _ => none) c v ∧ VOks w l vs
  | _, _ => False
def VOk (w : World) : VA → Value → Prop
  | .a (.one c), v => CellOk w (fun _ => none) c v ∧ c.rawDat = true
  | .a (.agg l), v => ∃ vs, v = .agg vs.toArray ∧ VOks w l vs ∧ rawDats l = true
  | .t m ct, v => ∃ d, d.val = v ∧ Ev.isCell v = true ∧ ∀ β, Good β w d (.own false .ext 0 m ct)
def VAll (w : World) : List VA → List Value → Prop
  | [], [] => True
  | x :: l, v :: vs => VOk w x v ∧ VAll w l vs
  | _, _ => False
theorem rawDats_cons {c : SC} {l : List SC} (h : rawDats (c :: l) = true) : c.rawDat = true ∧ rawDats l = true := by
  unfold rawDats at h
  cases hc : c.rawDat <;> rw [hc] at h
  · cases h
  · exact ⟨rfl, h⟩
theorem cell_blk {w : World} {b o : Nat} {v : Value} (h : w.cell? ⟨b, o, none⟩ = some v) : b < w.heap.size := by
  unfold World.cell? at h
  split at h
  · rename_i hb; exact (Array.getElem?_eq_some_iff.1 hb).1
  · cases h
theorem vAt_sound {α : Al} {st : St} {w : World} (hR : R α st w) {kk : IntKind} {o i n : Nat} {cp : Option Nat} {k : List Int → Prop} (h : vAt kk st o i n cp k) : ∃ so d xs ct, st.get o = some so ∧ α o = some d ∧ k xs ∧ so.capped cp n = true ∧
    so.rows = some (1, ct) ∧ i + n ≤ ct.len ∧ ∀ a c, (0 < n → a = some ⟨d.blk, d.off + i * d.m, none⟩ ∧ n ≤ c) → DatOk w kk xs (.slice a n c) := by
  unfold vAt at h
  split at h
  · rename_i so ho
    split at h
    · rename_i ct hr
      obtain ⟨d, hd, hg⟩ := hR.good o _ ho
      obtain ⟨hcp, h⟩ := need_iff.1 h
      obtain ⟨hb, h⟩ := need_iff.1 h
      have hb : i + n ≤ ct.len := by simpa using hb
      obtain ⟨xs, hx, h⟩ := opt_iff.1 h
      obtain ⟨h1, h2⟩ := ctInts_spec hx
      rw [Ct.sub_len hb] at h1 h2
      obtain ⟨hm, _, hcell⟩ := hg.rowsCell hr
      refine ⟨so, d, xs, ct, ho, hd, h, hcp, hr, hb, fun a c ha => ?_⟩
      by_cases hn : n = 0
      · subst hn
        have : xs = [] := List.eq_nil_of_length_eq_zero h1
        subst this
        exact .inl ⟨rfl, a, c, rfl⟩
      · obtain ⟨rfl, hc⟩ := ha (by omega)
        have key : ∀ j, j < xs.length → w.cell? ⟨d.blk, d.off + i * d.m + j, none⟩ = some (.int kk (xs[j]?.getD 0)) := fun j hj => by
          have e1 := h2 j (by omega)
          rw [Ct.sub_get (by omega)] at e1
          obtain ⟨v, x1, x2, _⟩ := (hcell (i + j) (by omega)).2 0 _ (by rw [e1]; rfl)
          have x1 := (CellOk.val x1 (by simp))
          simp only [SC.val?, Option.some.injEq] at x1
          subst x1
          rw [← x2, hm]
          congr 2
          simp [Nat.add_assoc]
        exact .inr ⟨fun e => by subst e; simp at h1; omega, d.blk, d.off + i * d.m, c, by rw [h1], by omega, cell_blk (key 0 (by omega)), key⟩
    · exact h.elim
  · exact h.elim
theorem roomFor {α : Al} {st : St} {w : World} (hR : R α st w) {o : Nat} {so : SO} {d : Den} (ho : st.get o = some so) (hd : α o = some d) {m n i : Nat} {ct : Ct} (hr : so.rows = some (m, ct)) (hcp : so.capped none n = true) (hb : i + n ≤ ct.len) (h0 : 0 < n) : n ≤ d.cap - i := by
  obtain ⟨d', hd', hg⟩ := hR.good o _ ho
  rw [hd] at hd'; cases hd'
  have := hg.room hr (capped_zero hcp) (by omega)
  omega
theorem capped_le {so : SO} {c n : Nat} (h : so.capped (some c) n = true) : n ≤ c := by
  cases so <;> simp only [SO.capped, decide_eq_true_eq] at h <;> exact h
theorem vInt_sound {α : Al} {st : St} {w : World} (hR : R α st w) {kk : IntKind} {c : SC} {v : Value} {k : List Int → Prop} (hc : CellOk w α c v) (h : vInt kk st c k) : ∃ xs, k xs ∧ DatOk w kk xs v := by
  unfold vInt at h
  split at h
  · have hv := CellOk.val hc (by simp)
    simp only [SC.val?, Option.some.injEq] at hv
    subst hv
    exact ⟨[], h, .inl ⟨rfl, _, _, rfl⟩⟩
  · rename_i k' xs
    split at h
    · rename_i hk
      have hk : kk = k' := by simpa using hk
      subst hk
      exact ⟨_, h, hc⟩
    · exact h.elim
  · rename_i o i n cp
    obtain ⟨so, d, xs, ct, ho, hd, hk, hcp, hr, hb, hx⟩ := vAt_sound hR h
    have hv := CellOk.val hc (by simp)
    simp only [SC.val?, hd, Option.some.injEq] at hv
    subst hv
    refine ⟨xs, hk, hx _ _ fun h0 => ⟨rfl, ?_⟩⟩
    cases cp with
    | some c => simpa using capped_le hcp
    | none => simpa using roomFor hR ho hd hr hcp hb h0
  · rename_i q
    split at h
    · rename_i o i n hl
      obtain ⟨dq, a, c, hdq, hvq, ha, e, he⟩ := hR.list_val' hl
      obtain ⟨so, d, xs, ct, ho, hd, hk, hcp, hr, hb, hx⟩ := vAt_sound hR h
      have hv := CellOk.val hc (by simp)
      simp only [SC.val?, hdq, Option.some.injEq] at hv
      subst hv
      rw [hvq]
      refine ⟨xs, hk, hx _ _ fun h0 => ?_⟩
      obtain ⟨h1, h2⟩ := ha d hd h0
      refine ⟨h1, ?_⟩
      rw [h2]
      exact roomFor hR ho hd hr hcp hb h0
    · exact h.elim
  · exact h.elim
def CellsQ (α : Al) (w : World) (Q : Value → Prop) (e : List SC) (g : Nat → Option Value) : Prop := ∀ j c, e[j]? = some c → ∃ v, CellOk w α c v ∧ g j = some v ∧ Q v
theorem CellsQ.tail {α : Al} {w : World} {Q : Value → Prop} {c : SC} {e : List SC} {g : Nat → Option Value} (h : CellsQ α w Q (c :: e) g) : CellsQ α w Q e fun j => g (j + 1) := fun j x hj => h (j + 1) x (by simpa using hj)
theorem vRow_cells {α : Al} {st : St} {w : World} {Q : Value → Prop} (hR : R α st w) : ∀ {p : Pat} {e : List SC} {g : Nat → Option Value} {k : List SC → Prop}, CellsQ α w Q e g → vRow p e st k →
    ∃ e', k e' ∧ e'.length = e.length ∧ CellsQ α w Q e' g
  | none :: p, c :: r, g, k, hc, h => by
    simp only [vRow] at h
    obtain ⟨e', h1, h3, h4⟩ := vRow_cells hR hc.tail h
    refine ⟨_, h1, by simp [h3], fun j x hj => ?_⟩
    cases j with
    | zero => simp at hj; subst hj; exact hc 0 c rfl
    | succ j => exact h4 j x (by simpa using hj)
  | some kk :: p, c :: r, g, k, hc, h => by
    simp only [vRow] at h
    obtain ⟨v, y1, y2, y3⟩ := hc 0 c rfl
    obtain ⟨xs, h1, h3⟩ := vInt_sound hR y1 h
    obtain ⟨e', h4, h6, h7⟩ := vRow_cells hR hc.tail h1
    refine ⟨_, h4, by simp [h6], fun j x hj => ?_⟩
    cases j with
    | zero => simp at hj; subst hj; exact ⟨v, h3, y2, y3⟩
    | succ j => exact h7 j x (by simpa using hj)
  | [], e, g, k, hc, h => by
    have : vRow [] e st k = k e := by cases e <;> rfl
    rw [this] at h
    exact ⟨e, h, rfl, hc⟩
  | x :: p, [], g, k, hc, h => by
    have : vRow (x :: p) [] st k = k [] := by cases x <;> rfl
    rw [this] at h
    exact ⟨[], h, rfl, hc⟩
theorem vRows_cells {α : Al} {st : St} {w : World} {Q : Value → Prop} (hR : R α st w) {s : Nat} {p : Pat} : ∀ {vs : List (List SC)} {g : Nat → Nat → Option Value} {k : List (List SC) → Prop},
    (∀ i e, vs[i]? = some e → e.length = s ∧ CellsQ α w Q e (g i)) → vRows p vs st k → ∃ vs', k vs' ∧ vs'.length = vs.length ∧ ∀ i e, vs'[i]? = some e → e.length = s ∧ CellsQ α w Q e (g i)
  | [], g, k, hc, h => ⟨[], h, rfl, hc⟩
  | e :: r, g, k, hc, h => by
    simp only [vRows] at h
    obtain ⟨he1, he2⟩ := hc 0 e rfl
    obtain ⟨e', h1, h3, h4⟩ := vRow_cells hR he2 h
    obtain ⟨r', h5, h7, h8⟩ := vRows_cells hR (g := fun i => g (i + 1)) (fun i x hx => hc (i + 1) x (by simpa using hx)) h1
    refine ⟨_, h5, by simp [h7], fun i x hx => ?_⟩
    cases i with
    | zero => simp at hx; subst hx; exact ⟨h3.trans he1, h4⟩
    | succ i => exact h8 i x (by simpa using hx)
theorem vCt_cells {α : Al} {st : St} {w : World} {Q : Value → Prop} {p : Pat} {ct : Ct} {m : Nat} {g : Nat → Nat → Option Value} {k : Ct → Prop} (hR : R α st w) (hc : ∀ x, x < ct.len → (ct.get x).length = m ∧ CellsQ α w Q (ct.get x) (g x)) (h : vCt p ct st k) :
    ∃ ct', k ct' ∧ ct'.len = ct.len ∧ ∀ x, x < ct'.len → (ct'.get x).length = m ∧ CellsQ α w Q (ct'.get x) (g x) := by
  unfold vCt at h
  split at h
  · rename_i vs
    obtain ⟨vs', h1, h3, h4⟩ := vRows_cells (s := m) (g := g) hR (fun i e he => by
      have hi : i < vs.length := (List.getElem?_eq_some_iff.1 he).1
      have := hc i hi
      simp only [Ct.get, getL_eq, he, Option.getD_some] at this
      exact this) h
    refine ⟨.lst vs', h1, h3, fun i hi => ?_⟩
    have hi' : i < vs'.length := hi
    have := h4 i vs'[i] (by simp [hi'])
    simp only [Ct.get, getL_eq, List.getElem?_eq_getElem hi', Option.getD_some]
    exact this
  · exact ⟨ct, h, rfl, hc⟩
theorem VOks.of {w : World} {α : Al} {Q : Value → Prop} : ∀ {l : List SC} {vs : List Value}, l.length = vs.length → CellsQ α w Q l (fun j => vs[j]?) → rawDats l = true → VOks w l vs
  | [], [], _, _, _ => trivial
  | c :: l, v :: vs, hl, h, hr => by
    obtain ⟨u, h1, h2, _⟩ := h 0 c rfl
    simp at h2
    subst h2
    exact ⟨h1.rawOrDat (rawDats_cons hr).1, VOks.of (by simpa using hl) (fun j x hj => by
      have := h (j + 1) x (by simpa using hj)
      simpa using this) (rawDats_cons hr).2⟩
  | [], _ :: _, hl, _, _ => by simp at hl
  | _ :: _, [], hl, _, _ => by simp at hl
theorem Reps.toQ {α : Al} {w : World} : ∀ {l : List SC} {vs : List Value}, Reps α l vs → l.length = vs.length ∧ CellsQ α w (fun _ => True) l (fun j => vs[j]?)
  | [], [], _ => ⟨rfl, fun j c h => by simp at h⟩
  | c :: l, v :: vs, h => by
    obtain ⟨h1, h2⟩ := Reps.toQ (w := w) h.2
    refine ⟨by simp [h1], fun j x hj => ?_⟩
    cases j with
    | zero => simp at hj; subst hj; exact ⟨v, CellOk.of h.1, rfl, trivial⟩
    | succ j => simpa using h2 j x (by simpa using hj)
  | [], _ :: _, h => h.elim
  | _ :: _, [], h => h.elim
theorem Col.at_rawDat (c : Col) (i : Nat) : (c.at i).rawDat = true := by cases c <;> rfl
theorem Ct.flat_cells {ct : Ct} (h : ct.flat = true) {i j : Nat} {c : SC} (hc : (ct.get i)[j]? = some c) : c.rawDat = true := by
  cases ct with
  | lst vs => cases h
  | ext n cs vs => cases h
  | at1 n vs j e => cases h
  | ints k xs =>
    have := List.mem_of_getElem? hc
    simp only [Ct.get, List.mem_singleton] at this
    subst this; rfl
  | tab n cs =>
    simp only [Ct.get] at hc
    have : ∀ (cs : List Col) (j : Nat), (colsAt i cs)[j]? = some c → c.rawDat = true := by
      intro cs
      induction cs with
      | nil => intro j h; simp [colsAt] at h
      | cons x r ih =>
        intro j h
        cases j with
        | zero => simp [colsAt] at h; subst h; exact x.at_rawDat i
        | succ j => exact ih j (by simpa [colsAt] using h)
    exact this cs j hc
theorem viewAt_sound {α : Al} {st : St} {w : World} (hR : R α st w) {m : Nat} {p : Pat} {base : Ct} {o i n : Nat} {cp : Option Nat} {k : VA → Prop} (h : viewAt m p base st o i n cp k) :
    ∃ so d va ct, st.get o = some so ∧ α o = some d ∧ k va ∧ so.capped cp n = true ∧ so.rows = some (m, ct) ∧ i + n ≤ ct.len ∧
      ∀ a c, (0 < n → a = some ⟨d.blk, d.off + i * d.m, none⟩ ∧ n ≤ c) → VOk w va (.slice a n c) := by
  unfold viewAt at h
  split at h
  · rename_i so ho
    split at h
    · rename_i m' ct hr
      split at h
      · rename_i hb0
        obtain ⟨rfl, hbz⟩ : m' = m ∧ base.len = 0 := by simpa using hb0
        obtain ⟨hcp, h⟩ := need_iff.1 h
        obtain ⟨hb, h⟩ := need_iff.1 h
        have hb : i + n ≤ ct.len := by simpa using hb
        obtain ⟨d, hd, hg⟩ := hR.good o _ ho
        obtain ⟨hm, hmp, hcell⟩ := hg.rowsCell hr
        obtain ⟨ct', h1, h3, h4⟩ := vCt_cells (m := m') (Q := fun v => Ev.isCell v = true) (g := fun x j => w.cell? ⟨d.blk, d.off + (i + x) * m' + j, none⟩) hR (fun x hx => by
          rw [Ct.sub_len hb] at hx
          rw [Ct.sub_get hx]
          exact hcell (i + x) (by omega)) h
        rw [Ct.sub_len hb] at h3
        obtain ⟨ct2, happ, h1⟩ := opt_iff.1 h1
        split at h1
        · rename_i hfl
          obtain ⟨q1, q2⟩ := Ct.app_spec happ
          rw [hbz, Nat.zero_add, h3] at q1
          refine ⟨so, d, _, ct, ho, hd, h1, hcp, hr, hb, fun a c ha => ?_⟩
          by_cases hn : n = 0
          · subst hn
            exact ⟨⟨0, 0, m', 0, .slice a 0 c, false⟩, rfl, rfl, fun β => ⟨rfl, hmp, .inl ⟨rfl, q1, a, c, rfl, fun e => by cases e⟩⟩⟩
          · obtain ⟨rfl, hc⟩ := ha (by omega)
            have hlt : d.blk < w.heap.size := by
              obtain ⟨g1, g2⟩ := hcell i (by omega)
              have : 0 < (ct.get i).length := by omega
              obtain ⟨v, _, x2, _⟩ := g2 0 _ (List.getElem?_eq_getElem this)
              exact cell_blk x2
            refine ⟨⟨d.blk, d.off + i * d.m, m', c, .slice (some ⟨d.blk, d.off + i * d.m, none⟩) n c, true⟩, rfl, rfl, fun β => ⟨rfl, hmp, .inr ⟨rfl, by rw [q1], by rw [q1]; exact hc, hlt, fun x hx => ?_⟩⟩⟩
            have hx' : x < ct'.len := by rw [h3, ← q1]; exact hx
            have hge : ct2.get x = ct'.get x := by
              rw [q2 x hx, hbz, if_neg (Nat.not_lt_zero x), Nat.sub_zero]
            rw [hge]
            refine ⟨(h4 x hx').1, fun j y hj => ?_⟩
            obtain ⟨v, y1, y2, y3⟩ := (h4 x hx').2 j y hj
            refine ⟨v, y1.rawOrDat (Ct.flat_cells hfl (by rw [hge]; exact hj)), ?_, y3⟩
            show w.cell? ⟨d.blk, d.off + i * d.m + x * m' + j, none⟩ = some v
            rw [show d.off + i * d.m + x * m' + j = d.off + (i + x) * m' + j from by rw [hm, Nat.add_mul]; omega]
            exact y2
        · exact h1.elim
      · exact h.elim
    · exact h.elim
  · exact h.elim
theorem viewRows_sound {α : Al} {st : St} {w : World} (hR : R α st w) {m : Nat} {p : Pat} {base : Ct} {c : SC} {v : Value} {k : VA → Prop} (hv : c.val? α = some v) (h : viewRows m p base st c k) :
    ∃ va, k va ∧ VOk w va v := by
  unfold viewRows at h
  split at h
  · simp only [SC.val?, Option.some.injEq] at hv
    subst hv
    split at h
    · rename_i hb
      have hb : 0 < m ∧ base.len = 0 := by simpa using hb
      exact ⟨_, h, ⟨0, 0, m, 0, .slice none 0 _, false⟩, rfl, rfl, fun β => ⟨rfl, hb.1, .inl ⟨rfl, hb.2, _, _, rfl, fun e => by cases e⟩⟩⟩
    · exact h.elim
  · rename_i o i n cp
    obtain ⟨so, d, va, ct, ho, hd, hk, hcp, hr, hb, hx⟩ := viewAt_sound hR h
    simp only [SC.val?, hd, Option.some.injEq] at hv
    subst hv
    refine ⟨va, hk, hx _ _ fun h0 => ⟨rfl, ?_⟩⟩
    cases cp with
    | some c => simpa using capped_le hcp
    | none => simpa using roomFor hR ho hd hr hcp hb h0
  · rename_i q
    split at h
    · rename_i o i n hl
      obtain ⟨dq, a, c, hdq, hvq, ha, e, he⟩ := hR.list_val' hl
      obtain ⟨so, d, va, ct, ho, hd, hk, hcp, hr, hb, hx⟩ := viewAt_sound hR h
      simp only [SC.val?, hdq, Option.some.injEq] at hv
      subst hv
      rw [hvq]
      refine ⟨va, hk, hx _ _ fun h0 => ?_⟩
      obtain ⟨h1, h2⟩ := ha d hd h0
      refine ⟨h1, ?_⟩
      rw [h2]
      exact roomFor hR ho hd hr hcp hb h0
    · exact h.elim
  · exact h.elim
theorem view1_sound {α : Al} {st : St} {w : World} (hR : R α st w) {p : VP} {x : SA} {v : Value} {k : VA → Prop} (hx : x.rep α v) (h : view1 p x st k) : ∃ va, k va ∧ VOk w va v := by
  unfold view1 at h
  split at h
  · rename_i p c
    obtain ⟨r1, r2⟩ := Reps.toQ (α := α) (w := w) (l := [c]) (vs := [v]) ⟨show c.val? α = some v from hx, trivial⟩
    obtain ⟨cs', h1, h2, h3⟩ := vRow_cells hR r2 h
    split at h1
    · rename_i c'
      split at h1
      · rename_i hrd
        obtain ⟨u, y1, y2, _⟩ := h3 0 c' rfl
        simp at y2
        subst y2
        exact ⟨_, h1, y1.rawOrDat hrd, hrd⟩
      · exact h1.elim
    · exact h1.elim
  · rename_i p l
    obtain ⟨vs, r, rfl⟩ := hx
    obtain ⟨r1, r2⟩ := Reps.toQ (w := w) r
    obtain ⟨cs', h1, h2, h3⟩ := vRow_cells hR r2 h
    split at h1
    · rename_i hrd
      exact ⟨_, h1, vs, rfl, VOks.of (h2.trans r1) h3 hrd, hrd⟩
    · exact h1.elim
  · exact viewRows_sound hR hx h
  · exact h.elim
theorem views_sound {α : Al} {st : St} {w : World} (hR : R α st w) : ∀ {ps : List VP} {args : List SA} {vals : List Value} {k : List VA → Prop}, RepsA α args vals → views ps args st k →
    ∃ vas, k vas ∧ VAll w vas vals
  | [], [], [], k, _, h => ⟨[], h, trivial⟩
  | p :: ps, x :: xs, v :: vs, k, ha, h => by
    simp only [views] at h
    obtain ⟨va, h1, h3⟩ := view1_sound hR ha.1 h
    obtain ⟨vas, h4, h5⟩ := views_sound hR ha.2 h1
    exact ⟨_, h4, h3, h5⟩
  | [], [], _ :: _, _, e, _ => e.elim
  | _ :: _, _ :: _, [], _, e, _ => e.elim
  | [], _ :: _, _, _, _, h => h.elim
  | _ :: _, [], _, _, _, h => h.elim
theorem R.more {β : Al} {st : St} {w : World} (h : R β st w) (hn : ∀ o so, st.get o = some so → so.wr = false) {d : Den} {so : SO} (hw : so.wr = false) (hv : Ev.isCell d.val = true) (hg : Good (β.add st.length d) w d so) :
    R (β.add st.length d) (st ++ [some so]) w ∧ ∀ o so1, St.get (st ++ [some so]) o = some so1 → so1.wr = false := by
  have hno : β st.length = Option.none := h.none _ (Nat.le_refl _)
  have hle := Al.le_add (d := d) hno
  have hw' : ∀ o so1, St.get (st ++ [some so]) o = some so1 → so1.wr = false := by
    intro o so1 ho
    rcases St.get_append ho with ho | ⟨_, e⟩
    · exact hn o so1 ho
    · cases e; exact hw
  refine ⟨⟨?_, ?_, ?_, ?_, Al.cell_add h.cell hv⟩, hw'⟩
  · intro o so1 ho
    rcases St.get_append ho with ho | ⟨rfl, e⟩
    · obtain ⟨d', h1, h2⟩ := h.good o so1 ho
      exact ⟨d', hle _ _ h1, h2.congr hle (fun _ _ => rfl) (Nat.le_refl _)⟩
    · cases e; exact ⟨d, Al.add_same, hg⟩
  · intro o o' so1 so' d1 d2 _ _ ho _ _ _ hwr _
    rw [hw' o so1 ho] at hwr; cases hwr
  · intro o so1 d1 _ ho _ hwr
    rw [hw' o so1 ho] at hwr; cases hwr
  · intro o ho
    simp at ho
    rw [Al.add_other (by omega)]; exact h.none o (by omega)
def NoWr (st : St) : Prop := ∀ o so, st.get o = some so → so.wr = false
theorem datOk_good {w : World} {k : IntKind} {xs : List Int} {v : Value} (h : DatOk w k xs v) : ∃ d, d.val = v ∧ Ev.isCell d.val = true ∧ ∀ β, Good β w d (.own false .ext 0 1 (.ints k xs)) := by
  rcases h with ⟨rfl, a, c, rfl⟩ | ⟨h1, b, o, c, rfl, h2, h3, h4⟩
  · exact ⟨⟨0, 0, 1, 0, .slice a 0 c, false⟩, rfl, rfl, fun β => ⟨rfl, Nat.one_pos, .inl ⟨rfl, rfl, a, c, rfl, fun e => by cases e⟩⟩⟩
  · refine ⟨⟨b, o, 1, c, .slice (some ⟨b, o, none⟩) xs.length c, true⟩, rfl, rfl, fun β => ⟨rfl, Nat.one_pos, .inr ⟨rfl, rfl, h2, h3, fun i hi => ⟨rfl, fun j x hj => ?_⟩⟩⟩⟩
    simp only [Ct.len] at hi
    cases j with
    | succ j => simp [Ct.get] at hj
    | zero =>
      simp only [Ct.get, List.getElem?_cons_zero, Option.some.injEq] at hj
      subst hj
      refine ⟨_, CellOk.of rfl, ?_, rfl⟩
      simp only [Nat.mul_one, Nat.add_zero, List.getD_eq_getElem?_getD]
      exact h4 i hi
theorem ghosts_can {w : World} : ∀ {l : List SC} {vs : List Value} {β : Al} {st : St}, R β st w → NoWr st → VOks w l vs → rawDats l = true →
    ∃ β', β.le β' ∧ R β' (ghosts l st).2 w ∧ NoWr (ghosts l st).2 ∧ Reps β' (ghosts l st).1 vs
  | [], [], β, st, hR, hn, _, _ => ⟨β, Al.le.refl _, hR, hn, trivial⟩
  | c :: l, v :: vs, β, st, hR, hn, h, hr => by
    obtain ⟨r1, r2⟩ := rawDats_cons hr
    cases c with
    | dat k xs =>
      obtain ⟨d, rfl, hc, hg⟩ := datOk_good (show DatOk w k xs v from h.1)
      obtain ⟨m1, m2⟩ := hR.more hn (d := d) (so := .own false .ext 0 1 (.ints k xs)) rfl hc (hg _)
      obtain ⟨β', x1, x2, x3, x4⟩ := ghosts_can m1 m2 h.2 r2
      simp only [ghosts, lenL_eq]
      refine ⟨β', fun o e he => x1 _ _ (Al.le_add (hR.none _ (Nat.le_refl _)) _ _ he), x2, x3, ?_, x4⟩
      simp only [SC.val?, x1 _ _ Al.add_same]
    | raw u =>
      obtain ⟨β', x1, x2, x3, x4⟩ := ghosts_can hR hn h.2 r2
      have hv : u = v := by have := h.1; simpa [CellOk, SC.val?] using this
      subst hv
      exact ⟨β', x1, x2, x3, rfl, x4⟩
    | ptr _ _ _ => cases r1
    | sl _ _ _ _ => cases r1
    | ref _ => cases r1
  | [], _ :: _, _, _, _, _, e, _ => e.elim
  | _ :: _, [], _, _, _, _, e, _ => e.elim
theorem canV_can {w : World} {x : VA} {v : Value} {β : Al} {st : St} (hR : R β st w) (hn : NoWr st) (h : VOk w x v) : ∃ β', β.le β' ∧ R β' (canV x st).2 w ∧ NoWr (canV x st).2 ∧ (canV x st).1.rep β' v := by
  cases x with
  | a x =>
    cases x with
    | one c =>
      obtain ⟨h1, h2⟩ := h
      cases c with
      | dat k xs =>
        obtain ⟨d, rfl, hc, hg⟩ := datOk_good (show DatOk w k xs v from h1)
        obtain ⟨m1, m2⟩ := hR.more hn (d := d) (so := .own false .ext 0 1 (.ints k xs)) rfl hc (hg _)
        simp only [canV, lenL_eq]
        exact ⟨_, Al.le_add (hR.none _ (Nat.le_refl _)), m1, m2, by simp only [SA.rep, SC.val?, Al.add_same]⟩
      | raw u => exact ⟨β, Al.le.refl _, hR, hn, h1⟩
      | ptr _ _ _ => cases h2
      | sl _ _ _ _ => cases h2
      | ref _ => cases h2
    | agg l =>
      obtain ⟨vs, rfl, h1, h2⟩ := h
      obtain ⟨β', x1, x2, x3, x4⟩ := ghosts_can hR hn h1 h2
      exact ⟨β', x1, x2, x3, vs, x4, rfl⟩
  | t m ct =>
    obtain ⟨d, rfl, hc, hg⟩ := h
    obtain ⟨m1, m2⟩ := hR.more hn (d := d) (so := .own false .ext 0 m ct) rfl hc (hg _)
    simp only [canV, lenL_eq]
    exact ⟨_, Al.le_add (hR.none _ (Nat.le_refl _)), m1, m2, by simp only [SA.rep, SC.val?, Al.add_same]⟩
theorem canVs_can {w : World} : ∀ {vas : List VA} {vals : List Value} {β : Al} {st : St}, R β st w → NoWr st → VAll w vas vals → ∃ β', β.le β' ∧ R β' (canVs vas st).2 w ∧ NoWr (canVs vas st).2 ∧ RepsA β' (canVs vas st).1 vals
  | [], [], β, st, hR, hn, _ => ⟨β, Al.le.refl _, hR, hn, trivial⟩
  | x :: r, v :: vs, β, st, hR, hn, h => by
    obtain ⟨β1, a1, a2, a3, a4⟩ := canV_can hR hn h.1
    obtain ⟨β2, b1, b2, b3, b4⟩ := canVs_can a2 a3 h.2
    exact ⟨β2, fun o d e => b1 _ _ (a1 _ _ e), b2, b3, SA.rep_mono b1 a4, b4⟩
  | [], _ :: _, _, _, _, _, e => e.elim
  | _ :: _, [], _, _, _, _, e => e.elim
theorem noDats_mem : ∀ {l : List SC}, noDats l = true → ∀ k xs, SC.dat k xs ∉ l
  | [], _, k, xs, h => by cases h
  | c :: l, h, k, xs, hm => by
    unfold noDats at h
    cases hc : noDat c <;> rw [hc] at h
    · cases h
    · rcases List.mem_cons.1 hm with e | hm
      · subst e; cases hc
      · exact noDats_mem h k xs hm
theorem noDatR_mem : ∀ {l : List (List SC)}, noDatR l = true → ∀ e ∈ l, noDats e = true
  | [], _, e, h => by cases h
  | c :: l, h, e, hm => by
    unfold noDatR at h
    cases hc : noDats c <;> rw [hc] at h
    · cases h
    · rcases List.mem_cons.1 hm with e | hm
      · subst e; exact hc
      · exact noDatR_mem h e hm
theorem noDatCols_mem {i : Nat} : ∀ {cs : List Col}, noDatCols cs = true → ∀ k xs, SC.dat k xs ∉ colsAt i cs
  | [], _, k, xs, h => by cases h
  | .data _ _ :: _, h, _, _, _ => by cases h
  | .ints _ _ :: r, h, k, xs, hm => by
    rcases List.mem_cons.1 hm with e | hm
    · cases e
    · exact noDatCols_mem (cs := r) h k xs hm
  | .bools _ :: r, h, k, xs, hm => by
    rcases List.mem_cons.1 hm with e | hm
    · cases e
    · exact noDatCols_mem (cs := r) h k xs hm
theorem plainO_ice {so : SO} (h : plainO (some so) = true) {w : World} {d : Den} {b : Nat} : ¬ Ice w d so b := by
  unfold plainO at h
  split at h
  · rename_i e; cases e
  · rename_i e; cases e
    rintro ⟨_, i, j, k, xs, v, _, h2, _⟩
    have := List.mem_of_getElem? h2
    simp only [Ct.get, List.mem_singleton] at this
    cases this
  · rename_i T m n cs e; cases e
    rintro ⟨_, i, j, k, xs, v, _, h2, _⟩
    exact noDatCols_mem h k xs (List.mem_of_getElem? h2)
  · rename_i T m vs e; cases e
    rintro ⟨i, j, k, xs, v, h1, h2, _⟩
    simp only [Ct.get, getL_eq] at h2
    simp only [Ct.len] at h1
    rw [List.getElem?_eq_getElem h1, Option.getD_some] at h2
    exact noDats_mem (noDatR_mem h _ (List.getElem_mem h1)) k xs (List.mem_of_getElem? h2)
  · cases h
theorem plainL_get : ∀ {l : St} {j : Nat} {x : Option SO}, plainL l = true → l[j]? = some x → plainO x = true
  | [], j, x, _, h => by simp at h
  | y :: r, j, x, hp, h => by
    unfold plainL at hp
    cases hc : plainO y <;> rw [hc] at hp
    · cases hp
    · cases j with
      | zero => simp at h; subst h; exact hc
      | succ j => exact plainL_get hp (by simpa using h)
theorem back_sound {α β β1 : Al} {st loc loc' new0 new : St} {w w' : World} (hR : R α st w) (hn : NoWr loc) (hto : To β loc w β1 loc' w')
    (h1 : mapO (OO.ren (downBy loc.length)) (loc'.drop loc.length) = some new0) (hp : plainL (loc'.drop loc.length) = true) (h2 : mapO (OO.ren (upBy st.length)) new0 = some new) :
    ∃ α2, (∀ o, α2 (st.length + o) = β1 (o + loc.length)) ∧ To α st w α2 (st ++ new) w' := by
  obtain ⟨hl1, hg1⟩ := mapO_get h1
  obtain ⟨hl2, hg2⟩ := mapO_get h2
  simp only [List.length_drop] at hl1
  have hNoWr : ∀ b, ¬ Wr β loc w b := by
    rintro b ⟨o, so, d, x1, _, x3, _⟩
    rw [hn o so x1] at x3; cases x3
  let α2 : Al := fun o => if o < st.length then α o else β1 (o - st.length + loc.length)
  have hα2 : ∀ o, α2 (st.length + o) = β1 (o + loc.length) := fun o => by
    simp only [α2]
    rw [if_neg (by omega)]
    congr 1; omega
  have hle : α.le α2 := fun o d h => by
    have : o < st.length := by
      by_cases hh : o < st.length
      · exact hh
      · rw [hR.none o (by omega)] at h; cases h
    simp only [α2, this, if_true]; exact h
  have hkept : ∀ b, b < w.heap.size → w'.heap[b]? = w.heap[b]? := fun b hb => hto.kept b hb (hNoWr b)
  let γ : Al := fun o => β1 (o + loc.length)
  have hγ : ∀ o o', downBy loc.length o = some o' → γ o' = β1 o := by
    intro o o' h
    unfold downBy at h
    split at h
    · cases h
    · rename_i hb
      have hb : ¬ o < loc.length := fun hlt => by
        have : Nat.blt o loc.length = true := Nat.ble_eq_true_of_le hlt
        rw [this] at hb; cases hb
      cases h
      show β1 (o - loc.length + loc.length) = β1 o
      congr 1; omega
  have hα : ∀ o o', upBy st.length o = some o' → α2 o' = γ o := by
    intro o o' h
    simp only [upBy, Option.some.injEq] at h
    subst h
    exact hα2 o
  have key : ∀ (o : Nat) (so : SO), St.get (st ++ new) o = some so → (o < st.length ∧ st.get o = some so) ∨
      (∃ j s1, o = st.length + j ∧ loc'.get (j + loc.length) = some s1 ∧ plainO (some s1) = true ∧ Kin s1 so ∧ ∀ w d, Good β1 w d s1 → Good α2 w d so) := by
    intro o so ho
    rw [St.get_eq] at ho
    by_cases hlo : o < st.length
    · rw [List.getElem?_append_left hlo] at ho
      exact .inl ⟨hlo, by rw [St.get_eq]; exact ho⟩
    · rw [List.getElem?_append_right (by omega)] at ho
      right
      have hj : o - st.length < new.length := by
        by_cases hh : o - st.length < new.length
        · exact hh
        · rw [List.getElem?_eq_none (by omega)] at ho; cases ho
      have hj' : new[o - st.length]? = some (some so) := by
        rw [List.getElem?_eq_getElem hj] at ho ⊢; simpa using ho
      obtain ⟨x, hx, hr⟩ := hg2 _ _ hj'
      rcases OO.ren_spec hr with ⟨_, e⟩ | ⟨s0, so2, e1, e2, e3, e5⟩
      · cases e
      · cases e2
        subst e1
        obtain ⟨y, hy, hr1⟩ := hg1 _ _ hx
        rcases OO.ren_spec hr1 with ⟨_, e⟩ | ⟨s1, s02, f1, f2, f3, f5⟩
        · cases e
        · cases f2
          subst f1
          have hpl := plainL_get hp hy
          rw [List.getElem?_drop] at hy
          refine ⟨o - st.length, s1, by omega, by rw [St.get_eq, Nat.add_comm, hy]; rfl, hpl, f3.trans e3, fun w d hg => e5 γ α2 hα w d (f5 β1 γ hγ w d hg)⟩
  have old : ∀ o so d, st.get o = some so → α o = some d → Good α2 w' d so ∧ (∀ b, Foot w' d so b → Foot w d so b) ∧ (∀ b, Ice w' d so b → Ice w d so b) ∧ (∀ b, Foot w d so b → b < w.heap.size) ∧ ∀ b, so.lies w' d b → so.lies w d b := by
    intro o so d ho hd
    obtain ⟨d', x1, x2⟩ := hR.good o so ho
    rw [hd] at x1; cases x1
    have hag : ∀ b, Foot w d so b → w'.heap[b]? = w.heap[b]? := fun b hb => hkept b (x2.lt hb)
    obtain ⟨g1, g2⟩ := x2.kept hle hag hto.size
    exact ⟨g1, g2, fun b => Ice.congr hag, fun b hb => x2.lt hb, fun b => SO.lies_congr x2 hag⟩
  have fresh : ∀ j s1 d b, loc'.get (j + loc.length) = some s1 → β1 (j + loc.length) = some d → s1.lies w' d b → w.heap.size ≤ b := by
    intro j s1 d b h1 h2 h3
    by_cases hb : b < w.heap.size
    · rcases hto.lies _ _ d b h1 h2 hb h3 with h | ⟨h, _⟩
      · exact absurd h (hNoWr b)
      · omega
    · omega
  have newFoot : ∀ j s1 so d b, loc'.get (j + loc.length) = some s1 → plainO (some s1) = true → Kin s1 so → β1 (j + loc.length) = some d → Foot w' d so b → w.heap.size ≤ b := by
    intro j s1 so d b h1 hpl hk h2 h3
    rcases hk.foot _ _ _ h3 with h3 | h3
    · exact fresh j s1 d b h1 h2 h3
    · exact absurd h3 (plainO_ice hpl)
  refine ⟨α2, hα2, ⟨⟨?_, ?_, ?_, ?_, ?_⟩, ?_, ?_, ?_, ?_, ?_, fun b hb _ => hkept b hb, hto.size, hto.tape, hto.os, hto.output⟩⟩
  · intro o so ho
    rcases key o so ho with ⟨h1, h2⟩ | ⟨j, s1, rfl, h2, h3, h4, h5⟩
    · obtain ⟨d, x1, _⟩ := hR.good o so h2
      exact ⟨d, hle _ _ x1, (old o so d h2 x1).1⟩
    · obtain ⟨d, x1, x2⟩ := hto.rep.good _ s1 h2
      exact ⟨d, (hα2 j).trans x1, h5 _ _ x2⟩
  · intro o o' so so' d d' b hne ho ho' hd hd' hw hb hf
    rcases key o so ho with ⟨h1, h2⟩ | ⟨j, s1, rfl, h2, h3, h4, h5⟩ <;> rcases key o' so' ho' with ⟨l1, l2⟩ | ⟨j', s1', rfl, l2, l3, l4, l5⟩
    · simp only [α2, h1, l1, if_true] at hd hd'
      exact hR.sep o o' so so' d d' b hne h2 l2 hd hd' hw ((old o so d h2 hd).2.2.2.2 b hb) ((old o' so' d' l2 hd').2.1 b hf)
    · simp only [α2, h1, if_true] at hd
      have x1 := (old o so d h2 hd).2.2.2.1 b (.inl ((old o so d h2 hd).2.2.2.2 b hb))
      have x2 := newFoot j' s1' so' d' b l2 l3 l4 ((hα2 j').symm.trans hd') hf
      omega
    · simp only [α2, l1, if_true] at hd'
      obtain ⟨_, y2, _, y4, _⟩ := old o' so' d' l2 hd'
      have x1 := y4 b (y2 b hf)
      have x2 := fresh j s1 d b h2 ((hα2 j).symm.trans hd) (h4.lies _ _ _ hb)
      omega
    · exact hto.rep.sep _ _ s1 s1' d d' b (by omega) h2 l2 ((hα2 j).symm.trans hd) ((hα2 j').symm.trans hd') (h4.wr.trans hw) (h4.lies _ _ _ hb) (l4.foot _ _ _ hf)
  · intro o so d b ho hd hw hb hib
    rcases key o so ho with ⟨h1, h2⟩ | ⟨j, s1, rfl, h2, h3, h4, h5⟩
    · simp only [α2, h1, if_true] at hd
      exact hR.self o so d b h2 hd hw ((old o so d h2 hd).2.2.2.2 b hb) ((old o so d h2 hd).2.2.1 b hib)
    · exact absurd (h4.ice _ _ _ hib) (plainO_ice h3)
  · intro o ho
    simp only [List.length_append] at ho
    simp only [α2]
    rw [if_neg (by omega)]
    have := hto.len
    exact hto.rep.none _ (by omega)
  · intro o d hd
    simp only [α2] at hd
    split at hd
    · exact hR.cell o d hd
    · exact hto.rep.cell _ d hd
  · intro o ho; simp only [α2, ho, if_true]
  · simp only [List.length_append]; omega
  · rintro o so d b x1 x2 hb x3
    rcases key o so x1 with ⟨h1, h2⟩ | ⟨j, s1, rfl, h2, h3, h4, h5⟩
    · exact .inr ⟨h1, so, h2, (old o so d h2 (by simp only [α2, h1, if_true] at x2; exact x2)).2.2.2.2 b x3⟩
    · have := fresh j s1 d b h2 ((hα2 j).symm.trans x2) (h4.lies _ _ _ x3)
      omega
  · rintro o so d b x1 x2 hb x3
    rcases key o so x1 with ⟨h1, h2⟩ | ⟨j, s1, rfl, h2, h3, h4, h5⟩
    · simp only [α2, h1, if_true] at x2
      exact .inr ⟨o, so, d, h2, x2, (old o so d h2 x2).2.2.1 b x3⟩
    · exact absurd (h4.ice _ _ _ x3) (plainO_ice h3)
  · rintro b hb ⟨o, so, d, x1, x2, x3, x4⟩
    rcases key o so x1 with ⟨h1, h2⟩ | ⟨j, s1, rfl, h2, h3, h4, h5⟩
    · simp only [α2, h1, if_true] at x2
      exact ⟨o, so, d, h2, x2, x3, (old o so d h2 x2).2.2.2.2 b x4⟩
    · have := fresh j s1 d b h2 ((hα2 j).symm.trans x2) (h4.lies _ _ _ x4)
      omega
def LinV (f : (SV → St → Prop) → Prop) : Prop := Lin f
theorem lin_vAt {kk : IntKind} {st : St} {o i n : Nat} {c : Option Nat} : LinG (vAt kk st o i n c) := by
  intro k h
  unfold vAt at h ⊢
  split at h
  · split at h
    · obtain ⟨h1, h⟩ := need_iff.1 h
      obtain ⟨h2, h⟩ := need_iff.1 h
      obtain ⟨xs, h3, h⟩ := opt_iff.1 h
      exact ⟨xs, h, fun k2 hk => need_iff.2 ⟨h1, need_iff.2 ⟨h2, opt_iff.2 ⟨xs, h3, hk⟩⟩⟩⟩
    · exact h.elim
  · exact h.elim
theorem lin_vInt {kk : IntKind} {st : St} {c : SC} : LinG (vInt kk st c) := by
  intro k h
  unfold vInt at h ⊢
  split at h
  · exact ⟨_, h, fun _ hk => hk⟩
  · split at h
    · exact ⟨_, h, fun _ hk => hk⟩
    · exact h.elim
  · exact lin_vAt k h
  · split at h
    · exact lin_vAt k h
    · exact h.elim
  · exact h.elim
theorem lin_vRow {st : St} : ∀ {p : Pat} {cs : List SC}, LinG (vRow p cs st)
  | none :: p, c :: r => by
    intro k h
    simp only [vRow] at h
    obtain ⟨a, h1, h2⟩ := lin_vRow _ h
    exact ⟨_, h1, fun k2 hk => by simp only [vRow]; exact h2 _ hk⟩
  | some kk :: p, c :: r => by
    intro k h
    simp only [vRow] at h
    obtain ⟨x, h1, h2⟩ := lin_vInt _ h
    obtain ⟨a, h3, h4⟩ := lin_vRow _ h1
    exact ⟨_, h3, fun k2 hk => by simp only [vRow]; exact h2 _ (h4 _ hk)⟩
  | [], cs => by
    intro k h
    have e : ∀ k, vRow [] cs st k = k cs := fun k => by cases cs <;> rfl
    rw [e] at h
    exact ⟨_, h, fun k2 hk => by rw [e]; exact hk⟩
  | x :: p, [] => by
    intro k h
    have e : ∀ k, vRow (x :: p) [] st k = k [] := fun k => by cases x <;> rfl
    rw [e] at h
    exact ⟨_, h, fun k2 hk => by rw [e]; exact hk⟩
theorem lin_vRows {p : Pat} {st : St} : ∀ {vs : List (List SC)}, LinG (vRows p vs st)
  | [] => fun _ h => ⟨_, h, fun _ hk => hk⟩
  | e :: r => by
    intro k h
    simp only [vRows] at h
    obtain ⟨x, h1, h2⟩ := lin_vRow _ h
    obtain ⟨a, h3, h4⟩ := lin_vRows _ h1
    exact ⟨_, h3, fun k2 hk => by simp only [vRows]; exact h2 _ (h4 _ hk)⟩
theorem lin_vCt {p : Pat} {ct : Ct} {st : St} : LinG (vCt p ct st) := by
  intro k h
  unfold vCt at h ⊢
  split at h
  · obtain ⟨x, h1, h2⟩ := lin_vRows _ h
    exact ⟨_, h1, fun k2 hk => h2 _ hk⟩
  · exact ⟨_, h, fun _ hk => hk⟩
theorem lin_viewAt {m : Nat} {p : Pat} {base : Ct} {st : St} {o i n : Nat} {c : Option Nat} : LinG (viewAt m p base st o i n c) := by
  intro k h
  unfold viewAt at h ⊢
  split at h
  · split at h
    · split at h
      · obtain ⟨h1, h⟩ := need_iff.1 h
        obtain ⟨h2, h⟩ := need_iff.1 h
        obtain ⟨ct', h3, h4⟩ := lin_vCt _ h
        obtain ⟨ct2, h5, h3⟩ := opt_iff.1 h3
        split at h3
        · rename_i hfl
          exact ⟨_, h3, fun k2 hk => need_iff.2 ⟨h1, need_iff.2 ⟨h2, h4 _ (opt_iff.2 ⟨ct2, h5, by simp only [hfl]; exact hk⟩)⟩⟩⟩
        · exact h3.elim
      · exact h.elim
    · exact h.elim
  · exact h.elim
theorem lin_viewRows {m : Nat} {p : Pat} {base : Ct} {st : St} {c : SC} : LinG (viewRows m p base st c) := by
  intro k h
  unfold viewRows at h ⊢
  split at h
  · split at h
    · exact ⟨_, h, fun _ hk => hk⟩
    · exact h.elim
  · exact lin_viewAt k h
  · split at h
    · exact lin_viewAt k h
    · exact h.elim
  · exact h.elim
theorem lin_view1 {p : VP} {x : SA} {st : St} : LinG (view1 p x st) := by
  intro k h
  unfold view1 at h ⊢
  split at h
  · obtain ⟨l, h1, h2⟩ := lin_vRow _ h
    split at h1
    · split at h1
      · rename_i hr
        exact ⟨_, h1, fun k2 hk => h2 _ (by simp only [hr]; exact hk)⟩
      · exact h1.elim
    · exact h1.elim
  · obtain ⟨l, h1, h2⟩ := lin_vRow _ h
    split at h1
    · rename_i hr
      exact ⟨_, h1, fun k2 hk => h2 _ (by simp only [hr]; exact hk)⟩
    · exact h1.elim
  · exact lin_viewRows k h
  · exact h.elim
theorem lin_views {st : St} : ∀ {ps : List VP} {args : List SA}, LinG (views ps args st)
  | [], [] => fun _ h => ⟨_, h, fun _ hk => hk⟩
  | p :: ps, x :: xs => by
    intro k h
    simp only [views] at h
    obtain ⟨a, h1, h2⟩ := lin_view1 _ h
    obtain ⟨l, h3, h4⟩ := lin_views _ h1
    exact ⟨_, h3, fun k2 hk => by simp only [views]; exact h2 _ (h4 _ hk)⟩
  | [], _ :: _ => fun _ h => h.elim
  | _ :: _, [] => fun _ h => h.elim
theorem pure_back {α β β1 : Al} {st st' : St} {vas : List VA} {w w' : World} {k : SV → St → Prop} {v : SV} {val : Value} (hR : R α st w) (b2 : NoWr (canVs vas []).2) (hto : To β (canVs vas []).2 w β1 st' w')
    (hvr : SV.rep β1 v val) (hk' : pureK (lenL (canVs vas []).2) (fun v new => match v.ren (upBy (lenL st)), mapO (OO.ren (upBy (lenL st))) new with
      | some v', some new' => k v' (st ++ new')
      | _, _ => False) v st') : ∃ v' st2 α2, SV.rep α2 v' val ∧ k v' st2 ∧ To α st w α2 st2 w' := by
  unfold pureK at hk'
  rw [lenL_eq, dropL_eq] at hk'
  split at hk'
  · rename_i v0 new0 q1 q2 q3
    split at hk'
    · rename_i v' new' q4 q5
      rw [lenL_eq] at q4 q5
      obtain ⟨α2, hα2, hto2⟩ := back_sound hR b2 hto q2 q3 q5
      refine ⟨v', _, α2, ?_, hk', hto2⟩
      let γ : Al := fun o => β1 (o + (canVs vas []).2.length)
      have hγ : ∀ o o', downBy (canVs vas []).2.length o = some o' → γ o' = β1 o := by
        intro o o' h
        unfold downBy at h
        split at h
        · cases h
        · rename_i hb
          have hb : ¬ o < (canVs vas []).2.length := fun hlt => by
            have : Nat.blt o (canVs vas []).2.length = true := Nat.ble_eq_true_of_le hlt
            rw [this] at hb; cases hb
          cases h
          show β1 (o - _ + _) = β1 o
          congr 1; omega
      refine SV.ren_rep (α := γ) (fun o o' h => ?_) q4 (SV.ren_rep hγ q1 hvr)
      simp only [upBy, Option.some.injEq] at h
      subst h
      exact hα2 o
    · exact hk'.elim
  · exact hk'.elim
theorem lin_pureSum {ps : List VP} {f : List VA → (SV → St → Prop) → Prop} (hl : ∀ vas, Lin (f vas)) (args : List SA) (st : St) : Lin (pureSum ps f args st) := by
  intro k hk
  unfold pureSum at hk ⊢
  obtain ⟨vas, h1, h2⟩ := lin_views _ hk
  obtain ⟨v, new, h3, h4⟩ := hl vas _ h1
  split at h3
  · rename_i e1 e2
    exact ⟨_, _, h3, fun k2 hk2 => h2 _ (h4 _ (by simp only [e1, e2]; exact hk2))⟩
  · exact h3.elim
theorem pureSum_ok {cx : Cx} (hx : CxOk P cx) {g : FuncId} {ps : List VP} {f : List VA → (SV → St → Prop) → Prop} (hl : ∀ vas, Lin (f vas))
    (h : ∀ vas K, f vas K → ∃ n, evCall cx (ev cx n) g (canVs vas []).1 (canVs vas []).2 (pureK (lenL (canVs vas []).2) K)) (hb : g < big := by decide) : SumOk P g (pureSum ps f) := by
  refine fun args st => ⟨lin_pureSum hl args st, fun k hk α w vals hR ha => ?_⟩
  unfold pureSum at hk
  obtain ⟨vas, h1, hv⟩ := views_sound hR ha hk
  obtain ⟨n, hn⟩ := h vas _ h1
  obtain ⟨β, _, b1, b2, b3⟩ := canVs_can (R.empty w) (fun o so h => by cases o <;> simp [St.get, getL] at h) hv
  have hC : CallOk P (evCall cx (ev cx n)) := evCall_ok (run := ev cx n) hx (ev_sound hx n).1
  refine ((hC.1 g _ _ _ hb hn).2 β w vals b1 b3).mono fun e w' ⟨v, st', β1, val, he, hvr, hk', hto⟩ => ?_
  obtain ⟨v', st2, α2, g1, g2, g3⟩ := pure_back hR b2 hto hvr hk'
  exact ⟨v', st2, α2, val, he, g1, g2, g3⟩
theorem pureSum_okT {cx : Cx} (hx : CxOk P cx) {g : FuncId} {ps : List VP} {f : List VA → (SV → St → Prop) → Prop} (T : TypeId) (hl : ∀ vas, Lin (f vas))
    (h : ∀ vas K, f vas K → ∃ n, evCall cx (ev cx n) g (canVs vas []).1 (canVs vas []).2 (tidyK P T (lenL (canVs vas []).2) (pureK (lenL (canVs vas []).2) K))) (hb : g < big := by decide) : SumOk P g (pureSum ps f) := by
  refine fun args st => ⟨lin_pureSum hl args st, fun k hk α w vals hR ha => ?_⟩
  unfold pureSum at hk
  obtain ⟨vas, h1, hv⟩ := views_sound hR ha hk
  obtain ⟨n, hn⟩ := h vas _ h1
  obtain ⟨β, _, b1, b2, b3⟩ := canVs_can (R.empty w) (fun o so h => by cases o <;> simp [St.get, getL] at h) hv
  have hC : CallOk P (evCall cx (ev cx n)) := evCall_ok (run := ev cx n) hx (ev_sound hx n).1
  refine ((hC.1 g _ _ _ hb hn).2 β w vals b1 b3).mono fun e w' ⟨v, st', β1, val, he, hvr, hk', hto⟩ => ?_
  unfold tidyK at hk'
  split at hk'
  · rename_i c
    obtain ⟨β2, c', st2, g1, g2, g3, _⟩ := ownOf_sound hto.rep (show c.val? β1 = some val from hvr) hk'
    rw [lenL_eq] at g1
    obtain ⟨β3, v3, st3, q1, q2, q3⟩ := collect_sound (hto.trans g2) (show SV.rep β2 (.sa (.one c')) val from g3) g1
    rw [← lenL_eq] at q1
    obtain ⟨v', st4, α2, r1, r2, r3⟩ := pure_back hR b2 q3 q2 q1
    exact ⟨v', st4, α2, val, he, r1, r2, r3⟩
  · exact hk'.elim
theorem pureSum_okN {cx : Cx} (hx : CxOk P cx) {g : FuncId} {kk : IntKind} {f : List VA → (SV → St → Prop) → Prop} (T : TypeId) (hl : ∀ vas, Lin (f vas)) (hf : ∀ vas K, f vas K → ∃ xs, vas = [.a (.one (.dat kk xs))])
    (h0 : ∀ a c K, f [.a (.one (.dat kk []))] K → ∃ n, evCall cx (ev cx n) g [.one (.raw (.slice a 0 c))] [] (tidyK P T 0 (pureK 0 K)))
    (h1 : ∀ x xs K, f [.a (.one (.dat kk (x :: xs)))] K → ∃ n, evCall cx (ev cx n) g [.one (.ref 0)] [some (.own false .ext 0 1 (.ints kk (x :: xs)))] (tidyK P T 1 (pureK 1 K))) (hb : g < big := by decide) : SumOk P g (pureSum [.cells [some kk]] f) := by
  refine fun args st => ⟨lin_pureSum hl args st, fun k hk α w vals hR ha => ?_⟩
  unfold pureSum at hk
  obtain ⟨vas, hv1, hv⟩ := views_sound hR ha hk
  have key : ∃ vas' : List VA, VAll w vas' vals ∧ ∃ n, evCall cx (ev cx n) g (canVs vas' []).1 (canVs vas' []).2 (tidyK P T (lenL (canVs vas' []).2) (pureK (lenL (canVs vas' []).2) fun v new => match v.ren (upBy (lenL st)), mapO (OO.ren (upBy (lenL st))) new with
      | some v', some new' => k v' (st ++ new')
      | _, _ => False)) := by
    obtain ⟨xs, rfl⟩ := hf _ _ hv1
    cases xs with
    | cons x xs => exact ⟨_, hv, h1 x xs _ hv1⟩
    | nil =>
      match vals, hv with
      | [v], hv =>
        rcases hv.1.1 with ⟨_, a, c, e⟩ | ⟨e, _⟩
        · subst e
          exact ⟨[.a (.one (.raw (.slice a 0 c)))], ⟨⟨rfl, rfl⟩, trivial⟩, h0 a c _ hv1⟩
        · exact absurd rfl e
  obtain ⟨vas', hv, n, hn⟩ := key
  obtain ⟨β, _, b1, b2, b3⟩ := canVs_can (R.empty w) (fun o so h => by cases o <;> simp [St.get, getL] at h) hv
  have hC : CallOk P (evCall cx (ev cx n)) := evCall_ok (run := ev cx n) hx (ev_sound hx n).1
  refine ((hC.1 g _ _ _ hb hn).2 β w vals b1 b3).mono fun e w' ⟨v, st', β1, val, he, hvr, hk', hto⟩ => ?_
  unfold tidyK at hk'
  split at hk'
  · rename_i c
    obtain ⟨β2, c', st2, g1, g2, g3, _⟩ := ownOf_sound hto.rep (show c.val? β1 = some val from hvr) hk'
    rw [lenL_eq] at g1
    obtain ⟨β3, v3, st3, q1, q2, q3⟩ := collect_sound (hto.trans g2) (show SV.rep β2 (.sa (.one c')) val from g3) g1
    rw [← lenL_eq] at q1
    obtain ⟨v', st4, α2, r1, r2, r3⟩ := pure_back hR b2 q3 q2 q1
    exact ⟨v', st4, α2, val, he, r1, r2, r3⟩
  · exact hk'.elim
theorem Reps.setAt {α : Al} : ∀ {l : List SC} {vs : List Value} {j : Nat} {c c' : SC} {v : Value}, Reps α l vs → l[j]? = some c → c.val? α = some v → c'.val? α = some v → Reps α (l.set j c') vs
  | [], _, _, _, _, _, _, h, _, _ => by simp at h
  | c0 :: l, v0 :: vs, 0, c, c', v, hr, h, h1, h2 => by
    simp at h; subst h
    refine ⟨?_, hr.2⟩
    have := hr.1
    rw [h1] at this
    rw [h2]; exact this
  | c0 :: l, v0 :: vs, j + 1, c, c', v, hr, h, h1, h2 => ⟨hr.1, Reps.setAt hr.2 (by simpa using h) h1 h2⟩
  | _ :: _, [], _, _, _, _, hr, _, _, _ => hr.elim
theorem tidyL_sound {α : Al} {st : St} {w : World} {T : TypeId} {j : Nat} {l : List SC} {vs : List Value} {k : List SC → St → Prop} (hR : R α st w) (hr : Reps α l vs) (h : tidyL P T j st l k) :
    ∃ α' l' st', k l' st' ∧ To α st w α' st' w ∧ Reps α' l' vs := by
  unfold tidyL at h
  split at h
  · rename_i hj
    have hj : j < l.length := by have := Nat.le_of_ble_eq_true hj; rw [lenL_eq] at this; omega
    rw [getL_eq, List.getElem?_eq_getElem hj, Option.getD_some] at h
    obtain ⟨v, h1, h2⟩ := hr.get (List.getElem?_eq_getElem hj)
    obtain ⟨α', c', st', g1, g2, g3, _⟩ := ownOf_sound hR h2 h
    rw [setL_eq] at g1
    have hle := g2.le hR
    exact ⟨α', _, st', g1, g2, Reps.setAt (hr.mono hle) (List.getElem?_eq_getElem hj) (SC.val?_mono hle h2) g3⟩
  · exact h.elim
theorem pureSum_okC {g : FuncId} {ps : List VP} {f : List VA → (SV → St → Prop) → Prop} (T : TypeId) (j : Nat) (hl : ∀ vas, Lin (f vas))
    (h : ∀ vas K, f vas K → ∃ cx, CxOk P cx ∧ ∃ n, evCall cx (ev cx n) g (canVs vas []).1 (canVs vas []).2 (tidyC P T j (lenL (canVs vas []).2) (pureK (lenL (canVs vas []).2) K))) (hb : g < big := by decide) : SumOk P g (pureSum ps f) := by
  refine fun args st => ⟨lin_pureSum hl args st, fun k hk α w vals hR ha => ?_⟩
  unfold pureSum at hk
  obtain ⟨vas, h1, hv⟩ := views_sound hR ha hk
  obtain ⟨cx, hx, n, hn⟩ := h vas _ h1
  obtain ⟨β, _, b1, b2, b3⟩ := canVs_can (R.empty w) (fun o so h => by cases o <;> simp [St.get, getL] at h) hv
  have hC : CallOk P (evCall cx (ev cx n)) := evCall_ok (run := ev cx n) hx (ev_sound hx n).1
  refine ((hC.1 g _ _ _ hb hn).2 β w vals b1 b3).mono fun e w' ⟨v, st', β1, val, he, hvr, hk', hto⟩ => ?_
  unfold tidyC at hk'
  split at hk'
  · rename_i l
    obtain ⟨vs, r1, r2⟩ := hvr
    obtain ⟨β2, l', st2, g1, g2, g3⟩ := tidyL_sound hto.rep r1 hk'
    rw [lenL_eq] at g1
    obtain ⟨β3, v3, st3, q1, q2, q3⟩ := collect_sound (hto.trans g2) (show SV.rep β2 (.sa (.agg l')) val from ⟨vs, g3, r2⟩) g1
    rw [← lenL_eq] at q1
    obtain ⟨v', st4, α2, s1, s2, s3⟩ := pure_back hR b2 q3 q2 q1
    exact ⟨v', st4, α2, val, he, s1, s2, s3⟩
  · rename_i l r
    obtain ⟨us, r1, r2⟩ := hvr
    match us, r1 with
    | u :: us, ⟨⟨vs, r3, r4⟩, r5⟩ =>
      obtain ⟨β2, l', st2, g1, g2, g3⟩ := tidyL_sound hto.rep r3 hk'
      rw [lenL_eq] at g1
      obtain ⟨β3, v3, st3, q1, q2, q3⟩ := collect_sound (hto.trans g2) (show SV.rep β2 (.tup (.agg l' :: r)) val from ⟨u :: us, ⟨⟨vs, g3, r4⟩, r5.mono (g2.le hto.rep)⟩, r2⟩) g1
      rw [← lenL_eq] at q1
      obtain ⟨v', st4, α2, s1, s2, s3⟩ := pure_back hR b2 q3 q2 q1
      exact ⟨v', st4, α2, val, he, s1, s2, s3⟩
  · exact hk'.elim
theorem SumOk.weaken {g : FuncId} {s s' : List SA → St → (SV → St → Prop) → Prop} (h : SumOk P g s) (hl : ∀ args st, Lin (s' args st)) (hi : ∀ args st k, s' args st k → s args st k) : SumOk P g s' :=
  fun args st => ⟨hl args st, fun k hk => (h args st).2 k (hi args st k hk)⟩
theorem pureSum_weaken {g : FuncId} {ps : List VP} {f f' : List VA → (SV → St → Prop) → Prop} (h : SumOk P g (pureSum ps f)) (hl : ∀ vas, Lin (f' vas)) (hi : ∀ vas K, f' vas K → f vas K) : SumOk P g (pureSum ps f') := by
  refine h.weaken (lin_pureSum hl) fun args st k hk => ?_
  unfold pureSum at hk ⊢
  obtain ⟨vas, h1, h2⟩ := lin_views _ hk
  exact h2 _ (hi _ _ h1)
end Go.Ev

/- THE ENGINE, part 29: how the arguments of a law are laid out. Definitions alone. -/
namespace Go.Ev
open Go
def kindOf (P : Program) (t : TypeId) : Option (Option IntKind) :=
  match P.underlying t with
  | some (.int k) => match P.cellsOf t with | 1 => some (some k) | _ => none
  | some .bool => match P.cellsOf t with | 1 => some none | _ => none
  | _ => none
inductive CK where
  | int (k : IntKind)
  | bool
  | data (k : IntKind)
def kindC (P : Program) (t : TypeId) : Option CK :=
  match P.underlying t with
  | some (.int k) => match P.cellsOf t with | 1 => some (.int k) | _ => none
  | some .bool => match P.cellsOf t with | 1 => some .bool | _ => none
  | some (.slice e) => match P.cellsOf t, kindOf P e, Nat.blt 0 (P.bytesOf e) with | 1, some (some k), true => some (.data k) | _, _, _ => none
  | _ => none
def offsC (P : Program) (f : TypeId → Option (List CK)) : List Field → Nat → Option (List CK)
  | [], _ => some []
  | g :: r, i => match Nat.beq g.offset i, f g.type with
    | true, some ks => match Nat.beq (P.cellsOf g.type) ks.length, offsC P f r (i + ks.length) with
      | true, some l => some (ks ++ l)
      | _, _ => none
    | _, _ => none
def timesC (l : List CK) : Nat → List CK
  | 0 => []
  | n + 1 => l ++ timesC l n
def cellsC (P : Program) : Nat → TypeId → Option (List CK)
  | 0, _ => none
  | n + 1, t => match P.underlying t with
    | some (.struct fs) => match offsC P (cellsC P n) fs.toList 0 with
      | some l => match Nat.beq (P.cellsOf t) l.length with | true => some l | false => none
      | none => none
    | some (.array c e) => match cellsC P n e with
      | some l => match Nat.beq (P.cellsOf e) l.length, Nat.beq (P.cellsOf t) (timesC l c).length with
        | true, true => some (timesC l c)
        | _, _ => none
      | none => none
    | _ => match kindC P t with | some k => some [k] | none => none
def flatC (P : Program) (t : TypeId) : Option (List CK) := cellsC P 6 t
inductive AK where
  | one (k : CK)
  | agg (ks : List CK)
  | rows (ks : List CK)
def argK (P : Program) (t : TypeId) : Option AK :=
  match P.underlying t with
  | some (.struct _) | some (.array _ _) => match flatC P t with | some ks => some (.agg ks) | none => none
  | some (.slice e) => match kindC P t with
    | some k => some (.one k)
    | none => match flatC P e with
      | some ks => match Nat.blt 0 ks.length && Nat.blt 0 (P.bytesOf e) with | true => some (.rows ks) | false => none
      | none => none
  | some (.int _) | some .bool => match kindC P t with | some k => some (.one k) | none => none
  | _ => none
end Go.Ev

/- THE ENGINE, part 27: the arguments of a law as objects of a state. -/
namespace Go.Ev
open Go Go.RowKit Go.ChangeShapes Go.WideShapes
variable {P : Program}
def fieldKinds (P : Program) : List Field → Nat → Option (List (Option IntKind))
  | [], _ => some []
  | f :: r, i => match Nat.beq f.offset i, kindOf P f.type, fieldKinds P r (i + 1) with
    | true, some k, some l => some (k :: l)
    | _, _, _ => none
def flatKinds (P : Program) (t : TypeId) : Option (List (Option IntKind)) :=
  match P.underlying t with
  | some (.struct fs) => match fieldKinds P fs.toList 0 with
    | some l => match Nat.beq (P.cellsOf t) l.length with | true => some l | false => none
    | none => none
  | _ => match kindOf P t with | some k => some [k] | none => none
def CellTyped : Option IntKind → Value → Prop
  | some k, v => ∃ x, v = .int k x ∧ (Lit.int k x).wf = true
  | none, v => ∃ b, v = .bool b
def CellsTyped : List (Option IntKind) → List Value → Prop
  | [], [] => True
  | k :: r, v :: vs => CellTyped k v ∧ CellsTyped r vs
  | _, _ => False
theorem CellsTyped.mk : ∀ {ks : List (Option IntKind)} {vs : List Value}, vs.length = ks.length → (∀ (j : Nat) (k : Option IntKind) (v : Value), ks[j]? = some k → vs[j]? = some v → CellTyped k v) → CellsTyped ks vs
  | [], [], _, _ => trivial
  | k :: r, v :: vs, hl, h => ⟨h 0 k v rfl rfl, CellsTyped.mk (by simpa using hl) fun j k' v' h1 h2 => h (j + 1) k' v' (by simpa using h1) (by simpa using h2)⟩
  | [], _ :: _, h, _ => by simp at h
  | _ :: _, [], h, _ => by simp at h
theorem CellsTyped.get : ∀ {ks : List (Option IntKind)} {vs : List Value}, CellsTyped ks vs → vs.length = ks.length ∧ ∀ (j : Nat) (k : Option IntKind), ks[j]? = some k → ∃ v, vs[j]? = some v ∧ CellTyped k v
  | [], [], _ => ⟨rfl, fun j k h => by simp at h⟩
  | k :: r, v :: vs, h => by
    obtain ⟨h1, h2⟩ := CellsTyped.get h.2
    refine ⟨by simp [h1], fun j k' hj => ?_⟩
    cases j with
    | zero => simp at hj; subst hj; exact ⟨v, rfl, h.1⟩
    | succ j => simpa using h2 j k' (by simpa using hj)
  | [], _ :: _, h => h.elim
  | _ :: _, [], h => h.elim
section
variable {H : Type} {enc : TypeId × Value → H} {w : World} {base : Nat} {spare : Nat → Bool} {held : Bool}
theorem kindOf_typed {t : TypeId} {k : Option IntKind} (hk : kindOf P t = some k) {fuel : Nat} {cs : List Value} {x : DataW H × List MemPlace} (h : DataW.trod enc P w base spare held fuel t cs = some x) :
    P.cellsOf t = 1 ∧ ∃ v, cs = [v] ∧ CellTyped k v := by
  unfold kindOf at hk
  split at hk
  · rename_i k' hu
    split at hk
    · rename_i hc
      cases hk
      obtain ⟨n, h1, _, h3⟩ := DataW.trod_int hu h
      exact ⟨hc, _, h1, n, rfl, h3⟩
    · cases hk
  · rename_i hu
    split at hk
    · rename_i hc
      cases hk
      obtain ⟨b, h1, _⟩ := DataW.trod_bool hu h
      exact ⟨hc, _, h1, b, rfl⟩
    · cases hk
  · cases hk
theorem fieldKinds_get : ∀ {fs : List Field} {i : Nat} {ks : List (Option IntKind)}, fieldKinds P fs i = some ks → ks.length = fs.length ∧ ∀ (j : Nat) (k : Option IntKind), ks[j]? = some k → ∃ f, fs[j]? = some f ∧ f.offset = i + j ∧ kindOf P f.type = some k
  | [], i, ks, h => by simp [fieldKinds] at h; subst h; simp
  | f :: r, i, ks, h => by
    simp only [fieldKinds] at h
    split at h
    · rename_i k l hb hk hl
      cases h
      obtain ⟨h1, h2⟩ := fieldKinds_get hl
      refine ⟨by simp [h1], fun j k' hj => ?_⟩
      cases j with
      | zero => simp at hj; subst hj; exact ⟨f, rfl, by simpa using Nat.eq_of_beq_eq_true hb, hk⟩
      | succ j =>
        obtain ⟨f', x1, x2, x3⟩ := h2 j k' (by simpa using hj)
        exact ⟨f', by simpa using x1, by omega, x3⟩
    · cases h
theorem flat_typed {t : TypeId} {ks : List (Option IntKind)} (hk : flatKinds P t = some ks) {fuel : Nat} {cs : List Value} {x : DataW H × List MemPlace} (h : DataW.trod enc P w base spare held fuel t cs = some x) :
    P.cellsOf t = ks.length ∧ CellsTyped ks cs := by
  unfold flatKinds at hk
  split at hk
  · rename_i fs hu
    split at hk
    · rename_i l hl
      split at hk
      · rename_i hb
        cases hk
        have hc := Nat.eq_of_beq_eq_true hb
        obtain ⟨xs, n, _, _, h3, h4, h5⟩ := DataW.trod_struct hu h
        obtain ⟨g1, g2⟩ := fieldKinds_get hl
        refine ⟨hc, CellsTyped.mk (by rw [h3, hc]) fun j k v hj hv => ?_⟩
        obtain ⟨f, x1, x2, x3⟩ := g2 j k hj
        have hjx : j < xs.length := by
          have := (List.getElem?_eq_some_iff.1 x1).1
          rw [h4]; simpa using this
        have h6 := h5 j f (by simpa using x1)
        rw [List.getElem?_eq_getElem hjx] at h6
        obtain ⟨y1, u, y2, y3⟩ := kindOf_typed x3 h6
        rw [y1, x2, Nat.zero_add] at y2
        have hjc := (List.getElem?_eq_some_iff.1 hv).1
        rw [List.drop_eq_getElem_cons hjc, List.take_succ_cons] at y2
        simp at y2
        have : v = u := by
          have := (List.getElem?_eq_some_iff.1 hv).2
          rw [← this]; exact y2
        rw [this]; exact y3
      · cases hk
    · cases hk
  · split at hk
    · rename_i k hkk
      cases hk
      obtain ⟨h1, v, rfl, h3⟩ := kindOf_typed hkk h
      exact ⟨h1, h3, trivial⟩
    · cases hk
def ColOk (len : Nat) : Option IntKind → Col → Prop
  | some k, c => ∃ xs, c = .ints k xs ∧ xs.length = len ∧ ∀ x ∈ xs, (Lit.int k x).wf = true
  | none, c => ∃ xs, c = .bools xs ∧ xs.length = len
def ColsOk (len : Nat) : List (Option IntKind) → List Col → Prop
  | [], [] => True
  | k :: r, c :: cs => ColOk len k c ∧ ColsOk len r cs
  | _, _ => False
def intOfV : Value → Int
  | .int _ x => x
  | _ => 0
def boolOfV : Value → Bool
  | .bool b => b
  | _ => false
def colFor (len : Nat) (f : Nat → Value) : Option IntKind → Col
  | some k => .ints k ((List.range len).map fun i => intOfV (f i))
  | none => .bools ((List.range len).map fun i => boolOfV (f i))
def colsFor (len : Nat) (f : Nat → Nat → Value) : List (Option IntKind) → Nat → List Col
  | [], _ => []
  | k :: r, j => colFor len (fun i => f i j) k :: colsFor len f r (j + 1)
theorem colFor_ok {len : Nat} {f : Nat → Value} {k : Option IntKind} (h : ∀ i, i < len → CellTyped k (f i)) : ColOk len k (colFor len f k) ∧ ∀ i, i < len → (colFor len f k).at i = .raw (f i) := by
  cases k with
  | some k =>
    refine ⟨⟨_, rfl, by simp, fun x hx => ?_⟩, fun i hi => ?_⟩
    · simp only [List.mem_map, List.mem_range] at hx
      obtain ⟨i, hi, rfl⟩ := hx
      obtain ⟨x, h1, h2⟩ := h i hi
      rw [h1]; exact h2
    · obtain ⟨x, h1, h2⟩ := h i hi
      simp [colFor, Col.at, hi, h1, intOfV]
  | none =>
    refine ⟨⟨_, rfl, by simp⟩, fun i hi => ?_⟩
    obtain ⟨b, h1⟩ := h i hi
    simp [colFor, Col.at, hi, h1, boolOfV]
theorem colsFor_ok {len : Nat} {f : Nat → Nat → Value} : ∀ {ks : List (Option IntKind)} {j0 : Nat}, (∀ i, i < len → ∀ (j : Nat) (k : Option IntKind), ks[j]? = some k → CellTyped k (f i (j0 + j))) →
    ColsOk len ks (colsFor len f ks j0) ∧ ∀ i, i < len → (colsAt i (colsFor len f ks j0)).length = ks.length ∧ ∀ (j : Nat) (c : SC), (colsAt i (colsFor len f ks j0))[j]? = some c → c = SC.raw (f i (j0 + j))
  | [], j0, _ => ⟨trivial, fun i _ => ⟨rfl, fun j c h => by simp [colsFor, colsAt] at h⟩⟩
  | k :: r, j0, h => by
    obtain ⟨a1, a2⟩ := colFor_ok (k := k) (f := fun i => f i j0) fun i hi => by simpa using h i hi 0 k rfl
    obtain ⟨b1, b2⟩ := colsFor_ok (ks := r) (j0 := j0 + 1) (f := f) (len := len) fun i hi j k' hj => by
      have := h i hi (j + 1) k' (by simpa using hj)
      rwa [show j0 + 1 + j = j0 + (j + 1) by omega]
    refine ⟨⟨a1, b1⟩, fun i hi => ⟨by simp [colsFor, colsAt, (b2 i hi).1], fun j c hc => ?_⟩⟩
    cases j with
    | zero => simp [colsFor, colsAt] at hc; subst hc; exact a2 i hi
    | succ j =>
      have := (b2 i hi).2 j c (by simpa [colsFor, colsAt] using hc)
      rw [this, show j0 + 1 + j = j0 + (j + 1) by omega]
theorem open_rows {t e : TypeId} {ks : List (Option IntKind)} (ht : P.underlying t = some (.slice e)) (hk : flatKinds P e = some ks) (hpos : 0 < ks.length) {v : Value} {d : DataW H} {p : List MemPlace}
    (hv : ∃ a len cap, v = .slice a len cap) (h : DataW.Trod enc P w 0 (fun _ => true) held t v d p) :
    (∃ o, v = .slice o 0 0) ∨ ∃ (d0 : Den) (len cap : Nat) (cols : List Col), v = .slice (some ⟨d0.blk, d0.off, none⟩) len cap ∧ len ≤ cap ∧ cap ≤ maxLen ∧ ColsOk len ks cols ∧ d0.val = .nilFunc ∧
      ∀ α, Good α w d0 (.mem false .ext e ks.length (.tab len cols)) := by
  obtain ⟨a0, len0, cap0, rfl⟩ := hv
  obtain ⟨fuel, h⟩ := h
  simp only [Value.cells] at h
  rcases DataW.trod_slice ht h with ⟨h0, _⟩ | ⟨a, len, cap, elems, rest, n, _, h1, _, _, hle, hm, hlen, hel, hsp, _⟩
  · left
    simp at h0
    obtain ⟨rfl, rfl, rfl⟩ := h0
    exact ⟨none, rfl⟩
  · simp at h1
    obtain ⟨rfl, rfl, rfl⟩ := h1
    obtain ⟨hrl, hr⟩ := hsp rfl
    by_cases hc0 : cap0 = 0
    · subst hc0
      have : len0 = 0 := by omega
      subst this
      exact .inl ⟨_, rfl⟩
    · right
      have each : ∀ i, i < cap0 → P.cellsOf e = ks.length ∧ ∃ cs, w.cells? 0 (a.add (i * P.cellsOf e)) (P.cellsOf e) = some cs ∧ CellsTyped ks cs := by
        intro i hi
        have key : ∃ y, (w.cells? 0 (a.add (i * P.cellsOf e)) (P.cellsOf e)).bind (DataW.trod enc P w 0 (fun _ => true) held n e) = some y := by
          by_cases hil : i < len0
          · exact ⟨_, (hel i hil).trans (List.getElem?_eq_getElem (by omega))⟩
          · have := hr (i - len0) (by omega)
            rw [show len0 + (i - len0) = i by omega] at this
            exact ⟨_, this.trans (List.getElem?_eq_getElem (by omega))⟩
        obtain ⟨y, hy⟩ := key
        rw [Option.bind_eq_some_iff] at hy
        obtain ⟨cs, hcs, hy⟩ := hy
        obtain ⟨h1, h2⟩ := flat_typed hk hy
        exact ⟨h1, cs, hcs, h2⟩
      have hC := (each 0 (by omega)).1
      have cellAt : ∀ i, i < cap0 → ∀ (j : Nat) (k : Option IntKind), ks[j]? = some k → ∃ v, w.cell? (a.add (i * ks.length + j)) = some v ∧ CellTyped k v := by
        intro i hi j k hj
        obtain ⟨_, cs, hcs, hty⟩ := each i hi
        obtain ⟨_, hcl, hat⟩ := World.cells?_some hcs
        obtain ⟨g1, g2⟩ := hty.get
        obtain ⟨v, x1, x2⟩ := g2 j k hj
        have hjl : j < ks.length := (List.getElem?_eq_some_iff.1 hj).1
        have := hat j (by rw [hC]; exact hjl)
        rw [x1, hC] at this
        refine ⟨v, ?_, x2⟩
        rw [← this]
        congr 1
        unfold Addr.add
        by_cases e1 : i * ks.length = 0 <;> by_cases e2 : j = 0 <;> simp_all [Nat.add_assoc]
      have hspot : a.spot = none ∧ a.block < w.heap.size := by
        obtain ⟨v, hv, _⟩ := cellAt 0 (by omega) 0 ks[0] (List.getElem?_eq_getElem hpos)
        simp only [Nat.zero_mul, Nat.add_zero, Addr.add, if_true] at hv
        unfold World.cell? at hv
        split at hv
        · rename_i c _ _ hb
          refine ⟨?_, (Array.getElem?_eq_some_iff.1 hb).1⟩
          cases hs : a.spot with
          | none => rfl
          | some s => simp [hs] at hv
        · cases hv
      have hadd : ∀ n, a.add n = ⟨a.block, a.off + n, none⟩ := by
        intro n
        unfold Addr.add
        split
        · rename_i e1; subst e1
          cases a; simp at hspot ⊢; exact hspot.1
        · rfl
      let f : Nat → Nat → Value := fun i j => (w.cell? (a.add (i * ks.length + j))).getD .nilFunc
      have hf : ∀ i, i < len0 → ∀ (j : Nat) (k : Option IntKind), ks[j]? = some k → CellTyped k (f i (0 + j)) := by
        intro i hi j k hj
        obtain ⟨v, x1, x2⟩ := cellAt i (by omega) j k hj
        simp only [f, Nat.zero_add, x1, Option.getD_some]; exact x2
      obtain ⟨c1, c2⟩ := colsFor_ok hf
      refine ⟨⟨a.block, a.off, ks.length, cap0, .nilFunc, true⟩, len0, cap0, colsFor len0 f ks 0, ?_, hle, hm, c1, rfl, fun α => ⟨rfl, hpos, hspot.2, fun i hi => ?_⟩⟩
      · cases a; simp at hspot ⊢; exact hspot.1
      · simp only [Ct.len] at hi
        obtain ⟨l1, l2⟩ := c2 i hi
        refine ⟨l1, fun j c hc => ?_⟩
        have hcv := l2 j c hc
        have hjl : j < ks.length := by rw [← l1]; exact (List.getElem?_eq_some_iff.1 hc).1
        obtain ⟨v, x1, x2⟩ := cellAt i (by omega) j ks[j] (List.getElem?_eq_getElem hjl)
        have hfv : f i (0 + j) = v := by simp only [f, Nat.zero_add, x1, Option.getD_some]
        refine ⟨v, by rw [hcv, hfv]; rfl, ?_, ?_⟩
        · show w.cell? ⟨a.block, a.off + i * ks.length + j, none⟩ = some v
          rw [Nat.add_assoc, ← hadd]; exact x1
        · cases hkj : ks[j] with
          | some k => rw [hkj] at x2; obtain ⟨x, rfl, _⟩ := x2; rfl
          | none => rw [hkj] at x2; obtain ⟨b, rfl⟩ := x2; rfl
theorem open_flat {t : TypeId} {fs : Array Field} {ks : List (Option IntKind)} (ht : P.underlying t = some (.struct fs)) (hk : flatKinds P t = some ks) {v : Value} {d : DataW H} {p : List MemPlace}
    (hv : ∃ cs, v = .agg cs ∧ cs.size = P.cellsOf t) (h : DataW.Trod enc P w base spare held t v d p) : ∃ vs, v = .agg vs.toArray ∧ CellsTyped ks vs := by
  obtain ⟨cs, rfl, _⟩ := hv
  obtain ⟨fuel, h⟩ := h
  obtain ⟨_, h2⟩ := flat_typed hk h
  exact ⟨cs.toList, by simp, h2⟩
end
theorem R.ext {α : Al} {st : St} {w : World} (h : R α st w) (hn : ∀ o so, st.get o = some so → so.wr = false) {d : Den} {e : TypeId} {m : Nat} {ct : Ct} (hv : d.val = .nilFunc) (hg : ∀ β, Good β w d (.mem false .ext e m ct)) :
    R (α.add st.length d) (st ++ [some (.mem false .ext e m ct)]) w ∧ ∀ o so, St.get (st ++ [some (.mem false .ext e m ct)]) o = some so → so.wr = false :=
  R.more h hn rfl (by rw [hv]; rfl) (hg _)
theorem noWr {α : Al} {st : St} (hn : ∀ o so, st.get o = some so → so.wr = false) {w : World} (b : Nat) : ¬ Wr α st w b := by
  rintro ⟨o, so, d, h1, _, h3, _⟩
  rw [hn o so h1] at h3; cases h3
theorem noWr_nil : ∀ (o : Nat) (so : SO), St.get [] o = some so → so.wr = false := by
  intro o so h; cases o <;> simp [St.get, getL] at h
end Go.Ev

/- THE ENGINE, part 30: arguments with slices in them, as data. -/
namespace Go.Ev
open Go Go.RowKit Go.ChangeShapes Go.WideShapes
variable {P : Program}
def Sz {H : Type} (P : Program) (t : TypeId) (d : DataW H) : Prop := ∀ n ∈ d.weights P t, n ≤ 140737488355328
def CellD (w : World) : CK → Value → Prop
  | .int k, v => ∃ x, v = .int k x ∧ (Lit.int k x).wf = true
  | .bool, v => ∃ b, v = .bool b
  | .data k, v => ∃ xs, DatOk w k xs v ∧ xs.length ≤ 140737488355328 ∧ ∀ x ∈ xs, (Lit.int k x).wf = true
section
variable {H : Type} {enc : TypeId × Value → H} {w : World} {held : Bool}
theorem weights_all {e : TypeId} : ∀ {ds : List (DataW H)} {d : DataW H}, d ∈ ds → ∀ n ∈ d.weights P e, n ∈ DataW.weightsAll P e ds
  | d0 :: r, d, hd, n, hn => by
    simp only [DataW.weightsAll, List.mem_append]
    rcases List.mem_cons.1 hd with rfl | hd
    · exact .inl hn
    · exact .inr (weights_all hd n hn)
theorem sz_slice {t e : TypeId} {el sp : List (DataW H)} (ht : P.underlying t = some (.slice e)) (hz : Sz P t (.slice el sp)) (hb : 0 < P.bytesOf e) : el.length ≤ 140737488355328 ∧ ∀ d ∈ el, Sz P e d := by
  unfold Sz at hz
  simp only [DataW.weights, ht] at hz
  refine ⟨?_, fun d hd n hn => hz n (List.mem_cons_of_mem _ (List.mem_append_left _ (weights_all hd n hn)))⟩
  have h1 := hz _ (List.mem_cons_self ..)
  have h2 : (el.length + sp.length) * 1 ≤ (el.length + sp.length) * P.bytesOf e := Nat.mul_le_mul_left _ hb
  omega
theorem dat_typed {t e : TypeId} {k : IntKind} (ht : P.underlying t = some (.slice e)) (hk : kindOf P e = some (some k)) {fuel : Nat} {cs : List Value} {x : DataW H × List MemPlace} (h : DataW.trod enc P w 0 (fun _ => true) held fuel t cs = some x) :
    ∃ v, cs = [v] ∧ (∃ a len cap, v = .slice a len cap) ∧ ∃ xs, DatOk w k xs v ∧ ∀ y ∈ xs, (Lit.int k y).wf = true := by
  have hcs : ∃ a len cap, cs = [.slice a len cap] := by
    rcases DataW.trod_slice ht h with ⟨h0, _⟩ | ⟨a, len, cap, _, _, _, _, h1, _⟩
    · exact ⟨_, _, _, h0⟩
    · exact ⟨_, _, _, h1⟩
  obtain ⟨a, len, cap, rfl⟩ := hcs
  refine ⟨_, rfl, ⟨a, len, cap, rfl⟩, ?_⟩
  have hks : flatKinds P e = some [some k] := by
    unfold kindOf at hk
    split at hk
    · rename_i k' hu
      split at hk
      · rename_i hc
        cases hk
        simp [flatKinds, hu, kindOf, hc]
      · cases hk
    · split at hk <;> cases hk
    · cases hk
  rcases open_rows (v := .slice a len cap) ht hks (by simp) ⟨a, len, cap, rfl⟩ ⟨fuel, by simpa [Value.cells] using h⟩ with ⟨o, hv⟩ | ⟨d0, len', cap', cols, hv, hle, hm, hcol, hdv, hg⟩
  · rw [hv]
    exact ⟨[], .inl ⟨rfl, _, _, rfl⟩, fun y hy => by cases hy⟩
  · rw [hv]
    match cols, hcol with
    | [_], ⟨⟨xs, rfl, hl, hwf⟩, _⟩ =>
      refine ⟨xs, ?_, hwf⟩
      obtain ⟨h1, h2, h3, h4⟩ := hg (fun _ => none)
      by_cases h0 : len' = 0
      · have : xs = [] := List.eq_nil_of_length_eq_zero (by omega)
        subst this
        subst h0
        exact .inl ⟨rfl, _, _, rfl⟩
      · refine .inr ⟨fun e => by subst e; simp at hl; omega, d0.blk, d0.off, cap', by rw [hl], by omega, h3, fun i hi => ?_⟩
        obtain ⟨v, y1, y2, _⟩ := (h4 i (by simp only [Ct.len]; omega)).2 0 _ rfl
        have y1 : some (Value.int k (xs.getD i 0)) = some v := y1
        cases y1
        have := y2
        simp only [List.length_singleton, Nat.mul_one, Nat.add_zero] at this
        simpa using this
theorem dat_len {t e : TypeId} (ht : P.underlying t = some (.slice e)) (hb : 0 < P.bytesOf e) {fuel : Nat} {v : Value} {x : DataW H × List MemPlace} (h : DataW.trod enc P w 0 (fun _ => true) held fuel t [v] = some x) (hz : Sz P t x.1)
    {k : IntKind} {xs : List Int} (hd : DatOk w k xs v) : xs.length ≤ 140737488355328 := by
  rcases hd with ⟨rfl, _⟩ | ⟨_, b, o, c, rfl, _⟩
  · simp
  · rcases DataW.trod_slice ht h with ⟨h0, _⟩ | ⟨a, len, cap, elems, rest, n, _, h1, rfl, _, _, _, hl, _⟩
    · simp at h0
    · simp at h1
      have := (sz_slice ht hz hb).1
      simp at this
      omega
theorem kindC_typed {t : TypeId} {k : CK} (hk : kindC P t = some k) {fuel : Nat} {cs : List Value} {x : DataW H × List MemPlace} (h : DataW.trod enc P w 0 (fun _ => true) held fuel t cs = some x) (hz : Sz P t x.1) :
    P.cellsOf t = 1 ∧ ∃ v, cs = [v] ∧ CellD w k v := by
  unfold kindC at hk
  split at hk
  · rename_i k' hu
    split at hk
    · rename_i hc
      cases hk
      obtain ⟨n, h1, _, h3⟩ := DataW.trod_int hu h
      exact ⟨hc, _, h1, n, rfl, h3⟩
    · cases hk
  · rename_i hu
    split at hk
    · rename_i hc
      cases hk
      obtain ⟨b, h1, _⟩ := DataW.trod_bool hu h
      exact ⟨hc, _, h1, b, rfl⟩
    · cases hk
  · rename_i e hu
    split at hk
    · rename_i k' hc hke hb
      cases hk
      obtain ⟨v, h1, _, xs, h3, h4⟩ := dat_typed hu hke h
      subst h1
      exact ⟨hc, v, rfl, xs, h3, dat_len hu (by simpa using hb) h hz h3, h4⟩
    · cases hk
  · cases hk
def CellsD (w : World) : List CK → List Value → Prop
  | [], [] => True
  | k :: r, v :: vs => CellD w k v ∧ CellsD w r vs
  | _, _ => False
theorem CellsD.mk : ∀ {ks : List CK} {vs : List Value}, vs.length = ks.length → (∀ (j : Nat) (k : CK) (v : Value), ks[j]? = some k → vs[j]? = some v → CellD w k v) → CellsD w ks vs
  | [], [], _, _ => trivial
  | k :: r, v :: vs, hl, h => ⟨h 0 k v rfl rfl, CellsD.mk (by simpa using hl) fun j k' v' h1 h2 => h (j + 1) k' v' (by simpa using h1) (by simpa using h2)⟩
  | [], _ :: _, h, _ => by simp at h
  | _ :: _, [], h, _ => by simp at h
theorem CellsD.get : ∀ {ks : List CK} {vs : List Value}, CellsD w ks vs → vs.length = ks.length ∧ ∀ (j : Nat) (k : CK), ks[j]? = some k → ∃ v, vs[j]? = some v ∧ CellD w k v
  | [], [], _ => ⟨rfl, fun j k h => by simp at h⟩
  | k :: r, v :: vs, h => by
    obtain ⟨h1, h2⟩ := CellsD.get h.2
    refine ⟨by simp [h1], fun j k' hj => ?_⟩
    cases j with
    | zero => simp at hj; subst hj; exact ⟨v, rfl, h.1⟩
    | succ j => simpa using h2 j k' (by simpa using hj)
  | [], _ :: _, h => h.elim
  | _ :: _, [], h => h.elim
theorem CellsD.app : ∀ {ks : List CK} {ls : List CK} {a b : List Value}, CellsD w ks a → CellsD w ls b → CellsD w (ks ++ ls) (a ++ b)
  | [], _, [], _, _, h => h
  | _ :: r, _, _ :: vs, _, h, h2 => ⟨h.1, CellsD.app h.2 h2⟩
  | [], _, _ :: _, _, h, _ => h.elim
  | _ :: _, _, [], _, h, _ => h.elim
theorem offsC_typed {f : TypeId → Option (List CK)} {cs : List Value} : ∀ {fs : List Field} {i : Nat} {l : List CK}, offsC P f fs i = some l →
    (∀ g ∈ fs, ∀ ks, f g.type = some ks → CellsD w ks ((cs.drop g.offset).take (P.cellsOf g.type))) → CellsD w l ((cs.drop i).take l.length)
  | [], i, l, h, _ => by simp only [offsC, Option.some.injEq] at h; subst h; simp [CellsD]
  | g :: r, i, l, h, hf => by
    simp only [offsC] at h
    split at h
    · rename_i ks hb hk
      split at h
      · rename_i l' hc hl
        cases h
        have e1 := Nat.eq_of_beq_eq_true hb
        have e2 := Nat.eq_of_beq_eq_true hc
        have h1 := hf g (by simp) ks hk
        rw [e1, e2] at h1
        have h2 := offsC_typed (cs := cs) hl fun g' hg => hf g' (by simp [hg])
        rw [List.length_append, List.take_add, List.drop_drop]
        exact h1.app h2
      · cases h
    · cases h
theorem timesC_typed {l : List CK} : ∀ {n : Nat} {cs : List Value}, cs.length = (timesC l n).length → (∀ i, i < n → CellsD w l ((cs.drop (i * l.length)).take l.length)) → CellsD w (timesC l n) cs
  | 0, cs, hl, _ => by
    have : cs = [] := List.eq_nil_of_length_eq_zero (by simpa [timesC] using hl)
    subst this; exact trivial
  | n + 1, cs, hl, h => by
    have h1 := h 0 (by omega)
    simp only [timesC, List.length_append] at hl
    have h2 := timesC_typed (l := l) (n := n) (cs := cs.drop l.length) (by simp; omega) fun i hi => by
      have := h (i + 1) (by omega)
      rw [List.drop_drop, show l.length + i * l.length = (i + 1) * l.length by rw [Nat.add_mul]; omega]
      exact this
    simp only [Nat.zero_mul, List.drop_zero] at h1
    have e : cs = cs.take l.length ++ cs.drop l.length := (List.take_append_drop _ _).symm
    rw [e]
    exact h1.app h2
theorem cellsC_typed : ∀ {n : Nat} {t : TypeId} {ks : List CK}, cellsC P n t = some ks → ∀ {fuel : Nat} {cs : List Value} {x : DataW H × List MemPlace}, DataW.trod enc P w 0 (fun _ => true) held fuel t cs = some x → Sz P t x.1 →
    P.cellsOf t = ks.length ∧ CellsD w ks cs
  | 0, t, ks, h, _, _, _, _, _ => by cases h
  | n + 1, t, ks, hk, fuel, cs, x, h, hz => by
    simp only [cellsC] at hk
    split at hk
    · rename_i fs hu
      split at hk
      · rename_i l hl
        split at hk
        · rename_i hb
          cases hk
          have hc := Nat.eq_of_beq_eq_true hb
          obtain ⟨xs, m, _, rfl, h3, h4, h5⟩ := DataW.trod_struct hu h
          refine ⟨hc, ?_⟩
          unfold Sz at hz
          simp only [DataW.weights, hu] at hz
          have := offsC_typed (w := w) (cs := cs) hl fun g hg ks hks => by
            obtain ⟨j, hj, hge⟩ := List.getElem_of_mem hg
            have hgj : fs[j]? = some g := by
              have : fs.toList[j]? = some g := by rw [List.getElem?_eq_getElem hj, hge]
              simpa using this
            have h6 := h5 j g hgj
            have hjx : j < xs.length := by rw [h4]; simpa using hj
            rw [List.getElem?_eq_getElem hjx] at h6
            refine (cellsC_typed hks h6 fun q hq => hz q (DataW.weights_mem_each (j := j) (t := g.type) (d := xs[j].1) ?_ ?_ q hq)).2
            · rw [List.getElem?_map, List.getElem?_eq_getElem hj, hge]; rfl
            · rw [List.getElem?_map, List.getElem?_eq_getElem hjx]; rfl
          rw [List.drop_zero, List.take_of_length_le (by omega)] at this
          exact this
        · cases hk
      · cases hk
    · rename_i c e hu
      split at hk
      · rename_i l hl
        split at hk
        · rename_i hb1 hb2
          cases hk
          have hc1 := Nat.eq_of_beq_eq_true hb1
          have hc2 := Nat.eq_of_beq_eq_true hb2
          obtain ⟨xs, m, _, rfl, h3, h4, h5⟩ := DataW.trod_array hu h
          unfold Sz at hz
          simp only [DataW.weights, hu] at hz
          refine ⟨hc2, timesC_typed (by omega) fun i hi => ?_⟩
          have h6 := h5 i hi
          rw [List.getElem?_eq_getElem (by omega), hc1] at h6
          exact (cellsC_typed hl h6 fun q hq => hz q (weights_all (List.mem_map.2 ⟨_, List.getElem_mem (by omega), rfl⟩) q hq)).2
        · cases hk
      · cases hk
    · split at hk
      · rename_i k hkk
        cases hk
        obtain ⟨h1, v, rfl, h3⟩ := kindC_typed hkk h hz
        exact ⟨h1, h3, trivial⟩
      · cases hk
theorem flatC_typed {t : TypeId} {ks : List CK} (hk : flatC P t = some ks) {fuel : Nat} {cs : List Value} {x : DataW H × List MemPlace} (h : DataW.trod enc P w 0 (fun _ => true) held fuel t cs = some x) (hz : Sz P t x.1) :
    P.cellsOf t = ks.length ∧ CellsD w ks cs := cellsC_typed hk h hz
def ColD (w : World) (len : Nat) : CK → Col → Prop
  | .int k, c => ∃ xs, c = .ints k xs ∧ xs.length = len ∧ ∀ x ∈ xs, (Lit.int k x).wf = true
  | .bool, c => ∃ xs, c = .bools xs ∧ xs.length = len
  | .data k, c => ∃ xss, c = .data k xss ∧ xss.length = len ∧ ∀ xs ∈ xss, xs.length ≤ 140737488355328 ∧ ∀ x ∈ xs, (Lit.int k x).wf = true
def ColsD (w : World) (len : Nat) : List CK → List Col → Prop
  | [], [] => True
  | k :: r, c :: cs => ColD w len k c ∧ ColsD w len r cs
  | _, _ => False
theorem colD_ex {len : Nat} {f : Nat → Value} {k : CK} (h : ∀ i, i < len → CellD w k (f i)) : ∃ c, ColD w len k c ∧ ∀ i, i < len → CellOk w (fun _ => none) (c.at i) (f i) ∧ (c.at i).rawDat = true := by
  cases k with
  | int k =>
    have hk : ∀ i, i < len → CellTyped (some k) (f i) := h
    obtain ⟨⟨xs, h1, h2, h3⟩, h4⟩ := colFor_ok hk
    exact ⟨_, ⟨xs, h1, h2, h3⟩, fun i hi => by rw [h4 i hi]; exact ⟨rfl, rfl⟩⟩
  | bool =>
    have hk : ∀ i, i < len → CellTyped none (f i) := h
    obtain ⟨⟨xs, h1, h2⟩, h4⟩ := colFor_ok hk
    exact ⟨_, ⟨xs, h1, h2⟩, fun i hi => by rw [h4 i hi]; exact ⟨rfl, rfl⟩⟩
  | data k =>
    have hc : ∀ i, ∃ xs : List Int, i < len → DatOk w k xs (f i) ∧ xs.length ≤ 140737488355328 ∧ ∀ x ∈ xs, (Lit.int k x).wf = true := fun i => by
      by_cases hi : i < len
      · obtain ⟨xs, h1, h2, h3⟩ := h i hi
        exact ⟨xs, fun _ => ⟨h1, h2, h3⟩⟩
      · exact ⟨[], fun h => absurd h hi⟩
    refine ⟨.data k ((List.range len).map fun i => (hc i).choose), ⟨_, rfl, by simp, fun xs hx => ?_⟩, fun i hi => ?_⟩
    · simp only [List.mem_map, List.mem_range] at hx
      obtain ⟨i, hi, rfl⟩ := hx
      exact ((hc i).choose_spec hi).2
    · have e : (Col.data k ((List.range len).map fun i => (hc i).choose)).at i = .dat k (hc i).choose := by simp [Col.at, hi]
      rw [e]
      exact ⟨((hc i).choose_spec hi).1, rfl⟩
theorem colsD_ex {len : Nat} {f : Nat → Nat → Value} : ∀ {ks : List CK} {j0 : Nat}, (∀ i, i < len → ∀ (j : Nat) (k : CK), ks[j]? = some k → CellD w k (f i (j0 + j))) →
    ∃ cols, ColsD w len ks cols ∧ ∀ i, i < len → (colsAt i cols).length = ks.length ∧ ∀ (j : Nat) (c : SC), (colsAt i cols)[j]? = some c → CellOk w (fun _ => none) c (f i (j0 + j)) ∧ c.rawDat = true
  | [], j0, _ => ⟨[], trivial, fun i _ => ⟨rfl, fun j c h => by simp [colsAt] at h⟩⟩
  | k :: r, j0, h => by
    obtain ⟨c, a1, a2⟩ := colD_ex (w := w) (k := k) (f := fun i => f i j0) (len := len) fun i hi => by simpa using h i hi 0 k rfl
    obtain ⟨cols, b1, b2⟩ := colsD_ex (ks := r) (j0 := j0 + 1) (f := f) (len := len) fun i hi j k' hj => by
      have := h i hi (j + 1) k' (by simpa using hj)
      rwa [show j0 + 1 + j = j0 + (j + 1) by omega]
    refine ⟨c :: cols, ⟨a1, b1⟩, fun i hi => ⟨by simp [colsAt, (b2 i hi).1], fun j x hx => ?_⟩⟩
    cases j with
    | zero => simp [colsAt] at hx; subst hx; exact a2 i hi
    | succ j =>
      have := (b2 i hi).2 j x (by simpa [colsAt] using hx)
      rw [show j0 + (j + 1) = j0 + 1 + j by omega]
      exact this
theorem open_slice {t e : TypeId} {ks : List CK} (ht : P.underlying t = some (.slice e)) (hk : flatC P e = some ks) (hpos : 0 < ks.length) (hbyt : 0 < P.bytesOf e) {v : Value} {d : DataW H} {p : List MemPlace}
    (hv : ∃ a len cap, v = .slice a len cap) (h : DataW.Trod enc P w 0 (fun _ => true) held t v d p) (hz : Sz P t d) :
    ∃ (d0 : Den) (len : Nat) (cols : List Col), d0.val = v ∧ len ≤ 140737488355328 ∧ ColsD w len ks cols ∧ Ev.isCell d0.val = true ∧ ∀ α, Good α w d0 (.own false .ext 0 ks.length (.tab len cols)) := by
  obtain ⟨a0, len0, cap0, rfl⟩ := hv
  obtain ⟨fuel, h⟩ := h
  simp only [Value.cells] at h
  have none' : len0 = 0 → ∃ (d0 : Den) (len : Nat) (cols : List Col), d0.val = Value.slice a0 len0 cap0 ∧ len ≤ 140737488355328 ∧ ColsD w len ks cols ∧ Ev.isCell d0.val = true ∧ ∀ α, Good α w d0 (.own false .ext 0 ks.length (.tab len cols)) := by
    intro h0
    subst h0
    obtain ⟨cols, c1, c2⟩ := colsD_ex (w := w) (ks := ks) (j0 := 0) (len := 0) (f := fun _ _ => .nilFunc) (fun i hi => absurd hi (by omega))
    exact ⟨⟨0, 0, ks.length, 0, .slice a0 0 cap0, false⟩, 0, cols, rfl, Nat.zero_le _, c1, rfl, fun α => ⟨rfl, hpos, .inl ⟨rfl, rfl, a0, cap0, rfl, fun e => by cases e⟩⟩⟩
  rcases DataW.trod_slice ht h with ⟨h0, _⟩ | ⟨a, len, cap, elems, rest, n, _, h1, hxe, _, hle, hm, hlen, hel, hsp, _⟩
  · simp at h0
    exact none' h0.2.1
  · simp at h1
    obtain ⟨rfl, rfl, rfl⟩ := h1
    have hde : d = .slice (elems.map (·.1)) (rest.map (·.1)) := (Prod.mk.inj hxe).1
    subst hde
    obtain ⟨hz1, hz2⟩ := sz_slice ht hz hbyt
    rw [List.length_map] at hz1
    by_cases hl0 : len0 = 0
    · exact none' hl0
    · have each : ∀ i, i < len0 → P.cellsOf e = ks.length ∧ ∃ cs, w.cells? 0 (a.add (i * P.cellsOf e)) (P.cellsOf e) = some cs ∧ CellsD w ks cs := by
        intro i hi
        have hy := (hel i hi).trans (List.getElem?_eq_getElem (by omega))
        rw [Option.bind_eq_some_iff] at hy
        obtain ⟨cs, hcs, hy⟩ := hy
        obtain ⟨h1, h2⟩ := flatC_typed hk hy (hz2 _ (List.mem_map.2 ⟨_, List.getElem_mem (by omega), rfl⟩))
        exact ⟨h1, cs, hcs, h2⟩
      have hC := (each 0 (by omega)).1
      have cellAt : ∀ i, i < len0 → ∀ (j : Nat) (k : CK), ks[j]? = some k → ∃ v, w.cell? (a.add (i * ks.length + j)) = some v ∧ CellD w k v := by
        intro i hi j k hj
        obtain ⟨_, cs, hcs, hty⟩ := each i hi
        obtain ⟨_, hcl, hat⟩ := World.cells?_some hcs
        obtain ⟨g1, g2⟩ := hty.get
        obtain ⟨v, x1, x2⟩ := g2 j k hj
        have hjl : j < ks.length := (List.getElem?_eq_some_iff.1 hj).1
        have := hat j (by rw [hC]; exact hjl)
        rw [x1, hC] at this
        refine ⟨v, ?_, x2⟩
        rw [← this]
        congr 1
        unfold Addr.add
        by_cases e1 : i * ks.length = 0 <;> by_cases e2 : j = 0 <;> simp_all [Nat.add_assoc]
      have hspot : a.spot = none ∧ a.block < w.heap.size := by
        obtain ⟨v, hv, _⟩ := cellAt 0 (by omega) 0 ks[0] (List.getElem?_eq_getElem hpos)
        simp only [Nat.zero_mul, Nat.add_zero, Addr.add, if_true] at hv
        unfold World.cell? at hv
        split at hv
        · rename_i c _ _ hb
          refine ⟨?_, (Array.getElem?_eq_some_iff.1 hb).1⟩
          cases hs : a.spot with
          | none => rfl
          | some s => simp [hs] at hv
        · cases hv
      have hadd : ∀ n, a.add n = ⟨a.block, a.off + n, none⟩ := by
        intro n
        unfold Addr.add
        split
        · rename_i e1; subst e1
          cases a; simp at hspot ⊢; exact hspot.1
        · rfl
      let f : Nat → Nat → Value := fun i j => (w.cell? (a.add (i * ks.length + j))).getD .nilFunc
      have hf : ∀ i, i < len0 → ∀ (j : Nat) (k : CK), ks[j]? = some k → CellD w k (f i (0 + j)) := by
        intro i hi j k hj
        obtain ⟨v, x1, x2⟩ := cellAt i (by omega) j k hj
        simp only [f, Nat.zero_add, x1, Option.getD_some]; exact x2
      obtain ⟨cols, c1, c2⟩ := colsD_ex hf
      have ha : (⟨a.block, a.off, none⟩ : Addr) = a := by cases a; simp at hspot ⊢; exact hspot.1.symm
      refine ⟨⟨a.block, a.off, ks.length, cap0, .slice (some a) len0 cap0, true⟩, len0, cols, rfl, by omega, c1, rfl, fun α => ⟨rfl, hpos, .inr ⟨rfl, by simp only [Ct.len, ha], hle, hspot.2, fun i hi => ?_⟩⟩⟩
      simp only [Ct.len] at hi
      obtain ⟨l1, l2⟩ := c2 i hi
      refine ⟨l1, fun j c hc => ?_⟩
      obtain ⟨q1, q2⟩ := l2 j c hc
      have hjl : j < ks.length := by rw [← l1]; exact (List.getElem?_eq_some_iff.1 hc).1
      obtain ⟨v, x1, x2⟩ := cellAt i (by omega) j ks[j] (List.getElem?_eq_getElem hjl)
      have hfv : f i (0 + j) = v := by simp only [f, Nat.zero_add, x1, Option.getD_some]
      rw [hfv] at q1
      refine ⟨v, q1.rawOrDat q2, ?_, ?_⟩
      · show w.cell? ⟨a.block, a.off + i * ks.length + j, none⟩ = some v
        rw [Nat.add_assoc, ← hadd]; exact x1
      · cases hkj : ks[j] with
        | int k => rw [hkj] at x2; obtain ⟨x, rfl, _⟩ := x2; rfl
        | bool => rw [hkj] at x2; obtain ⟨b, rfl⟩ := x2; rfl
        | data k =>
          rw [hkj] at x2
          obtain ⟨xs, x2, _, _⟩ := x2
          rcases x2 with ⟨_, _, _, rfl⟩ | ⟨_, _, _, _, rfl, _⟩ <;> rfl
theorem open_ints {t e : TypeId} {k : IntKind} (ht : P.underlying t = some (.slice e)) (hk : kindOf P e = some (some k)) {v : Value} {d : DataW H} {p : List MemPlace}
    (hv : ∃ a len cap, v = .slice a len cap) (h : DataW.Trod enc P w 0 (fun _ => true) held t v d p) :
    ∃ (d0 : Den) (xs : List Int), d0.val = v ∧ (∀ x ∈ xs, (Lit.int k x).wf = true) ∧ Ev.isCell d0.val = true ∧ ∀ α, Good α w d0 (.own false .ext 0 1 (.ints k xs)) := by
  obtain ⟨a0, len0, cap0, rfl⟩ := hv
  obtain ⟨fuel, h⟩ := h
  simp only [Value.cells] at h
  obtain ⟨v, hv, _, xs, h1, h2⟩ := dat_typed ht hk h
  simp at hv
  subst hv
  obtain ⟨d0, e1, e2, e3⟩ := datOk_good h1
  exact ⟨d0, xs, e1, h2, e2, e3⟩
def CellS : CK → SC → Prop
  | .int k, c => ∃ x, c = .raw (.int k x) ∧ (Lit.int k x).wf = true
  | .bool, c => ∃ b, c = .raw (.bool b)
  | .data k, c => ∃ xs, c = .dat k xs ∧ xs.length ≤ 140737488355328 ∧ ∀ x ∈ xs, (Lit.int k x).wf = true
def CellsS : List CK → List SC → Prop
  | [], [] => True
  | k :: r, c :: cs => CellS k c ∧ CellsS r cs
  | _, _ => False
theorem cellS_ex {k : CK} {v : Value} (h : CellD w k v) : ∃ c, CellOk w (fun _ => none) c v ∧ c.rawDat = true ∧ CellS k c := by
  cases k with
  | int k => obtain ⟨x, rfl, hx⟩ := h; exact ⟨.raw (.int k x), rfl, rfl, x, rfl, hx⟩
  | bool => obtain ⟨b, rfl⟩ := h; exact ⟨.raw (.bool b), rfl, rfl, b, rfl⟩
  | data k => obtain ⟨xs, hx, hl, hw⟩ := h; exact ⟨.dat k xs, hx, rfl, xs, rfl, hl, hw⟩
theorem cellsS_ex : ∀ {ks : List CK} {vs : List Value}, CellsD w ks vs → ∃ l, VOks w l vs ∧ rawDats l = true ∧ CellsS ks l
  | [], [], _ => ⟨[], trivial, rfl, trivial⟩
  | k :: r, v :: vs, h => by
    obtain ⟨c, h1, h2, h3⟩ := cellS_ex h.1
    obtain ⟨l, g1, g2, g3⟩ := cellsS_ex h.2
    exact ⟨c :: l, ⟨h1, g1⟩, by simp [rawDats, h2, g2], h3, g3⟩
  | [], _ :: _, h => h.elim
  | _ :: _, [], h => h.elim
def VaOk : AK → VA → Prop
  | .one k, .a (.one c) => CellS k c
  | .agg ks, .a (.agg l) => CellsS ks l
  | .rows ks, .t m ct => ∃ n cols, m = ks.length ∧ ct = .tab n cols ∧ n ≤ 140737488355328 ∧ ColsD w n ks cols
  | _, _ => False
theorem open_arg {t : TypeId} {K : AK} (hk : argK P t = some K) {v : Value} {d : DataW H} {p : List MemPlace} {W : World} {r : Reach} {base : Nat}
    (hv : Value.okWide P W r base t v) (h : DataW.Trod enc P w 0 (fun _ => true) held t v d p) (hz : Sz P t d) : ∃ va, VOk w va v ∧ VaOk (w := w) K va := by
  have agg : ∀ {ks : List CK}, flatC P t = some ks → K = .agg ks → (∃ cs, v = .agg cs) → ∃ va, VOk w va v ∧ VaOk (w := w) K va := by
    rintro ks hf rfl ⟨cs, rfl⟩
    obtain ⟨fuel, h⟩ := h
    obtain ⟨_, h2⟩ := flatC_typed hf h hz
    obtain ⟨l, g1, g2, g3⟩ := cellsS_ex h2
    exact ⟨.a (.agg l), ⟨cs.toList, by simp, by simpa [Value.cells] using g1, g2⟩, g3⟩
  have one : ∀ {k : CK}, kindC P t = some k → K = .one k → v.cells.toList = [v] → ∃ va, VOk w va v ∧ VaOk (w := w) K va := by
    rintro k hf rfl hc
    obtain ⟨fuel, h⟩ := h
    obtain ⟨_, u, h2, h3⟩ := kindC_typed hf h hz
    rw [hc] at h2
    cases h2
    obtain ⟨c, g1, g2, g3⟩ := cellS_ex h3
    exact ⟨.a (.one c), ⟨g1, g2⟩, g3⟩
  unfold argK at hk
  split at hk
  · rename_i fs hu
    split at hk
    · rename_i ks hf
      cases hk
      obtain ⟨cs, e, _⟩ := okWide_struct hu hv
      exact agg hf rfl ⟨cs, e⟩
    · cases hk
  · rename_i n e hu
    split at hk
    · rename_i ks hf
      cases hk
      unfold Value.okWide at hv
      rw [hu] at hv
      obtain ⟨cs, e, _⟩ := hv
      exact agg hf rfl ⟨cs, e⟩
    · cases hk
  · rename_i e hu
    have hs := okWide_slice hu hv
    split at hk
    · rename_i k hkk
      cases hk
      obtain ⟨a, len, cap, e⟩ := hs
      exact one hkk rfl (by rw [e]; simp [Value.cells])
    · split at hk
      · rename_i ks hf
        split at hk
        · rename_i hb
          cases hk
          rw [Bool.and_eq_true] at hb
          obtain ⟨d0, len, cols, h1, h2, h3, h4, h5⟩ := open_slice hu hf (by simpa using hb.1) (by simpa using hb.2) hs h hz
          exact ⟨.t ks.length (.tab len cols), ⟨d0, h1, by rw [← h1]; exact h4, h5⟩, len, cols, rfl, rfl, h2, h3⟩
        · cases hk
      · cases hk
  · rename_i k hu
    split at hk
    · rename_i k' hkk
      cases hk
      obtain ⟨n, e⟩ := okWide_int hu hv
      exact one hkk rfl (by rw [e]; simp [Value.cells])
    · cases hk
  · rename_i hu
    split at hk
    · rename_i k' hkk
      cases hk
      obtain ⟨n, e⟩ := okWide_bool hu hv
      exact one hkk rfl (by rw [e]; simp [Value.cells])
    · cases hk
  · cases hk
end
theorem args_top {P : Program} {cx : Cx} (hx : CxOk P cx) {n : Nat} {f : FuncId} {vas : List VA} {vals : List Value} {w : World} {k : SV → St → Prop} (hv : VAll w vas vals)
    (h : evCall cx (ev cx n) f (canVs vas []).1 (canVs vas []).2 k) (hk : ∀ v st', k v st' → v = .sa (.one (.raw (.bool true)))) (hb : f < big := by decide) :
    Calls P f vals.toArray w fun e w' => e = .returned (.bool true) ∧ Below w.heap.size w w' := by
  obtain ⟨β, _, hR, hn, ha⟩ := canVs_can (R.empty w) noWr_nil hv
  exact call_top hx hR ha (noWr hn) h hk hb
end Go.Ev

/- THE ENGINE, part 33: plain words for the proofs of laws. -/
namespace Go.Ev
open Go
theorem ndd {p q : Prop} [Decidable p] (h1 : p) (h2 : q) : need (decide p) q := by rw [decide_eq_true h1]; exact h2
theorem brd {p a b : Prop} [Decidable p] (h1 : p → a) (h2 : ¬ p → b) : branch (decide p) a b := by
  by_cases h : p
  · rw [decide_eq_true h]; exact h1 h
  · rw [decide_eq_false h]; exact h2 h
theorem brt {p a b : Prop} [Decidable p] (h : p) (h1 : a) : branch (decide p) a b := by rw [decide_eq_true h]; exact h1
theorem brf {p a b : Prop} [Decidable p] (h : ¬ p) (h1 : b) : branch (decide p) a b := by rw [decide_eq_false h]; exact h1
theorem bre {x y : Int} {a b : Prop} (h1 : x = y → a) (h2 : x ≠ y → b) : branch (eqK x y) a b := by
  by_cases h : x = y
  · rw [eqK_t.2 h]; exact h1 h
  · rw [eqK_f.2 h]; exact h2 h
theorem bret {x y : Int} {a b : Prop} (h : x = y) (h1 : a) : branch (eqK x y) a b := by rw [eqK_t.2 h]; exact h1
theorem bref {x y : Int} {a b : Prop} (h : x ≠ y) (h1 : b) : branch (eqK x y) a b := by rw [eqK_f.2 h]; exact h1
theorem fitL_same {α : Type} (d : α) : ∀ (n : Nat) (l : List α), l.length = n → fitL d n l = l
  | 0, [], _ => rfl
  | n + 1, x :: r, h => by rw [fitL, fitL_same d n r (by simpa using h)]
  | 0, _ :: _, h => by simp at h
  | _ + 1, [], h => by simp at h
theorem set_getD_same {α : Type} (d : α) (l : List α) (i : Nat) : l.set i (l.getD i d) = l := by
  refine List.ext_getElem (by simp) fun j h1 h2 => ?_
  rw [List.getElem_set]
  split
  · rename_i e; subst e; rw [List.getD_eq_getElem?_getD, List.getElem?_eq_getElem h2]; rfl
  · rfl
theorem ite_min (a b : Nat) : (if (a : Int) < (b : Int) then (a : Int) else (b : Int)) = ((min a b : Nat) : Int) := by split <;> omega
theorem add64 {a b : Int} (h : -9223372036854775808 ≤ a + b ∧ a + b < 9223372036854775808) : addK .i64 a b = a + b := by rw [addK_eq, Go.IntWalk.i64_in _ (by omega)]
theorem sub64 {a b : Int} (h : -9223372036854775808 ≤ a - b ∧ a - b < 9223372036854775808) : subK .i64 a b = a - b := by rw [subK_eq, Go.IntWalk.i64_in _ (by omega)]
theorem take_min_length {α : Type} (s : Nat) (l : List α) : l.take (min s l.length) = l.take s := by
  by_cases h : s ≤ l.length
  · rw [Nat.min_eq_left h]
  · rw [Nat.min_eq_right (by omega), List.take_of_length_le (Nat.le_refl _), List.take_of_length_le (by omega)]
theorem cellsS_int {k : IntKind} {ks : List CK} {l : List SC} (h : CellsS (.int k :: ks) l) : ∃ x l', l = .raw (.int k x) :: l' ∧ (Lit.int k x).wf = true ∧ CellsS ks l' := by
  match l, h with
  | c :: l', h =>
    obtain ⟨x, e, hx⟩ := h.1
    exact ⟨x, l', by rw [e], hx, h.2⟩
theorem cellsS_bool {ks : List CK} {l : List SC} (h : CellsS (.bool :: ks) l) : ∃ b l', l = .raw (.bool b) :: l' ∧ CellsS ks l' := by
  match l, h with
  | c :: l', h =>
    obtain ⟨x, e⟩ := h.1
    exact ⟨x, l', by rw [e], h.2⟩
theorem cellsS_data {k : IntKind} {ks : List CK} {l : List SC} (h : CellsS (.data k :: ks) l) : ∃ xs l', l = .dat k xs :: l' ∧ xs.length ≤ 140737488355328 ∧ (∀ x ∈ xs, (Lit.int k x).wf = true) ∧ CellsS ks l' := by
  match l, h with
  | c :: l', h =>
    obtain ⟨xs, e, hl, hx⟩ := h.1
    exact ⟨xs, l', by rw [e], hl, hx, h.2⟩
theorem cellsS_nil {l : List SC} (h : CellsS [] l) : l = [] := by
  cases l with
  | nil => rfl
  | cons c l => exact h.elim
end Go.Ev

/- THE ENGINE, part 31: rows with room behind their elements, for slices.Insert. No conditions. -/
namespace Go.Ev
open Go
variable {P : Program}
theorem own_spare {α : Al} {st : St} {w : World} (hR : R α st w) {q : Nat} {T : TypeId} {ct : Ct} {d : Den} (hst : st.get q = some (.own true .row T 1 ct)) (hd : α q = some d) (hl : d.live = true) (hroom : ct.len < d.cap) :
    ∃ v, Ev.isCell v = true ∧ ∀ ct' : Ct, ct'.len = ct.len + 1 → (∀ i, i < ct.len → ct'.get i = ct.get i) → ct'.get ct.len = [.raw v] →
      To α st w (α.add st.length ⟨d.blk, d.off, 1, d.cap, .slice (some ⟨d.blk, d.off, none⟩) (ct.len + 1) d.cap, true⟩) (st.put q none ++ [some (.own true .row T 1 ct')]) w := by
  obtain ⟨T0, cs, fz, hT0, hlies, hwr, h5, h6, h7, h8, hdm, hmp, hWr, hcell, _⟩ := hR.toRow hst hd rfl (show (SO.own true .row T 1 ct).rows = some (1, ct) from rfl) (fun _ => hl)
  have hlt : d.off + ct.len < cs.size := by omega
  refine ⟨cs[d.off + ct.len], h6.1 _ (by simp), fun ct' hlen hget hlast => ?_⟩
  have hle := Al.le_add (d := (⟨d.blk, d.off, 1, d.cap, .slice (some ⟨d.blk, d.off, none⟩) (ct.len + 1) d.cap, true⟩ : Den)) (hR.none _ (Nat.le_refl _))
  have hIs : ∀ b, Ice w ⟨d.blk, d.off, 1, d.cap, .slice (some ⟨d.blk, d.off, none⟩) (ct.len + 1) d.cap, true⟩ (.own true .row T 1 ct') b → Is α st w b := by
    rintro b ⟨_, x, j, kk, xs, v, n1, n2, n3, n4⟩
    by_cases hx : x < ct.len
    · rw [hget x hx] at n2
      obtain ⟨v', y1, y2, _⟩ := (hcell x hx).2 j _ n2
      simp only at n3
      rw [cell_of_cells h5, y2] at n3
      cases n3
      exact y1.2 kk xs b rfl n4
    · have : x = ct.len := by omega
      subst this
      rw [hlast] at n2
      cases j <;> simp at n2
  refine To.regrow (so' := .own true .row T 1 ct') (e := ⟨d.blk, d.off, 1, d.cap, .slice (some ⟨d.blk, d.off, none⟩) (ct.len + 1) d.cap, true⟩) hR hst hd hwr rfl rfl (fun _ _ => rfl) (.of rfl rfl) rfl rfl
    ⟨rfl, by simp, .inr ⟨rfl, by rw [hlen], by rw [hlen]; exact hroom, cs, fz, by rw [show T = T0 from hT0.symm]; exact h5, h6.own, h7, fun x hx => ?_⟩⟩
    (fun b hb => (hlies b).2 hb.2) (fun b hb => .inr (hIs b hb)) (fun _ b hb hib => hR.apart (by rw [show b = d.blk from hb.2]; exact hWr) (hIs b hib))
  by_cases hx2 : x < ct.len
  · rw [hget x hx2]
    refine ⟨(hcell x hx2).1, fun j c hj => ?_⟩
    obtain ⟨v, y1, y2, y3⟩ := (hcell x hx2).2 j c hj
    exact ⟨v, y1.1.mono hle, y2, y3⟩
  · have : x = ct.len := by omega
    subst this
    rw [hlast]
    refine ⟨rfl, fun j c hj => ?_⟩
    cases j with
    | succ j => simp at hj
    | zero =>
      simp at hj
      subst hj
      exact ⟨_, rfl, by simp [hlt], h6.1 _ (by simp)⟩
theorem own_canon {α : Al} {st : St} {w : World} (hR : R α st w) {q m : Nat} {T : TypeId} {ct : Ct} (hst : st.get q = some (.own true .row T m ct)) :
    To α st w α (st.put q (some (.own true .row T m ct.canon))) w := by
  obtain ⟨d, hd, hg⟩ := hR.good q _ hst
  have hsame : ∀ b, Ice w d (.own true .row T m ct.canon) b → Ice w d (.own true .row T m ct) b := by
    rintro b ⟨h0, x, j, kk, xs, v, n1, n2, n3, n4⟩
    rw [ct.canon_spec.1] at n1
    rw [ct.canon_spec.2 x n1] at n2
    exact ⟨h0, x, j, kk, xs, v, n1, n2, n3, n4⟩
  refine To.same hR hst hd ?_ (fun _ h => h) (fun h => h) (fun b hb => .inr ⟨q, _, d, hst, hd, hsame b hb⟩) (fun hw b hb hib => hR.self q _ d b hst hd rfl hb (hsame b hib))
  obtain ⟨g1, g2, g3⟩ := hg
  refine ⟨g1, g2, ?_⟩
  rcases g3 with ⟨a1, a2, a3⟩ | ⟨a1, a2, a3, cs, fz, a4, a5, a6, a7⟩
  · exact .inl ⟨a1, by rw [ct.canon_spec.1]; exact a2, a3⟩
  · refine .inr ⟨a1, by rw [ct.canon_spec.1]; exact a2, by rw [ct.canon_spec.1]; exact a3, cs, fz, a4, a5, a6, fun x hx => ?_⟩
    rw [ct.canon_spec.1] at hx
    rw [ct.canon_spec.2 x hx]
    exact a7 x hx
def rowL (k : IntKind) (xs : List Int) : List (List SC) := xs.map fun x => [SC.raw (.int k x)]
theorem intsOf_row (k : IntKind) : ∀ xs : List Int, intsOf k (rowL k xs) = some xs
  | [] => rfl
  | x :: r => by
    have ih := intsOf_row k r
    unfold rowL at ih
    simp [rowL, intsOf, ih]
theorem canon_row (k : IntKind) {ys : List Int} (h : ys ≠ []) : (Ct.lst (rowL k ys)).canon = .ints k ys := by
  cases ys with
  | nil => exact absurd rfl h
  | cons y r =>
    simp only [rowL, List.map_cons, Ct.canon]
    rw [show intsOf k (List.map (fun x => [SC.raw (.int k x)]) r) = some r from intsOf_row k r]
theorem rowL_get (k : IntKind) (xs : List Int) (l : List (List SC)) {i : Nat} (h : i < xs.length) : (Ct.lst (rowL k xs ++ l)).get i = (Ct.ints k xs).get i := by
  have h1 : i < (rowL k xs).length := by rw [rowL, List.length_map]; exact h
  simp only [Ct.get, getL_eq]
  rw [List.getElem?_append_left h1]
  simp [rowL, h]
theorem insert_ok {cx : Cx} (hx : CxOk P cx) {g : FuncId} {T : TypeId} {k : IntKind} {xs ys : List Int} {x i : Int} (hn : 0 < xs.length) (hys : ys ≠ [])
    (h1 : ∀ (c : Nat) (v : Value) (K : SV → St → Prop), xs.length < c → K (.sa (.one (.sl 2 0 (xs.length + 1) (some c)))) [none, some (.mem true .whole T 1 (.lst [[.raw (.int k x)]])), some (.own true .row T 1 (.lst (rowL k ys)))] →
      ∃ N, evCall cx (ev cx N) g [.one (.sl 2 0 xs.length (some c)), .one (.raw (.int .i64 i)), .one (.sl 1 0 1 none)] [none, some (.mem true .whole T 1 (.lst [[.raw (.int k x)]])), some (.own true .row T 1 (.lst (rowL k xs ++ [[.raw v]])))] K)
    (h2 : ∀ (K : SV → St → Prop), K (.sa (.one (.ref 2))) [some (.own true .row T 1 (.ints k xs)), some (.mem true .whole T 1 (.lst [[.raw (.int k x)]])), some (.own true .row T 1 (.ints k ys))] →
      ∃ N, evCall cx (ev cx N) g [.one (.sl 0 0 xs.length (some xs.length)), .one (.raw (.int .i64 i)), .one (.sl 1 0 1 none)] [some (.own true .row T 1 (.ints k xs)), some (.mem true .whole T 1 (.lst [[.raw (.int k x)]]))] K)
    {K : SV → St → Prop} (hK : K (.sa (.one (.ref 2))) [none, some (.mem true .whole T 1 (.lst [[.raw (.int k x)]])), some (.own true .row T 1 (.ints k ys))])
    {α : Al} {w : World} {vals : List Value} (hR : R α [some (.own true .row T 1 (.ints k xs)), some (.mem true .whole T 1 (.lst [[.raw (.int k x)]]))] w) (ha : RepsA α [.one (.ref 0), .one (.raw (.int .i64 i)), .one (.sl 1 0 1 none)] vals) (hb : g < big := by decide) :
    CallsIn Fence.wide 0 P g vals.toArray w (CallPost α [some (.own true .row T 1 (.ints k xs)), some (.mem true .whole T 1 (.lst [[.raw (.int k x)]]))] w K) := by
  obtain ⟨d, hd, hg⟩ := hR.good 0 (.own true .row T 1 (.ints k xs)) rfl
  have hlive := hg.live (m := 1) (ct := .ints k xs) rfl hn rfl
  obtain ⟨hdm, _, ⟨hl0, _⟩ | ⟨_, hval, hcap, _⟩⟩ := hg
  · rw [hlive] at hl0; cases hl0
  have hcap : xs.length ≤ d.cap := hcap
  have hval : d.val = .slice (some ⟨d.blk, d.off, none⟩) xs.length d.cap := hval
  have hCall : ∀ N, CallOk P (evCall cx (ev cx N)) := fun N => evCall_ok (run := ev cx N) hx (ev_sound hx N).1
  by_cases hroom : xs.length < d.cap
  · obtain ⟨v, _, hsp⟩ := own_spare hR (q := 0) (ct := .ints k xs) rfl hd hlive hroom
    have hto := hsp (.lst (rowL k xs ++ [[.raw v]])) (by simp [Ct.len, rowL]) (fun i hi => rowL_get k xs _ hi) (by
      simp only [Ct.get, getL_eq, Ct.len]
      rw [List.getElem?_append_right (by simp [rowL])]
      simp [rowL])
    obtain ⟨N, hN⟩ := h1 d.cap v (fun u s => u = .sa (.one (.sl 2 0 (xs.length + 1) (some d.cap))) ∧ s = [none, some (.mem true .whole T 1 (.lst [[.raw (.int k x)]])), some (.own true .row T 1 (.lst (rowL k ys)))]) hroom ⟨rfl, rfl⟩
    have ha1 : RepsA (α.add 2 ⟨d.blk, d.off, 1, d.cap, .slice (some ⟨d.blk, d.off, none⟩) (xs.length + 1) d.cap, true⟩) [.one (.sl 2 0 xs.length (some d.cap)), .one (.raw (.int .i64 i)), .one (.sl 1 0 1 none)] vals := by
      match vals, ha with
      | [v0, v1, v2], ⟨a0, a1, a2, _⟩ =>
        refine ⟨?_, a1, SC.val?_mono (hto.le hR) a2, trivial⟩
        simp only [SA.rep, SC.val?, hd, Option.some.injEq] at a0
        simp only [SA.rep, SC.val?, Al.add_same, Option.getD_some, Nat.zero_mul, Nat.add_zero]
        rw [← a0, hval]
    refine (((hCall N).1 g _ _ _ hb hN).2 _ w vals hto.rep ha1).mono fun e w' ⟨u, st', β, val, he, hv, ⟨hu, hs⟩, hto2⟩ => ?_
    subst hu; subst hs
    have hβ : β 2 = some ⟨d.blk, d.off, 1, d.cap, .slice (some ⟨d.blk, d.off, none⟩) (xs.length + 1) d.cap, true⟩ := by
      rw [hto2.ext 2 (by simp [St.put, setL])]; exact Al.add_same
    have hc := own_canon hto2.rep (q := 2) (ct := .lst (rowL k ys)) rfl
    rw [canon_row k hys] at hc
    refine ⟨.sa (.one (.ref 2)), _, β, val, he, ?_, hK, (hto.trans hto2).trans hc⟩
    simp only [SV.rep, SA.rep, SC.val?, hβ, Option.getD_some, Nat.zero_mul, Nat.add_zero] at hv ⊢
    exact hv
  · have hce : d.cap = xs.length := by omega
    obtain ⟨N, hN⟩ := h2 (fun u s => u = .sa (.one (.ref 2)) ∧ s = [some (.own true .row T 1 (.ints k xs)), some (.mem true .whole T 1 (.lst [[.raw (.int k x)]])), some (.own true .row T 1 (.ints k ys))]) ⟨rfl, rfl⟩
    have ha1 : RepsA α [.one (.sl 0 0 xs.length (some xs.length)), .one (.raw (.int .i64 i)), .one (.sl 1 0 1 none)] vals := by
      match vals, ha with
      | [v0, v1, v2], ⟨a0, a1, a2, _⟩ =>
        refine ⟨?_, a1, a2, trivial⟩
        simp only [SA.rep, SC.val?, hd, Option.some.injEq] at a0
        simp only [SA.rep, SC.val?, hd, Option.getD_some, Nat.zero_mul, Nat.add_zero]
        rw [← a0, hval, hce]
    refine (((hCall N).1 g _ _ _ hb hN).2 _ w vals hR ha1).mono fun e w' ⟨u, st', β, val, he, hv, ⟨hu, hs⟩, hto2⟩ => ?_
    subst hu; subst hs
    exact ⟨.sa (.one (.ref 2)), _, β, val, he, hv, hK, hto2.trans (To.kill hto2.rep 0)⟩
end Go.Ev
