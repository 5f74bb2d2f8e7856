/- What a joiner does with a piece. No conditions. -/
import Derived.Test.YtipmphkcbhjinaaFkT0
import Derived.Test.YtipmphkcbhjinaaFkT1
import Derived.Test.YtipmphkcbhjinaaFkT2
import Derived.Test.YtipmphkcbhjinaaFkT3
import Derived.Test.YtipmphkcbhjinaaFkL
import Derived.Test.YtipmphkcbhjinaaCl8S
set_option linter.unusedVariables false
namespace Go.Ev
open Go Go.Proofs Go.Spec
attribute [local irreducible] ev evCall branch need again
theorem namesK : namesB Try.prog = true := by kernel_rfl
theorem mixedK : Try.prog.follows .mixedOrders = true := by kernel_rfl
theorem cxK_ok : CxOk Try.prog cxK := mkCx_ok namesK mixedK (by
  intro x h
  simp only [List.mem_cons, List.not_mem_nil, or_false] at h
  subst h
  exact clone8_sum)
theorem evFuelK {c : Cx} {N N' m f : Nat} {co : Code} {fr : Fr} {st : St} {k : Exit → Fr → St → Prop} (h : ev c N m f co fr st k) (e : N = N') : ev c N' m f co fr st k := e ▸ h
def k3 (k : SV → St → Prop) : Exit → Fr → St → Prop := kRet (Cx.P cxK) [(ResultVar.cell 4 35), (ResultVar.tmp 5), (ResultVar.tmp 6)] 3 k
def frK : Fr := frm 164 [(0, (.sa (.one (SC.ptr 0 0 0)))), (3, (.sa (.one (SC.ptr 3 0 0)))), (4, (.sa (.one (SC.ptr 5 0 0)))), (9, (.sa (.one (SC.ref 6)))), (10, (.sa (.one (SC.ptr 7 0 0)))), (11, (.sa (.one (SC.ptr 9 0 0))))]
def stL (held : Int) (l : List Pc) (cl : Nat) (ob : Option SO) (p : Pc) (T : Nat) (a : Pc) (T1 : Nat) (zs : List Int) (b : Pc) (T2 : Nat) (us : List Int) : St :=
  stK held (l.map Pc.t) (l.map Pc.t) (l.map Pc.f) (l.map Pc.s) (l.map Pc.n) (l.map Pc.p) (l.map Pc.d) (l.map Pc.b) cl ob p.t p.f p.s p.n p.p T p.d a.t a.f a.s a.n a.p T1 zs b.t b.f b.s b.n b.p T2 us
def ev2 (M : Nat) (held : Int) (l : List Pc) (cl : Nat) (ob : Option SO) (p : Pc) (T : Nat) (a : Pc) (T1 : Nat) (zs : List Int) (b : Pc) (T2 : Nat) (us : List Int) (L : Nat) (k : SV → St → Prop) : Prop :=
  ev cxK (L + 49) 3 28 (codeAt Try.prog 28 [1, 1, 1, 1, 1, 1, 1, 1, 1, 0, 0]) frK (stL held l cl ob p T a T1 zs b T2 us) (kBlock 2 (kSeq (ev cxK (M + 50) 3 28 (codeAt Try.prog 28 [1, 1, 1, 1, 1, 1, 1, 1, 1, 1])) (k3 k)))
def ev1 (M : Nat) (held : Int) (l : List Pc) (cl : Nat) (ob : Option SO) (p : Pc) (T : Nat) (a : Pc) (T1 : Nat) (zs : List Int) (b : Pc) (T2 : Nat) (us : List Int) (L : Nat) (k : SV → St → Prop) : Prop :=
  ev cxK (L + 50) 3 28 (codeAt Try.prog 28 [1, 1, 1, 1, 1, 1, 1, 1, 0, 0]) frK (stL held l cl ob p T a T1 zs b T2 us) (kBlock 0 (kSeq (ev cxK (M + 51) 3 28 (codeAt Try.prog 28 [1, 1, 1, 1, 1, 1, 1, 1, 1])) (k3 k)))
def ev3 (M : Nat) (held : Int) (l : List Pc) (cl : Nat) (ob : Option SO) (p : Pc) (T : Nat) (a : Pc) (mm : List Int) (c : Int) (b : Pc) (T2 : Nat) (us : List Int) (L : Nat) (k : SV → St → Prop) : Prop :=
  ev cxK (L + 46) 3 28 (codeAt Try.prog 28 [1, 1, 1, 1, 1, 1, 1, 1, 1, 1, 1, 0, 1, 0]) (frm 164 [(0, (.sa (.one (SC.ptr 0 0 0)))), (3, (.sa (.one (SC.ptr 3 0 0)))), (4, (.sa (.one (SC.ptr 5 0 0)))), (11, (.sa (.one (SC.ptr 7 0 0)))), (16, (.sa (.one (iv .u32 c))))])
    (stJ held (l.map Pc.t) (l.map Pc.t) (l.map Pc.f) (l.map Pc.s) (l.map Pc.n) (l.map Pc.p) (l.map Pc.d) (l.map Pc.b) cl ob p.t p.f p.s p.n p.p T p.d a.s (hasF a.f 4) a.p mm b.t b.f b.s b.n b.p T2 us)
    (kBlock 4 (kSeq (ev cxK (M + 48) 3 28 (codeAt Try.prog 28 [1, 1, 1, 1, 1, 1, 1, 1, 1, 1, 1, 1])) (k3 k)))
theorem lookLt {l : List Pc} {t : Int} : idxI t (l.map Pc.t) < (l.map Pc.t).length ↔ idxI t (keysP l) < l.length := by rw [List.length_map]; exact Iff.rfl
theorem hasF_f {f w : Int} (h : andK .u8 f w = 0) : hasF f w = false := by unfold hasF; rw [h]; rfl
theorem hasF_t {f w : Int} (h : andK .u8 f w ≠ 0) : hasF f w = true := by unfold hasF; rw [eqK_f.2 h]; rfl
theorem bk_run (M : Nat) (held : Int) (l : List Pc) (cl : Nat) (w : Bool) (kk : MK) (T8 : Nat) (xs : List Int) (p : Pc) (T : Nat) (b : Pc) (T2 : Nat) (us : List Int) (k : SV → St → Prop) :
    ∀ (c C : Nat) (a : Pc) (T1 : Nat) (zs : List Int), bOk l p c a → (backP l p c a = none → k noneV [joinO held, keptL l cl, (some (.own w kk T8 1 (.ints .u8 xs)))]) →
      (∀ r i, backP l p c a = some (r, i) → ∀ T1 zs, ev2 M held l cl (some (.own w kk T8 1 (.ints .u8 xs))) p T r T1 zs b T2 us M k) → ev1 M held l cl (some (.own w kk T8 1 (.ints .u8 xs))) p T a T1 zs b T2 us (c + C) k := by
  intro c
  induction c with
  | zero => intro C a T1 zs h; exact h.elim
  | succ c ih =>
    intro C a T1 zs h hF hS
    unfold ev1 stL k3 frK
    rw [t_bk]
    refine Again.mk (bre (fun h0 => ?_) (fun h0 => ?_))
    · have hb := hasF_f h0
      unfold backP at hF hS
      rw [if_neg (by rw [hb]; simp)] at hF hS
      refine brd (fun h1 => ?_) (fun h1 => ?_)
      · have h1 := lookLt.1 h1
        have hq : lookP l (subK .u32 a.t 1) = some (l.getD (idxI (subK .u32 a.t 1) (keysP l)) pz) := by unfold lookP; rw [if_pos h1]
        rw [hq] at hF hS
        dsimp only at hF hS
        have e : idxI (subK .u32 a.t 1) (l.map Pc.t) = idxI (subK .u32 a.t 1) (keysP l) := rfl
        rw [e]
        simp only [map_t, map_f, map_s, map_n, map_p, map_d]
        generalize l.getD (idxI (subK .u32 a.t 1) (keysP l)) pz = q at hq hF hS ⊢
        have fail : ∀ {x : Prop}, ¬ (alikeB p q = true ∧ hasF q.f 1 = false) → k noneV [joinO held, keptL l cl, (some (.own w kk T8 1 (.ints .u8 xs)))] := fun hn => hF (by rw [if_neg hn])
        refine bre (fun h2 => bre (fun h3 => ?_) (fun h3 => ?_)) (fun h2 => ?_)
        · refine br (fun h4 => ?_) (fun h4 => ?_)
          · exact fail (x := True) fun hn => by
              simp only [alikeB, Bool.and_eq_true] at hn
              rw [hn.1.2] at h4; cases h4
          · refine br (fun h5 => ?_) (fun h5 => ?_)
            · exact fail (x := True) fun hn => by
                have := hn.2
                unfold hasF at this
                rw [this] at h5; cases h5
            · have hal : alikeB p q = true := by
                simp only [alikeB, Bool.and_eq_true, eqK_t]
                have h4 : eqK (andK .u8 (xorK .u8 q.f p.f) 4) 0 = true := by
                  cases h6 : eqK (andK .u8 (xorK .u8 q.f p.f) 4) 0 with
                  | true => rfl
                  | false => rw [h6] at h4; cases h4
                exact ⟨⟨h2, h3⟩, eqK_t.1 h4⟩
              have h5 : hasF q.f 1 = false := h5
              rw [if_pos ⟨hal, h5⟩] at hF hS
              have hok : bOk l p c q := by
                rcases h with h | h
                · rw [hb] at h; cases h
                · exact h q hq hal h5
              have IH := ih C q 0 q.d hok (fun hn => hF (by rw [hn]; rfl)) (fun r i hr => hS r (i + 1) (by rw [hr]; rfl))
              unfold ev1 stL k3 frK at IH
              exact evFuelK IH (by omega)
        · exact fail (x := True) fun hn => by
            simp only [alikeB, Bool.and_eq_true, eqK_t] at hn
            exact h3 hn.1.1.2
        · exact fail (x := True) fun hn => by
            simp only [alikeB, Bool.and_eq_true, eqK_t] at hn
            exact h2 hn.1.1.1
      · have h1 : ¬ idxI (subK .u32 a.t 1) (keysP l) < l.length := fun h => h1 (lookLt.2 h)
        have hq : lookP l (subK .u32 a.t 1) = none := by unfold lookP; rw [if_neg h1]
        rw [hq] at hF
        exact hF rfl
    · have hb := hasF_t h0
      unfold backP at hS
      rw [if_pos hb] at hS
      have := hS a 0 rfl T1 zs
      unfold ev2 stL k3 frK at this
      exact this
theorem fw_run (M : Nat) (held : Int) (l : List Pc) (cl : Nat) (w : Bool) (kk : MK) (T8 : Nat) (xs : List Int) (p : Pc) (T : Nat) (a : Pc) (T1 : Nat) (zs : List Int) (k : SV → St → Prop) :
    ∀ (c C : Nat) (b : Pc) (T2 : Nat) (us : List Int), fOk l p c b → (forwP l p c b = none → k noneV [joinO held, keptL l cl, (some (.own w kk T8 1 (.ints .u8 xs)))]) →
      (∀ r i, forwP l p c b = some (r, i) → ∀ T2 us, ev3 M held l cl (some (.own w kk T8 1 (.ints .u8 xs))) p T a [] a.t r T2 us M k) → ev2 M held l cl (some (.own w kk T8 1 (.ints .u8 xs))) p T a T1 zs b T2 us (c + C) k := by
  intro c
  induction c with
  | zero => intro C b T2 us h; exact h.elim
  | succ c ih =>
    intro C b T2 us h hF hS
    unfold ev2 stL k3 frK
    rw [t_fw]
    refine Again.mk (bre (fun h0 => ?_) (fun h0 => ?_))
    · have hb := hasF_f h0
      unfold forwP at hF hS
      rw [if_neg (by rw [hb]; simp)] at hF hS
      refine brd (fun h1 => ?_) (fun h1 => ?_)
      · have h1 := lookLt.1 h1
        have hq : lookP l (addK .u32 b.t 1) = some (l.getD (idxI (addK .u32 b.t 1) (keysP l)) pz) := by unfold lookP; rw [if_pos h1]
        rw [hq] at hF hS
        dsimp only at hF hS
        have e : idxI (addK .u32 b.t 1) (l.map Pc.t) = idxI (addK .u32 b.t 1) (keysP l) := rfl
        rw [e]
        simp only [map_t, map_f, map_s, map_n, map_p, map_d]
        generalize l.getD (idxI (addK .u32 b.t 1) (keysP l)) pz = q at hq hF hS ⊢
        have fail : ∀ {x : Prop}, ¬ (alikeB p q = true ∧ hasF q.f 2 = false) → k noneV [joinO held, keptL l cl, (some (.own w kk T8 1 (.ints .u8 xs)))] := fun hn => hF (by rw [if_neg hn])
        refine bre (fun h2 => bre (fun h3 => ?_) (fun h3 => ?_)) (fun h2 => ?_)
        · refine br (fun h4 => ?_) (fun h4 => ?_)
          · exact fail (x := True) fun hn => by
              simp only [alikeB, Bool.and_eq_true] at hn
              rw [hn.1.2] at h4; cases h4
          · refine br (fun h5 => ?_) (fun h5 => ?_)
            · exact fail (x := True) fun hn => by
                have := hn.2
                unfold hasF at this
                rw [this] at h5; cases h5
            · have hal : alikeB p q = true := by
                simp only [alikeB, Bool.and_eq_true, eqK_t]
                have h4 : eqK (andK .u8 (xorK .u8 q.f p.f) 4) 0 = true := by
                  cases h6 : eqK (andK .u8 (xorK .u8 q.f p.f) 4) 0 with
                  | true => rfl
                  | false => rw [h6] at h4; cases h4
                exact ⟨⟨h2, h3⟩, eqK_t.1 h4⟩
              have h5 : hasF q.f 2 = false := h5
              rw [if_pos ⟨hal, h5⟩] at hF hS
              have hok : fOk l p c q := by
                rcases h with h | h
                · rw [hb] at h; cases h
                · exact h q hq hal h5
              have IH := ih C q 0 q.d hok (fun hn => hF (by rw [hn]; rfl)) (fun r i hr => hS r (i + 1) (by rw [hr]; rfl))
              unfold ev2 stL k3 frK at IH
              exact evFuelK IH (by omega)
        · exact fail (x := True) fun hn => by
            simp only [alikeB, Bool.and_eq_true, eqK_t] at hn
            exact h3 hn.1.1.2
        · exact fail (x := True) fun hn => by
            simp only [alikeB, Bool.and_eq_true, eqK_t] at hn
            exact h2 hn.1.1.1
      · have h1 : ¬ idxI (addK .u32 b.t 1) (keysP l) < l.length := fun h => h1 (lookLt.2 h)
        have hq : lookP l (addK .u32 b.t 1) = none := by unfold lookP; rw [if_neg h1]
        rw [hq] at hF
        exact hF rfl
    · have hb := hasF_t h0
      unfold forwP at hS
      rw [if_pos hb] at hS
      have := hS b 0 rfl T2 us
      unfold ev3 k3 at this
      exact this
theorem map_erase {α β : Type} (f : α → β) : ∀ (l : List α) (i : Nat), (l.map f).eraseIdx i = (l.eraseIdx i).map f
  | [], _ => rfl
  | _ :: _, 0 => rfl
  | x :: l, i + 1 => by simp only [List.map_cons, List.eraseIdx_cons_succ, map_erase f l i]
theorem take_all (l : List Int) : l.take l.length = l := List.take_of_length_le (Nat.le_refl _)
theorem jn_run (M : Nat) (held : Int) (cl : Nat) (w : Bool) (kk : MK) (T8 : Nat) (xs : List Int) (p : Pc) (T : Nat) (a b : Pc) (T2 : Nat) (us : List Int) (k : SV → St → Prop) :
    ∀ (n C : Nat) (l : List Pc) (c : Int) (mm : List Int), 0 ≤ c → c < 4294967296 → b.t = (c + (n : Int)) % 4294967296 → lenD l + mm.length ≤ 100000000 →
      (k (.tup [.agg [iv .u16 a.s, bv (hasF a.f 4), iv .u32 a.p, .ref 3], .one (iv .u16 p.n), .one (bv true)])
        [joinO (subK .i64 held (((joinP b.t (n + 1) l c mm).2.length : Nat) : Int)), keptL (joinP b.t (n + 1) l c mm).1 cl, (some (.own w kk T8 1 (.ints .u8 xs))), own8 (joinP b.t (n + 1) l c mm).2]) → ev3 M held l cl (some (.own w kk T8 1 (.ints .u8 xs))) p T a mm c b T2 us (n + C) k := by
  intro n
  induction n with
  | zero =>
    intro C l c mm h1 h2 h3 h4 hk
    have e : c = b.t := by omega
    unfold joinP at hk
    rw [if_pos e] at hk
    unfold dropP dataP lookP at hk
    unfold ev3 k3
    rw [t_jn]
    have e2 : ∀ t, idxI t (l.map Pc.t) = idxI t (keysP l) := fun _ => rfl
    simp only [e2, map_d, take_all]
    refine Again.mk (brd (fun g => ?_) (fun g => ?_))
    · have g' : idxI c (keysP l) < l.length := by rw [List.length_map] at g; exact g
      have hd := lenD_erase g'
      rw [if_pos g', if_pos g'] at hk
      refine ndd (by omega) (ndd (by omega) (brt g (bret e ?_)))
      unfold keptL at hk
      simp only [map_erase]
      exact hk
    · have g' : ¬ idxI c (keysP l) < l.length := by rw [List.length_map] at g; exact g
      rw [if_neg g', if_neg g'] at hk
      refine ndd (by omega) (brf g (bret e ?_))
      exact hk
  | succ n ih =>
    intro C l c mm h1 h2 h3 h4 hk
    unfold joinP at hk
    have hd := drop_len l c
    have e2 : ∀ t, idxI t (l.map Pc.t) = idxI t (keysP l) := fun _ => rfl
    have next : c ≠ b.t → ev3 M held (dropP l c) cl (some (.own w kk T8 1 (.ints .u8 xs))) p T a (mm ++ dataP l c) (addK .u32 c 1) b T2 us (n + C) k := fun e => by
      rw [if_neg e] at hk
      refine ih C _ _ _ ?_ ?_ ?_ ?_ hk
      · rw [add32]; omega
      · rw [add32]; omega
      · rw [add32]; omega
      · rw [List.length_append]; omega
    unfold ev3 k3 at next ⊢
    unfold dropP dataP lookP at hk next
    rw [t_jn]
    simp only [e2, map_d, take_all]
    refine Again.mk (brd (fun g => ?_) (fun g => ?_))
    · have g' : idxI c (keysP l) < l.length := by rw [List.length_map] at g; exact g
      have hd := lenD_erase g'
      rw [if_pos g'] at next
      rw [if_pos g'] at next
      rw [if_pos g', if_pos g'] at hk
      refine ndd (by omega) (ndd (by omega) (brt g (bre (fun e => ?_) (fun e => ?_))))
      · rw [if_pos e] at hk
        unfold keptL at hk
        simp only [map_erase]
        exact hk
      · have := next e
        unfold stJ at this
        simp only [map_erase]
        exact evFuelK this (by omega)
    · have g' : ¬ idxI c (keysP l) < l.length := by rw [List.length_map] at g; exact g
      rw [if_neg g'] at next
      rw [if_neg g'] at next
      rw [if_neg g', if_neg g'] at hk
      refine ndd (by omega) (brf g (bre (fun e => ?_) (fun e => ?_)))
      · rw [if_pos e] at hk
        exact hk
      · exact evFuelK (next e) (by omega)
end Go.Ev
