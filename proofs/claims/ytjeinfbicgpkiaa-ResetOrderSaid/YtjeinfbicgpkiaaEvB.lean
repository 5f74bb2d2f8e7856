/- Part B of a checked reader of the program form: what it computes on an abstract state is what the model does, in any order of a region. No conditions. -/
import Derived.Test.YtjeinfbicgpkiaaEvA
import Derived.Laws.StructEq
import Derived.Lib.Overlaps
import Derived.RangeFuncRecord
set_option linter.unusedSimpArgs false
set_option linter.unusedVariables false
/- THE ENGINE, part 7: comparisons and numbers; slicing; function values; maps made. -/
namespace Go.Ev
open Go
variable {P : Program} {α : Al} {st : St} {w : World}
theorem rawL_spec : ∀ {l : List SC} {vs us : List Value}, rawL l = some vs → Reps α l us → us = vs
  | [], vs, us, h, r => by
    simp [rawL] at h; subst h
    cases us with | nil => rfl | cons _ _ => exact r.elim
  | .raw v :: l, vs, us, h, r => by
    simp only [rawL] at h
    split at h
    · rename_i l' hl
      cases h
      cases us with
      | nil => exact r.elim
      | cons u us =>
        have h1 := r.1
        simp [SC.val?] at h1
        subst h1
        rw [rawL_spec hl r.2]
    · simp at h
  | .ptr _ _ _ :: l, vs, us, h, r => by simp [rawL] at h
  | .sl _ _ _ _ :: l, vs, us, h, r => by simp [rawL] at h
  | .ref _ :: l, vs, us, h, r => by simp [rawL] at h
  | .dat _ _ :: l, vs, us, h, r => by simp [rawL] at h
theorem eq_ptr_nil {T e : TypeId} (hu : P.underlying T = some (.pointer e)) (p : Addr) (w : World) : (Op.equal T (.pointer (some p)) (.pointer none)).run P w = .ok false w := by
  show (Op.equalIn (9999 + 1) T _ _).run P w = _
  unfold Op.equalIn
  simp only [Sem.run_bind, run_under hu, Result.andThen_ok]
  rfl
theorem eq_nil_ptr {T e : TypeId} (hu : P.underlying T = some (.pointer e)) (p : Addr) (w : World) : (Op.equal T (.pointer none) (.pointer (some p))).run P w = .ok false w := by
  show (Op.equalIn (9999 + 1) T _ _).run P w = _
  unfold Op.equalIn
  simp only [Sem.run_bind, run_under hu, Result.andThen_ok]
  rfl
theorem eq_sl_nil {T e : TypeId} (hu : P.underlying T = some (.slice e)) (p : Addr) (n c m k : Nat) (w : World) : (Op.equal T (.slice (some p) n c) (.slice none m k)).run P w = .ok false w := by
  show (Op.equalIn (9999 + 1) T _ _).run P w = _
  unfold Op.equalIn
  simp only [Sem.run_bind, run_under hu, Result.andThen_ok]
  rfl
theorem eq_fn_nil {T : TypeId} {x y : Array TypeId} {z : Bool} (hu : P.underlying T = some (.func x y z)) (f : Fn) (a b : Array Value) (w : World) : (Op.equal T (.func f a b) .nilFunc).run P w = .ok false w := by
  show (Op.equalIn (9999 + 1) T _ _).run P w = _
  unfold Op.equalIn
  simp only [Sem.run_bind, run_under hu, Result.andThen_ok]
  rfl
theorem eq_map_nil {T x y : TypeId} (hu : P.underlying T = some (.map x y)) (r : Nat) (w : World) : (Op.equal T (.map (some r)) (.map none)).run P w = .ok false w := by
  show (Op.equalIn (9999 + 1) T _ _).run P w = _
  unfold Op.equalIn
  simp only [Sem.run_bind, run_under hu, Result.andThen_ok]
  rfl
theorem eq_sl_nil' {T e : TypeId} (hu : P.underlying T = some (.slice e)) (p : Addr) (n c m k : Nat) (w : World) : (Op.equal T (.slice (some p) n c) (.slice none m k)).run P w = .ok false w := eq_sl_nil hu p n c m k w
theorem run_eqGuard_plain {op : BinOp} {T : TypeId} {xo yo : Operand} {a b : Value} (h2 : a ≠ .nilIface) (h3 : ∀ c, a ≠ .agg c) : (eqGuard op T xo yo a b).run P w = .ok () w := by
  unfold eqGuard
  cases op <;> cases a <;> first | (exact absurd rfl h2) | (exact absurd rfl (h3 _)) | rfl
theorem evNil_spec {a b : SC} {av bv : Value} {T : TypeId} {d : TypeDesc} (hR : R α st w) (ha : a.val? α = some av) (hb : b.val? α = some bv) (hu : P.underlying T = some d) (h : evNil st d a b = true) :
    (∀ op xo yo, (eqGuard op T xo yo av bv).run P w = .ok () w) ∧ (Op.equal T av bv).run P w = .ok false w ∧
    (∀ k x, av ≠ .int k x) ∧ (∀ k x, av ≠ .float k x) ∧ (∀ k x y, av ≠ .complex k x y) ∧ (∀ s, av ≠ .string s) := by
  unfold evNil at h
  split at h
  · rename_i e o i j
    simp only [SC.val?, Option.some.injEq] at ha hb
    split at ha <;> simp at ha
    subst ha; subst hb
    exact ⟨fun _ _ _ => run_eqGuard_plain (by simp) (by simp), eq_ptr_nil hu _ w, by simp, by simp, by simp, by simp⟩
  · rename_i e o i j
    simp only [SC.val?, Option.some.injEq] at ha hb
    split at hb <;> simp at hb
    subst ha; subst hb
    exact ⟨fun _ _ _ => run_eqGuard_plain (by simp) (by simp), eq_nil_ptr hu _ w, by simp, by simp, by simp, by simp⟩
  · rename_i e o i n c m k
    simp only [SC.val?, Option.some.injEq] at ha hb
    split at ha <;> simp at ha
    subst ha; subst hb
    exact ⟨fun _ _ _ => run_eqGuard_plain (by simp) (by simp), eq_sl_nil hu _ _ _ _ _ w, by simp, by simp, by simp, by simp⟩
  · split at h
    · rename_i o' i' n' hl
      have h0 := of_decide_eq_true h
      obtain ⟨d, a, c, e, hd, hval, he, hp⟩ := hR.list_ok hl
      simp only [SC.val?, hd, Option.some.injEq] at ha hb
      rw [hval, (hp.1 h0).1] at ha
      subst ha; subst hb
      exact ⟨fun _ _ _ => run_eqGuard_plain (by simp) (by simp), eq_sl_nil hu _ _ _ _ _ w, by simp, by simp, by simp, by simp⟩
    · simp at h
  · split at h
    · rename_i hst
      obtain ⟨d, hd, va, vb, x1, x2, x3⟩ := hR.good _ _ hst
      simp only [SC.val?, hd, Option.some.injEq] at ha hb
      rw [x3] at ha
      subst ha; subst hb
      exact ⟨fun _ _ _ => run_eqGuard_plain (by simp) (by simp), eq_fn_nil hu _ _ _ w, by simp, by simp, by simp, by simp⟩
    · simp at h
  · split at h
    · rename_i hst
      obtain ⟨d, hd, x3, _⟩ := hR.good _ _ hst
      simp only [SC.val?, hd, Option.some.injEq] at ha hb
      rw [x3] at ha
      subst ha; subst hb
      exact ⟨fun _ _ _ => run_eqGuard_plain (by simp) (by simp), eq_map_nil hu _ w, by simp, by simp, by simp, by simp⟩
    · rename_i hst
      obtain ⟨d, hd, x3, _⟩ := hR.good _ _ hst
      simp only [SC.val?, hd, Option.some.injEq] at ha hb
      rw [x3] at ha
      subst ha; subst hb
      exact ⟨fun _ _ _ => run_eqGuard_plain (by simp) (by simp), eq_map_nil hu _ w, by simp, by simp, by simp, by simp⟩
    · simp at h
  · simp at h
theorem eqFs_sound {rec : TypeId → Value → Value → Option Bool} {d : Nat} {w : World} (hrec : ∀ t x y b, rec t x y = some b → (Op.equalIn d t x y).run P w = .ok b w) {xs ys : Array Value} :
    ∀ {fs : List Field} {b : Bool}, eqFs rec P xs ys fs = some b → (Op.eqFields d xs ys fs).run P w = .ok b w
  | [], b, h => by simp only [eqFs, Option.some.injEq] at h; subst h; simp [Op.eqFields]
  | f :: r, b, h => by
    unfold eqFs at h
    split at h
    · rename_i a c hn ha hc
      have hn : ¬ f.name = "_" := of_decide_eq_false hn
      split at h
      · rename_i p q h1 h2
        simp only [Option.some.injEq] at h
        subst h
        have e1 := pureSem_run ha w
        have e2 := pureSem_run hc w
        have e3 := hrec _ _ _ _ h1
        have e4 := eqFs_sound hrec h2
        simp only [Op.eqFields, hn, ne_eq, not_false_eq_true, if_true, Sem.run_bind, e1, e2, e3, Result.andThen_ok]
        cases p
        · simp
        · simpa using e4
      · cases h
    · cases h
theorem eqV_sound {w : World} : ∀ {n : Nat} {d : Nat} {t : TypeId} {x y : Value} {b : Bool}, eqV P n t x y = some b → (Op.equalIn (d + n) t x y).run P w = .ok b w
  | 0, _, _, _, _, _, h => by cases h
  | n + 1, d, t, x, y, b, h => by
    unfold eqV at h
    split at h
    · rename_i q k a k' c hu
      split at h
      · rename_i hk
        have hk := of_decide_eq_true hk
        subst hk
        simp only [Option.some.injEq] at h
        subst h
        rw [show d + (n + 1) = (d + n) + 1 from rfl, run_equalIn_int w (d + n) t k q a c hu, eqK_eq]
      · cases h
    · rename_i a c hu
      simp only [Option.some.injEq] at h
      subst h
      rw [show d + (n + 1) = (d + n) + 1 from rfl, run_equalIn_bool' w (d + n) t a c hu]
    · rename_i fs xs ys hu
      split at h
      · cases h
      · rename_i hs
        have hfs : P.fieldsOf t = fs := by simp [Program.fieldsOf, hu]
        rw [show d + (n + 1) = (d + n) + 1 from rfl, run_equalIn_struct w (d + n) t xs ys (by rw [hfs]; exact hu) hs, hfs]
        exact eqFs_sound (fun t x y b h => eqV_sound (n := n) (d := d) h) h
    · cases h
theorem eqTop_sound {w : World} {T : TypeId} {a b : List Value} {r : Bool} (h : eqTop P T a b = some r) :
    (∀ op x y, (eqGuard op T x y (.agg a.toArray) (.agg b.toArray)).run P w = .ok () w) ∧ (binOp .eql T (.agg a.toArray) (.agg b.toArray)).run P w = .ok (.bool r) w ∧ (binOp .neq T (.agg a.toArray) (.agg b.toArray)).run P w = .ok (.bool (!r)) w := by
  unfold eqTop at h
  split at h
  · cases h
  · rename_i hg
    have he : (Op.equalIn 10000 T (.agg a.toArray) (.agg b.toArray)).run P w = .ok r w := eqV_sound (n := 4) (d := 9996) h
    exact ⟨fun op x y => run_eqGuard_agg w op T x y _ _ hg, by rw [run_eql_struct w, he]; rfl, by rw [run_neq_struct w, he]; rfl⟩
theorem evBin_sound {op : BinOp} {T : TypeId} {xo yo : Operand} {x y : SA} {xv yv : Value} {k : SV → Prop} (hR : R α st w) (hx : x.rep α xv) (hy : y.rep α yv) (h : evBin P op T xo yo st x y k) :
    ∃ sv v, (do eqGuard op T xo yo xv yv; binOp op T xv yv : Sem Value).run P w = .ok v w ∧ sv.rep α v ∧ k sv := by
  unfold evBin at h
  split at h
  · rename_i a b
    simp only [SA.rep, SC.val?, Option.some.injEq] at hx hy
    subst hx; subst hy
    split at h
    · rename_i ka x kb y
      split at h
      · rename_i hk
        have hk : ka = kb := by simpa using hk
        subst hk
        obtain ⟨h1, h⟩ := need_iff.1 h
        have h1 : ¬ y = 0 := by simpa using h1
        exact ⟨.sa (.one (.raw (.int ka (quoK ka x y)))), .int ka (quoK ka x y), by simp [eqGuard, binOp, Op.intDiv, h1, quoK_eq], rfl, h⟩
      · exact h.elim
    · rename_i ka x kb y
      split at h
      · rename_i hk
        have hk : ka = kb := by simpa using hk
        subst hk
        obtain ⟨h1, h⟩ := need_iff.1 h
        have h1 : ¬ y = 0 := by simpa using h1
        exact ⟨.sa (.one (.raw (.int ka (remK x y)))), .int ka (remK x y), by simp [eqGuard, binOp, Op.intDiv, h1, remK_eq], rfl, h⟩
      · exact h.elim
    · rename_i ka x kb y
      obtain ⟨h1, h⟩ := need_iff.1 h
      have h1 : ¬ y < 0 := by have : 0 ≤ y := by simpa using h1
                              omega
      exact ⟨.sa (.one (.raw (.int ka (shlK ka x y)))), .int ka (shlK ka x y), by simp [eqGuard, binOp, Op.shift, h1, shlK_eq], rfl, h⟩
    · rename_i ka x kb y
      obtain ⟨h1, h⟩ := need_iff.1 h
      have h1 : ¬ y < 0 := by have : 0 ≤ y := by simpa using h1
                              omega
      exact ⟨.sa (.one (.raw (.int ka (shrK ka x y)))), .int ka (shrK ka x y), by simp [eqGuard, binOp, Op.shift, h1, shrK_eq], rfl, h⟩
    · rename_i op' ka x kb y hq hm hl hs
      split at h
      · rename_i hk
        have hk : ka = kb := by simpa using hk
        subst hk
        obtain ⟨r, hr, h⟩ := opt_iff.1 h
        refine ⟨.sa (.one (.raw r)), r, ?_, rfl, h⟩
        cases op <;> simp only [evInt, Option.some.injEq, reduceCtorEq] at hr <;> subst hr <;>
          simp [eqGuard, binOp, Op.intArith, Op.intBits, Op.intCmp, addK_eq, subK_eq, mulK_eq, andK_eq, orK_eq, xorK_eq, andnK_eq, eqK_eq, bne]
      · exact h.elim
    · rename_i a b
      obtain ⟨hle, h⟩ := need_iff.1 h
      have hle := of_decide_eq_true hle
      have hmax : IntKind.i64.max = 9223372036854775807 := by decide
      have hn : ¬ (((a.size + b.size : Nat) : Int) > IntKind.i64.max) := by rw [hmax]; omega
      exact ⟨.sa (.one (.raw (.string (catS a b)))), .string (catS a b), by simp only [eqGuard, binOp, Op.stringOp, if_neg hn]; simp [catS], rfl, h⟩
    · rename_i a b
      exact ⟨.sa (.one (.raw (.bool (strEq a b)))), .bool (strEq a b), by simp [eqGuard, binOp, Op.stringOp, strEq], rfl, h⟩
    · rename_i a b
      exact ⟨.sa (.one (.raw (.bool (!strEq a b)))), .bool (!strEq a b), by simp [eqGuard, binOp, Op.stringOp, strEq], rfl, h⟩
    · obtain ⟨r, hr, h⟩ := opt_iff.1 h
      exact ⟨.sa (.one (.raw r)), r, pureSem_run hr w, rfl, h⟩
  · rename_i a b hne
    simp only [SA.rep] at hx hy
    split at h
    · rename_i d hu
      obtain ⟨hnil, h⟩ := need_iff.1 h
      obtain ⟨h1, h2, h3, h4, h5, h6⟩ := evNil_spec hR hx hy hu hnil
      split at h
      · refine ⟨.sa (.one (.raw (.bool false))), .bool false, ?_, rfl, h⟩
        simp only [Sem.run_bind, h1, Result.andThen_ok]
        unfold binOp
        split <;> first | (simp_all; done) | simp [h2]
      · refine ⟨.sa (.one (.raw (.bool true))), .bool true, ?_, rfl, h⟩
        simp only [Sem.run_bind, h1, Result.andThen_ok]
        unfold binOp
        split <;> first | (simp_all; done) | simp [h2]
      · exact h.elim
    · exact h.elim
  · rename_i a b
    split at h
    · rename_i a' b' ha hb
      obtain ⟨vs, r1, rfl⟩ := hx
      obtain ⟨us, r2, rfl⟩ := hy
      rw [rawL_spec ha r1, rawL_spec hb r2]
      split at h
      · rename_i r he
        obtain ⟨e1, e2, _⟩ := eqTop_sound (w := w) he
        exact ⟨.sa (.one (.raw (.bool r))), .bool r, by simp only [Sem.run_bind, e1, Result.andThen_ok, e2], rfl, h⟩
      · rename_i r he
        obtain ⟨e1, _, e2⟩ := eqTop_sound (w := w) he
        exact ⟨.sa (.one (.raw (.bool (!r)))), .bool (!r), by simp only [Sem.run_bind, e1, Result.andThen_ok, e2], rfl, h⟩
      · obtain ⟨r, hr, h⟩ := opt_iff.1 h
        exact ⟨.sa (.one (.raw r)), r, pureSem_run hr w, rfl, h⟩
    · exact h.elim
  · exact h.elim
theorem evBound_sound {d : Nat} {x : Option SA} {xv : Option Value} {top : Nat} {k : Nat → Prop} (hx : match x, xv with | some a, some v => a.rep α v | none, none => True | _, _ => False)
    (h : evBound d x top k) : ∃ n, k n ∧ (match xv with | none => n = d | some v => n ≤ top ∧ ∀ t code, top ≤ t → (Instr.sliceBound v t code).run P w = .ok n w) := by
  unfold evBound at h
  split at h
  · cases xv with
    | none => exact ⟨d, h, rfl⟩
    | some v => exact hx.elim
  · rename_i kk z
    cases xv with
    | none => exact hx.elim
    | some v =>
      simp only [SA.rep, SC.val?, Option.some.injEq] at hx
      subst hx
      obtain ⟨h1, h⟩ := need_iff.1 h
      obtain ⟨h2, h⟩ := need_iff.1 h
      have h1 : 0 ≤ z := by simpa using h1
      have h2 : z ≤ top := by simpa using h2
      refine ⟨z.toNat, h, by omega, fun t code ht => ?_⟩
      have h3 : z ≤ t := by omega
      simp [Instr.sliceBound, asIntOf, h1, h3]
  · exact h.elim
def RepO (α : Al) : Option SA → Option Value → Prop
  | some a, some v => a.rep α v
  | none, none => True
  | _, _ => False
theorem evBound_spec {d : Nat} {x : Option SA} {xv : Option Value} {top : Nat} {k : Nat → Prop} (hx : RepO α x xv) (h : evBound d x top k) :
    ∃ n, k n ∧ ((xv = none ∧ n = d) ∨ (n ≤ top ∧ ∃ v, xv = some v ∧ ∀ t code, n ≤ t → (Instr.sliceBound v t code).run P w = .ok n w)) := by
  unfold evBound at h
  split at h
  · cases xv with
    | none => exact ⟨d, h, .inl ⟨rfl, rfl⟩⟩
    | some v => exact hx.elim
  · rename_i kk z
    cases xv with
    | none => exact hx.elim
    | some v =>
      simp only [RepO, SA.rep, SC.val?, Option.some.injEq] at hx
      subst hx
      obtain ⟨h1, h⟩ := need_iff.1 h
      obtain ⟨h2, h⟩ := need_iff.1 h
      have h1 : 0 ≤ z := by simpa using h1
      have h2 : z ≤ top := by simpa using h2
      refine ⟨z.toNat, h, .inr ⟨by omega, _, rfl, fun t code ht => ?_⟩⟩
      have h3 : z ≤ t := by omega
      simp [Instr.sliceBound, asIntOf, h1, h3]
  · exact h.elim
theorem bounds_run {isSlice : Bool} {n cap top : Nat} {lo hi : Option SA} {lv hv : Option Value} {k : Nat → Nat → Prop} (hlo : RepO α lo lv) (hhi : RepO α hi hv) (htop : top ≤ cap)
    (h : evBound n hi top fun h => evBound 0 lo h fun l => k h l) :
    ∃ h l, k h l ∧ (hi = none → h = n) ∧ (hi.isSome = true → h ≤ top) ∧ (l ≤ h ∨ l = 0) ∧ (Instr.sliceBounds isSlice n cap lv hv none).run P w = .ok (l, h, cap) w := by
  obtain ⟨r, h, hr⟩ := evBound_spec (P := P) (w := w) hhi h
  obtain ⟨l, h, hl⟩ := evBound_spec (P := P) (w := w) hlo h
  refine ⟨r, l, h, ?_, ?_, ?_, ?_⟩
  · rintro rfl
    rcases hr with ⟨_, hr⟩ | ⟨_, v, rfl, _⟩
    · exact hr
    · exact hhi.elim
  · intro hs
    rcases hr with ⟨rfl, hr⟩ | ⟨hr, _⟩
    · cases hi with
      | none => simp at hs
      | some a => exact hhi.elim
    · exact hr
  · rcases hl with ⟨_, hl⟩ | ⟨hl, _⟩
    · exact .inr hl
    · exact .inl hl
  · rcases hr with ⟨rfl, rfl⟩ | ⟨hr, v, rfl, hv⟩ <;> rcases hl with ⟨rfl, rfl⟩ | ⟨hl, u, rfl, hu⟩
    · simp [Instr.sliceBounds]
    · simp [Instr.sliceBounds, hu _ _ hl]
    · simp [Instr.sliceBounds, hv cap _ (by omega)]
    · simp [Instr.sliceBounds, hv cap _ (by omega), hu _ _ hl]
def cutAddr (a : Option Addr) (c l s : Nat) : Option Addr := match a with
  | some p => some (if c = l then p else p.add (l * s))
  | none => none
theorem PartOk.cut {e : Den} {i n l r c m : Nat} {a : Option Addr} (h : PartOk e i n a c) (hm : e.m = m) (h1 : l ≤ r) (h2 : r ≤ n) (h3 : n ≤ c) (h4 : 0 < n → e.live = true) :
    PartOk e (i + l) (r - l) (cutAddr a c l m) (c - l) := by
  have hp : 0 < n → a = some ⟨e.blk, e.off + i * e.m, none⟩ ∧ c = e.cap - i := h.1
  refine ⟨fun h0 => ?_, fun h0 => ?_⟩
  · obtain ⟨rfl, hc⟩ := hp (by omega)
    simp only [cutAddr]
    rw [if_neg (by omega)]
    refine ⟨by rw [hm, addr_add, Nat.add_mul, Nat.add_assoc], by omega⟩
  · by_cases hn : 0 < n
    · obtain ⟨rfl, hc⟩ := hp hn
      by_cases hcl : c = l
      · left; omega
      · right; left
        simp only [cutAddr]
        rw [if_neg hcl]
        exact ⟨h4 hn, by rw [hm, addr_add, Nat.add_mul, Nat.add_assoc], by omega⟩
    · obtain rfl : l = 0 := by omega
      rcases h.2 (by omega) with hc | ⟨hl, rfl, hc⟩ | ⟨hl, a', hv⟩
      · left; omega
      · right; left
        simp [cutAddr, addr_add]
        exact ⟨hl, hc⟩
      · exact .inr (.inr ⟨hl, a', hv⟩)
theorem R.roomyG (hR : R α st w) {o m : Nat} {ct : Ct} (hr : st.roomy o = some (m, ct)) : ∃ d, α o = some d ∧ d.m = m ∧ 0 < m ∧ (0 < ct.len → ct.len ≤ d.cap) ∧ (0 < ct.len → d.live = true) := by
  unfold St.roomy at hr
  split at hr
  · rename_i wb k T m' ct' hst
    obtain ⟨d, hd, hg⟩ := hR.good o _ hst
    have hr' : (SO.own wb k T m' ct').rows = some (m, ct) := hr
    obtain ⟨h1, h2, _⟩ := hg.rowsCell hr'
    exact ⟨d, hd, h1, h2, fun h0 => hg.room hr' rfl h0, fun h0 => hg.live hr' h0 rfl⟩
  · simp at hr
theorem evSlice_sound {T : TypeId} {x : SA} {xv : Value} {lo hi : Option SA} {lv hv : Option Value} {k : SV → St → Prop} (hR : R α st w) (hx : x.rep α xv)
    (hlo : RepO α lo lv) (hhi : RepO α hi hv) (h : evSlice P T st x lo hi k) : Got P α st w (Instr.sliceAt T xv lv hv none) k := by
  unfold evSlice at h
  split at h
  · -- a slice whose capacity is known
    rename_i e o i n c hu
    split at h
    · rename_i m ct s hst hs
      split at h
      · rename_i hms
        have hms : m = s := by simpa using hms
        obtain ⟨so, d, _, _, hd, _, hdm, _⟩ := hR.rowsG hst
        simp only [SA.rep, SC.val?, hd, Option.some.injEq, Option.getD_some] at hx
        subst hx
        obtain ⟨r, l, h, h1, h2, h3, h4⟩ := bounds_run (P := P) (w := w) (isSlice := true) (cap := c) hlo hhi (Nat.le_refl _) h
        obtain ⟨hb, h⟩ := need_iff.1 h
        obtain ⟨hc, h⟩ := need_iff.1 h
        have hb : i + l ≤ ct.len := by simpa using hb
        have hc : r ≤ c := by simpa using hc
        have hrun : (Instr.sliceAt T (.slice (some ⟨d.blk, d.off + i * d.m, none⟩) n c) lv hv none).run P w =
            .ok (.slice (some (if c = l then ⟨d.blk, d.off + i * d.m, none⟩ else ⟨d.blk, d.off + i * d.m + l * s, none⟩)) (r - l) (c - l)) w := by
          simp only [Instr.sliceAt, Sem.run_bind, run_under hu, Result.andThen_ok, Instr.slice, h4, run_size hs]
          split <;> simp [addr_add]
        unfold cutKnown at h
        rcases branch_or h with ⟨he, h⟩ | ⟨he, h⟩
        · have he : c = l := by simpa using he
          rw [if_pos he] at hrun
          refine Got.pure hR hrun ?_ h
          simp only [SV.rep, SA.rep, SC.val?, hd, Option.getD_some]
          rw [show r - l = 0 from by omega, show c - l = 0 from by omega]
        · have he : ¬ c = l := by simpa using he
          rw [if_neg he] at hrun
          refine Got.pure hR hrun ?_ h
          simp only [SV.rep, SA.rep, SC.val?, hd, Option.getD_some, hdm, hms, Nat.add_mul, Nat.add_assoc]
      · exact h.elim
    · exact h.elim
  · -- a slice up to its row's end
    rename_i e o i n hu
    split at h
    · rename_i wb mk T' m ct s hst hs
      obtain ⟨d, hd, hg⟩ := hR.good o _ hst
      have hdm : d.m = m := hg.1
      simp only [SA.rep, SC.val?, hd, Option.some.injEq, Option.getD_none] at hx
      subst hx
      split at h
      · -- whole
        rename_i hms
        have hms : m = s := by simpa using hms
        have hcap : ct.len = d.cap := by
          obtain ⟨_, _, cs, fz, h5, h6, h7, h8, h9, h10⟩ := hg
          exact h9 rfl
        obtain ⟨r, l, h, h1, h2, h3, h4⟩ := bounds_run (P := P) (w := w) (isSlice := true) (cap := d.cap - i) hlo hhi (by omega) h
        obtain ⟨hc, h⟩ := need_iff.1 h
        have hc : i + r ≤ ct.len := by simpa using hc
        have hrun : (Instr.sliceAt T (.slice (some ⟨d.blk, d.off + i * d.m, none⟩) n (d.cap - i)) lv hv none).run P w =
            .ok (.slice (some (if d.cap - i = l then ⟨d.blk, d.off + i * d.m, none⟩ else ⟨d.blk, d.off + i * d.m + l * s, none⟩)) (r - l) (d.cap - i - l)) w := by
          simp only [Instr.sliceAt, Sem.run_bind, run_under hu, Result.andThen_ok, Instr.slice, h4, run_size hs]
          split <;> simp [addr_add]
        rcases branch_or h with ⟨he, h⟩ | ⟨he, h⟩
        · have he : ct.len - i = l := by simpa using he
          rw [if_pos (by omega)] at hrun
          refine Got.pure hR hrun ?_ h
          simp only [SV.rep, SA.rep, SC.val?, hd, Option.getD_some]
          rw [show r - l = 0 from by omega, show d.cap - i - l = 0 from by omega]
        · have he : ¬ ct.len - i = l := by simpa using he
          rw [if_neg (by omega)] at hrun
          refine Got.pure hR hrun ?_ h
          simp only [SV.rep, SA.rep, SC.val?, hd, Option.getD_none, hdm, hms, Nat.add_mul, Nat.add_assoc, Nat.sub_sub]
      · exact h.elim
    · -- a row of its own
      rename_i wb mk T' m ct s hst hs
      split at h
      · rename_i hms
        have hms : m = s := by simpa using hms
        obtain ⟨d, hd, hg⟩ := hR.good o _ hst
        obtain ⟨hdm, hmp, _⟩ := hg.rowsCell rfl
        simp only [SA.rep, SC.val?, hd, Option.some.injEq, Option.getD_none] at hx
        subst hx
        obtain ⟨hc, h⟩ := need_iff.1 h
        have hc : 0 < ct.len ∧ n ≤ ct.len - i := by simpa using hc
        have hroom := hg.room rfl rfl hc.1
        have hlive := hg.live rfl hc.1 rfl
        obtain ⟨r, l, h, h1, h2, h3, h4⟩ := bounds_run (P := P) (w := w) (isSlice := true) (cap := d.cap - i) hlo hhi (by omega) h
        obtain ⟨hlr, h⟩ := need_iff.1 h
        have hlr : l ≤ r := by simpa using hlr
        have hrn : r ≤ ct.len - i := by
          cases hi with
          | none => rw [h1 rfl]; exact hc.2
          | some x => exact h2 rfl
        have hcut := PartOk.cut (e := d) (i := i) (n := ct.len - i) (l := l) (r := r) (c := d.cap - i) (m := s) (a := some ⟨d.blk, d.off + i * d.m, none⟩) ⟨fun _ => ⟨rfl, rfl⟩, fun _ => .inr (.inl ⟨hlive, rfl, rfl⟩)⟩ (by rw [hdm, hms]) hlr hrn (by omega) (fun _ => hlive)
        have hrun : (Instr.sliceAt T (.slice (some ⟨d.blk, d.off + i * d.m, none⟩) n (d.cap - i)) lv hv none).run P w =
            .ok (.slice (cutAddr (some ⟨d.blk, d.off + i * d.m, none⟩) (d.cap - i) l s) (r - l) (d.cap - i - l)) w := by
          simp only [Instr.sliceAt, Sem.run_bind, run_under hu, Result.andThen_ok, Instr.slice, h4, run_size hs]
          by_cases hcl : d.cap - i = l <;> simp [hcl, cutAddr]
        let den : Den := ⟨0, 0, 0, 0, .slice (cutAddr (some ⟨d.blk, d.off + i * d.m, none⟩) (d.cap - i) l s) (r - l) (d.cap - i - l), true⟩
        have hne : o ≠ st.length := by
          have := St.get_lt hst
          omega
        have hto : To α st w (α.add st.length den) (st ++ [some (.part o (i + l) (r - l))]) w :=
          To.ghost hR (fun _ h => h) (fun _ h => h.elim) rfl ⟨d, _, _, (Al.add_other hne).trans hd, rfl, hcut⟩
        rw [lenL_eq] at h
        exact ⟨_, _, _, _, _, hrun, by simp only [SV.rep, SA.rep, SC.val?, Al.add_same, den], h, hto⟩
      · exact h.elim
    · exact h.elim
  · -- a slice that is told by a number
    rename_i e q hu
    split at h
    · rename_i o i n hlist
      split at h
      · rename_i m ct s hst hs
        split at h
        · rename_i hms
          have hms : m = s := by simpa using hms
          obtain ⟨e1, he1, hdm, hmp, hroom, hlive⟩ := hR.roomyG hst
          obtain ⟨d, a, c, e2, hd, hval, he2, hpart⟩ := hR.list_ok hlist
          rw [he1] at he2; cases he2
          simp only [SA.rep, SC.val?, hd, Option.some.injEq] at hx
          rw [hval] at hx
          subst hx
          obtain ⟨hb, h⟩ := need_iff.1 h
          have hb : i + n ≤ ct.len := by simpa using hb
          have hlong : PartOk e1 i (ct.len - i) a c ∧ ct.len - i ≤ c := by
            by_cases hil : i < ct.len
            · have hr := hroom (by omega)
              have hac : a = some ⟨e1.blk, e1.off + i * e1.m, none⟩ ∧ c = e1.cap - i := by
                by_cases h0 : 0 < n
                · exact hpart.1 h0
                · rcases hpart.2 (by omega) with hc | ⟨_, hc⟩ | ⟨hl, _⟩
                  · omega
                  · exact hc
                  · rw [hlive (by omega)] at hl; cases hl
              exact ⟨⟨fun _ => hac, fun h0 => by omega⟩, by omega⟩
            · have e0 : ct.len - i = n := by omega
              rw [e0]
              exact ⟨hpart, by omega⟩
          obtain ⟨hpart, hnc⟩ := hlong
          obtain ⟨r, l, h, h1, h2, h3, h4⟩ := bounds_run (P := P) (w := w) (isSlice := true) (cap := c) hlo hhi hnc h
          obtain ⟨hlr, h⟩ := need_iff.1 h
          have hlr : l ≤ r := by simpa using hlr
          have hrn : r ≤ ct.len - i := by
            cases hi with
            | none => rw [h1 rfl]; omega
            | some x => exact h2 rfl
          have hcut := hpart.cut (m := s) (by rw [hdm, hms]) hlr hrn hnc (fun h0 => hlive (by omega))
          have hrun : (Instr.sliceAt T (.slice a n c) lv hv none).run P w = .ok (.slice (cutAddr a c l s) (r - l) (c - l)) w := by
            simp only [Instr.sliceAt, Sem.run_bind, run_under hu, Result.andThen_ok, Instr.slice, h4, run_size hs]
            cases a with
            | none => simp [cutAddr]
            | some p => by_cases hcl : c = l <;> simp [hcl, cutAddr]
          let den : Den := ⟨0, 0, 0, 0, .slice (cutAddr a c l s) (r - l) (c - l), true⟩
          have hne : o ≠ st.length := by
            intro e
            subst e
            rw [hR.none _ (Nat.le_refl _)] at he1
            cases he1
          have hto : To α st w (α.add st.length den) (st ++ [some (.part o (i + l) (r - l))]) w :=
            To.ghost hR (fun _ h => h) (fun _ h => h.elim) rfl ⟨e1, _, _, (Al.add_other hne).trans he1, rfl, hcut⟩
          rw [lenL_eq] at h
          exact ⟨_, _, _, _, _, hrun, by simp only [SV.rep, SA.rep, SC.val?, Al.add_same, den], h, hto⟩
        · exact h.elim
      · exact h.elim
    · exact h.elim
  · -- nil
    rename_i e n c hu
    simp only [SA.rep, SC.val?, Option.some.injEq] at hx
    subst hx
    split at h
    · rename_i s hs
      obtain ⟨r, l, h, h1, h2, h3, h4⟩ := bounds_run (P := P) (w := w) (isSlice := true) (cap := c) hlo hhi (Nat.le_refl _) h
      obtain ⟨hc, h⟩ := need_iff.1 h
      refine Got.pure (sv := .sa (.one (.raw (.slice none (r - l) (c - l))))) (v := .slice none (r - l) (c - l)) hR ?_ rfl h
      simp only [Instr.sliceAt, Sem.run_bind, run_under hu, Result.andThen_ok, Instr.slice, h4, run_size hs]
      split <;> simp
    · exact h.elim
  · -- a text
    rename_i s hu
    simp only [SA.rep, SC.val?, Option.some.injEq] at hx
    subst hx
    obtain ⟨r, l, h, h1, h2, h3, h4⟩ := bounds_run (P := P) (w := w) (isSlice := false) (cap := s.size) hlo hhi (Nat.le_refl _) h
    refine Got.pure (sv := .sa (.one (.raw (.string (s.extract l r))))) (v := .string (s.extract l r)) hR ?_ rfl h
    simp [Instr.sliceAt, run_under hu, Instr.slice, h4]
  · -- an array
    rename_i len e o i j hu
    split at h
    · rename_i wb mk T' m ct s hst hs
      split at h
      · rename_i hms
        have hms : m = s ∧ j = 0 := by simpa using hms
        obtain ⟨d, hd, hg⟩ := hR.good o _ hst
        have hdm : d.m = m := hg.1
        simp only [SA.rep, SC.val?, hd, Option.some.injEq] at hx
        subst hx
        obtain ⟨r, l, h, h1, h2, h3, h4⟩ := bounds_run (P := P) (w := w) (isSlice := false) (cap := len) hlo hhi (Nat.le_refl _) h
        obtain ⟨hb, h⟩ := need_iff.1 h
        obtain ⟨hc, h⟩ := need_iff.1 h
        have hb : i + len ≤ ct.len := by simpa using hb
        have hc : r ≤ len := by simpa using hc
        have hrun : (Instr.sliceAt T (.pointer (some ⟨d.blk, d.off + i * d.m + j, none⟩)) lv hv none).run P w =
            .ok (.slice (some (if len = l then ⟨d.blk, d.off + i * d.m, none⟩ else ⟨d.blk, d.off + i * d.m + l * s, none⟩)) (r - l) (len - l)) w := by
          simp only [Instr.sliceAt, Sem.run_bind, run_under hu, Result.andThen_ok, Instr.sureAddr, Sem.run_pure, h4, run_size hs, hms.2, Nat.add_zero]
          split <;> simp [addr_add]
        unfold cutKnown at h
        rcases branch_or h with ⟨he, h⟩ | ⟨he, h⟩
        · have he : len = l := by simpa using he
          rw [if_pos he] at hrun
          refine Got.pure hR hrun ?_ h
          simp only [SV.rep, SA.rep, SC.val?, hd, Option.getD_some]
          rw [show r - l = 0 from by omega, show len - l = 0 from by omega]
        · have he : ¬ len = l := by simpa using he
          rw [if_neg he] at hrun
          refine Got.pure hR hrun ?_ h
          simp only [SV.rep, SA.rep, SC.val?, hd, Option.getD_some, hdm, hms.1, Nat.add_mul, Nat.add_assoc]
      · exact h.elim
    · exact h.elim
  · exact h.elim
theorem bounds3_run {n cap top : Nat} {lo : Option SA} {hi mx : SA} {lv : Option Value} {hv mv : Value} {k : Nat → Nat → Nat → Prop} (hlo : RepO α lo lv) (hhi : hi.rep α hv) (hmx : mx.rep α mv) (htop : top ≤ cap)
    (h : evBound 0 (some mx) top fun mm => evBound 0 (some hi) mm fun h => evBound 0 lo h fun l => k mm h l) :
    ∃ mm h l, k mm h l ∧ mm ≤ top ∧ h ≤ mm ∧ (l ≤ h ∨ l = 0) ∧ (Instr.sliceBounds true n cap lv (some hv) (some mv)).run P w = .ok (l, h, mm) w := by
  obtain ⟨q, h, hq⟩ := evBound_spec (P := P) (w := w) (show RepO α (some mx) (some mv) from hmx) h
  obtain ⟨r, h, hr⟩ := evBound_spec (P := P) (w := w) (show RepO α (some hi) (some hv) from hhi) h
  obtain ⟨l, h, hl⟩ := evBound_spec (P := P) (w := w) hlo h
  rcases hq with ⟨hq, _⟩ | ⟨hq, v, e, hqv⟩
  · simp at hq
  cases e
  rcases hr with ⟨hr, _⟩ | ⟨hr, v, e, hrv⟩
  · simp at hr
  cases e
  refine ⟨q, r, l, h, hq, hr, ?_, ?_⟩
  · rcases hl with ⟨_, hl⟩ | ⟨hl, _⟩
    · exact .inr hl
    · exact .inl hl
  · rcases hl with ⟨rfl, rfl⟩ | ⟨hl, u, rfl, hu⟩
    · simp [Instr.sliceBounds, hqv cap _ (by omega), hrv q _ hr]
    · simp [Instr.sliceBounds, hqv cap _ (by omega), hrv q _ hr, hu r _ hl]
theorem evSlice3_sound {T : TypeId} {x : SA} {xv : Value} {lo : Option SA} {hi mx : SA} {lv : Option Value} {hv mv : Value} {k : SV → St → Prop} (hR : R α st w) (hx : x.rep α xv)
    (hlo : RepO α lo lv) (hhi : hi.rep α hv) (hmx : mx.rep α mv) (h : evSlice3 P T st x lo hi mx k) : Got P α st w (Instr.sliceAt T xv lv (some hv) (some mv)) k := by
  unfold evSlice3 at h
  split at h
  · rename_i e o i n c hu
    split at h
    · rename_i wb mk T' m ct s hst hs
      split at h
      · rename_i hms hmk
        have hms : m = s := by simpa using hms
        obtain ⟨d, hd, hg⟩ := hR.good o _ hst
        have hdm : d.m = m := hg.1
        simp only [SA.rep, SC.val?, hd, Option.some.injEq] at hx
        subst hx
        have htop : c.getD (ct.len - i) ≤ c.getD (d.cap - i) := by
          cases c with
          | some c => simp
          | none =>
            cases mk with
            | ext => simp at hmk
            | row => simp at hmk
            | whole =>
              obtain ⟨_, _, cs, fz, h5, h6, h7, h8, h9, h10⟩ := hg
              simp
              omega
        obtain ⟨q, r, l, h, h1, h2, h3, h4⟩ := bounds3_run (P := P) (w := w) (n := n) hlo hhi hmx htop h
        obtain ⟨hb, h⟩ := need_iff.1 h
        have hrun : (Instr.sliceAt T (.slice (some ⟨d.blk, d.off + i * d.m, none⟩) n (c.getD (d.cap - i))) lv (some hv) (some mv)).run P w =
            .ok (.slice (some (if q = l then ⟨d.blk, d.off + i * d.m, none⟩ else ⟨d.blk, d.off + i * d.m + l * s, none⟩)) (r - l) (q - l)) w := by
          simp only [Instr.sliceAt, Sem.run_bind, run_under hu, Result.andThen_ok, Instr.slice, h4, run_size hs]
          split <;> simp [addr_add]
        unfold cutKnown at h
        rcases branch_or h with ⟨he, h⟩ | ⟨he, h⟩
        · have he : q = l := by simpa using he
          rw [if_pos he] at hrun
          refine Got.pure hR hrun ?_ h
          simp only [SV.rep, SA.rep, SC.val?, hd, Option.getD_some]
          rw [show r - l = 0 from by omega, show q - l = 0 from by omega]
        · have he : ¬ q = l := by simpa using he
          rw [if_neg he] at hrun
          refine Got.pure hR hrun ?_ h
          simp only [SV.rep, SA.rep, SC.val?, hd, Option.getD_some, hdm, hms, Nat.add_mul, Nat.add_assoc]
      · exact h.elim
    · -- a row of its own
      rename_i wb mk T' m ct s hst hs
      split at h
      · rename_i hms
        have hms : m = s := by simpa using hms
        obtain ⟨d, hd, hg⟩ := hR.good o _ hst
        obtain ⟨hdm, hmp, _⟩ := hg.rowsCell rfl
        simp only [SA.rep, SC.val?, hd, Option.some.injEq, Option.getD_none] at hx
        subst hx
        obtain ⟨hc, h⟩ := need_iff.1 h
        have hc : 0 < ct.len := by simpa using hc
        have hroom := hg.room rfl rfl hc
        have htop : ct.len - i ≤ d.cap - i := by omega
        obtain ⟨q, r, l, h, h1, h2, h3, h4⟩ := bounds3_run (P := P) (w := w) (n := n) hlo hhi hmx htop h
        obtain ⟨hb, h⟩ := need_iff.1 h
        have hrun : (Instr.sliceAt T (.slice (some ⟨d.blk, d.off + i * d.m, none⟩) n (d.cap - i)) lv (some hv) (some mv)).run P w =
            .ok (.slice (some (if q = l then ⟨d.blk, d.off + i * d.m, none⟩ else ⟨d.blk, d.off + i * d.m + l * s, none⟩)) (r - l) (q - l)) w := by
          simp only [Instr.sliceAt, Sem.run_bind, run_under hu, Result.andThen_ok, Instr.slice, h4, run_size hs]
          split <;> simp [addr_add]
        unfold cutKnown at h
        rcases branch_or h with ⟨he, h⟩ | ⟨he, h⟩
        · have he : q = l := by simpa using he
          rw [if_pos he] at hrun
          refine Got.pure hR hrun ?_ h
          simp only [SV.rep, SA.rep, SC.val?, hd, Option.getD_some]
          rw [show r - l = 0 from by omega, show q - l = 0 from by omega]
        · have he : ¬ q = l := by simpa using he
          rw [if_neg he] at hrun
          refine Got.pure hR hrun ?_ h
          simp only [SV.rep, SA.rep, SC.val?, hd, Option.getD_some, hdm, hms, Nat.add_mul, Nat.add_assoc]
      · exact h.elim
    · exact h.elim
  · -- a slice that is told by a number
    rename_i e q hu
    split at h
    · rename_i o i n hlist
      split at h
      · rename_i m ct s hst hs
        split at h
        · rename_i hms
          have hms : m = s := by simpa using hms
          obtain ⟨e1, he1, hdm, hmp, hroom, hlive⟩ := hR.roomyG hst
          obtain ⟨d, a, c, e2, hd, hval, he2, hpart⟩ := hR.list_ok hlist
          rw [he1] at he2; cases he2
          simp only [SA.rep, SC.val?, hd, Option.some.injEq] at hx
          rw [hval] at hx
          subst hx
          obtain ⟨hb, h⟩ := need_iff.1 h
          have hb : i + n ≤ ct.len := by simpa using hb
          have hnc : n ≤ c := by
            by_cases h0 : 0 < n
            · have := (hpart.1 h0).2
              have := hroom (by omega)
              omega
            · omega
          obtain ⟨q, r, l, h, h1, h2, h3, h4⟩ := bounds3_run (P := P) (w := w) (n := n) (cap := c) hlo hhi hmx hnc h
          have hrun : (Instr.sliceAt T (.slice a n c) lv (some hv) (some mv)).run P w = .ok (.slice (cutAddr a q l s) (r - l) (q - l)) w := by
            simp only [Instr.sliceAt, Sem.run_bind, run_under hu, Result.andThen_ok, Instr.slice, h4, run_size hs]
            cases a with
            | none => simp [cutAddr]
            | some p => by_cases hcl : q = l <;> simp [hcl, cutAddr]
          rcases branch_or h with ⟨he, h⟩ | ⟨he, h⟩
          · have he : q = l := by simpa using he
            have hr0 : r - l = 0 := by omega
            have hq0 : q - l = 0 := by omega
            rw [hr0, hq0] at hrun
            let den : Den := ⟨0, 0, m, 0, .slice (cutAddr a q l s) 0 0, false⟩
            have hto : To α st w (α.add st.length den) (st ++ [some (.own true .row e m (ct.sub 0 0))]) w :=
              To.ghost hR (fun _ h => by cases h.1) (fun _ h => by cases h.1) rfl ⟨rfl, hmp, .inl ⟨rfl, Ct.sub_len (by omega), _, _, rfl, fun _ => rfl⟩⟩
            rw [lenL_eq] at h
            exact ⟨_, _, _, _, _, hrun, by simp only [SV.rep, SA.rep, SC.val?, Al.add_same, den], h, hto⟩
          · have he : ¬ q = l := by simpa using he
            have hql : l ≤ q := by rcases h3 with h3 | h3 <;> omega
            obtain ⟨rfl, hc⟩ := hpart.1 (by omega)
            simp only [cutAddr, if_neg he] at hrun
            refine Got.pure hR hrun ?_ h
            simp only [SV.rep, SA.rep, SC.val?, he1, Option.getD_some, addr_add, hdm, hms, Nat.add_mul, Nat.add_assoc]
        · exact h.elim
      · exact h.elim
    · exact h.elim
  · rename_i e n c hu
    simp only [SA.rep, SC.val?, Option.some.injEq] at hx
    subst hx
    split at h
    · exact h.elim
    · rename_i s hs
      obtain ⟨q, r, l, h, h1, h2, h3, h4⟩ := bounds3_run (P := P) (w := w) (n := n) (cap := c) hlo hhi hmx (Nat.le_refl _) h
      refine Got.pure (sv := .sa (.one (.raw (.slice none (r - l) (q - l))))) (v := .slice none (r - l) (q - l)) hR ?_ rfl h
      simp only [Instr.sliceAt, Sem.run_bind, run_under hu, Result.andThen_ok, Instr.slice, h4, run_size hs]
      split <;> simp
  · exact h.elim
theorem makeFunc_sound {f : Fn} {fs cs : List SA} {fv cv : Array Value} {k : SV → St → Prop} (hR : R α st w) (hf : RepsA α fs fv.toList) (hc : RepsA α cs cv.toList)
    (h : k (.sa (.one (.ref (lenL st)))) (st ++ [some (.clo f fs cs)])) : Got P α st w (Instr.makeFunc f fv cv) k := by
  have hle := Al.le_add (d := ⟨0, 0, 0, 0, .func f fv cv, true⟩) (hR.none _ (Nat.le_refl _))
  refine ⟨.func f fv cv, w, _, _, _, rfl, ?_, h, To.ghost (d := ⟨0, 0, 0, 0, .func f fv cv, true⟩) hR (fun _ h => h) (fun _ h => h.elim) rfl ⟨fv.toList, cv.toList, hf.mono hle, hc.mono hle, by simp⟩⟩
  simp [SV.rep, SA.rep, SC.val?, Al.add_same]
theorem emptyMap_cases (P : Program) (tab : Bool) (T : TypeId) : emptyMap P tab T = .mp true [] 0 ∨ ∃ kc va cs, emptyMap P tab T = .mt true kc va cs [] 0 ∧ kc.len = 0 := by
  unfold emptyMap
  split
  · split
    · split
      · exact .inr ⟨_, _, _, rfl, rfl⟩
      · exact .inr ⟨_, _, _, rfl, rfl⟩
      · exact .inl rfl
    · exact .inl rfl
  · exact .inl rfl
theorem newMap_to {tab : Bool} {T : TypeId} (hR : R α st w) : To α st w (α.add st.length ⟨w.heap.size, 0, 0, 0, .map (some w.heap.size), true⟩) (st ++ [some (emptyMap P tab T)]) (w.alloc (.map #[] 0)) := by
  rcases emptyMap_cases P tab T with e | ⟨kc, va, cs, e, hl⟩
  · rw [e]; exact To.new hR (fun _ h => h) (fun _ h => h.elim) rfl ⟨rfl, [], heap_alloc_eq _ _, trivial⟩
  · rw [e]
    refine To.new hR (fun _ h => h) (fun b hb => ?_) rfl ⟨rfl, [], heap_alloc_eq _ _, by simp [hl], by simp [hl], fun i x hx => by simp at hx⟩
    obtain ⟨xs, c, i, x, j, k, ys, u, h1, h2, _⟩ := hb
    rw [heap_alloc_eq] at h1
    cases h1
    simp at h2
theorem makeMap_sound {T : TypeId} {tab : Bool} {k : SV → St → Prop} (hR : R α st w) (h : k (.sa (.one (.ref (lenL st)))) (st ++ [some (emptyMap P tab T)])) : Got P α st w (Instr.makeMap T none) k := by
  refine ⟨.map (some w.heap.size), w.alloc (.map #[] 0), _, _, _, by simp [Instr.makeMap], ?_, h, newMap_to hR⟩
  simp [SV.rep, SA.rep, SC.val?, Al.add_same]
theorem makeMap_sound' {T x y : TypeId} {tab : Bool} {kk : IntKind} {z : Int} {k : SV → St → Prop} (hR : R α st w) (hu : P.underlying T = some (.map x y))
    (h : k (.sa (.one (.ref (lenL st)))) (st ++ [some (emptyMap P tab T)])) : Got P α st w (Instr.makeMap T (some (.int kk z))) k := by
  refine ⟨.map (some w.heap.size), w.alloc (.map #[] 0), _, _, _, by simp [Instr.makeMap, run_under hu, asInt, asIntOf], ?_, h, newMap_to hR⟩
  simp [SV.rep, SA.rep, SC.val?, Al.add_same]
end Go.Ev

/- THE ENGINE, part 8: contents; len, cap, append, copy, clear, make, conversions. -/
namespace Go.Ev
open Go
variable {P : Program} {α : Al} {st : St} {w : World}
theorem pushAll_spec : ∀ {vs : List (List SC)} {n : Nat} {cs cs' : List Col}, pushAll n cs vs = some cs' → ∀ j, j < n + vs.length → colsAt j cs' = if j < n then colsAt j cs else vs[j - n]?.getD []
  | [], n, cs, cs', h, j, hj => by simp [pushAll] at h; subst h; rw [if_pos (by simpa using hj)]
  | e :: r, n, cs, cs', h, j, hj => by
    simp only [pushAll] at h
    split at h
    · rename_i c1 h1
      rw [pushAll_spec h j (by simp at hj; omega)]
      by_cases hn : j < n
      · rw [if_pos (by omega), if_pos hn, colsPush_at h1 (by omega), if_pos hn]
      · by_cases hn1 : j < n + 1
        · rw [if_pos hn1, if_neg hn, colsPush_at h1 hn1, if_neg hn, show j - n = 0 by omega]; rfl
        · rw [if_neg hn1, if_neg hn, show j - n = (j - (n + 1)) + 1 by omega]; simp
    · simp at h
theorem Col.app_at {n m : Nat} {a b c : Col} (h : a.app n m b = some c) {j : Nat} (hj : j < n + m) : c.at j = if j < n then a.at j else b.at (j - n) := by
  unfold Col.app at h
  split at h
  · split at h
    · rename_i hk; subst hk; cases h
      simp only [Col.at, List.getD_eq_getElem?_getD, List.getElem?_append, fitL_length]
      by_cases e : j < n
      · rw [if_pos e, if_pos e, fitL_get e]
      · rw [if_neg e, if_neg e, fitL_get (by omega)]
    · simp at h
  · cases h
    simp only [Col.at, List.getD_eq_getElem?_getD, List.getElem?_append, fitL_length]
    by_cases e : j < n
    · rw [if_pos e, if_pos e, fitL_get e]
    · rw [if_neg e, if_neg e, fitL_get (by omega)]
  · split at h
    · rename_i hk; subst hk; cases h
      simp only [Col.at, List.getD_eq_getElem?_getD, List.getElem?_append, fitL_length]
      by_cases e : j < n
      · rw [if_pos e, if_pos e, fitL_get e]
      · rw [if_neg e, if_neg e, fitL_get (by omega)]
    · simp at h
  · simp at h
theorem over_at {β : Type} {d : β} (xs b : List β) {n i m j : Nat} (hi : i + m ≤ n) (hj : j < n) :
    ((fitL d n xs).take i ++ fitL d m b ++ (fitL d n xs).drop (i + m))[j]?.getD d = if i ≤ j ∧ j < i + m then b[j - i]?.getD d else xs[j]?.getD d := by
  have h1 : (fitL d n xs).length = n := fitL_length _ _
  have h2 : (fitL d m b).length = m := fitL_length _ _
  simp only [List.getElem?_append, List.length_append, List.length_take, List.getElem?_take, List.getElem?_drop, h1, h2]
  have e2 : min i n = i := by omega
  simp only [e2]
  by_cases c1 : j < i
  · have x1 : j < i + m := by omega
    have x2 : ¬ i ≤ j := by omega
    simp only [c1, x1, x2, if_true, if_false, false_and]
    exact fitL_get hj
  · by_cases c2 : j < i + m
    · have x2 : i ≤ j := by omega
      simp only [c1, c2, x2, if_true, if_false, and_self]
      exact fitL_get (by omega)
    · have x2 : i ≤ j := by omega
      simp only [c1, c2, x2, if_false, and_false]
      rw [show i + m + (j - (i + m)) = j from by omega]
      exact fitL_get hj
theorem Col.over_at {n i m : Nat} {a b c : Col} (h : a.over n i m b = some c) (hi : i + m ≤ n) {j : Nat} (hj : j < n) : c.at j = if i ≤ j ∧ j < i + m then b.at (j - i) else a.at j := by
  unfold Col.over at h
  split at h
  · split at h
    · rename_i hk; subst hk; cases h
      simp only [Col.at, List.getD_eq_getElem?_getD]
      rw [Ev.over_at _ _ hi hj]
      split <;> rfl
    · simp at h
  · cases h
    simp only [Col.at, List.getD_eq_getElem?_getD]
    rw [Ev.over_at _ _ hi hj]
    split <;> rfl
  · split at h
    · rename_i hk; subst hk; cases h
      simp only [Col.at, List.getD_eq_getElem?_getD]
      rw [Ev.over_at _ _ hi hj]
      split <;> rfl
    · simp at h
  · simp at h
theorem colsOver_spec {n i m j : Nat} (hi : i + m ≤ n) (hj : j < n) : ∀ {a b c : List Col}, colsOver n i m a b = some c → colsAt j c = if i ≤ j ∧ j < i + m then colsAt (j - i) b else colsAt j a
  | [], [], c, h => by simp [colsOver] at h; subst h; split <;> rfl
  | [], _ :: _, c, h => by simp [colsOver] at h
  | _ :: _, [], c, h => by simp [colsOver] at h
  | x :: a, y :: b, c, h => by
    simp only [colsOver] at h
    split at h
    · rename_i c1 r1 h1 h2
      cases h
      simp only [colsAt, Col.over_at h1 hi hj, colsOver_spec hi hj h2]
      split <;> rfl
    · simp at h
theorem colsApp_spec {n m : Nat} {j : Nat} (hj : j < n + m) : ∀ {a b c : List Col}, colsApp n m a b = some c → colsAt j c = if j < n then colsAt j a else colsAt (j - n) b
  | [], [], c, h => by simp [colsApp] at h; subst h; split <;> rfl
  | [], _ :: _, c, h => by simp [colsApp] at h
  | _ :: _, [], c, h => by simp [colsApp] at h
  | x :: a, y :: b, c, h => by
    simp only [colsApp] at h
    split at h
    · rename_i c1 r1 h1 h2
      cases h
      simp only [colsAt, Col.app_at h1 hj, colsApp_spec hj h2]
      split <;> rfl
    · simp at h
theorem setAll_spec : ∀ {vs : List (List SC)} {n i : Nat} {cs cs' : List Col}, setAll n i cs vs = some cs' → i + vs.length ≤ n → ∀ j, j < n → colsAt j cs' = if i ≤ j ∧ j < i + vs.length then vs[j - i]?.getD [] else colsAt j cs
  | [], n, i, cs, cs', h, hi, j, hj => by simp [setAll] at h; subst h; rw [if_neg (by simp only [List.length_nil]; omega)]
  | e :: r, n, i, cs, cs', h, hi, j, hj => by
    simp only [setAll] at h
    simp only [List.length_cons] at hi ⊢
    split at h
    · rename_i c1 h1
      rw [setAll_spec h (by omega) j hj, colsSet_at (by omega) h1 hj]
      by_cases e1 : j = i
      · rw [if_neg (by omega), if_pos e1, if_pos (by omega), show j - i = 0 by omega]; rfl
      · by_cases e2 : i + 1 ≤ j ∧ j < i + 1 + r.length
        · rw [if_pos e2, if_pos (by omega), show j - i = (j - (i + 1)) + 1 by omega]; simp
        · rw [if_neg e2, if_neg e1, if_neg (by omega)]
    · simp at h
theorem Ct.app_spec {a b c : Ct} (h : a.app b = some c) : c.len = a.len + b.len ∧ ∀ j, j < c.len → c.get j = if j < a.len then a.get j else b.get (j - a.len) := by
  unfold Ct.app at h
  split at h
  · cases h
    refine ⟨by simp [Ct.len], fun j hj => ?_⟩
    simp only [Ct.len, Ct.get, getL_eq] at hj ⊢
    split
    · rename_i hlt; rw [List.getElem?_append_left hlt]
    · rename_i hlt; rw [List.getElem?_append_right (by omega)]
  · split at h
    · rename_i hk; subst hk
      cases h
      refine ⟨by simp [Ct.len], fun j hj => ?_⟩
      simp only [Ct.len, Ct.get, List.getD_eq_getElem?_getD] at hj ⊢
      split
      · rename_i hlt; rw [List.getElem?_append_left hlt]
      · rename_i hlt; rw [List.getElem?_append_right (by omega)]
    · simp at h
  · split at h
    · rename_i l hl
      cases h
      obtain ⟨h1, h2⟩ := intsOf_spec hl
      refine ⟨by simp [Ct.len, h1], fun j hj => ?_⟩
      simp only [Ct.len, Ct.get, List.getD_eq_getElem?_getD, getL_eq] at hj ⊢
      split
      · rename_i hlt; rw [List.getElem?_append_left hlt]
      · rename_i hlt
        rw [List.getElem?_append_right (by omega), h2 _ (by simp at hj; omega)]
    · simp at h
  · cases h
    exact ⟨by simp [Ct.len], fun j hj => by simp [Ct.len]⟩
  · cases h
    exact ⟨by simp [Ct.len], fun j hj => by simp [Ct.len]⟩
  · split at h
    · rename_i c1 h1
      cases h
      refine ⟨by simp [Ct.len], fun j hj => ?_⟩
      simp only [Ct.len, Ct.get, getL_eq, lenL_eq] at hj ⊢
      exact pushAll_spec h1 j hj
    · rename_i n0 a0 b0 _ _
      cases h
      refine ⟨rfl, fun j hj => ?_⟩
      show (match Nat.blt j n0 with | true => colsAt j a0 | false => getL [] b0 (j - n0)) = if j < n0 then colsAt j a0 else getL [] b0 (j - n0)
      by_cases hi : j < n0
      · rw [if_pos hi, show Nat.blt j n0 = true by rw [Nat.blt_eq]; exact hi]
      · rw [if_neg hi]
        split
        · rename_i hb; rw [Nat.blt_eq] at hb; exact absurd hb hi
        · rfl
  · split at h
    · rename_i c1 h1
      cases h
      refine ⟨by simp [Ct.len], fun j hj => ?_⟩
      simp only [Ct.len, Ct.get] at hj ⊢
      exact colsApp_spec hj h1
    · simp at h
  · simp at h
theorem over_get {β : Type} (l b : List β) (i : Nat) (h : i + b.length ≤ l.length) (j : Nat) : (l.take i ++ b ++ l.drop (i + b.length))[j]? = if i ≤ j ∧ j < i + b.length then b[j - i]? else l[j]? := by
  simp only [List.getElem?_append, List.length_append, List.length_take, List.getElem?_take, List.getElem?_drop]
  have e2 : min i l.length = i := by omega
  simp only [e2]
  by_cases h1 : j < i
  · have x1 : j < i + b.length := by omega
    have x2 : ¬ i ≤ j := by omega
    simp [h1, x1, x2]
  · by_cases h2 : j < i + b.length
    · have x2 : i ≤ j := by omega
      simp [h1, h2, x2]
    · have x2 : i ≤ j := by omega
      simp only [h1, h2, x2, if_false, and_false]
      congr 1
      omega
theorem Ct.over_spec {ct new c : Ct} {i : Nat} (hi : i + new.len ≤ ct.len) (h : ct.over i new = some c) :
    c.len = ct.len ∧ ∀ j, j < ct.len → c.get j = if i ≤ j ∧ j < i + new.len then new.get (j - i) else ct.get j := by
  unfold Ct.over at h
  split at h
  · cases h
    simp only [Ct.len] at hi
    refine ⟨by simp [Ct.len]; omega, fun j _ => ?_⟩
    simp only [Ct.get, Ct.len, getL_eq, takeL_eq, dropL_eq, lenL_eq]
    rw [over_get _ _ _ hi]
    split <;> rfl
  · rename_i vs k b
    cases h
    simp only [Ct.len] at hi
    refine ⟨by simp [Ct.len]; omega, fun j _ => ?_⟩
    have hlm : (b.map fun x => [SC.raw (.int k x)]).length = b.length := by simp
    simp only [Ct.get, Ct.len, getL_eq, takeL_eq, dropL_eq]
    have := over_get vs (b.map fun x => [SC.raw (.int k x)]) i (by rw [hlm]; exact hi) j
    rw [hlm] at this
    rw [this]
    split
    · rename_i hc
      rw [List.getElem?_map, List.getElem?_eq_getElem (show j - i < b.length by omega), List.getD_eq_getElem?_getD, List.getElem?_eq_getElem (show j - i < b.length by omega)]
      rfl
    · rfl
  · split at h
    · rename_i hk; subst hk
      cases h
      simp only [Ct.len] at hi
      refine ⟨by simp [Ct.len]; omega, fun j _ => ?_⟩
      simp only [Ct.get, Ct.len, List.getD_eq_getElem?_getD]
      rw [over_get _ _ _ hi]
      split <;> rfl
    · simp at h
  · split at h
    · rename_i l hl
      cases h
      obtain ⟨h1, h2⟩ := intsOf_spec hl
      simp only [Ct.len] at hi
      refine ⟨by simp [Ct.len]; omega, fun j _ => ?_⟩
      simp only [Ct.get, Ct.len, List.getD_eq_getElem?_getD, getL_eq]
      rw [over_get _ _ _ (by omega)]
      by_cases hc : i ≤ j ∧ j < i + l.length
      · rw [if_pos hc, if_pos (by omega), h2 _ (by omega)]
      · rw [if_neg hc, if_neg (by omega)]
    · simp at h
  · split at h
    · rename_i c1 h1
      cases h
      refine ⟨by simp [Ct.len], fun j hj => ?_⟩
      simp only [Ct.len, Ct.get, getL_eq] at hi hj ⊢
      exact setAll_spec h1 hi j hj
    · simp at h
  · split at h
    · rename_i c1 h1
      cases h
      refine ⟨by simp [Ct.len], fun j hj => ?_⟩
      simp only [Ct.len, Ct.get] at hi hj ⊢
      exact colsOver_spec hi hj h1
    · simp at h
  · simp at h
theorem colsOf_spec : ∀ {e : List SC} {cs : List Col}, colsOf e = some cs → colsAt 0 cs = e
  | [], cs, h => by simp [colsOf] at h; subst h; rfl
  | c :: r, cs, h => by
    unfold colsOf at h
    split at h
    · rename_i heq; cases heq
    · rename_i k x r' heq
      cases heq
      split at h
      · rename_i l hl; cases h; simp [colsAt, Col.at, colsOf_spec hl]
      · simp at h
    · rename_i x r' heq
      cases heq
      split at h
      · rename_i l hl; cases h; simp [colsAt, Col.at, colsOf_spec hl]
      · simp at h
    · rename_i k x r' heq
      cases heq
      split at h
      · rename_i l hl; cases h; simp [colsAt, Col.at, colsOf_spec hl]
      · simp at h
    · simp at h
theorem Ct.canon_spec (ct : Ct) : ct.canon.len = ct.len ∧ ∀ i, i < ct.len → ct.canon.get i = ct.get i := by
  unfold Ct.canon
  split
  · rename_i k x r
    split
    · rename_i l hl
      obtain ⟨h1, h2⟩ := intsOf_spec hl
      refine ⟨by simp [Ct.len, h1], fun i hi => ?_⟩
      cases i with
      | zero => simp [Ct.get]
      | succ i =>
        simp only [Ct.len, List.length_cons] at hi
        have := h2 i (by omega)
        simpa [Ct.get] using this.symm
    · exact ⟨rfl, fun _ _ => rfl⟩
  · rename_i e r _
    split
    · rename_i cs hcs
      split
      · rename_i cs' hp
        refine ⟨by simp [Ct.len]; omega, fun i hi => ?_⟩
        simp only [Ct.len, List.length_cons] at hi
        have := pushAll_spec hp i (by omega)
        simp only [Ct.get, getL_eq]
        rw [this]
        cases i with
        | zero => simp [colsOf_spec hcs]
        | succ i => simp
      · exact ⟨rfl, fun _ _ => rfl⟩
    · exact ⟨rfl, fun _ _ => rfl⟩
  · exact ⟨rfl, fun _ _ => rfl⟩
def FlatCt (α : Al) (st : St) (w : World) (s : Nat) (ct : Ct) (n : Nat) (cs : Array Value) : Prop :=
  cs.size = n * s ∧ ∀ i, i < n → (ct.get i).length = s ∧ ∀ j c, (ct.get i)[j]? = some c → ∃ v, CellG α st w c v ∧ cs[i * s + j]? = some v ∧ Ev.isCell v = true
theorem FlatCt.frz {st' : St} (hf : ∀ b, Is α st w b → Is α st' w b) {s n : Nat} {ct : Ct} {cs : Array Value} (h : FlatCt α st w s ct n cs) : FlatCt α st' w s ct n cs :=
  ⟨h.1, fun i hi => ⟨(h.2 i hi).1, fun j c hj => let ⟨v, h1, h2, h3⟩ := (h.2 i hi).2 j c hj; ⟨v, h1.frz hf, h2, h3⟩⟩⟩
theorem frzCt_sound {p : Pat} {ct : Ct} {s : Nat} {cs : Array Value} {k : Ct → St → Prop} (hR : R α st w) (hc : FlatCt α st w s ct ct.len cs) (h : frzCt p ct st k) :
    ∃ ct' st', k ct' st' ∧ Frz α st w st' ∧ ct'.len = ct.len ∧ FlatCt α st' w s ct' ct'.len cs := by
  unfold frzCt at h
  split at h
  · rename_i vs
    obtain ⟨vs', st', h1, h2, h3, h4⟩ := frzRows_cells (s := s) (g := fun i j => cs[i * s + j]?) hR (fun i e he => by
      have hi : i < vs.length := (List.getElem?_eq_some_iff.1 he).1
      have := hc.2 i hi
      simp only [Ct.get, getL_eq, he, Option.getD_some] at this
      exact this) h
    refine ⟨.lst vs', st', h1, h2, h3, by rw [Ct.len, h3]; exact hc.1, fun i hi => ?_⟩
    have hi' : i < vs'.length := hi
    have := h4 i vs'[i] (by simp [hi'])
    simp only [Ct.get, getL_eq, List.getElem?_eq_getElem hi', Option.getD_some]
    exact this
  · exact ⟨ct, st, h, Frz.refl hR, rfl, hc⟩
def Src (P : Program) (α : Al) (st : St) (w : World) (s : Nat) (xv : Value) (new : Ct) : Prop :=
  (∀ w', (Builtin.lenOf xv).run P w' = .ok new.len w') ∧
  ∀ n, n ≤ new.len → ∃ cs, FlatCt α st w s new n cs ∧ ∀ w' : World, w'.heap = w.heap → (Builtin.firstCells s n xv).run P w' = .ok cs w'
theorem gather_get {ct : Ct} {m : Nat} : ∀ (n i : Nat), (∀ x, x < n → (ct.get (i + x)).length = m) → ∀ x y, x < n → y < m → (gather ct i n)[x * m + y]? = (ct.get (i + x))[y]?
  | n + 1, i, h, 0, y, _, hy => by
    simp only [gather, Nat.zero_mul, Nat.zero_add, Nat.add_zero]
    rw [List.getElem?_append_left (by have := h 0 (by omega); simp at this; omega)]
  | n + 1, i, h, x + 1, y, hx, hy => by
    have h0 := h 0 (by omega)
    simp only [Nat.add_zero] at h0
    simp only [gather]
    rw [List.getElem?_append_right (by rw [h0, Nat.succ_mul]; omega), h0, Nat.succ_mul, show x * m + m + y - m = x * m + y from by omega]
    rw [gather_get n (i + 1) (fun z hz => by have := h (z + 1) (by omega); rwa [show i + 1 + z = i + (z + 1) from by omega]) x y (by omega) hy]
    rw [show i + 1 + x = i + (x + 1) from by omega]
theorem CellsAt.flat {d : Den} {m : Nat} {ct : Ct} (hg : CellsAt α st w d m ct) {i n : Nat} (h : i + n ≤ ct.len) :
    ∃ cs, FlatCt α st w m (ct.sub i n) n cs ∧ ∀ w' : World, w'.heap = w.heap → (loadCells ⟨d.blk, d.off + i * m, none⟩ (n * m)).run P w' = .ok cs w' := by
  obtain ⟨h1, h2⟩ := hg.gather n i h
  obtain ⟨vs, hv, hvs⟩ := h1
  have hlen := hv.length
  refine ⟨vs.toArray, ⟨by simp [hlen, h2], fun x hx => ?_⟩, fun w' hw => ?_⟩
  · have hc := hg (i + x) (by omega)
    rw [Ct.sub_get hx]
    refine ⟨hc.1, fun y c hy => ?_⟩
    have hym : y < m := by rw [← hc.1]; exact (List.getElem?_eq_some_iff.1 hy).1
    have hgg := gather_get n i (fun z hz => (hg (i + z) (by omega)).1) x y hx hym
    rw [hy] at hgg
    obtain ⟨v, x1, x2⟩ := hv.get hgg
    obtain ⟨u, y1, y2, y3⟩ := hc.2 y c hy
    have hcell := hvs _ v x1
    rw [show d.off + i * m + (x * m + y) = d.off + (i + x) * m + y from by rw [Nat.add_mul]; omega, y2] at hcell
    cases hcell
    exact ⟨v, x2, by simpa using x1, y3⟩
  · have hl := run_loadCells_list (P := P) w' ⟨d.blk, d.off + i * m, none⟩ vs (fun j v hj => by rw [addr_add, cell?_congr (w := w) (by rw [hw])]; exact hvs j v hj)
    rw [hlen, h2] at hl
    exact hl
theorem evSrc_sound {s : Nat} {x : SA} {xv : Value} {k : Ct → Prop} (hR : R α st w) (hx : x.rep α xv) (h : evSrc st s x k) : ∃ new, k new ∧ Src P α st w s xv new := by
  unfold evSrc at h
  split at h
  · rename_i a0 c
    simp only [SA.rep, SC.val?, Option.some.injEq] at hx
    subst hx
    refine ⟨_, h, fun w' => by simp [Builtin.lenOf, Ct.len], fun n hn => ⟨#[], ⟨?_, fun i hi => ?_⟩, fun w' _ => by
      have hn0 : n = 0 := by simpa [Ct.len] using hn
      subst hn0
      cases a0 with
      | none => simp [Builtin.firstCells]
      | some ad => simpa [Builtin.firstCells] using run_loadCells_list (P := P) w' ad [] (by simp)⟩⟩
    · simp [Ct.len] at hn; simp [hn]
    · simp [Ct.len] at hn; omega
  · rename_i b
    split at h
    · rename_i hs
      have hs : s = 1 := by simpa using hs
      subst hs
      simp only [SA.rep, SC.val?, Option.some.injEq] at hx
      subst hx
      have hlen : (Ct.ints .u8 (strInts b)).len = b.size := by simp [strInts, Ct.len]
      refine ⟨_, h, fun w' => by simp [Builtin.lenOf, hlen], fun n hn => ⟨(b.extract 0 n).data.map fun x => .int .u8 x.toNat, ?_, fun w' _ => by simp [Builtin.firstCells]⟩⟩
      rw [hlen] at hn
      have hsz : (b.extract 0 n).data.size = n := by
        have : (b.extract 0 n).size = n := by simp [ByteArray.size_extract]; omega
        exact this
      refine ⟨by rw [Array.size_map, hsz, Nat.mul_one], fun i hi => ⟨by simp [strInts, Ct.get], fun j c hj => ?_⟩⟩
      simp only [strInts, Ct.get] at hj
      cases j with
      | succ j => simp at hj
      | zero =>
        simp at hj
        subst hj
        have hib : i < b.data.size := by show i < b.size; omega
        have he : (b.extract 0 n).data[i]? = b.data[i]? := by
          rw [ByteArray.data_extract, Array.getElem?_extract, if_pos (by omega)]
          simp
        refine ⟨_, CellG.of rfl, ?_, rfl⟩
        simp only [Nat.mul_one, Nat.add_zero, Array.getElem?_map, he]
        rw [Array.getElem?_eq_getElem hib]
        simp
    · exact h.elim
  · rename_i c _ _
    split at h
    · rename_i o i n hl
      split at h
      · rename_i m ct hst
        split at h
        · rename_i hms
          have hms : m = s := by simpa using hms
          subst hms
          obtain ⟨hb, h⟩ := need_iff.1 h
          have hb : i + n ≤ ct.len := by simpa using hb
          obtain ⟨so, d, _, _, hd, _, hdm, hmp, hcells⟩ := hR.rowsG hst
          have hcells : CellsAt α st w d m ct := hcells
          obtain ⟨d0, a, cp, hd0, rfl, ha⟩ := SC.list_val hR hx hl
          rw [hd] at hd0; cases hd0
          refine ⟨_, h, fun w' => by cases a <;> simp [Builtin.lenOf, Ct.sub_len hb], fun n' hn' => ?_⟩
          rw [Ct.sub_len hb] at hn'
          obtain ⟨cs, hcs, hrun⟩ := hcells.flat (P := P) (i := i) (n := n') (by omega)
          refine ⟨cs, ⟨hcs.1, fun y hy => ?_⟩, fun w' hw' => ?_⟩
          · have := hcs.2 y hy
            rw [Ct.sub_get hy] at this
            rw [Ct.sub_get (by omega)]
            exact this
          · by_cases h0 : 0 < n
            · obtain rfl := ha h0
              simp only [Builtin.firstCells, hdm]
              exact hrun w' hw'
            · have hn0 : n' = 0 := by omega
              subst hn0
              have : cs = #[] := by have := hcs.1; simpa using this
              subst this
              cases a <;> simp [Builtin.firstCells, loadCells, loadCellsFrom]
        · exact h.elim
      · exact h.elim
    · exact h.elim
  · exact h.elim
def AppRun (P : Program) (w : World) (T2 e : TypeId) (s : Nat) (xv : Value) (m : Nat) (cs : Array Value) : Prop :=
  ((∃ d, P.underlying T2 = some d ∧ ∀ k, d ≠ .int k) ∧ (∀ w', (Builtin.lenOf xv).run P w' = .ok m w') ∧ ∀ w' : World, w'.heap = w.heap → (Builtin.firstCells s m xv).run P w' = .ok cs w') ∨
  ∃ kk k2 l inf z, P.underlying T2 = some (.int kk) ∧ xv = .int k2 l ∧ 0 ≤ l ∧ l < 2 ^ 63 ∧ P.info? e = some inf ∧ l * inf.bytes ≤ 2 ^ 48 ∧ inf.zero = some z ∧ z.cells.size = s ∧ m = l.toNat ∧ cs = Builtin.zeroCells z.cells m
theorem AppRun.heap {w w' : World} {T2 e : TypeId} {s : Nat} {xv : Value} {m : Nat} {cs : Array Value} (h : AppRun P w T2 e s xv m cs) (hh : w'.heap = w.heap) : AppRun P w' T2 e s xv m cs := by
  rcases h with ⟨h1, h2, h3⟩ | h
  · exact .inl ⟨h1, h2, fun w'' h => h3 w'' (h.trans hh)⟩
  · exact .inr h
def ASrc (P : Program) (α : Al) (st : St) (w : World) (T2 e : TypeId) (s : Nat) (xv : Value) (new : Ct) : Prop :=
  ∃ cs, FlatCt α st w s new new.len cs ∧ AppRun P w T2 e s xv new.len cs
theorem ASrc.of_src {T2 e : TypeId} {s : Nat} {xv : Value} {new : Ct} (hT2 : notInt (P.underlying T2) = true) (h : Src P α st w s xv new) : ASrc P α st w T2 e s xv new := by
  obtain ⟨cs, h1, h2⟩ := h.2 new.len (Nat.le_refl _)
  refine ⟨cs, h1, .inl ⟨?_, h.1, h2⟩⟩
  cases hd : P.underlying T2 with
  | none => simp [hd, notInt] at hT2
  | some d => exact ⟨d, rfl, fun k e => by subst e; simp [hd, notInt] at hT2⟩
theorem wrap64 {l : Int} (h0 : 0 ≤ l) (h1 : l < 2 ^ 63) : IntKind.i64.wrap l = l := IntWalk.i64_in _ (by omega)
theorem zeroCells_nil {z : Array Value} {m s : Nat} (hz : z.size = s) (h : m * s = 0) : Builtin.zeroCells z m = #[] := by
  apply Array.eq_empty_of_size_eq_zero
  simp [Builtin.zeroCells, hz, h]
theorem zeroCt_len (n : Nat) (z : List Value) : (zeroCt n z).len = n := by
  unfold zeroCt
  split
  · simp [Ct.len]
  · split <;> simp [Ct.len]
theorem zeroCols_at {n i : Nat} (h : i < n) : ∀ {z : List Value} {cs : List Col}, zeroCols n z = some cs → colsAt i cs = z.map .raw
  | [], cs, hz => by simp [zeroCols] at hz; subst hz; rfl
  | v :: r, cs, hz => by
    unfold zeroCols at hz
    split at hz
    · rename_i heq; cases heq
    · rename_i k r' heq
      cases heq
      split at hz
      · rename_i l hl; cases hz; simp [colsAt, Col.at, h, zeroCols_at h hl]
      · simp at hz
    · rename_i r' heq
      cases heq
      split at hz
      · rename_i l hl; cases hz; simp [colsAt, Col.at, h, zeroCols_at h hl]
      · simp at hz
    · simp at hz
theorem zeroCt_get {n : Nat} {z : List Value} {i : Nat} (h : i < n) : (zeroCt n z).get i = z.map .raw := by
  unfold zeroCt
  split
  · simp [Ct.get, h]
  · split
    · rename_i cs hz; exact zeroCols_at h hz
    · simp [Ct.get, h]
theorem zeroCt_flat {s n : Nat} {z : Array Value} (hz : z.size = s) (hc : allCells (z.toList.map .raw) = true) :
    FlatCt α st w s (zeroCt n z.toList) n ((Array.range (n * s)).map fun i => z[i % z.size]!) := by
  obtain ⟨_, h2⟩ := flat_zero (α := α) (st := st) (w := w) n z hz hc
  refine ⟨by simp, fun i hi => ?_⟩
  have := h2 i (by simpa [Ct.len] using hi)
  rw [zeroCt_get hi]
  simpa [Ct.get, hi] using this
theorem zeroLikeC_at {n i : Nat} (h : i < n) : ∀ {cs : List Col} {z : List Value} {l : List Col}, zeroLikeC n cs z = some l →
    (colsAt i l).length = z.length ∧ ∀ (j : Nat) (c : SC), (colsAt i l)[j]? = some c → ∃ v, z[j]? = some v ∧ (c = .raw v ∨ ∃ k, c = .dat k [] ∧ v = .slice none 0 0)
  | [], z, l, hz => by
    cases z with
    | nil => simp [zeroLikeC] at hz; subst hz; exact ⟨rfl, fun j c hj => by simp [colsAt] at hj⟩
    | cons v r => simp [zeroLikeC] at hz
  | c0 :: cs, z, l, hz => by
    unfold zeroLikeC at hz
    split at hz
    · rename_i heq; cases heq
    · rename_i heq; cases heq
      split at hz
      · rename_i hk
        subst hk
        split at hz
        · rename_i l' hl
          cases hz
          obtain ⟨g1, g2⟩ := zeroLikeC_at h hl
          refine ⟨by simp [colsAt, g1], fun j c hj => ?_⟩
          cases j with
          | zero => simp [colsAt, Col.at, h] at hj; subst hj; exact ⟨_, rfl, .inl rfl⟩
          | succ j => simpa [colsAt] using g2 j c (by simpa [colsAt] using hj)
        · cases hz
      · cases hz
    · rename_i heq; cases heq
      split at hz
      · rename_i l' hl
        cases hz
        obtain ⟨g1, g2⟩ := zeroLikeC_at h hl
        refine ⟨by simp [colsAt, g1], fun j c hj => ?_⟩
        cases j with
        | zero => simp [colsAt, Col.at, h] at hj; subst hj; exact ⟨_, rfl, .inl rfl⟩
        | succ j => simpa [colsAt] using g2 j c (by simpa [colsAt] using hj)
      · cases hz
    · rename_i heq; cases heq
      split at hz
      · rename_i l' hl
        cases hz
        obtain ⟨g1, g2⟩ := zeroLikeC_at h hl
        refine ⟨by simp [colsAt, g1], fun j c hj => ?_⟩
        cases j with
        | zero => simp [colsAt, Col.at, h] at hj; subst hj; exact ⟨_, rfl, .inr ⟨_, rfl, rfl⟩⟩
        | succ j => simpa [colsAt] using g2 j c (by simpa [colsAt] using hj)
      · cases hz
    · cases hz
theorem zeroLike_len (ct : Ct) (n : Nat) (z : List Value) : (zeroLike ct n z).len = n := by
  unfold zeroLike
  split
  · split
    · rfl
    · exact zeroCt_len _ _
  · exact zeroCt_len _ _
theorem zeroLike_flat {s n : Nat} {z : Array Value} (ct : Ct) (hz : z.size = s) (hc : allCells (z.toList.map .raw) = true) :
    FlatCt α st w s (zeroLike ct n z.toList) n ((Array.range (n * s)).map fun i => z[i % z.size]!) := by
  have base := zeroCt_flat (α := α) (st := st) (w := w) (n := n) hz hc
  unfold zeroLike
  split
  · split
    · rename_i l hl
      refine ⟨base.1, fun i hi => ?_⟩
      obtain ⟨g1, g2⟩ := zeroLikeC_at hi hl
      obtain ⟨b1, b2⟩ := base.2 i hi
      refine ⟨by simp only [Ct.get]; rw [g1]; simpa using hz, fun j c hj => ?_⟩
      obtain ⟨v, hv, hcv⟩ := g2 j c hj
      have hr : ((zeroCt n z.toList).get i)[j]? = some (.raw v) := by rw [zeroCt_get hi, List.getElem?_map, hv]; rfl
      obtain ⟨v', x1, x2, x3⟩ := b2 j _ hr
      have hv' : v' = v := by
        have := x1.1
        simp only [CellOk, SC.val?, Option.some.injEq] at this
        exact this.symm
      subst hv'
      refine ⟨v', ?_, x2, x3⟩
      rcases hcv with rfl | ⟨k, rfl, rfl⟩
      · exact x1
      · exact ⟨.inl ⟨rfl, none, 0, rfl⟩, fun k' xs b e hb => by cases e; exact absurd rfl hb.1⟩
    · exact base
  · exact base
theorem getElem?_append_pad {a b c : Array Value} (i : Nat) (h : i < a.size + b.size) : (a ++ b ++ c)[i]? = if i < a.size then a[i]? else b[i - a.size]? := by
  rw [Array.getElem?_append_left (by simp; omega)]
  rw [Array.getElem?_append]
theorem run_append_grows {T T2 ty e s bytes n sCap : Nat} {base : Option Addr} {xv : Value} {new old : Ct} {z : Value}
    (hu : P.underlying T = some (.slice e)) (hs : tSize P e = some s) (hby : tBytes P e = some bytes) (hz : tZero P e = some z)
    (hbp : 0 < bytes) (hsrc : ASrc P α st w T2 e s xv new)
    (hbase : ∃ cs, FlatCt α st w s old n cs ∧ ∀ w' : World, w'.heap = w.heap → (Builtin.firstCells s n (.slice base n sCap)).run P w' = .ok cs w')
    (hg : sCap < n + new.len) (hsz : (n + new.len) * bytes ≤ 2 ^ 47) :
    ∃ cap c1 c2 c3, n + new.len ≤ cap ∧ FlatCt α st w s old n c1 ∧ FlatCt α st w s new new.len c2 ∧ c3 = Builtin.zeroCells z.cells (cap - (n + new.len)) ∧
      (Builtin.append_ #[T, T2] ty #[.slice base n sCap, xv]).run P w = .ok (.slice (some ⟨w.heap.size, 0, none⟩) (n + new.len) cap) (w.drew.alloc (.cells (c1 ++ c2 ++ c3) e)) := by
  obtain ⟨c1, hf1, hr1⟩ := hbase
  obtain ⟨c2, hf2, hrun⟩ := hsrc
  unfold tBytes at hby
  cases hi : P.info? e with
  | none => simp [hi] at hby
  | some inf =>
    simp [hi] at hby
    unfold tSize at hs
    simp [hi] at hs
    unfold tZero at hz
    simp [hi] at hz
    have hn : ¬ (n + new.len ≤ sCap) := by omega
    have hle : n + new.len ≤ (n + new.len) * bytes := Nat.le_mul_of_pos_right _ hbp
    have h63 : ¬ (9223372036854775807 < ((n : Int) + (new.len : Int))) := by omega
    have hfit := growslice_fits (need := n + new.len) (old := sCap) (bytes := bytes) hg (by omega)
    have h48 : ¬ (281474976710656 < Builtin.nextslicecap (n + new.len) sCap * bytes) := by omega
    refine ⟨grownCap w (n + new.len) sCap e, c1, c2, _, ?_, hf1, hf2, rfl, ?_⟩
    · simp only [grownCap, Question.cut]; omega
    · have hr1' := hr1 w.drew rfl
      rcases hrun with ⟨⟨d2, hd2, hne⟩, hlen, hr2⟩ | ⟨kk, k2, l, inf', z', g1, rfl, g3, g4, g5, g6, g7, g8, g9, rfl⟩
      · have hr2' := hr2 w.drew rfl
        simp only [Builtin.append_]
        simp [run_underlying hu, run_underlying hd2, sizeOf, typeInfo, zeroValue, hi, hz, hlen, hn, h63, Question.forced, hs, hby, h48, hr1', hr2', newRow, grownCap]
      · rw [hi] at g5; cases g5
        rw [hz] at g7; cases g7
        obtain ⟨m, rfl⟩ := Int.eq_ofNat_of_zero_le g3
        have hw := wrap64 g3 g4
        have q1 : ¬ (m : Int) < 0 := by omega
        rw [hby] at g6
        have q2 : ¬ (281474976710656 < (m : Int) * (bytes : Int)) := by omega
        rw [Int.toNat_natCast] at g9
        rw [g9] at hn h63 h48 ⊢
        have q3 : m * s = 0 → Builtin.zeroCells z.cells m = #[] := zeroCells_nil g8
        simp only [Builtin.append_]
        simp [run_underlying hu, run_underlying g1, asInt, asIntOf, hw, q1, sizeOf, typeInfo, zeroValue, hi, hz, hn, h63, Question.forced, hs, hby, h48, hr1', newRow, grownCap, q2]
        intro hh
        have := q3 (by first | exact hh | (rcases hh with hh | hh <;> simp [hh]))
        simp [this]
theorem FlatCt.reps {s n : Nat} {ct : Ct} {cs : Array Value} (hs : 0 < s) (h : FlatCt α st w s ct n cs) : RepsG α st w (gather ct 0 n) cs.toList ∧ (∀ v ∈ cs.toList, Ev.isCell v = true) ∧ (gather ct 0 n).length = n * s := by
  have hlen : ∀ x, x < n → (ct.get (0 + x)).length = s := fun x hx => by rw [Nat.zero_add]; exact (h.2 x hx).1
  have hgl : (gather ct 0 n).length = n * s := by
    have : ∀ (n i : Nat), (∀ x, x < n → (ct.get (i + x)).length = s) → (gather ct i n).length = n * s := by
      intro n
      induction n with
      | zero => intro i _; simp [gather]
      | succ n ih =>
        intro i hi
        simp only [gather, List.length_append]
        rw [ih (i + 1) (fun x hx => by have := hi (x + 1) (by omega); rwa [show i + 1 + x = i + (x + 1) from by omega])]
        have := hi 0 (by omega)
        simp only [Nat.add_zero] at this
        rw [this, Nat.succ_mul]; omega
    exact this n 0 hlen
  have hat : ∀ z, z < n * s → ∃ v, cs[z]? = some v ∧ Ev.isCell v = true ∧ ∀ c, (gather ct 0 n)[z]? = some c → CellG α st w c v := by
    intro z hz
    have hq : z / s < n := Nat.div_lt_of_lt_mul (by rw [Nat.mul_comm]; exact hz)
    have hr : z % s < s := Nat.mod_lt _ hs
    have hzq : z / s * s + z % s = z := by rw [Nat.mul_comm]; exact Nat.div_add_mod z s
    have hl := (h.2 _ hq).1
    have hge : (ct.get (z / s))[z % s]? = some ((ct.get (z / s))[z % s]'(by omega)) := List.getElem?_eq_getElem _
    obtain ⟨v, a1, a2, a3⟩ := (h.2 _ hq).2 _ _ hge
    rw [hzq] at a2
    refine ⟨v, a2, a3, fun c hc => ?_⟩
    have := gather_get n 0 hlen (z / s) (z % s) hq hr
    rw [hzq, hc, Nat.zero_add, hge] at this
    cases this
    exact a1
  refine ⟨RepsG.mk (by simp [hgl, h.1]) fun z c hc => ?_, fun v hv => ?_, hgl⟩
  · have hz : z < n * s := by rw [← hgl]; exact (List.getElem?_eq_some_iff.1 hc).1
    obtain ⟨v, x1, x2, x3⟩ := hat z hz
    exact ⟨v, by simpa using x1, x3 c hc⟩
  · obtain ⟨z, hz⟩ := List.getElem?_of_mem hv
    have hzn : z < n * s := by
      have := (List.getElem?_eq_some_iff.1 hz).1
      simp [h.1] at this
      exact this
    obtain ⟨u, x1, x2, x3⟩ := hat z hzn
    rw [Array.getElem?_toList] at hz
    rw [x1] at hz; cases hz
    exact x2
theorem R.over (hR : R α st w) {o : Nat} {so : SO} {d : Den} (ho : st.get o = some so) (hd : α o = some d) (hcan : so.can = true) {m q : Nat} {ct ct' new : Ct} {cs : Array Value} (hrow : so.rows = some (m, ct)) (hpos : so.isOwn = true → d.live = true)
    (hf : FlatCt α st w m new new.len cs) (hq : q + new.len ≤ ct.len) (hov : ct.over q new = some ct') :
    ∃ w', (storeCells ⟨d.blk, d.off + q * m, Option.none⟩ cs.toList).run P w = .ok () w' ∧ To α st w α (st.put o (some (so.setCt ct'))) w' := by
  obtain ⟨T, ar, fz, _, _, _, _, _, _, _, hdm, hm, _, hg, _⟩ := hR.toRow ho hd hcan hrow hpos
  obtain ⟨hr, hc, hgl⟩ := hf.reps hm
  obtain ⟨h1, h2⟩ := Ct.over_spec hq hov
  have hqm := Nat.mul_le_mul_right m hq
  rw [Nat.add_mul] at hqm
  refine hR.stored ho hd hcan hrow hpos hr hc (by rw [hgl]; exact hqm) h1 fun i hi => ?_
  rw [h2 i hi]
  by_cases hin : q ≤ i ∧ i < q + new.len
  · rw [if_pos hin]
    have hl := (hf.2 (i - q) (by omega)).1
    refine ⟨hl, fun j c hj => .inl ?_⟩
    have hjm : j < m := by rw [← hl]; exact (List.getElem?_eq_some_iff.1 hj).1
    have e1 : i * m = q * m + (i - q) * m := by rw [← Nat.add_mul]; congr 1; omega
    have e2 := mul_lt_of (s := m) (show i - q < new.len from by omega)
    rw [hgl]
    refine ⟨by omega, by omega, ?_⟩
    rw [show i * m + j - q * m = (i - q) * m + j from by omega]
    rw [gather_get new.len 0 (fun x hx => by rw [Nat.zero_add]; exact (hf.2 x hx).1) (i - q) j (by omega) hjm, Nat.zero_add]
    exact hj
  · rw [if_neg hin]
    refine ⟨(hg i hi).1, fun j c hj => .inr ⟨?_, hj⟩⟩
    have hjm : j < m := by rw [← (hg i hi).1]; exact (List.getElem?_eq_some_iff.1 hj).1
    rw [hgl]
    by_cases hlt : i < q
    · have := mul_lt_of (s := m) hlt; omega
    · have h3 : (q + new.len) * m ≤ i * m := Nat.mul_le_mul_right m (by omega)
      rw [Nat.add_mul] at h3
      omega
theorem app_rows {s : Nat} {old new ct' : Ct} {n : Nat} {g : Nat → Nat → Option Value} (ha : old.app new = some ct') (hold : old.len = n)
    (h1 : ∀ i, i < n → (old.get i).length = s ∧ ∀ j c, (old.get i)[j]? = some c → ∃ v, CellG α st w c v ∧ g i j = some v ∧ Ev.isCell v = true)
    (h2 : ∀ i, i < new.len → (new.get i).length = s ∧ ∀ j c, (new.get i)[j]? = some c → ∃ v, CellG α st w c v ∧ g (n + i) j = some v ∧ Ev.isCell v = true) :
    ct'.canon.len = n + new.len ∧ RowG α st w ct'.canon s g := by
  obtain ⟨a1, a2⟩ := Ct.app_spec ha
  obtain ⟨b1, b2⟩ := ct'.canon_spec
  refine ⟨by omega, fun i hi => ?_⟩
  rw [b1] at hi
  rw [b2 i hi, a2 i hi]
  by_cases hin : i < old.len
  · rw [if_pos hin]; exact h1 i (by omega)
  · rw [if_neg hin]
    have := h2 (i - old.len) (by omega)
    rw [show n + (i - old.len) = i from by omega] at this
    exact this
theorem Is.drew {b : Nat} (h : Is α st w b) : Is α st w.drew b := h
theorem CellG.drew {c : SC} {v : Value} (h : CellG α st w c v) : CellG α st w.drew c v := by
  refine ⟨?_, h.2⟩
  cases c <;> exact h.1
theorem zeroCells_isCell {z : Array Value} (h : ∀ v ∈ z.toList, Ev.isCell v = true) (n : Nat) : ∀ v ∈ (Builtin.zeroCells z n).toList, Ev.isCell v = true := by
  intro v hv
  simp only [Builtin.zeroCells, Array.toList_map, List.mem_map, Array.mem_toList_iff, Array.mem_range] at hv
  obtain ⟨i, hi, rfl⟩ := hv
  have hp : 0 < z.size := by
    rcases Nat.eq_zero_or_pos z.size with h0 | h0
    · rw [h0] at hi; omega
    · exact h0
  have hm := Nat.mod_lt i hp
  rw [getElem!_pos z _ hm]
  exact h _ (by simp)
theorem grown_isCell {s n m k : Nat} {z : Value} {old new : Ct} {c1 c2 c3 : Array Value} (hs : 0 < s) (hz : ∀ v ∈ z.cells.toList, Ev.isCell v = true) (h1 : FlatCt α st w s old n c1) (h2 : FlatCt α st w s new m c2)
    (h3 : c3 = Builtin.zeroCells z.cells k) : ∀ v ∈ (c1 ++ c2 ++ c3).toList, Ev.isCell v = true := by
  intro v hv
  simp only [Array.toList_append, List.mem_append] at hv
  rcases hv with (hv | hv) | hv
  · exact (h1.reps hs).2.1 v hv
  · exact (h2.reps hs).2.1 v hv
  · subst h3; exact zeroCells_isCell hz _ v hv
theorem evGrown_sound {T T2 ty e s bytes n sCap : Nat} {base : Option Addr} {xv : Value} {new old : Ct} {z : Value} {k : SV → St → Prop} (hR : R α st w)
    (hu : P.underlying T = some (.slice e)) (hs : tSize P e = some s) (hby : tBytes P e = some bytes) (hz : tZero P e = some z) (hzs : z.cells.size = s) (hzc : ∀ v ∈ z.cells.toList, Ev.isCell v = true)
    (hsp : 0 < s) (hbp : 0 < bytes) (hsrc : ASrc P α st w T2 e s xv new) (hold : old.len = n)
    (hbase : ∃ cs, FlatCt α st w s old n cs ∧ ∀ w' : World, w'.heap = w.heap → (Builtin.firstCells s n (.slice base n sCap)).run P w' = .ok cs w')
    (hg : sCap < n + new.len) (h : evGrown st e s bytes n old new k) :
    Got P α st w (Builtin.append_ #[T, T2] ty #[.slice base n sCap, xv]) k := by
  unfold evGrown at h
  obtain ⟨h1, h⟩ := need_iff.1 h
  have h1 : (n + new.len) * bytes ≤ 2 ^ 47 := by simpa using h1
  obtain ⟨ct', ha, h⟩ := opt_iff.1 h
  obtain ⟨cap, c1, c2, c3, x1, x2, x3, x4, x5⟩ := run_append_grows (ty := ty) hu hs hby hz hbp hsrc hbase hg h1
  have hsz : cap * s = (c1 ++ c2 ++ c3).size := by
    have e1 : c3.size = (cap - (n + new.len)) * s := by rw [x4]; simp [Builtin.zeroCells, hzs]
    have e2 : cap * s = (n + new.len + (cap - (n + new.len))) * s := by congr 1; omega
    rw [Array.size_append, Array.size_append, x2.1, x3.1, e1, e2, Nat.add_mul, Nat.add_mul]
  obtain ⟨hlen, hrows⟩ := app_rows (α := α) (st := st) (w := w.drew) (s := s) (g := fun i j => (c1 ++ c2 ++ c3)[i * s + j]?) ha hold (fun i hi => by
      have := x2.2 i (by omega)
      refine ⟨this.1, fun j c hj => ?_⟩
      obtain ⟨v, y1, y2, y3⟩ := this.2 j c hj
      have hjs : j < s := by rw [← this.1]; exact (List.getElem?_eq_some_iff.1 hj).1
      have hlt := mul_lt_of (s := s) (show i < n from by omega)
      refine ⟨v, y1.drew, ?_, y3⟩
      show (c1 ++ c2 ++ c3)[i * s + j]? = some v
      rw [getElem?_append_pad _ (by rw [x2.1]; omega), if_pos (by rw [x2.1]; omega)]
      exact y2) (fun i hi => by
      have := x3.2 i hi
      refine ⟨this.1, fun j c hj => ?_⟩
      obtain ⟨v, y1, y2, y3⟩ := this.2 j c hj
      have hjs : j < s := by rw [← this.1]; exact (List.getElem?_eq_some_iff.1 hj).1
      have hlt := mul_lt_of (s := s) hi
      refine ⟨v, y1.drew, ?_, y3⟩
      show (c1 ++ c2 ++ c3)[(n + i) * s + j]? = some v
      rw [Nat.add_mul, getElem?_append_pad _ (by rw [x2.1, x3.1]; omega), if_neg (by rw [x2.1]; omega), x2.1, show n * s + i * s + j - n * s = i * s + j from by omega]
      exact y2)
  have hto := To.rowOwn (T := e) (m := s) (cap := cap) (ct := ct'.canon) (cs := c1 ++ c2 ++ c3) (fz := (0, 0)) (To.drew hR).rep hsp (.zero (grown_isCell hsp hzc x2 x3 x4)) (by rw [hsz]; exact Nat.le_refl _) (by omega) hrows
  rw [hlen] at hto
  rw [lenL_eq] at h
  refine ⟨_, _, _, _, _, x5, ?_, h, (To.drew hR).trans hto⟩
  simp [SV.rep, SA.rep, SC.val?, Al.add_same]
theorem run_append_inplace {T T2 ty e s n sCap m : Nat} {base : Addr} {xv : Value} {cs : Array Value} {w' : World}
    (hu : P.underlying T = some (.slice e)) (hs : tSize P e = some s) (hrun : AppRun P w T2 e s xv m cs) (hle : n + m ≤ sCap) (hst : (storeCells (base.add (n * s)) cs.toList).run P w = .ok () w') :
    (Builtin.append_ #[T, T2] ty #[.slice (some base) n sCap, xv]).run P w = .ok (.slice (some base) (n + m) sCap) w' := by
  rcases hrun with ⟨⟨d2, hd2, hne⟩, hlen, hr2⟩ | ⟨kk, k2, l, inf, z, g1, rfl, g3, g4, g5, g6, g7, g8, rfl, rfl⟩
  · have hsrc := hr2 w rfl
    simp only [Builtin.append_]
    simp [run_underlying hu, run_underlying hd2, run_size hs, hlen, hle, hsrc, hst]
  · have hw := wrap64 g3 g4
    have q1 : ¬ l < 0 := by omega
    have q2 : ¬ (281474976710656 < l * (inf.bytes : Int)) := by omega
    have hs' : inf.size = s := by simpa [tSize, g5] using hs
    by_cases h0 : l.toNat * s = 0
    · rw [zeroCells_nil g8 h0] at hst
      have h0' := h0
      simp only [Builtin.append_]
      simp [run_underlying hu, run_underlying g1, asInt, asIntOf, hw, q1, sizeOf, typeInfo, zeroValue, g5, g7, hs', q2, hle]
      rw [if_pos (by simpa using h0)]
      have hst2 : (storeCells (base.add (n * s)) []).run P w = .ok () w' := by simpa using hst
      simp only [hst2, Result.andThen_ok]
    · simp only [Builtin.append_]
      simp [run_underlying hu, run_underlying g1, asInt, asIntOf, hw, q1, sizeOf, typeInfo, zeroValue, g5, g7, hs', q2, hle]
      rw [if_neg (by simpa using h0)]
      simp only [hst, Result.andThen_ok]
theorem run_append_nothing {T T2 ty e s n sCap : Nat} {base : Option Addr} {xv : Value} {new : Ct}
    (hu : P.underlying T = some (.slice e)) (hs : tSize P e = some s) (hsrc : ASrc P α st w T2 e s xv new) (h0 : new.len = 0) (hle : n ≤ sCap) :
    (Builtin.append_ #[T, T2] ty #[.slice base n sCap, xv]).run P w = .ok (.slice base n sCap) w := by
  obtain ⟨cs, hf, hr⟩ := hsrc
  have hcs : cs = #[] := by
    have := hf.1
    rw [h0] at this
    simpa using this
  subst hcs
  cases base with
  | some b =>
    have := run_append_inplace (ty := ty) (T := T) (base := b) (n := n) (sCap := sCap) hu hs hr (by omega) (w' := w) (by simp [storeCells])
    rw [h0] at this
    exact this
  | none =>
    rcases hr with ⟨⟨d2, hd2, hne⟩, hlen, hr2⟩ | ⟨kk, k2, l, inf, z, g1, rfl, g3, g4, g5, g6, g7, g8, g9, g10⟩
    · have hr' := hr2 w rfl
      rw [h0] at hlen hr'
      simp only [Builtin.append_]
      simp [run_underlying hu, run_underlying hd2, run_size hs, hlen, hle, hr']
    · have hw := wrap64 g3 g4
      have hl0 : l = 0 := by omega
      subst hl0
      have hs' : inf.size = s := by simpa [tSize, g5] using hs
      simp only [Builtin.append_]
      simp [run_underlying hu, run_underlying g1, asInt, asIntOf, hw, sizeOf, typeInfo, zeroValue, g5, g7, hs', hle]
end Go.Ev

/- THE ENGINE, part 9: append, copy, clear, make, conversions, len, cap. -/
namespace Go.Ev
open Go
variable {P : Program} {α : Al} {st : St} {w : World}
theorem base_flat (hR : R α st w) {o m i n : Nat} {ct : Ct} {d : Den} (hr : st.rows o = some (m, ct)) (hd : α o = some d) (hin : i + n ≤ ct.len) {a : Option Addr} (ha : 0 < n → a = some ⟨d.blk, d.off + i * d.m, none⟩) (cap : Nat) :
    ∃ cs, FlatCt α st w m (ct.sub i n) n cs ∧ ∀ w' : World, w'.heap = w.heap → (Builtin.firstCells m n (.slice a n cap)).run P w' = .ok cs w' := by
  obtain ⟨so, d0, _, _, hd0, _, hdm, hmp, hcells⟩ := hR.rowsG hr
  rw [hd] at hd0; cases hd0
  have hcells : CellsAt α st w d m ct := hcells
  obtain ⟨cs, hcs, hrun⟩ := hcells.flat (P := P) hin
  refine ⟨cs, hcs, fun w' hw' => ?_⟩
  by_cases h0 : 0 < n
  · obtain rfl := ha h0
    simp only [Builtin.firstCells, hdm]
    exact hrun w' hw'
  · obtain rfl : n = 0 := by omega
    have : cs = #[] := by have := hcs.1; simpa using this
    subst this
    cases a <;> simp [Builtin.firstCells, loadCells, loadCellsFrom]
theorem St.put_append {x y : Option SO} {o : Nat} (h : o < st.length) : St.put (st ++ [x]) o y = st.put o y ++ [x] := by
  simp only [St.put_eq]
  rw [List.set_append_left _ _ h]
theorem grown_new {T T2 ty e s bytes n sCap : Nat} {base : Option Addr} {xv : Value} {new old ct' : Ct} {z : Value} (hR : R α st w)
    (hu : P.underlying T = some (.slice e)) (hs : tSize P e = some s) (hby : tBytes P e = some bytes) (hz : tZero P e = some z) (hzs : z.cells.size = s) (hzc : ∀ v ∈ z.cells.toList, Ev.isCell v = true)
    (hsp : 0 < s) (hbp : 0 < bytes) (hsrc : ASrc P α st w T2 e s xv new) (hold : old.len = n)
    (hbase : ∃ cs, FlatCt α st w s old n cs ∧ ∀ w' : World, w'.heap = w.heap → (Builtin.firstCells s n (.slice base n sCap)).run P w' = .ok cs w')
    (hg : sCap < n + new.len) (h1 : (n + new.len) * bytes ≤ 2 ^ 47) (ha : old.app new = some ct') :
    ∃ v w' d, (Builtin.append_ #[T, T2] ty #[.slice base n sCap, xv]).run P w = .ok v w' ∧ d.val = v ∧ To α st w (α.add st.length d) (st ++ [some (.own true .row e s ct'.canon)]) w' := by
  have := evGrown_sound (ty := ty) (k := fun sv st' => sv = .sa (.one (.ref st.length)) ∧ st' = st ++ [some (.own true .row e s ct'.canon)]) hR hu hs hby hz hzs hzc hsp hbp hsrc hold hbase hg
    (need_iff.2 ⟨by simpa using h1, opt_iff.2 ⟨ct', ha, by rw [lenL_eq], rfl⟩⟩)
  obtain ⟨cap, c1, c2, c3, x1, x2, x3, x4, x5⟩ := run_append_grows (ty := ty) hu hs hby hz hbp hsrc hbase hg h1
  have hsz : cap * s = (c1 ++ c2 ++ c3).size := by
    have e1 : c3.size = (cap - (n + new.len)) * s := by rw [x4]; simp [Builtin.zeroCells, hzs]
    have e2 : cap * s = (n + new.len + (cap - (n + new.len))) * s := by congr 1; omega
    rw [Array.size_append, Array.size_append, x2.1, x3.1, e1, e2, Nat.add_mul, Nat.add_mul]
  obtain ⟨hlen, hrows⟩ := app_rows (α := α) (st := st) (w := w.drew) (s := s) (g := fun i j => (c1 ++ c2 ++ c3)[i * s + j]?) ha hold (fun i hi => by
      have := x2.2 i (by omega)
      refine ⟨this.1, fun j c hj => ?_⟩
      obtain ⟨v, y1, y2, y3⟩ := this.2 j c hj
      have hjs : j < s := by rw [← this.1]; exact (List.getElem?_eq_some_iff.1 hj).1
      have hlt := mul_lt_of (s := s) (show i < n from by omega)
      refine ⟨v, y1.drew, ?_, y3⟩
      show (c1 ++ c2 ++ c3)[i * s + j]? = some v
      rw [getElem?_append_pad _ (by rw [x2.1]; omega), if_pos (by rw [x2.1]; omega)]
      exact y2) (fun i hi => by
      have := x3.2 i hi
      refine ⟨this.1, fun j c hj => ?_⟩
      obtain ⟨v, y1, y2, y3⟩ := this.2 j c hj
      have hjs : j < s := by rw [← this.1]; exact (List.getElem?_eq_some_iff.1 hj).1
      have hlt := mul_lt_of (s := s) hi
      refine ⟨v, y1.drew, ?_, y3⟩
      show (c1 ++ c2 ++ c3)[(n + i) * s + j]? = some v
      rw [Nat.add_mul, getElem?_append_pad _ (by rw [x2.1, x3.1]; omega), if_neg (by rw [x2.1]; omega), x2.1, show n * s + i * s + j - n * s = i * s + j from by omega]
      exact y2)
  have hto := To.rowOwn (T := e) (m := s) (cap := cap) (ct := ct'.canon) (cs := c1 ++ c2 ++ c3) (fz := (0, 0)) (To.drew hR).rep hsp (.zero (grown_isCell hsp hzc x2 x3 x4)) (by rw [hsz]; exact Nat.le_refl _) (by omega) hrows
  rw [hlen] at hto
  exact ⟨_, _, _, x5, rfl, (To.drew hR).trans hto⟩
theorem regrow_sound {T T2 ty e s bytes o i n c : Nat} {a : Option Addr} {xv : Value} {new old ct : Ct} {z : Value} {k : SV → St → Prop} (hR : R α st w)
    (hu : P.underlying T = some (.slice e)) (hs : tSize P e = some s) (hby : tBytes P e = some bytes) (hz : tZero P e = some z) (hzs : z.cells.size = s) (hzc : ∀ v ∈ z.cells.toList, Ev.isCell v = true)
    (hsp : 0 < s) (hbp : 0 < bytes) (hsrc : ASrc P α st w T2 e s xv new) (hst : st.get o = some (.own true .row e s ct)) {d : Den} (hd : α o = some d) (hpart : PartOk d i n a c) (hin : i + n ≤ ct.len)
    (hold : old.len = n) (hget : ∀ x, x < n → old.get x = ct.get (i + x)) (h : evGrown (st.put o none) e s bytes n old new k) :
    Got P α st w (Builtin.append_ #[T, T2] ty #[.slice a n c, xv]) k := by
  unfold evGrown at h
  obtain ⟨h1, h⟩ := need_iff.1 h
  have h1 : (n + new.len) * bytes ≤ 2 ^ 47 := by simpa using h1
  obtain ⟨ct', ha, h⟩ := opt_iff.1 h
  rw [lenL_eq, St.length_put] at h
  have hlt := St.get_lt hst
  have hrow : (SO.own true .row e s ct).rows = some (s, ct) := rfl
  have hrows : st.rows o = some (s, ct) := by simp only [St.rows, hst]; exact hrow
  obtain ⟨d', hd', hg⟩ := hR.good o _ hst
  rw [hd] at hd'; cases hd'
  obtain ⟨hdm, hmp, _⟩ := hg.rowsCell hrow
  have hroom0 : 0 < ct.len → ct.len ≤ d.cap := hg.room hrow rfl
  have hlive0 : 0 < ct.len → d.live = true := fun h0 => hg.live hrow h0 rfl
  obtain ⟨q1, q2⟩ := Ct.app_spec ha
  -- whatever has come out: a new object for the slice
  have fin : ∀ {v : Value} {w' : World} {e1 : Den}, (Builtin.append_ #[T, T2] ty #[.slice a n c, xv]).run P w = .ok v w' → e1.val = v →
      To α st w (α.add st.length e1) (st.put o none ++ [some (.own true .row e s ct'.canon)]) w' → Got P α st w (Builtin.append_ #[T, T2] ty #[.slice a n c, xv]) k := by
    intro v w' e1 g1 g2 g3
    subst g2
    exact ⟨_, _, _, _, _, g1, by simp only [SV.rep, SA.rep, SC.val?, Al.add_same], h, g3⟩
  have hflat : ∃ cs, FlatCt α st w s old n cs ∧ ∀ w' : World, w'.heap = w.heap → (Builtin.firstCells s n (.slice a n c)).run P w' = .ok cs w' := by
    obtain ⟨cs, hcs, hrun⟩ := base_flat (P := P) hR hrows hd hin (fun h0 => (hpart.1 h0).1) c
    refine ⟨cs, ⟨hcs.1, fun x hx => ?_⟩, hrun⟩
    have := hcs.2 x hx
    rw [Ct.sub_get hx] at this
    rw [hget x hx]; exact this
  by_cases hroom : n + new.len ≤ c
  · -- there is room behind the content, or nothing comes
    by_cases hreal : d.live = true ∧ a = some ⟨d.blk, d.off + i * d.m, none⟩ ∧ c = d.cap - i
    · obtain ⟨hl, rfl, rfl⟩ := hreal
      obtain ⟨T0, cs, fz, hT0, hlies, hwr, h5, h6, h7, h8, _, _, hWr, hcell, _⟩ := hR.toRow hst hd rfl hrow (fun _ => hl)
      obtain ⟨ns, hf, hr⟩ := hsrc
      obtain ⟨hrepn, hcelln, _⟩ := hf.reps hsp
      by_cases hi0 : i ≤ d.cap
      · have hcapm : (i + n + new.len) * s ≤ d.cap * s := Nat.mul_le_mul_right s (by omega)
        rw [Nat.add_mul] at hcapm
        have hnl : ns.toList.length = new.len * s := by simp [hf.1]
        have hst2 := run_storeCells_fz (P := P) d.blk (d.off + (i + n) * s) T0 fz ns.toList 0 cs w h5 h6.fzIn (by rw [hnl]; omega) hcelln
        simp only [Nat.add_zero] at hst2
        have hrun := run_append_inplace (ty := ty) (n := n) (base := ⟨d.blk, d.off + i * d.m, none⟩) (sCap := d.cap - i) (T := T) hu hs hr hroom (by
          rw [addr_add, hdm, show d.off + i * s + n * s = d.off + (i + n) * s from by rw [Nat.add_mul]; omega]
          exact hst2)
        have hsz : (cs.toList.take (d.off + (i + n) * s) ++ ns.toList ++ cs.toList.drop (d.off + (i + n) * s + ns.toList.length)).toArray.size = cs.size := by
          have hns := hf.1
          simp
          omega
        have him := Nat.mul_le_mul_right s hi0
        have hlen : α st.length = none := hR.none _ (Nat.le_refl _)
        let e1 : Den := ⟨d.blk, d.off + i * s, s, d.cap - i, .slice (some ⟨d.blk, d.off + i * s, none⟩) (n + new.len) (d.cap - i), true⟩
        have hle := Al.le_add (d := e1) hlen
        have hheap := setRow_heap w d.blk cs (cs.toList.take (d.off + (i + n) * s) ++ ns.toList ++ cs.toList.drop (d.off + (i + n) * s + ns.toList.length)).toArray T0 fz h5
        obtain ⟨hlen', hrows'⟩ := app_rows (α := α) (st := st) (w := w) (s := s)
          (g := fun x j => (cs.toList.take (d.off + (i + n) * s) ++ ns.toList ++ cs.toList.drop (d.off + (i + n) * s + ns.toList.length))[d.off + i * s + x * s + j]?) ha hold (fun x hx => by
            rw [hget x hx]
            have hc := hcell (i + x) (by omega)
            refine ⟨hc.1, fun j c hj => ?_⟩
            have hjs : j < s := by rw [← hc.1]; exact (List.getElem?_eq_some_iff.1 hj).1
            obtain ⟨v, y1, y2, y3⟩ := hc.2 j c hj
            refine ⟨v, y1, ?_, y3⟩
            have e2 : d.off + i * s + x * s = d.off + (i + x) * s := by rw [Nat.add_mul]; omega
            rw [e2, row_get _ _ _ (by rw [hnl]; simp; omega), if_neg ?_]
            · simpa using y2
            · have := mul_lt_of (s := s) (show i + x < i + n from by omega)
              omega) (fun x hx => by
            have hc := hf.2 x hx
            refine ⟨hc.1, fun j c hj => ?_⟩
            have hjs : j < s := by rw [← hc.1]; exact (List.getElem?_eq_some_iff.1 hj).1
            obtain ⟨v, y1, y2, y3⟩ := hc.2 j c hj
            refine ⟨v, y1, ?_, y3⟩
            have := mul_lt_of (s := s) hx
            have e2 : d.off + i * s + (n + x) * s = d.off + (i + n) * s + x * s := by simp only [Nat.add_mul]; omega
            rw [e2, row_get _ _ _ (by rw [hnl]; simp; omega), if_pos (by rw [hnl]; omega)]
            rw [show d.off + (i + n) * s + x * s + j - (d.off + (i + n) * s) = x * s + j from by omega]
            simpa using y2)
        have hIs : ∀ b, Is α st w b → b ≠ d.blk := fun b hb e => by subst e; exact hR.apart hWr hb
        have hIce : ∀ b, Ice (w.setRow d.blk (cs.toList.take (d.off + (i + n) * s) ++ ns.toList ++ cs.toList.drop (d.off + (i + n) * s + ns.toList.length)).toArray) e1 (.own true .row e s ct'.canon) b → Is α st w b := by
          rintro b ⟨_, x, j, kk, xs, v, n1, n2, n3, n4⟩
          obtain ⟨v', y1, y2, _⟩ := (hrows' x n1).2 j _ n2
          rw [cell_of_cells hheap] at n3
          simp only [List.getElem?_toArray, e1] at n3
          have y2 : (cs.toList.take (d.off + (i + n) * s) ++ ns.toList ++ cs.toList.drop (d.off + (i + n) * s + ns.toList.length))[d.off + i * s + x * s + j]? = some v' := y2
          rw [y2] at n3; cases n3
          exact y1.2 kk xs b rfl n4
        have hto := To.regrow (e := e1) (so' := .own true .row e s ct'.canon)
          (w' := w.setRow d.blk (cs.toList.take (d.off + (i + n) * s) ++ ns.toList ++ cs.toList.drop (d.off + (i + n) * s + ns.toList.length)).toArray) hR hst hd rfl rfl (setRow_size _ _ _) (fun b hb => setRow_other _ _ _ fun e => hb ((hlies b).2 e)) (.of rfl rfl) rfl rfl
          ⟨rfl, hsp, .inr ⟨rfl, by rw [hlen'], by rw [hlen']; exact hroom, _, fz, by rw [hT0] at hheap; exact hheap, h6.cells hsz (fun v hv => by
              simp only [List.mem_append] at hv
              rcases hv with (hv | hv) | hv
              · exact h6.1 v (List.mem_of_mem_take hv)
              · exact hcelln v hv
              · exact h6.1 v (List.mem_of_mem_drop hv)), by
              show d.off + i * s + (d.cap - i) * s ≤ _
              rw [hsz, Nat.sub_mul]; omega, fun x hx => ⟨(hrows' x hx).1, fun j c hj => by
              obtain ⟨v, y1, y2, y3⟩ := (hrows' x hx).2 j c hj
              exact ⟨v, y1.carry hR hle (fun b _ hb => setRow_other _ _ _ (hIs b hb)) (by rw [setRow_size]; exact Nat.le_refl _), by simpa [e1] using y2, y3⟩⟩⟩⟩
          (fun b hb => (hlies b).2 hb.2) (fun b hb => .inr (hIce b hb)) (fun _ b hb hib => hIs b (hIce b hib) hb.2)
        rw [hdm] at hrun ⊢
        rw [hdm] at fin
        exact fin hrun rfl hto
      · -- nothing is there, and nothing comes
        have hn0 : n = 0 := by omega
        have hm0 : new.len = 0 := by omega
        subst hn0
        have hrun := run_append_nothing (ty := ty) (n := 0) (sCap := d.cap - i) (base := some ⟨d.blk, d.off + i * d.m, none⟩) hu hs (T := T) ⟨ns, hf, hr⟩ hm0 (Nat.zero_le _)
        have hto : To α st w (α.add st.length ⟨0, 0, s, 0, .slice (some ⟨d.blk, d.off + i * d.m, none⟩) 0 (d.cap - i), false⟩) (st ++ [some (.own true .row e s ct'.canon)]) w :=
          To.ghost hR (fun _ h => by cases h.1) (fun _ h => by cases h.1) rfl ⟨rfl, hsp, .inl ⟨rfl, by rw [ct'.canon_spec.1]; omega, _, _, rfl, fun _ => by omega⟩⟩
        have hk := To.kill hto.rep o
        rw [St.put_append hlt] at hk
        exact fin hrun rfl (hto.trans hk)
    · -- the slice is empty, and there is no room: nothing comes
      have hn0 : n = 0 := by
        by_cases h0 : 0 < n
        · exact absurd ⟨hlive0 (by omega), hpart.1 h0⟩ hreal
        · omega
      subst hn0
      have hc0 : c = 0 := by
        rcases hpart.2 rfl with hc | hc | ⟨hl, a', hv⟩
        · exact hc.1
        · exact absurd hc hreal
        · obtain ⟨_, _, ⟨_, _, a2, c2, hv2, hc2⟩ | ⟨hl2, _⟩⟩ := hg
          · rw [hv] at hv2
            simp only [Value.slice.injEq] at hv2
            rw [hv2.2.2]; exact hc2 rfl
          · rw [hl] at hl2; cases hl2
      subst hc0
      have hm0 : new.len = 0 := by omega
      have hrun := run_append_nothing (ty := ty) (n := 0) (sCap := 0) (base := a) hu hs (T := T) hsrc hm0 (Nat.zero_le _)
      have hto : To α st w (α.add st.length ⟨0, 0, s, 0, .slice a 0 0, false⟩) (st ++ [some (.own true .row e s ct'.canon)]) w :=
        To.ghost hR (fun _ h => by cases h.1) (fun _ h => by cases h.1) rfl ⟨rfl, hsp, .inl ⟨rfl, by rw [ct'.canon_spec.1]; omega, _, _, rfl, fun _ => rfl⟩⟩
      have hk := To.kill hto.rep o
      rw [St.put_append hlt] at hk
      exact fin hrun rfl (hto.trans hk)
  · obtain ⟨v, w', e1, g1, g2, g3⟩ := grown_new (ty := ty) hR hu hs hby hz hzs hzc hsp hbp hsrc hold hflat (by omega) h1 ha
    have hk := To.kill g3.rep o
    rw [St.put_append hlt] at hk
    exact fin g1 g2 (g3.trans hk)
theorem inplace_sound {T T2 ty e s o i n cap : Nat} {so : SO} {xv : Value} {new ct ct' : Ct} (hR : R α st w)
    (hu : P.underlying T = some (.slice e)) (hs : tSize P e = some s) (hsrc : ASrc P α st w T2 e s xv new) (hst : st.get o = some so) {d : Den} (hd : α o = some d) (hcan : so.can = true) (hrow : so.rows = some (s, ct)) (hlive : so.isOwn = true → d.live = true)
    (hin : i + n + new.len ≤ ct.len) (hcap : n + new.len ≤ cap) (ho : ct.over (i + n) new = some ct') :
    ∃ w', (Builtin.append_ #[T, T2] ty #[.slice (some ⟨d.blk, d.off + i * d.m, none⟩) n cap, xv]).run P w = .ok (.slice (some ⟨d.blk, d.off + i * d.m, none⟩) (n + new.len) cap) w' ∧
      To α st w α (st.put o (some (so.setCt ct'))) w' := by
  obtain ⟨cs, hf, hr⟩ := hsrc
  obtain ⟨_, _, _, _, _, _, _, _, _, _, hdm, _⟩ := hR.toRow hst hd hcan hrow hlive
  obtain ⟨w', x1, x2⟩ := R.over (P := P) hR hst hd hcan hrow hlive hf hin ho
  refine ⟨w', run_append_inplace hu hs hr hcap ?_, x2⟩
  rw [addr_add, hdm, show d.off + i * s + n * s = d.off + (i + n) * s from by rw [Nat.add_mul]; omega]
  exact x1
theorem evAppendRow_sound {T T2 ty e s bytes o i n c : Nat} {a : Option Addr} {xv z : Value} {new : Ct} {k : SV → St → Prop} (hR : R α st w)
    (hu : P.underlying T = some (.slice e)) (hs : tSize P e = some s) (hby : tBytes P e = some bytes) (hz : tZero P e = some z) (hzs : z.cells.size = s) (hzc : ∀ v ∈ z.cells.toList, Ev.isCell v = true)
    (hsp : 0 < s) (hbp : 0 < bytes) (hsrc : ASrc P α st w T2 e s xv new) (hpart : ∀ d, α o = some d → (∃ m ct T w k, st.get o = some (.own w k T m ct)) → PartOk d i n a c)
    (h : evAppendRow e s bytes st o i n new k) : Got P α st w (Builtin.append_ #[T, T2] ty #[.slice a n c, xv]) k := by
  unfold evAppendRow at h
  split at h
  · rename_i T' m ct hst
    split at h
    · rename_i hms
      have hms : m = s ∧ T' = e := by simpa using hms
      obtain ⟨rfl, rfl⟩ := hms
      obtain ⟨hin, h⟩ := need_iff.1 h
      have hin : i + n ≤ ct.len := by simpa using hin
      obtain ⟨d, hd, hg⟩ := hR.good o _ hst
      have hp := hpart d hd ⟨_, _, _, _, _, hst⟩
      rcases branch_or h with ⟨hb, h⟩ | ⟨hb, h⟩
      · have hb : 0 < n + new.len ∧ i + n + new.len ≤ ct.len := by simpa using hb
        obtain ⟨ct', ho, h⟩ := opt_iff.1 h
        have hpos : 0 < ct.len := by omega
        have hrow : (SO.own true .row T' m ct).rows = some (m, ct) := rfl
        have hlive := hg.live hrow hpos
        have hroom := hg.room hrow rfl hpos
        have hac : a = some ⟨d.blk, d.off + i * d.m, none⟩ ∧ c = d.cap - i := by
          by_cases h0 : 0 < n
          · exact hp.1 h0
          · rcases hp.2 (by omega) with hc | ⟨_, hc⟩ | ⟨hl, _⟩
            · omega
            · exact hc
            · rw [hlive rfl] at hl; cases hl
        obtain ⟨rfl, rfl⟩ := hac
        obtain ⟨w', x1, x2⟩ := inplace_sound (ty := ty) (cap := d.cap - i) (s := m) hR hu hs hsrc hst hd rfl hrow hlive hb.2 (by omega) ho
        exact ⟨_, w', α, _, _, x1, by simp only [SV.rep, SA.rep, SC.val?, hd, Option.getD_none], h, x2⟩
      · exact regrow_sound hR hu hs hby hz hzs hzc hsp hbp hsrc hst hd hp hin (Ct.sub_len hin) (fun x hx => Ct.sub_get hx) h
    · exact h.elim
  · exact h.elim
theorem evAppendAt_sound {T T2 ty e s bytes o i n : Nat} {c : Option Nat} {av xv z : Value} {new : Ct} {k : SV → St → Prop} (hR : R α st w)
    (hu : P.underlying T = some (.slice e)) (hs : tSize P e = some s) (hby : tBytes P e = some bytes) (hz : tZero P e = some z) (hzs : z.cells.size = s) (hzc : ∀ v ∈ z.cells.toList, Ev.isCell v = true)
    (hsp : 0 < s) (hbp : 0 < bytes) (hsrc : ASrc P α st w T2 e s xv new) (ha : (SC.sl o i n c).val? α = some av)
    (h : evAppendAt st e s bytes o i n c new k) : Got P α st w (Builtin.append_ #[T, T2] ty #[av, xv]) k := by
  -- a capacity that is known
  have known : ∀ (so : SO) (m : Nat) (ct : Ct) (c : Nat) (av : Value), st.get o = some so → so.rows = some (m, ct) → m = s → (SC.sl o i n (some c)).val? α = some av →
      need (decide (n ≤ c)) (branch (decide (n + new.len ≤ c))
        (branch (decide (new.len = 0)) (k (.sa (.one (.sl o i n (some c)))) st)
          (evPutKnown o i n c so ct st new k))
        (need (decide (i + n ≤ ct.len)) (evGrown st e s bytes n (ct.sub i n) new k))) → Got P α st w (Builtin.append_ #[T, T2] ty #[av, xv]) k := by
    intro so m ct c av hst hrow hms ha h
    subst hms
    obtain ⟨d, hd, hg⟩ := hR.good o _ hst
    simp only [SC.val?, hd, Option.some.injEq, Option.getD_some] at ha
    subst ha
    have hrows : st.rows o = some (m, ct) := by simp only [St.rows, hst]; exact hrow
    obtain ⟨hnc, h⟩ := need_iff.1 h
    have hnc : n ≤ c := by simpa using hnc
    rcases branch_or h with ⟨hle, h⟩ | ⟨hle, h⟩
    · have hle : n + new.len ≤ c := by simpa using hle
      rcases branch_or h with ⟨h0, h⟩ | ⟨h0, h⟩
      · have h0 : new.len = 0 := by simpa using h0
        exact Got.pure hR (run_append_nothing hu hs hsrc h0 hnc) (by simp [SV.rep, SA.rep, SC.val?, hd]) h
      · have h0 : ¬ new.len = 0 := by simpa using h0
        unfold evPutKnown at h
        split at h
        · rename_i hcan
          obtain ⟨hin, h⟩ := need_iff.1 h
          have hin : i + n + new.len ≤ ct.len := by simpa using hin
          obtain ⟨ct', ho, h⟩ := opt_iff.1 h
          obtain ⟨w', x1, x2⟩ := inplace_sound (ty := ty) hR hu hs hsrc hst hd hcan hrow (hg.live hrow (by omega)) hin hle ho
          exact ⟨_, w', α, _, _, x1, by simp [SV.rep, SA.rep, SC.val?, hd], h, x2⟩
        · exact h.elim
    · have hle : c < n + new.len := by
        have : ¬ (n + new.len ≤ c) := by simpa using hle
        omega
      obtain ⟨hin, h⟩ := need_iff.1 h
      have hin : i + n ≤ ct.len := by simpa using hin
      exact evGrown_sound hR hu hs hby hz hzs hzc hsp hbp hsrc (Ct.sub_len hin) (base_flat (P := P) hR hrows hd hin (fun _ => rfl) c) hle h
  unfold evAppendAt at h
  split at h
  · rename_i wb mk T' m ct hst
    split at h
    · rename_i c hms
      exact known _ _ _ _ _ hst rfl (by simpa using hms) ha h
    · -- whole
      rename_i hms
      have hms : m = s := by simpa using hms
      subst hms
      obtain ⟨d, hd, hg⟩ := hR.good o _ hst
      have hcap : ct.len = d.cap := by
        obtain ⟨_, _, cs, fz, h5, h6, h7, h8, h9, h10⟩ := hg
        exact h9 rfl
      have hrows : st.rows o = some (m, ct) := by simp only [St.rows, hst]; rfl
      simp only [SC.val?, hd, Option.some.injEq, Option.getD_none] at ha
      subst ha
      rcases branch_or h with ⟨hin, h⟩ | ⟨hin, h⟩
      · have hin : i + n + new.len ≤ ct.len := by simpa using hin
        unfold evPutEnd at h
        split at h
        · rename_i hwb
          rw [Bool.and_eq_true_iff] at hwb
          have hwb := hwb.1
          rcases branch_or h with ⟨h0, hE⟩ | ⟨_, hE⟩
          · have h0 : new.len = 0 := by simpa using h0
            exact Got.pure hR (run_append_nothing hu hs hsrc h0 (by omega)) (by simp [SV.rep, SA.rep, SC.val?, hd]) hE
          obtain ⟨ct', ho, hE⟩ := opt_iff.1 hE
          subst hwb
          obtain ⟨w', x1, x2⟩ := inplace_sound (ty := ty) (cap := d.cap - i) (s := m) hR hu hs hsrc hst hd rfl (show (SO.mem true .whole T' m ct).rows = some (m, ct) from rfl) (fun e => by cases e) hin (by omega) ho
          exact ⟨_, w', α, _, _, x1, by simp [SV.rep, SA.rep, SC.val?, hd], hE, x2⟩
        · obtain ⟨h0, h⟩ := need_iff.1 h
          have h0 : new.len = 0 := by simpa using h0
          exact Got.pure hR (run_append_nothing hu hs hsrc h0 (by omega)) (by simp [SV.rep, SA.rep, SC.val?, hd]) h
      · have hin : ¬ (i + n + new.len ≤ ct.len) := by simpa using hin
        obtain ⟨hin2, h⟩ := need_iff.1 h
        have hin2 : i + n ≤ ct.len := by simpa using hin2
        exact evGrown_sound hR hu hs hby hz hzs hzc hsp hbp hsrc (Ct.sub_len hin2) (base_flat (P := P) hR hrows hd hin2 (fun _ => rfl) _) (by omega) h
    · exact h.elim
  · rename_i wb mk T' m ct hst
    split at h
    · rename_i c hms
      exact known _ _ _ _ _ hst rfl (by simpa using hms) ha h
    · exact h.elim
  · exact h.elim
theorem evMore_sound {T2 e s bytes : Nat} {z : Value} {x : SA} {xv : Value} {k : Ct → Prop} (hR : R α st w) (hs : tSize P e = some s) (hby : tBytes P e = some bytes) (hz : tZero P e = some z)
    (hzs : z.cells.size = s) (hx : x.rep α xv) (h : evMore P T2 s bytes z st x k) : ∃ new, k new ∧ ASrc P α st w T2 e s xv new := by
  unfold evMore at h
  split at h
  · rename_i hT2
    obtain ⟨new, h, hsrc⟩ := evSrc_sound (P := P) hR hx h
    exact ⟨new, h, ASrc.of_src hT2 hsrc⟩
  · split at h
    · rename_i kk k2 l hT
      split at h
      · rename_i hc
        obtain ⟨g1, h⟩ := need_iff.1 h
        obtain ⟨g2, h⟩ := need_iff.1 h
        obtain ⟨g3, h⟩ := need_iff.1 h
        have g1 : 0 ≤ l := by simpa using g1
        have g2 : l < 2 ^ 63 := by simpa using g2
        have g3 : l * bytes ≤ 2 ^ 48 := by simpa using g3
        simp only [SA.rep, SC.val?, Option.some.injEq] at hx
        have hf := zeroCt_flat (α := α) (st := st) (w := w) (n := l.toNat) hzs hc
        cases hi : P.info? e with
        | none => simp [tSize, hi] at hs
        | some inf =>
          simp [tBytes, hi] at hby
          simp [tZero, hi] at hz
          refine ⟨_, h, Builtin.zeroCells z.cells l.toNat, ?_, .inr ⟨kk, k2, l, inf, z, hT, hx.symm, g1, g2, hi, by rw [hby]; exact g3, hz, hzs, zeroCt_len _ _, by rw [zeroCt_len]⟩⟩
          rw [zeroCt_len]
          have e : Builtin.zeroCells z.cells l.toNat = (Array.range (l.toNat * s)).map fun i => z.cells[i % z.cells.size]! := by
            simp only [Builtin.zeroCells, hzs]
          rw [e]
          exact hf
      · exact h.elim
    · exact h.elim
theorem nil_sound {T T2 ty e s bytes : Nat} {xv z : Value} {new : Ct} {k : SV → St → Prop} (hR : R α st w)
    (hu : P.underlying T = some (.slice e)) (hs : tSize P e = some s) (hby : tBytes P e = some bytes) (hz : tZero P e = some z) (hzs : z.cells.size = s) (hzc : ∀ v ∈ z.cells.toList, Ev.isCell v = true)
    (hsp : 0 < s) (hbp : 0 < bytes) (hsrc : ASrc P α st w T2 e s xv new) (h : evGrown st e s bytes 0 (.lst []) new k) : Got P α st w (Builtin.append_ #[T, T2] ty #[.slice none 0 0, xv]) k := by
  by_cases h0 : new.len = 0
  · unfold evGrown at h
    obtain ⟨_, h⟩ := need_iff.1 h
    obtain ⟨ct', ha, h⟩ := opt_iff.1 h
    obtain ⟨q1, _⟩ := Ct.app_spec ha
    have hrun := run_append_nothing (ty := ty) (n := 0) (sCap := 0) (base := none) hu hs (T := T) hsrc h0 (Nat.zero_le _)
    have hto : To α st w (α.add st.length ⟨0, 0, s, 0, .slice none 0 0, false⟩) (st ++ [some (.own true .row e s ct'.canon)]) w :=
      To.ghost hR (fun _ h => by cases h.1) (fun _ h => by cases h.1) rfl ⟨rfl, hsp, .inl ⟨rfl, by rw [ct'.canon_spec.1, q1, h0]; rfl, _, _, rfl, fun _ => rfl⟩⟩
    rw [lenL_eq] at h
    exact ⟨_, _, _, _, _, hrun, by simp only [SV.rep, SA.rep, SC.val?, Al.add_same], h, hto⟩
  · exact evGrown_sound (sCap := 0) hR hu hs hby hz hzs hzc hsp hbp hsrc rfl ⟨#[], ⟨by simp, fun i hi => by omega⟩, fun w' _ => by simp [Builtin.firstCells]⟩ (by omega) h
theorem ASrc.frz {T2 e s : Nat} {xv : Value} {new : Ct} {p : Pat} {k : Ct → St → Prop} (hR : R α st w) (h : ASrc P α st w T2 e s xv new) (hk : frzCt p new st k) :
    ∃ new' st', k new' st' ∧ Frz α st w st' ∧ ASrc P α st' w T2 e s xv new' := by
  obtain ⟨cs, hf, hr⟩ := h
  obtain ⟨ct', st', h1, h2, h3, h4⟩ := frzCt_sound hR hf hk
  exact ⟨ct', st', h1, h2, cs, h4, by rw [h3]; exact hr⟩
theorem Got.frz {st' : St} {s : Sem Value} {k : SV → St → Prop} (hf : Frz α st w st') (h : Got P α st' w s k) : Got P α st w s k := by
  obtain ⟨v, w', α', sv, st2, h1, h2, h3, h4⟩ := h
  exact ⟨v, w', α', sv, st2, h1, h2, h3, hf.to.trans h4⟩
theorem evAppend_sound {ice : Bool × Bool} {T T2 ty : TypeId} {a x : SA} {av xv : Value} {k : SV → St → Prop} (hR : R α st w) (ha : a.rep α av) (hx : x.rep α xv) (h : evAppend P ice T T2 st a x k) :
    Got P α st w (Builtin.append_ #[T, T2] ty #[av, xv]) k := by
  unfold evAppend at h
  split at h
  · rename_i e hu
    split at h
    · rename_i s bytes z hs hby hz
      split at h
      · rename_i hd
        have hd : 0 < s ∧ 0 < bytes ∧ z.cells.size = s ∧ allCells (z.cells.toList.map .raw) = true := by simpa using hd
        obtain ⟨h1, h2, h3, h3c⟩ := hd
        have hzc : ∀ v ∈ z.cells.toList, Ev.isCell v = true := fun v hv => allCells_spec h3c (.raw v) (List.mem_map.2 ⟨v, hv, rfl⟩)
        obtain ⟨new, h, hsrc⟩ := evMore_sound (P := P) (e := e) hR hs hby hz h3 hx h
        unfold evAppendWith at h
        split at h
        · -- nil
          simp only [SA.rep, SC.val?, Option.some.injEq] at ha
          subst ha
          obtain ⟨new', st', h, hf, hsrc⟩ := hsrc.frz hR h
          exact Got.frz hf (nil_sound hf.to.rep hu hs hby hz h3 hzc h1 h2 hsrc h)
        · obtain ⟨new', st', h, hf, hsrc⟩ := hsrc.frz hR h
          exact Got.frz hf (evAppendAt_sound hf.to.rep hu hs hby hz h3 hzc h1 h2 hsrc ha h)
        · rename_i o i n _
          obtain ⟨new', st', h, hf, hsrc⟩ := hsrc.frz hR h
          refine Got.frz hf ?_
          split at h
          · rename_i wb mk T' m ct hst
            obtain ⟨hn, h⟩ := need_iff.1 h
            have hn : 0 < n := by simpa using hn
            obtain ⟨d, hd, _⟩ := hf.to.rep.good o _ hst
            simp only [SA.rep, SC.val?, hd, Option.some.injEq, Option.getD_none] at ha
            subst ha
            exact evAppendRow_sound hf.to.rep hu hs hby hz h3 hzc h1 h2 hsrc (fun d' hd' _ => by rw [hd] at hd'; cases hd'; exact ⟨fun _ => ⟨rfl, rfl⟩, fun e => by omega⟩) h
          · exact evAppendAt_sound hf.to.rep hu hs hby hz h3 hzc h1 h2 hsrc ha h
        · rename_i q _
          obtain ⟨new', st', h, hf, hsrc⟩ := hsrc.frz hR h
          refine Got.frz hf ?_
          unfold evAppendRef at h
          split at h
          · rename_i T' m ct hst
            split at h
            · rename_i hms
              have hms : m = s ∧ T' = e := by simpa using hms
              obtain ⟨rfl, rfl⟩ := hms
              have hl : St.list st' q = some (q, 0, ct.len) := by simp only [St.list, hst]
              obtain ⟨d, a, c, e1, hd, hv, he1, hp⟩ := hf.to.rep.list_ok hl
              simp only [SA.rep, SC.val?, hd, Option.some.injEq] at ha
              rw [hv] at ha
              subst ha
              rw [hd] at he1; cases he1
              exact regrow_sound hf.to.rep hu hs hby hz h3 hzc h1 h2 hsrc hst hd hp (by omega) rfl (fun x _ => by rw [Nat.zero_add]) h
            · exact h.elim
          · rename_i wb T' m ct hst
            obtain ⟨h0, h⟩ := need_iff.1 h
            have h0 : new'.len = 0 := by simpa using h0
            have hl : St.list st' q = some (q, 0, ct.len) := by simp only [St.list, hst]
            obtain ⟨d, a, c, e1, hd, hv, he1, hp⟩ := hf.to.rep.list_ok hl
            rw [hd] at he1; cases he1
            obtain ⟨_, hd', hg⟩ := hf.to.rep.good q _ hst
            rw [hd] at hd'; cases hd'
            have hle : ct.len ≤ c := by
              by_cases hc0 : 0 < ct.len
              · have := (hp.1 hc0).2
                have := hg.room (show (SO.own false _ T' m ct).rows = some (m, ct) from rfl) rfl hc0
                omega
              · omega
            have ha' := ha
            simp only [SA.rep, SC.val?, hd, Option.some.injEq] at ha
            rw [hv] at ha
            subst ha
            exact Got.pure (sv := .sa (.one (.ref q))) hf.to.rep (run_append_nothing hu hs hsrc h0 hle) ha' h
          · rename_i o i n hst
            have hl : St.list st' q = some (o, i, n) := by simp only [St.list, hst]
            obtain ⟨d, a, c, e1, hd, hv, he1, hp⟩ := hf.to.rep.list_ok hl
            have ha' := ha
            simp only [SA.rep, SC.val?, hd, Option.some.injEq] at ha
            rw [hv] at ha
            subst ha
            split at h
            · rename_i m ct hroomy
              split at h
              · obtain ⟨hin, h⟩ := need_iff.1 h
                have hin : i + n ≤ ct.len := by simpa using hin
                rcases branch_or h with ⟨h0, h⟩ | ⟨_, h⟩
                · have h0 : new'.len = 0 := by simpa using h0
                  have hle : n ≤ c := by
                    by_cases hc0 : 0 < n
                    · obtain ⟨e2, he2, _, _, hroom, _⟩ := hf.to.rep.roomyG hroomy
                      rw [he1] at he2; cases he2
                      have := (hp.1 hc0).2
                      have := hroom (by omega)
                      omega
                    · omega
                  exact Got.pure (sv := .sa (.one (.ref q))) hf.to.rep (run_append_nothing hu hs hsrc h0 hle) ha' h
                · exact evAppendRow_sound hf.to.rep hu hs hby hz h3 hzc h1 h2 hsrc (fun d' hd' _ => by rw [he1] at hd'; cases hd'; exact hp) h
              · exact h.elim
            · exact h.elim
          · exact h.elim
        · exact h.elim
      · exact h.elim
    · exact h.elim
  · exact h.elim
theorem evCopy_sound {T T2 ty : TypeId} {a x : SA} {av xv : Value} {k : SV → St → Prop} (hR : R α st w) (ha : a.rep α av) (hx : x.rep α xv) (h : evCopy P T st a x k) :
    Got P α st w (Builtin.copy_ #[T, T2] ty #[av, xv]) k := by
  unfold evCopy at h
  split at h
  · rename_i e hu
    split at h
    · rename_i s hs
      obtain ⟨new, h2, hsrc⟩ := evSrc_sound (P := P) hR hx h
      clear h
      have h := h2
      clear h2
      unfold evCopyWith at h
      split at h
      · rename_i c _
        simp only [SA.rep, SC.val?, Option.some.injEq] at ha
        subst ha
        refine Got.pure (sv := .sa (.one (.raw (.int .i64 0)))) (v := .int .i64 0) hR ?_ rfl h
        obtain ⟨cs, hf, hr⟩ := hsrc.2 0 (Nat.zero_le _)
        have hr' := hr w rfl
        simp only [Builtin.copy_]
        simp [run_underlying hu, run_size hs, hsrc.1, hr', goInt]
      · rename_i c _
        split at h
        · rename_i o i n hl
          split at h
          · rename_i so hst
            split at h
            · rename_i m ct hcan hrow
              split at h
              · rename_i hms
                have hms : m = s := by simpa using hms
                subst hms
                obtain ⟨d, hd, hg⟩ := hR.good o _ hst
                obtain ⟨d0, ad, cp, hd0, rfl, had⟩ := SC.list_val hR ha hl
                rw [hd] at hd0; cases hd0
                obtain ⟨hin, g⟩ := need_iff.1 h
                have hin : i + n ≤ ct.len := by simpa using hin
                rcases branch_or g with ⟨hn0, g⟩ | ⟨hn0, g⟩
                · obtain rfl : n = 0 := by simpa using hn0
                  refine Got.pure (sv := .sa (.one (.raw (.int .i64 0)))) (v := .int .i64 0) hR ?_ rfl g
                  obtain ⟨cs, hf, hr⟩ := hsrc.2 0 (Nat.zero_le _)
                  have hr' := hr w rfl
                  have hns : cs = #[] := by have := hf.1; simpa using this
                  subst hns
                  simp only [Builtin.copy_]
                  cases ad <;> simp [run_underlying hu, run_size hs, hsrc.1, hr', goInt, storeCells]
                · have hn0 : ¬ n = 0 := by simpa using hn0
                  obtain ⟨ct', ho, g⟩ := opt_iff.1 g
                  have hmin : Nat.min new.len n ≤ new.len := Nat.min_le_left _ _
                  have hmin2 : Nat.min new.len n ≤ n := Nat.min_le_right _ _
                  have hsl : (new.sub 0 (Nat.min new.len n)).len = Nat.min new.len n := Ct.sub_len (by omega)
                  obtain ⟨ns, hf, hr⟩ := hsrc.2 (Nat.min new.len n) hmin
                  have hr' := hr w rfl
                  obtain rfl := had (by omega)
                  have hlive := hg.live hrow (by omega)
                  obtain ⟨hdm, hmp, _⟩ := hg.rowsCell hrow
                  have hf' : FlatCt α st w m (new.sub 0 (Nat.min new.len n)) (new.sub 0 (Nat.min new.len n)).len ns := by
                    rw [hsl]
                    refine ⟨hf.1, fun y hy => ?_⟩
                    rw [Ct.sub_get hy, Nat.zero_add]
                    exact hf.2 y hy
                  obtain ⟨w', x1, x2⟩ := R.over (P := P) hR hst hd hcan hrow hlive hf' (by rw [hsl]; omega) ho
                  refine ⟨.int .i64 (Nat.min new.len n : Nat), w', α, .sa (.one (.raw (.int .i64 (Nat.min new.len n : Nat)))), _, ?_, rfl, g, x2⟩
                  rw [← hdm] at x1
                  simp only [Builtin.copy_]
                  simp [run_underlying hu, run_size hs, hsrc.1, hr', x1, goInt]
              · exact h.elim
            · exact h.elim
          · exact h.elim
        · exact h.elim
      · exact h.elim
    · exact h.elim
  · exact h.elim
end Go.Ev

/- THE ENGINE, part 10: clear, make, conversions, len, cap; maps. -/
namespace Go.Ev
open Go
variable {P : Program} {α : Al} {st : St} {w : World}
theorem evMakeSlice_sound {T : TypeId} {a b : SA} {av bv : Value} {k : SV → St → Prop} (hR : R α st w) (ha : a.rep α av) (hb : b.rep α bv) (h : evMakeSlice P T st a b k) :
    Got P α st w (Instr.makeSlice T av bv) k := by
  unfold evMakeSlice at h
  split at h
  · rename_i e k1 l k2 c hu
    simp only [SA.rep, SC.val?, Option.some.injEq] at ha hb
    subst ha; subst hb
    split at h
    · rename_i z s bytes hz hs hby
      split at h
      · rename_i hd
        have hd : 0 < s ∧ z.cells.size = s ∧ allCells (z.cells.toList.map .raw) = true := by simpa using hd
        obtain ⟨g1, h⟩ := need_iff.1 h
        obtain ⟨g2, h⟩ := need_iff.1 h
        obtain ⟨g3, h⟩ := need_iff.1 h
        obtain ⟨g4, h⟩ := need_iff.1 h
        have g1 : 0 ≤ l := by simpa using g1
        have g2 : l ≤ c := by simpa using g2
        have g3 : c * bytes ≤ 2 ^ 47 := by simpa using g3
        have g4 : c < 2 ^ 63 := by simpa using g4
        have hf := zeroCt_flat (α := α) (st := st) (w := w) (n := c.toNat) hd.2.1 hd.2.2
        have hto := To.row (T := e) (mk := .whole) (m := s) (cap := c.toNat) (ct := zeroCt c.toNat z.cells.toList) (fz := (0, 0)) hR (by simp) hd.1 (.zero (hf.reps hd.1).2.1) hf.1.symm (by rw [zeroCt_len]; exact Nat.le_refl _) (fun _ => zeroCt_len _ _)
          (by intro i hi; rw [zeroCt_len] at hi; exact hf.2 i hi)
        have hwl : IntKind.i64.wrap l = l := IntWalk.i64_in _ (by omega)
        have hwc : IntKind.i64.wrap c = c := IntWalk.i64_in _ (by omega)
        cases hi : P.info? e with
        | none => simp [tSize, hi] at hs
        | some inf =>
          simp [tSize, hi] at hs
          simp [tBytes, hi] at hby
          simp [tZero, hi] at hz
          refine ⟨.slice (some ⟨w.heap.size, 0, none⟩) l.toNat c.toNat, _, _, _, _, ?_, ?_, h, hto⟩
          · have b1 : ¬ ((inf.bytes : Int) * c > 281474976710656) := by rw [hby, Int.mul_comm]; omega
            have b2 : ¬ c < 0 := by omega
            have b3 : ¬ l < 0 := by omega
            have b4 : ¬ l > c := by omega
            by_cases h0 : c.toNat * s = 0
            · have hc0 : c.toNat = 0 := by
                rcases Nat.mul_eq_zero.1 h0 with h | h
                · exact h
                · omega
              have he : ∀ f : Nat → Value, (Array.range 0).map f = #[] := fun f => Array.eq_empty_of_size_eq_zero (by simp)
              simp only [Instr.makeSlice, Sem.run_bind, run_under hu, Result.andThen_ok, asInt, asIntOf, typeInfo, run_program, hi, Sem.run_pure, hwl, hwc]
              simp [b1, b2, b3, b4, sizeOf, typeInfo, hi, hs, h0, newRow]
              rw [he, he]
            · simp only [Instr.makeSlice, Sem.run_bind, run_under hu, Result.andThen_ok, asInt, asIntOf, typeInfo, run_program, hi, Sem.run_pure, hwl, hwc]
              simp [b1, b2, b3, b4, sizeOf, typeInfo, zeroValue, hi, hs, hz, h0, newRow]
          · simp [SV.rep, SA.rep, SC.val?, Al.add_same]
      · exact h.elim
    · exact h.elim
  · exact h.elim
theorem run_clear_zero {z : Value} {s n : Nat} (hz : z.cells.size = s) : Builtin.zeroCells z.cells n = (Array.range (n * s)).map fun i => z.cells[i % z.cells.size]! := by
  simp [Builtin.zeroCells, hz]
theorem evClear_sound {T ty : TypeId} {a : SA} {av : Value} {k : SV → St → Prop} (hR : R α st w) (ha : a.rep α av) (h : evClear P T st a k) :
    Got P α st w (Builtin.clear_ #[T] ty #[av]) k := by
  unfold evClear at h
  split at h
  · rename_i e n c hu
    simp only [SA.rep, SC.val?, Option.some.injEq] at ha
    subst ha
    exact Got.pure (sv := .tup []) (v := .tuple #[]) hR (by simp only [Builtin.clear_]; simp [run_underlying hu]) ⟨[], trivial, rfl⟩ h
  · rename_i e c _ hu
    split at h
    · rename_i o i n hl
      split at h
      · rename_i s z so hs hz hst
        split at h
        · rename_i m ct hcan hrow
          split at h
          · rename_i hms
            obtain ⟨hms, hzs, hac⟩ := of_decide_eq_true hms
            subst hms
            obtain ⟨d, hd, hg⟩ := hR.good o _ hst
            obtain ⟨d0, ad, cp, hd0, rfl, had⟩ := SC.list_val hR ha hl
            rw [hd] at hd0; cases hd0
            obtain ⟨hin, g⟩ := need_iff.1 h
            have hin : i + n ≤ ct.len := by simpa using hin
            rcases branch_or g with ⟨hn0, g⟩ | ⟨hn0, g⟩
            · obtain rfl : n = 0 := by simpa using hn0
              refine Got.pure (sv := .tup []) (v := .tuple #[]) hR ?_ ⟨[], trivial, rfl⟩ g
              simp only [Builtin.clear_]
              cases ad <;> simp [run_underlying hu]
            · have hn0 : ¬ n = 0 := by simpa using hn0
              obtain ⟨ct', ho, g⟩ := opt_iff.1 g
              obtain rfl := had (by omega)
              have hlive := hg.live hrow (by omega)
              obtain ⟨hdm, hmp, _⟩ := hg.rowsCell hrow
              have hf := zeroLike_flat (α := α) (st := st) (w := w) (n := n) ct hzs hac
              have hf' : FlatCt α st w m (zeroLike ct n z.cells.toList) (zeroLike ct n z.cells.toList).len ((Array.range (n * m)).map fun i => z.cells[i % z.cells.size]!) := by rw [zeroLike_len]; exact hf
              obtain ⟨w', x1, x2⟩ := R.over (P := P) hR hst hd hcan hrow hlive hf' (by rw [zeroLike_len]; omega) ho
              refine ⟨.tuple #[], w', α, .tup [], _, ?_, ⟨[], trivial, rfl⟩, g, x2⟩
              simp only [Builtin.clear_]
              cases n with
              | zero => exact absurd rfl hn0
              | succ n =>
                simp at x1
                simp [run_underlying hu, run_zero hz, run_clear_zero hzs, hdm, x1]
          · exact h.elim
        · exact h.elim
      · exact h.elim
    · exact h.elim
  · rename_i x y o hu
    split at h
    · rename_i es cl hst
      obtain ⟨d, hd, h1, xs, h2, h3⟩ := hR.good o _ hst
      simp only [SA.rep, SC.val?, hd, Option.some.injEq] at ha
      rw [h1] at ha
      subst ha
      have hlt : d.blk < w.heap.size := (Array.getElem?_eq_some_iff.1 h2).1
      refine ⟨.tuple #[], { w with heap := w.heap.setIfInBounds d.blk (.map #[] cl) }, α, .tup [], _, ?_, ⟨[], trivial, rfl⟩, h, To.upd hR hst hd rfl (by simp) (fun b hb => by simp [Array.getElem?_setIfInBounds]; intro e; exact absurd e.symm hb) (.of rfl rfl) rfl rfl ⟨h1, [], by simp [Array.getElem?_setIfInBounds, hlt], trivial⟩ (fun _ h => h) (fun _ h => h.elim) (fun _ _ _ h => h.elim)⟩
      simp only [Builtin.clear_]
      simp [run_underlying hu, getObj, setObj, Sem.run, h2]
    · exact h.elim
  · exact h.elim
theorem evBytes_sound {T T' e : TypeId} {o i n c : Nat} {a : Option Addr} {d : Den} {k : SV → St → Prop} (hR : R α st w) (h1 : P.underlying T = some (.slice e)) (h2 : P.underlying T' = some .string) (hd : α o = some d)
    (ha : 0 < n → a = some ⟨d.blk, d.off + i * d.m, none⟩) (h : evBytes P st e o i n k) : Got P α st w (convert T T' (.slice a n c)) k := by
  unfold evBytes at h
  split at h
  · rename_i m ct h3 hst
    split at h
    · rename_i hm
      have hm : m = 1 := by simpa using hm
      subst hm
      obtain ⟨hin, h⟩ := need_iff.1 h
      have hin : i + n ≤ ct.len := by simpa using hin
      obtain ⟨l, hl, h⟩ := opt_iff.1 h
      obtain ⟨so, d0, _, _, hd0, _, hdm, _, hcells⟩ := hR.rowsG hst
      rw [hd] at hd0; cases hd0
      have hcells : CellsAt α st w d 1 ct := hcells
      obtain ⟨cs, hf, hrun⟩ := hcells.flat (P := P) hin
      have hrun := hrun w rfl
      obtain ⟨l1, l2⟩ := ctInts_spec hl
      rw [Ct.sub_len hin] at l1 l2
      have hcs : cs = (l.map fun n => Value.int .u8 n).toArray := by
        apply Array.ext'
        apply List.ext_getElem?
        intro j
        by_cases hj : j < n
        · have := (hf.2 j hj).2 0 (.raw (.int .u8 (l[j]?.getD 0))) (by rw [l2 j hj]; rfl)
          obtain ⟨v, x1, x2, _⟩ := this
          have x1 := x1.1.val (by simp)
          simp [SC.val?] at x1
          subst x1
          have hjl : j < l.length := by omega
          simp at x2
          simp [x2, hjl]
        · rw [List.getElem?_eq_none (by simp [hf.1]; omega), List.getElem?_eq_none (by simp; omega)]
      refine Got.pure (sv := .sa (.one (.raw (.string (strOf l))))) (v := .string (strOf l)) hR ?_ rfl h
      by_cases h0 : 0 < n
      · obtain rfl := ha h0
        have hrun' : (loadCells ⟨d.blk, d.off + i * d.m, none⟩ n).run P w = .ok (l.map (Value.int .u8)).toArray w := by
          rw [hdm]
          rw [hcs, Nat.mul_one n] at hrun
          exact hrun
        rw [run_convert_bytes_string w T T' e _ n _ h1 h3 h2, run_bytesToString w _ n _ l hrun', foldl_push_bytes]
        simp [ByteArray.empty, ByteArray.emptyWithCapacity, strOf]
        rfl
      · obtain rfl : n = 0 := by omega
        obtain rfl : l = [] := List.eq_nil_of_length_eq_zero l1
        cases a with
        | none => simp [convert, run_under h1, run_under h2, run_under h3, Conv.bytesToString, ByteArray.empty, ByteArray.emptyWithCapacity]; rfl
        | some p => simp [convert, run_under h1, run_under h2, run_under h3, Conv.bytesToString, loadCells, loadCellsFrom, ByteArray.empty, ByteArray.emptyWithCapacity]; rfl
    · exact h.elim
  · exact h.elim
theorem bytesRow_isCell (s : ByteArray) (cap : Nat) : ∀ v ∈ (bytesRow s cap).toList, Ev.isCell v = true := by
  intro v hv
  simp only [bytesRow, Array.toList_append, Array.toList_map, List.mem_append, List.mem_map, Array.toList_replicate] at hv
  rcases hv with ⟨x, _, rfl⟩ | hv
  · rfl
  · rw [(List.mem_replicate.1 hv).2]; rfl
theorem evConvert_sound {T T' : TypeId} {x : SA} {xv : Value} {k : SV → St → Prop} (hR : R α st w) (hx : x.rep α xv) (h : evConvert P T T' st x k) :
    Got P α st w (convert T T' xv) k := by
  unfold evConvert at h
  split at h
  · rename_i s
    simp only [SA.rep, SC.val?, Option.some.injEq] at hx
    subst hx
    split at h
    · rename_i h1 h2
      exact Got.pure (sv := .sa (.one (.raw (.string s)))) (v := .string s) hR (by simp [convert, run_under h1, run_under h2]) rfl h
    · rename_i e h1 h2
      split at h
      · rename_i h3
        have c2 := run_bytes_of_string (P := P) w T T' e s h1 h2 h3
        have c1 : s.size ≤ grownCap w s.size 0 e := by simp only [grownCap, Question.cut]; omega
        generalize grownCap w s.size 0 e = cap at c1 c2
        have hss : s.data.size = s.size := rfl
        have hsz : (bytesRow s cap).size = cap := by simp [bytesRow, hss]; omega
        have hto := To.rowOwn (T := e) (m := 1) (cap := cap) (ct := .ints .u8 (strInts s)) (cs := bytesRow s cap) (fz := ((bytesRow s cap).size, (bytesRow s cap).size + 1)) (To.drew hR).rep
          (by simp) ⟨bytesRow_isCell s cap, .inr ⟨rfl, rfl⟩⟩ (by rw [hsz, Nat.mul_one]; exact Nat.le_refl _) (by simp [strInts, Ct.len, hss, c1]) (by
            intro i hi
            simp [strInts, Ct.len, hss] at hi
            refine ⟨by simp [strInts, Ct.get], fun j c hj => ?_⟩
            simp only [strInts, Ct.get] at hj
            cases j with
            | succ j => simp at hj
            | zero =>
              have hib : i < s.data.size := hi
              simp at hj
              subst hj
              refine ⟨_, CellG.of rfl, ?_, rfl⟩
              simp only [Nat.mul_one, Nat.add_zero, bytesRow]
              rw [Array.getElem?_append_left (by simpa using hib), Array.getElem?_map, Array.getElem?_eq_getElem hib]
              rfl)
        have hl : (Ct.ints .u8 (strInts s)).len = s.size := by simp [strInts, Ct.len, hss]
        rw [hl] at hto
        rw [lenL_eq] at h
        refine ⟨_, _, _, _, _, c2, ?_, h, (To.drew hR).trans hto⟩
        simp [SV.rep, SA.rep, SC.val?, Al.add_same]
      · exact h.elim
    · exact h.elim
  · rename_i v hv
    simp only [SA.rep, SC.val?, Option.some.injEq] at hx
    subst hx
    obtain ⟨r, hr, h⟩ := opt_iff.1 h
    exact Got.pure (sv := .sa (.one (.raw r))) hR (pureSem_run hr w) rfl h
  · rename_i o i n c
    split at h
    · rename_i e h1 h2
      obtain ⟨d, hd⟩ : ∃ d, α o = some d := by
        simp only [SA.rep, SC.val?] at hx
        split at hx
        · rename_i d hd; exact ⟨d, hd⟩
        · simp at hx
      simp only [SA.rep, SC.val?, hd, Option.some.injEq] at hx
      subst hx
      exact evBytes_sound hR h1 h2 hd (fun _ => rfl) h
    · rename_i e0 e h1 h2
      split at h
      · rename_i T1 ct hc he hst
        obtain ⟨rfl, rfl, rfl⟩ := of_decide_eq_true hc
        obtain ⟨hn, hK⟩ := need_iff.1 h
        have hn := of_decide_eq_true hn
        rw [h2] at h1
        cases h1
        obtain ⟨d, hd, hg⟩ := hR.good o _ hst
        obtain ⟨g1, g2, cs, fz, h5, h6, h7, h8, h9, h10⟩ := hg
        have hcap := h9 rfl
        simp only [SA.rep, SC.val?, hd, Option.some.injEq, Option.getD_none] at hx
        subst hx
        have hlt : d.blk < w.heap.size := (Array.getElem?_eq_some_iff.1 h5).1
        have hWr : Wr α st w d.blk := ⟨o, _, d, hst, hd, rfl, rfl⟩
        obtain ⟨so2, d2, _, _, hd2, _, _, _, hcells⟩ := hR.rowsG (show st.rows o = some (1, ct) by simp only [St.rows, hst]; rfl)
        rw [hd] at hd2; cases hd2
        have hoth : ∀ b, b ≠ d.blk → (w.freeze ⟨d.blk, cs.size, none⟩ 1).heap[b]? = w.heap[b]? := fun b hb => by
          unfold World.freeze
          rw [if_neg (by decide)]
          simp only [Array.getElem?_modify]
          rw [if_neg (fun e => hb e.symm)]
        have hsh : w.shape? d.blk = some (T1, cs.size) := by simp [World.shape?, h5]
        have hfz : fz = (0, 0) := h6.2.elim id fun x => by cases x.1
        subst hfz
        have hnew : (w.freeze ⟨d.blk, cs.size, none⟩ 1).heap[d.blk]? = some (.cells cs T1 (cs.size, cs.size + 1)) := by
          unfold World.freeze
          rw [if_neg (by decide)]
          simp only [Array.getElem?_modify, if_true, h5, Option.map_some]
          simp
        have hcell2 : ct.Cells (w.freeze ⟨d.blk, cs.size, none⟩ 1) α 1 fun i j => cs[d.off + i * 1 + j]? := fun i hi => ⟨(h10 i hi).1, fun j c hj => by
          obtain ⟨v, y1, y2, y3⟩ := (hcells i hi).2 j c hj
          exact ⟨v, y1.carry hR (Al.le.refl _) (fun b _ hb => hoth b fun e => by subst e; exact hR.apart hWr hb) (by unfold World.freeze; simp), by rw [cell_of_cells h5] at y2; exact y2, y3⟩⟩
        have hgood : Good (α.add st.length ⟨d.blk, d.off, 1, d.cap, .slice (some ⟨d.blk, d.off, none⟩) ct.len d.cap, true⟩) (w.freeze ⟨d.blk, cs.size, none⟩ 1) ⟨d.blk, d.off, 1, d.cap, .slice (some ⟨d.blk, d.off, none⟩) ct.len d.cap, true⟩ (.own true .row T1 1 ct) :=
          ⟨rfl, Nat.one_pos, .inr ⟨rfl, rfl, h8, cs, _, hnew, ⟨h6.1, .inr ⟨rfl, rfl⟩⟩, by rw [← h7]; exact Nat.le_refl _, hcell2.mono (Al.le_add (hR.none _ (Nat.le_refl _))) (fun _ _ _ e => e)⟩⟩
        have hIce : ∀ b, Ice (w.freeze ⟨d.blk, cs.size, none⟩ 1) ⟨d.blk, d.off, 1, d.cap, .slice (some ⟨d.blk, d.off, none⟩) ct.len d.cap, true⟩ (.own true .row T1 1 ct) b → Is α st w b := by
          intro b hb
          obtain ⟨_, i, j, kk, xs, v, n1, n2, n3, n4⟩ := hb
          rw [cell_of_cells hnew] at n3
          obtain ⟨v', y1, y2, _⟩ := (hcells i n1).2 j _ n2
          rw [cell_of_cells h5] at y2
          rw [n3] at y2; cases y2
          exact y1.2 kk xs b rfl n4
        have hto := To.regrow (w' := w.freeze ⟨d.blk, cs.size, none⟩ 1) (so' := .own true .row T1 1 ct) hR hst hd rfl rfl (by unfold World.freeze; simp) (fun b hb => hoth b fun e => hb e) (.of (by unfold World.freeze; simp) (by unfold World.freeze; simp)) (by unfold World.freeze; simp) (by unfold World.freeze; simp) hgood (fun b hb => hb.2)
          (fun b hb => .inr (hIce b hb)) (fun _ b hb hib => hR.apart ⟨o, _, d, hst, hd, rfl, hb.2⟩ (hIce b hib))
        rw [lenL_eq] at hK
        refine ⟨.slice (some ⟨d.blk, d.off, none⟩) n d.cap, _, _, _, _, ?_, ?_, hK, hto⟩
        · simp [convert, run_under h2, run_under he, markStringish, hsh]
        · simp only [SV.rep, SA.rep, SC.val?, Al.add_same, hn]
      · exact h.elim
    · exact h.elim
  · rename_i q
    split at h
    · rename_i e h1 h2
      split at h
      · rename_i o i n hl
        obtain ⟨d, a, c, e1, hd, hv, he1, hp⟩ := hR.list_ok hl
        simp only [SA.rep, SC.val?, hd, Option.some.injEq] at hx
        rw [hv] at hx
        subst hx
        exact evBytes_sound hR h1 h2 he1 (fun h0 => (hp.1 h0).1) h
      · exact h.elim
    · exact h.elim
  · exact h.elim
end Go.Ev

/- THE ENGINE, part 11: maps; len, cap. -/
namespace Go.Ev
open Go
variable {P : Program} {α : Al} {st : St} {w : World}
theorem SA.raw?_spec {a : SA} {v u : Value} (h : a.raw? = some v) (hr : a.rep α u) : u = v := by
  unfold SA.raw? at h
  split at h
  · cases h; simp only [SA.rep, SC.val?, Option.some.injEq] at hr; exact hr.symm
  · simp at h
  · split at h
    · rename_i vs hv
      cases h
      obtain ⟨us, r, rfl⟩ := hr
      rw [rawL_spec hv r]
    · simp at h
theorem evFind_sound {kt : TypeId} {d : TypeDesc} {x : Value} : ∀ {es : List SE} {xs : List MapEntry} {i : Nat} {K : Option (Nat × SE) → Prop}, EntsRep α es xs → evFind P kt d x es i K →
    ∃ r res, K r ∧ (plainKey d = true → Instr.findNow d x xs i = some res) ∧ (plainKey d = false → (Instr.findAsking kt x xs i).run P w = .ok res w) ∧
      ((r = none ∧ res = none) ∨ ∃ n en xe, r = some (i + n, en) ∧ es[n]? = some en ∧ xs[n]? = some xe ∧ evSame P kt d x en.key = some true ∧ res = some (i + n, xe.val))
  | [], [], i, K, _, h => ⟨none, none, h, fun _ => rfl, fun _ => by simp [Instr.findAsking], .inl ⟨rfl, rfl⟩⟩
  | e :: es, xe :: xs, i, K, hr, h => by
    obtain ⟨⟨h1, h2, h3⟩, hr⟩ := hr
    simp only [evFind] at h
    split at h
    · rename_i b hb
      rcases branch_or h with ⟨rfl, h⟩ | ⟨rfl, h⟩
      · refine ⟨_, some (i, xe.val), h, fun hp => ?_, fun hp => ?_, .inr ⟨0, e, xe, rfl, rfl, rfl, hb, rfl⟩⟩
        · simp only [evSame, hp] at hb
          simp [Instr.findNow, h1, hb]
        · simp only [evSame, hp] at hb
          simp [Instr.findAsking, h1, pureSem_run hb]
      · obtain ⟨r, res, g1, g2, g3, g4⟩ := evFind_sound hr h
        refine ⟨r, res, g1, fun hp => ?_, fun hp => ?_, ?_⟩
        · have hb' := hb
          simp only [evSame, hp] at hb'
          simp [Instr.findNow, h1, hb', g2 hp]
        · have hb' := hb
          simp only [evSame, hp] at hb'
          simp [Instr.findAsking, h1, pureSem_run hb', g3 hp]
        · rcases g4 with g4 | ⟨n, en, xe', a1, a2, a3, a4, a5⟩
          · exact .inl g4
          · exact .inr ⟨n + 1, en, xe', by rw [a1, show i + 1 + n = i + (n + 1) from by omega], by simpa using a2, by simpa using a3, a4, by rw [a5, show i + 1 + n = i + (n + 1) from by omega]⟩
    · exact h.elim
  | [], _ :: _, _, _, hr, _ => hr.elim
  | _ :: _, [], _, _, hr, _ => hr.elim
theorem sameNow_other {d : TypeDesc} {a b : Value} (h : plainKey d = false) : Instr.sameNow d a b = none := by
  cases d <;> first | (simp [plainKey] at h; done) | rfl
theorem findKey_run {kt : TypeId} {d : TypeDesc} {x : Value} {xs : List MapEntry} {res : Option (Nat × Value)} (hu : P.underlying kt = some d)
    (h1 : plainKey d = true → Instr.findNow d x xs 0 = some res) (h2 : plainKey d = false → (Instr.findAsking kt x xs 0).run P w = .ok res w) : (Instr.findKey kt x xs).run P w = .ok res w := by
  simp only [Instr.findKey, Sem.run_bind, run_under hu, Result.andThen_ok]
  cases hp : plainKey d with
  | true => rw [h1 hp]; rfl
  | false =>
    cases xs with
    | nil =>
      have := h2 hp
      simp [Instr.findAsking] at this
      subst this
      rfl
    | cons e r =>
      simp only [Instr.findNow, sameNow_other hp]
      exact h2 hp
theorem okKey_run {b : Bool} {kt : TypeId} {x : Value} (h : okKey P b kt x = true) (w : World) : (Instr.checkKey b 10000 kt x).run P w = .ok () w := by
  unfold okKey at h
  split at h
  · rename_i u hu; cases u; exact pureSem_run hu w
  · simp at h
theorem EntsRep.length : ∀ {es : List SE} {xs : List MapEntry}, EntsRep α es xs → xs.length = es.length
  | [], [], _ => rfl
  | _ :: _, _ :: _, h => by simp [EntsRep.length h.2]
  | [], _ :: _, h => h.elim
  | _ :: _, [], h => h.elim
theorem EntsRep.get : ∀ {es : List SE} {xs : List MapEntry}, EntsRep α es xs → ∀ {n : Nat} {en : SE}, es[n]? = some en → ∃ xe, xs[n]? = some xe ∧ xe.key = en.key ∧ xe.born = en.born ∧ en.val.rep α xe.val
  | [], [], _, _, _, h => by simp at h
  | e :: es, x :: xs, hr, 0, en, h => by simp at h; subst h; exact ⟨x, rfl, hr.1⟩
  | e :: es, x :: xs, hr, n + 1, en, h => by simpa using EntsRep.get hr.2 (by simpa using h)
  | [], _ :: _, h, _, _, _ => h.elim
  | _ :: _, [], h, _, _, _ => h.elim
theorem EntsRep.snoc : ∀ {es : List SE} {xs : List MapEntry} {e : SE} {x : MapEntry}, EntsRep α es xs → x.key = e.key → x.born = e.born → e.val.rep α x.val → EntsRep α (es ++ [e]) (xs ++ [x])
  | [], [], _, _, _, h1, h2, h3 => ⟨⟨h1, h2, h3⟩, trivial⟩
  | _ :: _, _ :: _, _, _, hr, h1, h2, h3 => ⟨hr.1, EntsRep.snoc hr.2 h1 h2 h3⟩
  | [], _ :: _, _, _, h, _, _, _ => h.elim
  | _ :: _, [], _, _, h, _, _, _ => h.elim
theorem EntsRep.setVal : ∀ {es : List SE} {xs : List MapEntry} {n : Nat} {x : Value} {v : SA} {u : Value}, EntsRep α es xs → v.rep α u → EntsRep α (setVal es n x v) (xs.modify n fun e => { e with key := x, val := u })
  | [], [], _, _, _, _, _, _ => by simp [Ev.setVal, EntsRep]
  | e :: es, y :: xs, 0, x, v, u, hr, hv => by simp only [Ev.setVal, List.modify_cons, if_true]; exact ⟨⟨rfl, hr.1.2.1, hv⟩, hr.2⟩
  | e :: es, y :: xs, n + 1, x, v, u, hr, hv => by
    simp only [Ev.setVal, List.modify_succ_cons]
    exact ⟨hr.1, EntsRep.setVal hr.2 hv⟩
  | [], _ :: _, _, _, _, _, h, _ => h.elim
  | _ :: _, [], _, _, _, _, h, _ => h.elim
theorem EntsRep.setKey : ∀ {es : List SE} {xs : List MapEntry} {n : Nat} {x : Value}, EntsRep α es xs → EntsRep α (setKey es n x) (xs.modify n fun e => { e with key := x })
  | [], [], _, _, _ => by simp [Ev.setKey, EntsRep]
  | e :: es, y :: xs, 0, x, hr => by simp only [Ev.setKey, List.modify_cons, if_true]; exact ⟨⟨rfl, hr.1.2.1, hr.1.2.2⟩, hr.2⟩
  | e :: es, y :: xs, n + 1, x, hr => by
    simp only [Ev.setKey, List.modify_succ_cons]
    exact ⟨hr.1, EntsRep.setKey hr.2⟩
  | [], _ :: _, _, _, h => h.elim
  | _ :: _, [], _, _, h => h.elim
theorem EntsRep.erase : ∀ {es : List SE} {xs : List MapEntry} {n : Nat}, EntsRep α es xs → EntsRep α (eraseAt es n) (xs.eraseIdx n)
  | [], [], _, _ => by simp [Ev.eraseAt, EntsRep]
  | e :: es, y :: xs, 0, hr => by simp only [Ev.eraseAt, List.eraseIdx_cons_zero]; exact hr.2
  | e :: es, y :: xs, n + 1, hr => by simp only [Ev.eraseAt, List.eraseIdx_cons_succ]; exact ⟨hr.1, EntsRep.erase hr.2⟩
  | [], _ :: _, _, h => h.elim
  | _ :: _, [], _, h => h.elim
theorem map_upd (hR : R α st w) {o : Nat} {d : Den} {es es' : List SE} {cl cl' : Nat} {xs' : List MapEntry} (hst : st.get o = some (.mp true es cl)) (hd : α o = some d) (hlt : d.blk < w.heap.size)
    (hv : d.val = .map (some d.blk)) (hr : EntsRep α es' xs') :
    To α st w α (st.put o (some (.mp true es' cl'))) { w with heap := w.heap.setIfInBounds d.blk (.map xs'.toArray cl') } :=
  To.upd hR hst hd rfl (by simp) (fun b hb => by simp [Array.getElem?_setIfInBounds]; intro e; exact absurd e.symm hb) (.of rfl rfl) rfl rfl ⟨hv, xs', by simp [Array.getElem?_setIfInBounds, hlt], hr⟩ (fun _ h => h) (fun _ h => h.elim) (fun _ _ _ h => h.elim)
theorem run_getObj_map {r cl : Nat} {xs : Array MapEntry} (h : w.heap[r]? = some (.map xs cl)) : (getObj r).run P w = .ok (.map xs cl) w := by
  simp [getObj, Sem.run, h]
theorem run_setObj_map {r cl cl' : Nat} {xs xs' : Array MapEntry} (h : w.heap[r]? = some (.map xs cl)) : (setObj r (.map xs' cl')).run P w = .ok () { w with heap := w.heap.setIfInBounds r (.map xs' cl') } := by
  simp [setObj, Sem.run, h]
theorem isNil_eq {β γ : Type} {es : List β} {xs : List γ} (h : xs.length = es.length) : isNil es = xs.toArray.isEmpty := by
  cases es <;> cases xs <;> first | rfl | simp at h
theorem evLookup_sound {T : TypeId} {m ix : SA} {mv iv : Value} {ok : Bool} {k : SV → Prop} (hR : R α st w) (hm : m.rep α mv) (hi : ix.rep α iv) (h : evLookup P T st m ix ok k) :
    ∃ sv v, (Instr.lookup T mv iv ok).run P w = .ok v w ∧ sv.rep α v ∧ k sv := by
  unfold evLookup at h
  split at h
  · rename_i kt e x hu hx
    have hiv := SA.raw?_spec hx hi
    subst hiv
    split at h
    · rename_i z d hz hd
      have fin : ∀ (r : Option (Nat × SE)) (v : Value) (b : Bool), evFound z ok k r →
          ((r = none ∧ v = z ∧ b = false) ∨ ∃ n en, r = some (n, en) ∧ en.val.rep α v ∧ b = true) →
          ∃ sv : SV, sv.rep α (if ok = true then .tuple #[v, .bool b] else v) ∧ k sv := by
        intro r v b h hc
        rcases hc with ⟨rfl, rfl, rfl⟩ | ⟨n, en, rfl, hv, rfl⟩
        · cases ok with
          | true => exact ⟨.tup [SA.ofValue v, .one (.raw (.bool false))], ⟨[v, .bool false], ⟨SA.rep_ofValue v, rfl, trivial⟩, rfl⟩, h⟩
          | false => exact ⟨.sa (SA.ofValue v), SA.rep_ofValue v, h⟩
        · cases ok with
          | true => exact ⟨.tup [en.val, .one (.raw (.bool true))], ⟨[v, .bool true], ⟨hv, rfl, trivial⟩, rfl⟩, h⟩
          | false => exact ⟨.sa en.val, hv, h⟩
      split at h
      · -- nil
        simp only [SA.rep, SC.val?, Option.some.injEq] at hm
        subst hm
        split at h
        · rename_i hk
          obtain ⟨sv, h1, h2⟩ := fin none z false h (.inl ⟨rfl, rfl, rfl⟩)
          refine ⟨sv, _, ?_, h1, h2⟩
          simp [Instr.lookup, run_under hu, okKey_run hk, Instr.findKey, run_under hd, Instr.findNow, run_zero hz]
        · exact h.elim
      · rename_i o
        split at h
        · rename_i wr es cl hst
          split at h
          · rename_i hk
            obtain ⟨dn, hdn, g1, xs, g2, g3⟩ := hR.good o _ hst
            simp only [SA.rep, SC.val?, hdn, Option.some.injEq] at hm
            rw [g1] at hm
            subst hm
            obtain ⟨r, res, f1, f2, f3, f4⟩ := evFind_sound (w := w) g3 h
            have hfind := findKey_run hd f2 f3
            have hemp := isNil_eq g3.length
            rw [hemp] at hk
            rcases f4 with ⟨rfl, rfl⟩ | ⟨n, en, xe, rfl, a2, a3, a4, rfl⟩
            · obtain ⟨sv, h1, h2⟩ := fin none z false f1 (.inl ⟨rfl, rfl, rfl⟩)
              refine ⟨sv, _, ?_, h1, h2⟩
              simp only [Instr.lookup, Sem.run_bind, run_under hu, Result.andThen_ok, run_getObj_map g2, Sem.run_pure, okKey_run hk, hfind, run_zero hz]
            · obtain ⟨xe', b1, b2, b3, b4⟩ := g3.get a2
              rw [a3] at b1; cases b1
              obtain ⟨sv, h1, h2⟩ := fin (some (0 + n, en)) xe.val true f1 (.inr ⟨_, en, rfl, b4, rfl⟩)
              refine ⟨sv, _, ?_, h1, h2⟩
              simp only [Instr.lookup, Sem.run_bind, run_under hu, Result.andThen_ok, run_getObj_map g2, Sem.run_pure, okKey_run hk, hfind]
          · exact h.elim
        · exact h.elim
      · exact h.elim
    · exact h.elim
  · exact h.elim
theorem bytes_eq {a b : ByteArray} (h : (a == b) = true) : a = b := by
  cases a with | mk a => cases b with | mk b => exact congrArg _ (eq_of_beq (show (a == b) = true from h))
theorem bytes_refl (a : ByteArray) : (a == a) = true := by
  cases a with | mk a => exact (beq_self_eq_true a : (a == a) = true)
theorem stays_run {kt : TypeId} {d : TypeDesc} {old x : Value} {p : Prop} (hs : evSame P kt d x old = some true) (h : evStays d old x p) : (Instr.keyThatStays old x).run P w = .ok x w ∧ p := by
  unfold evStays at h
  split at h
  · rename_i hp
    refine ⟨?_, h⟩
    simp only [evSame, hp] at hs
    have : Instr.sameBits 10000 old x = true := by
      unfold Instr.sameNow at hs
      split at hs
      · split at hs
        · rename_i hk; subst hk
          simp at hs
          subst hs
          simp [Instr.sameBits]
        · simp at hs
      · have he := bytes_eq (Option.some.inj hs); subst he; simp [Instr.sameBits, bytes_refl]
      · have he := eq_of_beq (Option.some.inj hs); subst he; simp [Instr.sameBits]
      · simp at hs
    simp [Instr.keyThatStays, this]
  · obtain ⟨hb, h⟩ := need_iff.1 h
    exact ⟨by simp [Instr.keyThatStays, hb], h⟩
theorem evMapUpdate_sound {T : TypeId} {m ix v : SA} {mv iv vv : Value} {k : St → Prop} (hR : R α st w) (hm : m.rep α mv) (hi : ix.rep α iv) (hv : v.rep α vv) (h : evMapUpdate P T st m ix v k) :
    ∃ w' st', (Instr.mapUpdate T mv iv vv).run P w = .ok () w' ∧ k st' ∧ To α st w α st' w' := by
  unfold evMapUpdate at h
  split at h
  · rename_i kt e x hu hx
    have hiv := SA.raw?_spec hx hi
    subst hiv
    split at h
    · rename_i d o hd
      split at h
      · rename_i es cl hst
        split at h
        · rename_i hk
          obtain ⟨dn, hdn, g1, xs, g2, g3⟩ := hR.good o _ hst
          have hlt : dn.blk < w.heap.size := (Array.getElem?_eq_some_iff.1 g2).1
          simp only [SA.rep, SC.val?, hdn, Option.some.injEq] at hm
          rw [g1] at hm
          subst hm
          obtain ⟨r, res, f1, f2, f3, f4⟩ := evFind_sound (w := w) g3 h
          unfold evUpdWith at f1
          have hfind := findKey_run hd f2 f3
          rcases f4 with ⟨rfl, rfl⟩ | ⟨n, en, xe, rfl, a2, a3, a4, rfl⟩
          · refine ⟨_, _, ?_, f1, map_upd (cl' := cl + 1) hR hst hdn hlt g1 (g3.snoc (e := { key := iv, val := v, born := cl }) (x := { key := iv, val := vv, born := cl }) rfl rfl hv)⟩
            simp only [Instr.mapUpdate, Sem.run_bind, run_under hu, Result.andThen_ok, run_getObj_map g2, okKey_run hk, hfind, run_setObj_map g2]
            simp
          · obtain ⟨xe', b1, b2, b3, b4⟩ := g3.get a2
            rw [a3] at b1; cases b1
            obtain ⟨hst2, f1⟩ := stays_run (w := w) a4 f1
            refine ⟨_, _, ?_, f1, map_upd (cl' := cl) hR hst hdn hlt g1 (g3.setVal (n := 0 + n) (x := iv) hv)⟩
            have hkey : ((xs.toArray[0 + n]?).map (·.key)).getD iv = en.key := by simp [a3, b2]
            simp only [Instr.mapUpdate, Sem.run_bind, run_under hu, Result.andThen_ok, run_getObj_map g2, okKey_run hk, hfind, hkey, hst2, run_setObj_map g2]
            simp
        · exact h.elim
      · exact h.elim
    · exact h.elim
  · exact h.elim
theorem evDelete_sound {T ty : TypeId} {m ix : SA} {mv iv : Value} {k : St → Prop} (hR : R α st w) (hm : m.rep α mv) (hi : ix.rep α iv) (h : evDelete P T st m ix k) (ts : List TypeId) :
    ∃ w' st', (Builtin.delete_ (T :: ts).toArray ty #[mv, iv]).run P w = .ok (.tuple #[]) w' ∧ k st' ∧ To α st w α st' w' := by
  unfold evDelete at h
  split at h
  · rename_i kt e x hu hx
    have hiv := SA.raw?_spec hx hi
    subst hiv
    split at h
    · rename_i d o hd
      split at h
      · rename_i es cl hst
        split at h
        · rename_i hk
          obtain ⟨dn, hdn, g1, xs, g2, g3⟩ := hR.good o _ hst
          have hlt : dn.blk < w.heap.size := (Array.getElem?_eq_some_iff.1 g2).1
          simp only [SA.rep, SC.val?, hdn, Option.some.injEq] at hm
          rw [g1] at hm
          subst hm
          rw [isNil_eq g3.length] at hk
          obtain ⟨r, res, f1, f2, f3, f4⟩ := evFind_sound (w := w) g3 h
          unfold evDelWith at f1
          have hfind := findKey_run hd f2 f3
          have hck := okKey_run (P := P) (b := xs.isEmpty) (by simpa using hk) w
          rcases f4 with ⟨rfl, rfl⟩ | ⟨n, en, xe, rfl, a2, a3, a4, rfl⟩
          · have hto := map_upd (cl' := cl) hR hst hdn hlt g1 g3
            have hput : st.put o (some (.mp true es cl)) = st := by
              rw [St.put_eq]
              have hlt := St.get_lt hst
              rw [St.get_eq, List.getElem?_eq_getElem hlt] at hst
              simp at hst
              rw [← hst]
              exact List.set_getElem_self hlt
            rw [hput] at hto
            refine ⟨_, _, ?_, f1, hto⟩
            simp only [Builtin.delete_]
            simp [run_underlying hu, run_getObj_map g2, hck, hfind, run_setObj_map g2]
          · refine ⟨_, _, ?_, f1, map_upd (cl' := cl) hR hst hdn hlt g1 (g3.erase (n := 0 + n))⟩
            simp only [Builtin.delete_]
            simp [run_underlying hu, run_getObj_map g2, hck, hfind, run_setObj_map g2]
        · exact h.elim
      · exact h.elim
    · exact h.elim
  · exact h.elim
theorem evMapEntry_sound {T : TypeId} {m ix : SA} {mv iv : Value} {k : SV → St → Prop} (hR : R α st w) (hm : m.rep α mv) (hi : ix.rep α iv) (h : evMapEntry P T st m ix k) :
    Got P α st w (Instr.mapEntry T mv iv) k := by
  unfold evMapEntry at h
  split at h
  · rename_i kt e x hu hx
    have hiv := SA.raw?_spec hx hi
    subst hiv
    split at h
    · rename_i d o z hd hz
      split at h
      · rename_i es cl hst
        split at h
        · rename_i hk
          obtain ⟨dn, hdn, g1, xs, g2, g3⟩ := hR.good o _ hst
          have hlt : dn.blk < w.heap.size := (Array.getElem?_eq_some_iff.1 g2).1
          simp only [SA.rep, SC.val?, hdn, Option.some.injEq] at hm
          rw [g1] at hm
          subst hm
          obtain ⟨r, res, f1, f2, f3, f4⟩ := evFind_sound (w := w) g3 h
          unfold evEntryWith at f1
          have hfind := findKey_run hd f2 f3
          rcases f4 with ⟨rfl, rfl⟩ | ⟨n, en, xe, rfl, a2, a3, a4, rfl⟩
          · refine ⟨.tuple #[z, .int .i64 cl], _, α, .tup [SA.ofValue z, .one (.raw (.int .i64 cl))], _, ?_, ⟨[z, .int .i64 cl], ⟨SA.rep_ofValue z, rfl, trivial⟩, rfl⟩, f1,
              map_upd (cl' := cl + 1) hR hst hdn hlt g1 (g3.snoc (e := { key := iv, val := SA.ofValue z, born := cl }) (x := { key := iv, val := z, born := cl }) rfl rfl (SA.rep_ofValue z))⟩
            simp only [Instr.mapEntry, Sem.run_bind, run_under hu, Result.andThen_ok, run_getObj_map g2, okKey_run hk, hfind, run_setObj_map g2, run_zero hz]
            simp [goInt]
          · obtain ⟨xe', b1, b2, b3, b4⟩ := g3.get a2
            rw [a3] at b1; cases b1
            obtain ⟨hst2, f1⟩ := stays_run (w := w) a4 f1
            refine ⟨.tuple #[xe.val, .int .i64 en.born], _, α, .tup [en.val, .one (.raw (.int .i64 en.born))], _, ?_, ⟨[xe.val, .int .i64 en.born], ⟨b4, rfl, trivial⟩, rfl⟩, f1, map_upd (cl' := cl) hR hst hdn hlt g1 (g3.setKey (n := 0 + n) (x := iv))⟩
            have hkey : ((xs.toArray[0 + n]?).map (·.key)).getD iv = en.key := by simp [a3, b2]
            simp only [Instr.mapEntry, Sem.run_bind, run_under hu, Result.andThen_ok, run_getObj_map g2, okKey_run hk, hfind, hkey, hst2, run_setObj_map g2]
            simp [goInt, a3, b3]
        · exact h.elim
      · exact h.elim
    · exact h.elim
  · exact h.elim
theorem setBorn_spec {b : Int} {v : SA} {u : Value} (hv : v.rep α u) : ∀ {es es' : List SE} {xs : List MapEntry}, EntsRep α es xs → setBorn es b v = some es' →
    ∃ n, xs.findIdx? (fun e => (e.born : Int) == b) = some n ∧ EntsRep α es' (xs.modify n fun e => { e with val := u })
  | [], _, [], _, h => by simp [setBorn] at h
  | e :: es, es', x :: xs, hr, h => by
    simp only [setBorn] at h
    split at h
    · rename_i he
      have he : (e.born : Int) = b := by simpa using he
      cases h
      refine ⟨0, ?_, ?_⟩
      · simp [List.findIdx?_cons, hr.1.2.1, he]
      · simp only [List.modify_cons, if_true]
        exact ⟨⟨hr.1.1, hr.1.2.1, hv⟩, hr.2⟩
    · rename_i he
      have he : ¬ (e.born : Int) = b := by simpa using he
      split at h
      · rename_i l hl
        cases h
        obtain ⟨n, h1, h2⟩ := setBorn_spec hv hr.2 hl
        refine ⟨n + 1, ?_, ?_⟩
        · simp [List.findIdx?_cons, hr.1.2.1, he, h1]
        · simp only [List.modify_succ_cons]
          exact ⟨hr.1, h2⟩
      · simp at h
  | [], _, _ :: _, hr, _ => hr.elim
  | _ :: _, _, [], hr, _ => hr.elim
theorem evEntryStore_sound {T : TypeId} {m s v : SA} {mv sv vv : Value} {k : St → Prop} (hR : R α st w) (hm : m.rep α mv) (hs : s.rep α sv) (hv : v.rep α vv) (h : evEntryStore st m s v k) :
    ∃ w' st', (Instr.entryStore T mv sv vv).run P w = .ok () w' ∧ k st' ∧ To α st w α st' w' := by
  unfold evEntryStore at h
  split at h
  · rename_i o kk b
    split at h
    · rename_i es cl hst
      split at h
      · rename_i es' hes
        obtain ⟨dn, hdn, g1, xs, g2, g3⟩ := hR.good o _ hst
        have hlt : dn.blk < w.heap.size := (Array.getElem?_eq_some_iff.1 g2).1
        simp only [SA.rep, SC.val?, hdn, Option.some.injEq] at hm hs
        rw [g1] at hm
        subst hm; subst hs
        obtain ⟨n, h1, h2⟩ := setBorn_spec hv g3 hes
        refine ⟨_, _, ?_, h, map_upd (cl' := cl) hR hst hdn hlt g1 h2⟩
        simp only [Instr.entryStore, Sem.run_bind, Result.andThen_ok, run_getObj_map g2, asInt, asIntOf, Sem.run_pure]
        simp [h1, run_setObj_map g2]
      · exact h.elim
    · exact h.elim
  · exact h.elim
theorem VesRep.len {kk : List IntKind} : ∀ {es : List VE} {ps : List MapEntry}, VesRep α kk es ps → ps.length = lenV es
  | [], _, e => by rw [show _ = [] from e]; rfl
  | ⟨_, none, _⟩ :: r, _, e => VesRep.len (es := r) e
  | ⟨_, some _, _⟩ :: _, _, ⟨p, q, h1, _, _, _, h4⟩ => by rw [h1]; simp [lenV, VesRep.len h4]
theorem evLen_sound {T ty : TypeId} {x : SA} {xv : Value} {k : SV → Prop} (hR : R α st w) (hx : x.rep α xv) (h : evLen P T st x k) :
    ∃ sv v, (Builtin.len_ #[T] ty #[xv]).run P w = .ok v w ∧ sv.rep α v ∧ k sv := by
  unfold evLen at h
  split at h
  · rename_i e o i n c hu
    simp only [SA.rep, SC.val?] at hx
    split at hx <;> simp at hx
    subst hx
    exact ⟨.sa (.one (.raw (.int .i64 n))), .int .i64 n, by simp only [Builtin.len_]; simp [run_underlying hu, goInt], rfl, h⟩
  · rename_i e a n c hu
    simp only [SA.rep, SC.val?, Option.some.injEq] at hx
    subst hx
    exact ⟨.sa (.one (.raw (.int .i64 n))), .int .i64 n, by simp only [Builtin.len_]; simp [run_underlying hu, goInt], rfl, h⟩
  · rename_i e q hu
    split at h
    · rename_i o i n hl
      obtain ⟨d, a, c, e1, hd, g2, _, _⟩ := hR.list_ok hl
      simp only [SA.rep, SC.val?, hd, Option.some.injEq] at hx
      rw [g2] at hx
      subst hx
      exact ⟨.sa (.one (.raw (.int .i64 n))), .int .i64 n, by simp only [Builtin.len_]; simp [run_underlying hu, goInt], rfl, h⟩
    · exact h.elim
  · rename_i s hu
    simp only [SA.rep, SC.val?, Option.some.injEq] at hx
    subst hx
    exact ⟨.sa (.one (.raw (.int .i64 s.size))), .int .i64 s.size, by simp only [Builtin.len_]; simp [run_underlying hu, goInt], rfl, h⟩
  · rename_i n e hu
    exact ⟨.sa (.one (.raw (.int .i64 n))), .int .i64 n, by simp only [Builtin.len_]; simp [run_underlying hu, goInt], rfl, h⟩
  · rename_i arr hu
    split at h
    · rename_i n e hu2
      exact ⟨.sa (.one (.raw (.int .i64 n))), .int .i64 n, by simp only [Builtin.len_]; simp [run_underlying hu, run_underlying hu2, goInt], rfl, h⟩
    · exact h.elim
  · rename_i a b hu
    simp only [SA.rep, SC.val?, Option.some.injEq] at hx
    subst hx
    exact ⟨.sa (.one (.raw (.int .i64 0))), .int .i64 0, by simp only [Builtin.len_]; simp [run_underlying hu, goInt], rfl, h⟩
  · rename_i a b o hu
    split at h
    · rename_i wr es cl hst
      obtain ⟨dn, hdn, g1, xs, g2, g3⟩ := hR.good o _ hst
      simp only [SA.rep, SC.val?, hdn, Option.some.injEq] at hx
      rw [g1] at hx
      subst hx
      have hl := g3.length
      refine ⟨.sa (.one (.raw (.int .i64 (lenL es)))), .int .i64 (lenL es), ?_, rfl, h⟩
      simp only [Builtin.len_]
      simp [run_underlying hu, run_getObj_map g2, goInt, hl]
    · rename_i wr kc va cs bs cl hst
      obtain ⟨dn, hdn, g1, xs, g2, g3, _, _⟩ := hR.good o _ hst
      simp only [SA.rep, SC.val?, hdn, Option.some.injEq] at hx
      rw [g1] at hx
      subst hx
      refine ⟨.sa (.one (.raw (.int .i64 (kc.len : Nat)))), .int .i64 (kc.len : Nat), ?_, rfl, h⟩
      simp only [Builtin.len_]
      simp [run_underlying hu, run_getObj_map g2, goInt, g3]
    · rename_i wr kk es rs cl hot hst
      obtain ⟨dn, hdn, g1, xs, ps, g2, g3⟩ := hR.good o _ hst
      simp only [SA.rep, SC.val?, hdn, Option.some.injEq] at hx
      rw [g1] at hx
      subst hx
      have hl : xs.length = lenV es + rs.length := by rw [g3.perm.length_eq, List.length_append, g3.rep.len]
      refine ⟨.sa (.one (.raw (.int .i64 (lenV es + rs.length : Nat)))), .int .i64 (lenV es + rs.length : Nat), ?_, rfl, h⟩
      simp only [Builtin.len_]
      simp [run_underlying hu, run_getObj_map g2, goInt, hl]
    · exact h.elim
  · exact h.elim
theorem evCap_sound {T ty : TypeId} {x : SA} {xv : Value} {k : SV → Prop} (hR : R α st w) (hx : x.rep α xv) (h : evCap P T st x k) :
    ∃ sv v, (Builtin.cap_ #[T] ty #[xv]).run P w = .ok v w ∧ sv.rep α v ∧ k sv := by
  unfold evCap at h
  split at h
  · rename_i e o i n c hu
    simp only [SA.rep, SC.val?] at hx
    split at hx <;> simp at hx
    subst hx
    exact ⟨.sa (.one (.raw (.int .i64 c))), .int .i64 c, by simp only [Builtin.cap_]; simp [run_underlying hu, goInt], rfl, h⟩
  · rename_i e o i n hu
    split at h
    · rename_i wb T' m ct hst
      obtain ⟨d, hd, hg⟩ := hR.good o _ hst
      have hcap : ct.len = d.cap := by
        obtain ⟨_, _, cs, fz, h5, h6, h7, h8, h9, h10⟩ := hg
        exact h9 rfl
      simp only [SA.rep, SC.val?, hd, Option.some.injEq, Option.getD_none] at hx
      subst hx
      refine ⟨.sa (.one (.raw (.int .i64 ((ct.len - i : Nat) : Int)))), .int .i64 ((ct.len - i : Nat) : Int), ?_, rfl, h⟩
      simp only [Builtin.cap_]
      simp [run_underlying hu, goInt, hcap]
    · exact h.elim
  · rename_i e a n c hu
    simp only [SA.rep, SC.val?, Option.some.injEq] at hx
    subst hx
    exact ⟨.sa (.one (.raw (.int .i64 c))), .int .i64 c, by simp only [Builtin.cap_]; simp [run_underlying hu, goInt], rfl, h⟩
  · exact h.elim
end Go.Ev

/- THE ENGINE, part 11 c: maps of which some keys are told. -/
namespace Go.Ev
open Go
variable {P : Program} {α : Al} {st : St} {w : World}
theorem eqKs_t : ∀ {a b : List Int}, eqKs a b = true ↔ a = b
  | [], [] => by simp [eqKs]
  | [x], [y] => by simp [eqKs, eqK_t]
  | [], _ :: _ => by simp [eqKs]
  | _ :: _, [] => by simp [eqKs]
  | [x], y :: z :: r => by simp [eqKs]
  | x :: y :: r, [z] => by simp [eqKs]
  | x :: y :: r, z :: u :: s => by
    have := eqKs_t (a := y :: r) (b := u :: s)
    simp only [eqKs, Bool.and_eq_true, eqK_t, List.cons.injEq] at this ⊢
    rw [this]
theorem eqKs_f {a b : List Int} : eqKs a b = false ↔ a ≠ b := by
  rw [← Bool.not_eq_true, eqKs_t]
theorem keyCells_inj : ∀ {kk : List IntKind} {a b : List Int}, a.length = kk.length → b.length = kk.length → keyCells kk a = keyCells kk b → a = b
  | [], [], [], _, _, _ => rfl
  | k :: kk, x :: a, y :: b, h1, h2, h => by
    simp only [keyCells, List.cons.injEq, Value.int.injEq, true_and] at h
    rw [h.1, keyCells_inj (by simpa using h1) (by simpa using h2) h.2]
  | [], _ :: _, _, h, _, _ => by simp at h
  | [], [], _ :: _, _, h, _ => by simp at h
  | _ :: _, [], _, h, _, _ => by simp at h
  | _ :: _, _ :: _, [], _, h, _ => by simp at h
theorem keyV_agg {kk : List IntKind} {a : List Int} (h : ∀ k, kk ≠ [k]) : keyV kk a = .agg (keyCells kk a).toArray := by
  unfold keyV
  split
  · exact absurd rfl (h _)
  · rfl
theorem keyV_inj {kk : List IntKind} {a b : List Int} (h1 : a.length = kk.length) (h2 : b.length = kk.length) (h : keyV kk a = keyV kk b) : a = b := by
  by_cases hk : ∃ k, kk = [k]
  · obtain ⟨k, rfl⟩ := hk
    match a, b, h1, h2 with
    | [x], [y], _, _ => simpa [keyV] using h
  · have hk : ∀ k, kk ≠ [k] := fun k e => hk ⟨k, e⟩
    rw [keyV_agg hk, keyV_agg hk] at h
    simp only [Value.agg.injEq] at h
    exact keyCells_inj h1 h2 (by simpa using congrArg Array.toList h)
theorem keyCells_get : ∀ {kk : List IntKind} {a : List Int} {i : Nat} {k : IntKind}, a.length = kk.length → kk[i]? = some k → ∃ x, a[i]? = some x ∧ (keyCells kk a)[i]? = some (.int k x)
  | k :: kk, x :: a, 0, _, _, h => by simp at h; subst h; exact ⟨x, rfl, rfl⟩
  | k :: kk, x :: a, i + 1, _, hl, h => by
    obtain ⟨y, h1, h2⟩ := keyCells_get (kk := kk) (a := a) (i := i) (by simpa using hl) (by simpa using h)
    exact ⟨y, by simpa using h1, by simpa [keyCells] using h2⟩
  | [], _, _, _, _, h => by simp at h
  | _ :: _, [], _, _, h, _ => by simp at h
theorem keyL_rep {kk : List IntKind} : ∀ {l : List SC} {x : List Int} {vs : List Value}, keyL kk l = some x → Reps α l vs → vs = keyCells kk x ∧ x.length = kk.length := by
  induction kk with
  | nil =>
    intro l x vs h hr
    cases l with
    | nil => simp [keyL] at h; subst h; cases vs with | nil => exact ⟨rfl, rfl⟩ | cons _ _ => exact hr.elim
    | cons _ _ => simp [keyL] at h
  | cons k kk ih =>
    intro l x vs h hr
    cases l with
    | nil => simp [keyL] at h
    | cons c r =>
      unfold keyL at h
      split at h
      · rename_i e _; cases e
      · rename_i k' kk' k2 y r' e1 e2
        cases e1; cases e2
        split at h
        · rename_i l' hd hl
          have hd := of_decide_eq_true hd
          subst hd
          cases h
          cases vs with
          | nil => exact hr.elim
          | cons v vs =>
            obtain ⟨h1, h2⟩ := hr
            simp only [SC.val?, Option.some.injEq] at h1
            obtain ⟨e1, e2⟩ := ih hl h2
            subst h1
            exact ⟨by rw [e1]; rfl, by simp [e2]⟩
        · cases h
      · cases h
theorem keyOf_rep {kk : List IntKind} {ix : SA} {x : List Int} {iv : Value} (h : keyOf kk ix = some x) (hr : ix.rep α iv) : iv = keyV kk x ∧ x.length = kk.length := by
  unfold keyOf at h
  split at h
  · rename_i c
    split at h
    · rename_i k
      obtain ⟨e1, e2⟩ := keyL_rep (α := α) (vs := [iv]) h ⟨hr, trivial⟩
      refine ⟨?_, e2⟩
      match x, e2 with
      | [y], _ => simpa [keyCells, keyV] using e1
    · cases h
  · rename_i l
    split at h
    · cases h
    · rename_i hk
      obtain ⟨vs, hv, rfl⟩ := hr
      obtain ⟨e1, e2⟩ := keyL_rep h hv
      subst e1
      exact ⟨by rw [keyV_agg fun k e => hk k e], e2⟩
theorem run_isAgg_int {t : TypeId} {k : IntKind} (h : P.underlying t = some (.int k)) : (isAgg t).run P w = .ok false w := by
  simp [isAgg, run_under h]
theorem kfitFs_eq {d : Nat} {xs ys : Array Value} : ∀ {fs : List Field} {kk pre : List IntKind} {pa pb a b : List Int}, kfitFs P fs kk pre.length = true → pa.length = pre.length → pb.length = pre.length → a.length = kk.length → b.length = kk.length →
    xs = (keyCells (pre ++ kk) (pa ++ a)).toArray → ys = (keyCells (pre ++ kk) (pb ++ b)).toArray → (Op.eqFields (d + 1) xs ys fs).run P w = .ok (decide (a = b)) w
  | [], [], pre, pa, pb, [], [], _, _, _, _, _, _, _ => by simp [Op.eqFields]
  | f :: fs, k :: kk, pre, pa, pb, x :: a, y :: b, hf, h1, h2, h3, h4, ex, ey => by
    unfold kfitFs at hf
    split at hf
    · rename_i k' hu hn ho
      rw [Bool.and_eq_true] at hf
      have hk := of_decide_eq_true hf.1
      subst hk
      have hn : ¬ f.name = "_" := of_decide_eq_false hn
      have ho : f.offset = pre.length := of_decide_eq_true ho
      have gx : xs[pre.length]? = some (.int k x) := by
        rw [ex]
        obtain ⟨z, g1, g2⟩ := keyCells_get (kk := pre ++ k :: kk) (a := pa ++ x :: a) (i := pre.length) (k := k) (by simp [h1] at h3 ⊢; omega) (by simp)
        rw [List.getElem?_append_right (by omega)] at g1
        simp [h1] at g1
        subst g1; simpa using g2
      have gy : ys[pre.length]? = some (.int k y) := by
        rw [ey]
        obtain ⟨z, g1, g2⟩ := keyCells_get (kk := pre ++ k :: kk) (a := pb ++ y :: b) (i := pre.length) (k := k) (by simp [h2] at h4 ⊢; omega) (by simp)
        rw [List.getElem?_append_right (by omega)] at g1
        simp [h2] at g1
        subst g1; simpa using g2
      have e1 : (part f.type xs f.offset).run P w = .ok (.int k x) w := by simp [part, run_isAgg_int hu, ho, gx]
      have e2 : (part f.type ys f.offset).run P w = .ok (.int k y) w := by simp [part, run_isAgg_int hu, ho, gy]
      have e4 := kfitFs_eq (d := d) (xs := xs) (ys := ys) (fs := fs) (kk := kk) (pre := pre ++ [k]) (pa := pa ++ [x]) (pb := pb ++ [y]) (a := a) (b := b) (by simpa using hf.2) (by simp [h1]) (by simp [h2]) (by simpa using h3) (by simpa using h4) (by simpa using ex) (by simpa using ey)
      simp only [Op.eqFields, hn, ne_eq, not_false_eq_true, if_true, Sem.run_bind, e1, e2, Result.andThen_ok, run_equalIn_int w d f.type k k x y hu, e4]
      by_cases hxy : x = y
      · simp [hxy, e4]
      · simp [hxy]
    · cases hf
  | [], _ :: _, _, _, _, _, _, hf, _, _, _, _, _, _ => by simp [kfitFs] at hf
  | _ :: _, [], _, _, _, _, _, hf, _, _, _, _, _, _ => by simp [kfitFs] at hf
  | [], [], _, _, _, _ :: _, _, _, _, _, h, _, _, _ => by simp at h
  | [], [], _, _, _, [], _ :: _, _, _, _, _, h, _, _ => by simp at h
  | _ :: _, _ :: _, _, _, _, [], _, _, _, _, h, _, _, _ => by simp at h
  | _ :: _, _ :: _, _, _, _, _ :: _, [], _, _, _, _, h, _, _ => by simp at h
def ckFs (n : Nat) (bb : Bool) (xs : Array Value) (fs : List Field) : Sem PUnit := do
  for f in fs do
    if f.name ≠ "_" then Instr.checkKey bb n f.type (← part f.type xs f.offset)
theorem kfitFs_check {d : Nat} {bb : Bool} {xs : Array Value} : ∀ {fs : List Field} {kk pre : List IntKind} {pa a : List Int}, kfitFs P fs kk pre.length = true → pa.length = pre.length → a.length = kk.length →
    xs = (keyCells (pre ++ kk) (pa ++ a)).toArray → (ckFs (d + 1) bb xs fs).run P w = .ok PUnit.unit w
  | [], [], _, _, _, _, _, _, _ => by simp [ckFs]
  | f :: fs, k :: kk, pre, pa, x :: a, hf, h1, h3, ex => by
    unfold kfitFs at hf
    split at hf
    · rename_i k' hu hn ho
      rw [Bool.and_eq_true] at hf
      have hk := of_decide_eq_true hf.1
      subst hk
      have hn : ¬ f.name = "_" := of_decide_eq_false hn
      have ho : f.offset = pre.length := of_decide_eq_true ho
      have gx : xs[pre.length]? = some (.int k x) := by
        rw [ex]
        obtain ⟨z, g1, g2⟩ := keyCells_get (kk := pre ++ k :: kk) (a := pa ++ x :: a) (i := pre.length) (k := k) (by simp [h1] at h3 ⊢; omega) (by simp)
        rw [List.getElem?_append_right (by omega)] at g1
        simp [h1] at g1
        subst g1; simpa using g2
      have e1 : (part f.type xs f.offset).run P w = .ok (.int k x) w := by simp [part, run_isAgg_int hu, ho, gx]
      have e2 : (Instr.checkKey bb (d + 1) f.type (.int k x)).run P w = .ok () w := by simp only [Instr.checkKey, Sem.run_bind, run_under hu, Result.andThen_ok, Sem.run_pure]
      have e4 := kfitFs_check (d := d) (bb := bb) (xs := xs) (fs := fs) (kk := kk) (pre := pre ++ [k]) (pa := pa ++ [x]) (a := a) (by simpa using hf.2) (by simp [h1]) (by simpa using h3) (by simpa using ex)
      simp only [ckFs] at e4 ⊢
      simp only [List.forIn_cons, hn, ne_eq, not_false_eq_true, if_true, Sem.run_bind, e1, e2, Result.andThen_ok, Sem.run_pure]
      rw [Sem.run_bind] at e4
      exact e4
    · cases hf
  | [], _ :: _, _, _, _, hf, _, _, _ => by simp [kfitFs] at hf
  | _ :: _, [], _, _, _, hf, _, _, _ => by simp [kfitFs] at hf
  | _ :: _, _ :: _, _, _, [], _, _, h, _ => by simp at h
theorem sameBits_cells : ∀ (l : List (IntKind × Int)), ((l.map fun p => Value.int p.1 p.2).zip (l.map fun p => Value.int p.1 p.2)).all (fun (x, y) => Instr.sameBits 9999 x y) = true
  | [] => rfl
  | (k, x) :: r => by simp only [List.map_cons, List.zip_cons_cons, List.all_cons, sameBits_cells r, Bool.and_true]; simp [Instr.sameBits]
theorem keyCells_zip : ∀ (kk : List IntKind) (a : List Int), keyCells kk a = (kk.zip a).map fun p => Value.int p.1 p.2
  | [], _ => by simp [keyCells]
  | _ :: _, [] => by simp [keyCells]
  | k :: kk, x :: a => by simp [keyCells, keyCells_zip kk a]
theorem keyV_same (kk : List IntKind) (a : List Int) : Instr.sameBits 10000 (keyV kk a) (keyV kk a) = true := by
  unfold keyV
  split
  · simp [Instr.sameBits]
  · simp only [Instr.sameBits, keyCells_zip]
    simp [sameBits_cells]
theorem kfits_spec {kt : TypeId} {kk : List IntKind} (h : kfits P kt kk = true) :
    (∃ d, P.underlying kt = some d ∧
      ((∃ k, kk = [k] ∧ d = .int k) ∨ ((∀ k, kk ≠ [k]) ∧ plainKey d = false ∧ ∀ a b : List Int, a.length = kk.length → b.length = kk.length → ∀ w, (Op.equal kt (keyV kk a) (keyV kk b)).run P w = .ok (decide (a = b)) w))) ∧
    ∀ (bb : Bool) (a : List Int), a.length = kk.length → ∀ w, (Instr.checkKey bb 10000 kt (keyV kk a)).run P w = .ok () w := by
  unfold kfits at h
  split at h
  · rename_i k k' hu
    have := of_decide_eq_true h; subst this
    refine ⟨⟨_, hu, .inl ⟨_, rfl, rfl⟩⟩, fun bb a ha w => ?_⟩
    match a, ha with
    | [x], _ =>
      have : ∀ n, (Instr.checkKey bb (n + 1) kt (keyV [k] [x])).run P w = .ok () w := fun n => by simp only [keyV, Instr.checkKey, Sem.run_bind, run_under hu, Result.andThen_ok, Sem.run_pure]
      exact this 9999
  · cases h
  · rename_i kk _ _ fs hu hnk
    rw [Bool.and_eq_true, Bool.not_eq_true'] at h
    have hfs : P.fieldsOf kt = fs := by simp [Program.fieldsOf, hu]
    have hk : ∀ k, kk ≠ [k] := fun k e => hnk k e
    refine ⟨⟨_, hu, .inr ⟨hk, rfl, fun a b ha hb w => ?_⟩⟩, fun bb a ha w => ?_⟩
    · rw [keyV_agg hk, keyV_agg hk]
      show (Op.equalIn (9999 + 1) kt _ _).run P w = _
      rw [run_equalIn_struct w 9999 kt _ _ (by rw [hfs]; exact hu) h.1, hfs]
      exact kfitFs_eq (d := 9998) (pre := []) (pa := []) (pb := []) h.2 rfl rfl ha hb rfl rfl
    · rw [keyV_agg hk]
      have := kfitFs_check (P := P) (w := w) (d := 9998) (bb := bb) (pre := []) (pa := []) (a := a) h.2 rfl ha rfl
      have h2 : ∀ n, (ckFs n bb (keyCells kk a).toArray fs.toList).run P w = .ok PUnit.unit w → (Instr.checkKey bb (n + 1) kt (.agg (keyCells kk a).toArray)).run P w = .ok () w := fun n hn => by
        simp only [ckFs] at hn
        simp only [Instr.checkKey, Sem.run_bind, run_under hu, Result.andThen_ok]
        rw [← Array.forIn_toList]
        simp at hn ⊢
        rw [hn]; rfl
      exact h2 9999 this
  · cases h
theorem findKeyV {kt : TypeId} {kk : List IntKind} {x : List Int} (hf : kfits P kt kk = true) (hx : x.length = kk.length) {xs : List MapEntry} (hk : ∀ e ∈ xs, ∃ l : List Int, l.length = kk.length ∧ e.key = keyV kk l) :
    (∃ i e, xs[i]? = some e ∧ e.key = keyV kk x ∧ (Instr.findKey kt (keyV kk x) xs).run P w = .ok (some (i, e.val)) w) ∨ ((∀ e ∈ xs, e.key ≠ keyV kk x) ∧ (Instr.findKey kt (keyV kk x) xs).run P w = .ok none w) := by
  obtain ⟨⟨d, hu, hd⟩, _⟩ := kfits_spec hf
  rcases hd with ⟨k, rfl, rfl⟩ | ⟨hkk, hp, heq⟩
  · match x, hx with
    | [y], _ =>
      have key : ∀ (xs : List MapEntry) (j : Nat), (∀ e ∈ xs, ∃ l : List Int, l.length = 1 ∧ e.key = keyV [k] l) →
          (∃ i e, xs[i]? = some e ∧ e.key = keyV [k] [y] ∧ Instr.findNow (.int k) (keyV [k] [y]) xs j = some (some (j + i, e.val))) ∨ ((∀ e ∈ xs, e.key ≠ keyV [k] [y]) ∧ Instr.findNow (.int k) (keyV [k] [y]) xs j = some none) := by
        intro xs
        induction xs with
        | nil => intro j _; exact .inr ⟨fun _ h => (by cases h), rfl⟩
        | cons e r ih =>
          intro j hk
          obtain ⟨l, hl, he⟩ := hk e (by simp)
          match l, hl with
          | [z], _ =>
            simp only [keyV] at he
            by_cases hyz : y = z
            · subst hyz
              exact .inl ⟨0, e, rfl, he, by simp [Instr.findNow, keyV, he, Instr.sameNow]⟩
            · rcases ih (j + 1) (fun e he => hk e (by simp [he])) with ⟨i, e', h1, h2, h3⟩ | ⟨h1, h2⟩
              · exact .inl ⟨i + 1, e', by simpa using h1, h2, by simp only [Instr.findNow, keyV, he, Instr.sameNow, if_true, show (y == z) = false from by simpa using hyz]; simp only [keyV] at h3; rw [h3, show j + 1 + i = j + (i + 1) from by omega]⟩
              · refine .inr ⟨fun e' he' => ?_, by simp only [Instr.findNow, keyV, he, Instr.sameNow, if_true, show (y == z) = false from by simpa using hyz]; simpa [keyV] using h2⟩
                rcases List.mem_cons.1 he' with rfl | he'
                · simp only [keyV, he, ne_eq, Value.int.injEq, true_and]; exact fun e => hyz e.symm
                · exact h1 e' he'
      rcases key xs 0 (by simpa using hk) with ⟨i, e, h1, h2, h3⟩ | ⟨h1, h3⟩
      · exact .inl ⟨i, e, h1, h2, by simp only [Instr.findKey, Sem.run_bind, run_under hu, Result.andThen_ok]; rw [h3, Nat.zero_add]; rfl⟩
      · exact .inr ⟨h1, by simp only [Instr.findKey, Sem.run_bind, run_under hu, Result.andThen_ok]; rw [h3]; rfl⟩
  · have key : ∀ (xs : List MapEntry) (j : Nat), (∀ e ∈ xs, ∃ l : List Int, l.length = kk.length ∧ e.key = keyV kk l) →
        (∃ i e, xs[i]? = some e ∧ e.key = keyV kk x ∧ (Instr.findAsking kt (keyV kk x) xs j).run P w = .ok (some (j + i, e.val)) w) ∨ ((∀ e ∈ xs, e.key ≠ keyV kk x) ∧ (Instr.findAsking kt (keyV kk x) xs j).run P w = .ok none w) := by
      intro xs
      induction xs with
      | nil => intro j _; exact .inr ⟨fun _ h => (by cases h), by simp [Instr.findAsking]⟩
      | cons e r ih =>
        intro j hk
        obtain ⟨l, hl, he⟩ := hk e (by simp)
        by_cases hxl : x = l
        · subst hxl
          exact .inl ⟨0, e, rfl, he, by simp [Instr.findAsking, he, heq _ _ hx hx]⟩
        · rcases ih (j + 1) (fun e he => hk e (by simp [he])) with ⟨i, e', h1, h2, h3⟩ | ⟨h1, h2⟩
          · exact .inl ⟨i + 1, e', by simpa using h1, h2, by simp [Instr.findAsking, he, heq _ _ hx hl, hxl, h3, show j + 1 + i = j + (i + 1) from by omega]⟩
          · refine .inr ⟨fun e' he' => ?_, by simp [Instr.findAsking, he, heq _ _ hx hl, hxl, h2]⟩
            rcases List.mem_cons.1 he' with rfl | he'
            · rw [he]; exact fun e => hxl (keyV_inj hx hl e.symm)
            · exact h1 e' he'
    have hfk : (Instr.findKey kt (keyV kk x) xs).run P w = (match xs with | [] => .ok none w | _ :: _ => (Instr.findAsking kt (keyV kk x) xs).run P w) := by
      simp only [Instr.findKey, Sem.run_bind, run_under hu, Result.andThen_ok]
      cases xs with
      | nil => rfl
      | cons e r => simp only [Instr.findNow, sameNow_other hp]
    rw [hfk]
    rcases key xs 0 hk with ⟨i, e, h1, h2, h3⟩ | ⟨h1, h3⟩
    · refine .inl ⟨i, e, h1, h2, ?_⟩
      cases xs with
      | nil => simp at h1
      | cons _ _ => simpa using h3
    · refine .inr ⟨h1, ?_⟩
      cases xs with
      | nil => rfl
      | cons _ _ => simpa using h3
theorem vfind_sound {x : List Int} {K : Nat → VE → Prop} : ∀ {es : List VE} {i : Nat}, vfind x es i K → ∃ n e, es[n]? = some e ∧ e.key = x ∧ K (i + n) e
  | [], _, h => h.elim
  | [e], i, h => by
    obtain ⟨h1, h2⟩ := need_iff.1 h
    exact ⟨0, e, rfl, eqKs_t.1 h1, h2⟩
  | e :: e' :: r, i, h => by
    rcases branch_or h with ⟨h1, h2⟩ | ⟨_, h2⟩
    · exact ⟨0, e, rfl, eqKs_t.1 h1, h2⟩
    · obtain ⟨n, en, a, b, c⟩ := vfind_sound (es := e' :: r) h2
      exact ⟨n + 1, en, by simpa using a, b, by rw [show i + (n + 1) = i + 1 + n from by omega]; exact c⟩
theorem VesRep.mem {kk : List IntKind} : ∀ {es : List VE} {ps : List MapEntry}, VesRep α kk es ps → ∀ p ∈ ps, ∃ e ∈ es, p.key = keyV kk e.key ∧ e.val ≠ none
  | [], ps, h, p, hp => by rw [show ps = [] from h] at hp; cases hp
  | ⟨key, none, _⟩ :: r, ps, h, p, hp => by
    obtain ⟨e, h1, h2⟩ := VesRep.mem (es := r) h p hp
    exact ⟨e, by simp [h1], h2⟩
  | ⟨key, some v, _⟩ :: r, ps, ⟨p0, q, h1, h2, _, _, h4⟩, p, hp => by
    rw [h1] at hp
    rcases List.mem_cons.1 hp with rfl | hp
    · exact ⟨_, by simp, h2, by simp⟩
    · obtain ⟨e, g1, g2⟩ := VesRep.mem h4 p hp
      exact ⟨e, by simp [g1], g2⟩
theorem VesRep.app {kk : List IntKind} : ∀ {e1 e2 : List VE} {ps : List MapEntry}, VesRep α kk (e1 ++ e2) ps ↔ ∃ p1 p2, ps = p1 ++ p2 ∧ VesRep α kk e1 p1 ∧ VesRep α kk e2 p2
  | [], e2, ps => ⟨fun h => ⟨[], ps, rfl, rfl, h⟩, fun ⟨p1, p2, h1, h2, h3⟩ => by rw [h1, show p1 = [] from h2]; exact h3⟩
  | ⟨key, none, _⟩ :: r, e2, ps => VesRep.app (e1 := r)
  | ⟨key, some v, _⟩ :: r, e2, ps => by
    constructor
    · rintro ⟨p, q, h1, h2, hb, h3, h4⟩
      obtain ⟨p1, p2, g1, g2, g3⟩ := VesRep.app.1 h4
      exact ⟨p :: p1, p2, by rw [h1, g1]; rfl, ⟨p, p1, rfl, h2, hb, h3, g2⟩, g3⟩
    · rintro ⟨p1, p2, h1, ⟨p, q, g0, g1, gb, g2, g3⟩, h3⟩
      exact ⟨p, q ++ p2, by rw [h1, g0]; rfl, g1, gb, g2, VesRep.app.2 ⟨q, p2, rfl, g3, h3⟩⟩
theorem setV_app {e1 : List VE} {e : VE} {e2 : List VE} {v : Option SA} {b : Nat} : setV (e1 ++ e :: e2) e1.length v b = e1 ++ { e with val := v, born := b } :: e2 := by
  induction e1 with
  | nil => rfl
  | cons a r ih => simp [setV, ih]
theorem mv_at {kk : List IntKind} {es : List VE} {rs xs ps : List MapEntry} {cl : Nat} (m : MvOk α kk es rs xs ps cl) {n : Nat} {e : VE} (he : es[n]? = some e) :
    ∃ e1 e2 p1 p2, es = e1 ++ e :: e2 ∧ e1.length = n ∧ VesRep α kk e1 p1 ∧ VesRep α kk e2 p2 ∧
      (∀ q ∈ p1 ++ p2 ++ rs, q.key ≠ keyV kk e.key) ∧
      (∀ q ∈ xs, ∃ l : List Int, l.length = kk.length ∧ q.key = keyV kk l) ∧
      ((e.val = none ∧ xs.Perm (p1 ++ p2 ++ rs)) ∨ ∃ v p, e.val = some v ∧ p.key = keyV kk e.key ∧ p.born = e.born ∧ v.rep α p.val ∧ xs.Perm (p :: (p1 ++ p2 ++ rs))) := by
  obtain ⟨e1, e2, rfl, hl⟩ : ∃ e1 e2, es = e1 ++ e :: e2 ∧ e1.length = n := by
    obtain ⟨hlt, hg⟩ := List.getElem?_eq_some_iff.1 he
    exact ⟨es.take n, es.drop (n + 1), by rw [← hg]; simp, by simp; omega⟩
  obtain ⟨p1, pr, h1, h2, h3⟩ := VesRep.app.1 m.rep
  have hel : e.key.length = kk.length := m.lens e (by simp)
  have hne : ∀ e' ∈ e1 ++ e2, keyV kk e'.key ≠ keyV kk e.key := by
    intro e' he' heq
    have hk := keyV_inj (m.lens e' (by simp at he' ⊢; exact he'.elim .inl fun h => .inr (.inr h))) hel heq
    have hp := m.keys
    rw [List.pairwise_append] at hp
    rcases List.mem_append.1 he' with he' | he'
    · exact hp.2.2 e' he' e (by simp) hk
    · exact (List.pairwise_cons.1 hp.2.1).1 e' he' hk.symm
  have hall : ∀ q ∈ xs, ∃ l : List Int, l.length = kk.length ∧ q.key = keyV kk l := by
    intro q hq
    have hq := (m.perm.mem_iff).1 hq
    rcases List.mem_append.1 hq with hq | hq
    · obtain ⟨e', h1, h2, _⟩ := m.rep.mem q hq
      exact ⟨e'.key, m.lens e' h1, h2⟩
    · exact m.ints q hq
  have hoff : ∀ p2, VesRep α kk e2 p2 → ∀ q ∈ p1 ++ p2 ++ rs, q.key ≠ keyV kk e.key := by
    intro p2 hp2 q hq
    rcases List.mem_append.1 hq with hq | hq
    · rcases List.mem_append.1 hq with hq | hq
      · obtain ⟨e', g1, g2, _⟩ := h2.mem q hq
        rw [g2]; exact hne e' (by simp [g1])
      · obtain ⟨e', g1, g2, _⟩ := hp2.mem q hq
        rw [g2]; exact hne e' (by simp [g1])
    · exact m.off e (by simp) q hq
  obtain ⟨key, val, bo⟩ := e
  cases val with
  | none => exact ⟨e1, e2, p1, pr, rfl, hl, h2, h3, hoff pr h3, hall, .inl ⟨rfl, by rw [← h1]; exact m.perm⟩⟩
  | some v =>
    obtain ⟨p, p2, g1, g2, gb, g3, g4⟩ := h3
    refine ⟨e1, e2, p1, p2, rfl, hl, h2, g4, hoff p2 g4, hall, .inr ⟨v, p, rfl, g2, gb, g3, ?_⟩⟩
    refine m.perm.trans ?_
    rw [h1, g1]
    simp only [List.append_assoc, List.cons_append]
    exact List.perm_middle
theorem mv_set {kk : List IntKind} {e : VE} {rs xs xs' ps : List MapEntry} {e1 e2 : List VE} {p1 p2 : List MapEntry} {v : Option SA} {cl cl' b : Nat} (m : MvOk α kk (e1 ++ e :: e2) rs xs ps cl) (h1 : VesRep α kk e1 p1) (h2 : VesRep α kk e2 p2)
    (hb : (xs'.map (·.born)).Nodup ∧ ∀ x ∈ xs', x.born < cl')
    (h : (v = none ∧ xs'.Perm (p1 ++ p2 ++ rs)) ∨ ∃ a p, v = some a ∧ p.key = keyV kk e.key ∧ p.born = b ∧ a.rep α p.val ∧ xs'.Perm (p :: (p1 ++ p2 ++ rs))) :
    ∃ ps', MvOk α kk (setV (e1 ++ e :: e2) e1.length v b) rs xs' ps' cl' := by
  rw [setV_app]
  have hk : (e1 ++ { e with val := v, born := b } :: e2).map (·.key) = (e1 ++ e :: e2).map (·.key) := by simp
  have hm : ∀ e' ∈ e1 ++ { e with val := v, born := b } :: e2, ∃ e'' ∈ e1 ++ e :: e2, e''.key = e'.key := fun e' he => by
    have : e'.key ∈ (e1 ++ { e with val := v, born := b } :: e2).map (·.key) := List.mem_map_of_mem he
    rw [hk, List.mem_map] at this
    exact this
  have hrest : ∀ ps', xs'.Perm (ps' ++ rs) → VesRep α kk (e1 ++ { e with val := v, born := b } :: e2) ps' → MvOk α kk (e1 ++ { e with val := v, born := b } :: e2) rs xs' ps' cl' := by
    intro ps' hp hr
    refine ⟨hp, hr, ?_, fun e' he => ?_, m.ints, m.apart, fun e' he => ?_, hb.1, hb.2⟩
    · have := m.keys
      rw [← List.pairwise_map (f := fun e : VE => e.key) (R := fun a b => a ≠ b), ← hk, List.pairwise_map] at this
      exact this
    · obtain ⟨e'', g1, g2⟩ := hm e' he; rw [← g2]; exact m.lens e'' g1
    · obtain ⟨e'', g1, g2⟩ := hm e' he; rw [← g2]; exact m.off e'' g1
  rcases h with ⟨rfl, hp⟩ | ⟨a, p, rfl, g1, gb, g2, hp⟩
  · exact ⟨p1 ++ p2, hrest _ hp (VesRep.app.2 ⟨p1, p2, rfl, h1, h2⟩)⟩
  · refine ⟨p1 ++ p :: p2, hrest _ (hp.trans ?_) (VesRep.app.2 ⟨p1, p :: p2, rfl, h1, ⟨p, p2, rfl, g1, gb, g2, h2⟩⟩)⟩
    simp only [List.append_assoc, List.cons_append]
    exact List.perm_middle.symm
theorem evLookV_sound {T : TypeId} {o : Nat} {wr : Bool} {kk : List IntKind} {es : List VE} {rs : List MapEntry} {cl0 hot : Nat} {ix : SA} {mv iv : Value} {ok : Bool} {k : SV → St → Prop} (hR : R α st w) (ho : st.get o = some (.mv wr kk es rs cl0 hot)) (hm : (SA.one (.ref o)).rep α mv) (hi : ix.rep α iv)
    (h : evLookV P T st kk es ix ok k) : Got P α st w (Instr.lookup T mv iv ok) k := by
  unfold evLookV at h
  split at h
  · rename_i kt e hu
    split at h
    · rename_i z x hf hz hx
      obtain ⟨d, hd, hv, xs, ps, hh, m⟩ := hR.good o _ ho
      simp only [SA.rep, SC.val?, hd, Option.some.injEq] at hm
      rw [hv] at hm
      subst hm
      obtain ⟨rfl, hxl⟩ := keyOf_rep hx hi
      obtain ⟨n, en, he, hex, h'⟩ := vfind_sound h
      clear h; subst hex; have h := h'; clear h'
      have hck := (kfits_spec hf).2
      obtain ⟨e1, e2, p1, p2, _, _, _, _, hoff, hall, hc⟩ := mv_at m he
      rcases hc with ⟨hn, hp⟩ | ⟨v, p, hs, hpk, _, hpv, hp⟩
      · have hfind : (Instr.findKey kt (keyV kk en.key) xs).run P w = .ok none w := by
          rcases findKeyV (w := w) hf hxl hall with ⟨i, e', a1, a2, _⟩ | ⟨_, a3⟩
          · exact absurd a2 (hoff e' (hp.mem_iff.1 (List.mem_of_getElem? a1)))
          · exact a3
        unfold foundV at h
        rw [hn] at h
        unfold evFound at h
        cases ok with
        | true =>
          refine ⟨.tuple #[z, .bool false], w, α, .tup [SA.ofValue z, .one (.raw (.bool false))], st, ?_, ⟨[z, .bool false], ⟨SA.rep_ofValue z, rfl, trivial⟩, rfl⟩, h, To.refl hR⟩
          simp [Instr.lookup, run_under hu, run_getObj_map hh, hck _ _ hxl, hfind, run_zero hz]
        | false =>
          refine ⟨z, w, α, .sa (SA.ofValue z), st, ?_, SA.rep_ofValue z, h, To.refl hR⟩
          simp [Instr.lookup, run_under hu, run_getObj_map hh, hck _ _ hxl, hfind, run_zero hz]
      · have hfind : (Instr.findKey kt (keyV kk en.key) xs).run P w = .ok (some ((xs.findIdx fun _ => true), p.val)) w ∨ ∃ i, (Instr.findKey kt (keyV kk en.key) xs).run P w = .ok (some (i, p.val)) w := by
          rcases findKeyV (w := w) hf hxl hall with ⟨i, e', a1, a2, a3⟩ | ⟨a1, _⟩
          · have := hp.mem_iff.1 (List.mem_of_getElem? a1)
            rcases List.mem_cons.1 this with rfl | this
            · exact .inr ⟨i, a3⟩
            · exact absurd a2 (hoff e' this)
          · exact absurd hpk (a1 p (hp.mem_iff.2 (by simp)))
        obtain ⟨i, hfind⟩ : ∃ i, (Instr.findKey kt (keyV kk en.key) xs).run P w = .ok (some (i, p.val)) w := by
          rcases hfind with h | ⟨i, h⟩
          · exact ⟨_, h⟩
          · exact ⟨i, h⟩
        unfold foundV at h
        rw [hs] at h
        simp only [lookK] at h
        cases ok with
        | true =>
          refine ⟨.tuple #[p.val, .bool true], w, α, .tup [v, .one (.raw (.bool true))], st, ?_, ⟨[p.val, .bool true], ⟨hpv, rfl, trivial⟩, rfl⟩, h, To.refl hR⟩
          simp [Instr.lookup, run_under hu, run_getObj_map hh, hck _ _ hxl, hfind]
        | false =>
          refine ⟨p.val, w, α, .sa v, st, ?_, hpv, h, To.refl hR⟩
          simp [Instr.lookup, run_under hu, run_getObj_map hh, hck _ _ hxl, hfind]
    · exact h.elim
  · exact h.elim
theorem mv_put (hR : R α st w) {o : Nat} {d : Den} {kk : List IntKind} {es es' : List VE} {rs xs' ps' : List MapEntry} {cl cl' h h' : Nat} (ho : st.get o = some (.mv true kk es rs cl h)) (hd : α o = some d) (hlt : d.blk < w.heap.size)
    (hv : d.val = .map (some d.blk)) (hr : MvOk α kk es' rs xs' ps' cl') :
    To α st w α (st.put o (some (.mv true kk es' rs cl' h'))) { w with heap := w.heap.setIfInBounds d.blk (.map xs'.toArray cl') } :=
  To.upd hR ho hd rfl (by simp) (fun b hb => by simp [Array.getElem?_setIfInBounds]; intro e; exact absurd e.symm hb) (.of rfl rfl) rfl rfl ⟨hv, xs', ps', by simp [Array.getElem?_setIfInBounds, hlt], hr⟩ (fun _ h => h) (fun _ h => h.elim) (fun _ _ _ h => h.elim)
theorem modify_perm {β : Type} {f : β → β} : ∀ {xs : List β} {i : Nat} {x : β}, xs[i]? = some x → (xs.modify i f).Perm (f x :: xs.eraseIdx i) ∧ xs.Perm (x :: xs.eraseIdx i)
  | a :: r, 0, x, h => by simp at h; subst h; simp
  | a :: r, i + 1, x, h => by
    obtain ⟨h1, h2⟩ := modify_perm (f := f) (xs := r) (i := i) (by simpa using h)
    simp only [List.modify_succ_cons, List.eraseIdx_cons_succ]
    exact ⟨(h1.cons a).trans (List.Perm.swap _ _ _), (h2.cons a).trans (List.Perm.swap _ _ _)⟩
  | [], _, _, h => by simp at h
theorem modify_born {f : MapEntry → MapEntry} (hf : ∀ e, (f e).born = e.born) : ∀ (xs : List MapEntry) (i : Nat), (xs.modify i f).map (·.born) = xs.map (·.born)
  | [], i => by cases i <;> rfl
  | a :: r, 0 => by simp [hf]
  | a :: r, i + 1 => by simp only [List.modify_succ_cons, List.map_cons, modify_born hf r i]
def BornOk (xs : List MapEntry) (cl : Nat) : Prop := (xs.map (·.born)).Nodup ∧ ∀ x ∈ xs, x.born < cl
theorem BornOk.modify {xs : List MapEntry} {cl i : Nat} {f : MapEntry → MapEntry} (h : BornOk xs cl) (hf : ∀ e, (f e).born = e.born) : BornOk (xs.modify i f) cl := by
  refine ⟨by rw [modify_born hf]; exact h.1, fun x hx => ?_⟩
  have : x.born ∈ (xs.modify i f).map (·.born) := List.mem_map_of_mem hx
  rw [modify_born hf, List.mem_map] at this
  obtain ⟨y, h1, h2⟩ := this
  rw [← h2]; exact h.2 y h1
theorem BornOk.erase {xs : List MapEntry} {cl i : Nat} (h : BornOk xs cl) : BornOk (xs.eraseIdx i) cl :=
  ⟨h.1.sublist ((List.eraseIdx_sublist xs i).map _), fun x hx => h.2 x (List.mem_of_mem_eraseIdx hx)⟩
theorem BornOk.push {xs : List MapEntry} {cl : Nat} {x : MapEntry} (h : BornOk xs cl) (hx : x.born = cl) : BornOk (xs ++ [x]) (cl + 1) := by
  refine ⟨?_, fun y hy => ?_⟩
  · rw [List.map_append, List.nodup_append]
    refine ⟨h.1, by simp, fun a ha b hb => ?_⟩
    obtain ⟨y, h1, h2⟩ := List.mem_map.1 ha
    have := h.2 y h1
    simp at hb; omega
  · rcases List.mem_append.1 hy with hy | hy
    · have := h.2 y hy; omega
    · simp at hy; subst hy; omega
theorem mv_know {kt : TypeId} {o : Nat} {wr : Bool} {kk : List IntKind} {es : List VE} {rs : List MapEntry} {cl hot : Nat} {ix : SA} {mv iv : Value} {x : List Int} {K : Nat → VE → Prop} (hR : R α st w) (ho : st.get o = some (.mv wr kk es rs cl hot)) (hm : (SA.one (.ref o)).rep α mv) (hi : ix.rep α iv)
    (hf : kfits P kt kk = true) (hx : keyOf kk ix = some x) (h : vfind x es 0 K) :
    ∃ d xs n en e1 e2 p1 p2 ps, α o = some d ∧ d.val = .map (some d.blk) ∧ mv = .map (some d.blk) ∧ w.heap[d.blk]? = some (.map (List.toArray xs) cl) ∧ d.blk < w.heap.size ∧ iv = keyV kk en.key ∧ MvOk α kk es rs xs ps cl ∧
      es[n]? = some en ∧ K n en ∧ es = e1 ++ en :: e2 ∧ e1.length = n ∧ VesRep α kk e1 p1 ∧ VesRep α kk e2 p2 ∧ (∀ b w, (Instr.checkKey b 10000 kt (keyV kk en.key)).run P w = .ok () w) ∧
      ((en.val = none ∧ xs.Perm (p1 ++ p2 ++ rs) ∧ (Instr.findKey kt (keyV kk en.key) xs).run P w = .ok none w) ∨
       ∃ v p i, en.val = some v ∧ p.key = keyV kk en.key ∧ p.born = en.born ∧ v.rep α p.val ∧ xs[i]? = some p ∧ (xs.eraseIdx i).Perm (p1 ++ p2 ++ rs) ∧ (Instr.findKey kt (keyV kk en.key) xs).run P w = .ok (some (i, p.val)) w) := by
  obtain ⟨d, hd, hdv, xs, ps, hh, m⟩ := hR.good o _ ho
  have hlt : d.blk < w.heap.size := (Array.getElem?_eq_some_iff.1 hh).1
  simp only [SA.rep, SC.val?, hd, Option.some.injEq] at hm
  rw [hdv] at hm
  obtain ⟨rfl, hxl⟩ := keyOf_rep hx hi
  obtain ⟨n, en, he, hex, h'⟩ := vfind_sound h
  clear h; subst hex; have h := h'; clear h'
  have hck := (kfits_spec hf).2
  rw [Nat.zero_add] at h
  obtain ⟨e1, e2, p1, p2, hes, hl, hv1, hv2, hoff, hall, hc⟩ := mv_at m he
  refine ⟨d, xs, n, en, e1, e2, p1, p2, ps, hd, hdv, hm.symm, hh, hlt, rfl, m, he, h, hes, hl, hv1, hv2, fun b w => hck b _ hxl w, ?_⟩
  rcases hc with ⟨hn, hp⟩ | ⟨v0, p, hs, hpk, hpb, hpv, hp⟩
  · refine .inl ⟨hn, hp, ?_⟩
    rcases findKeyV (w := w) hf hxl hall with ⟨i, e', a1, a2, _⟩ | ⟨_, a3⟩
    · exact absurd a2 (hoff e' (hp.mem_iff.1 (List.mem_of_getElem? a1)))
    · exact a3
  · obtain ⟨i, hix, hfind⟩ : ∃ i, xs[i]? = some p ∧ (Instr.findKey kt (keyV kk en.key) xs).run P w = .ok (some (i, p.val)) w := by
      rcases findKeyV (w := w) hf hxl hall with ⟨i, e', a1, a2, a3⟩ | ⟨a1, _⟩
      · have := hp.mem_iff.1 (List.mem_of_getElem? a1)
        rcases List.mem_cons.1 this with rfl | this
        · exact ⟨i, a1, a3⟩
        · exact absurd a2 (hoff e' this)
      · exact absurd hpk (a1 p (hp.mem_iff.2 (by simp)))
    exact .inr ⟨v0, p, i, hs, hpk, hpb, hpv, hix, ((modify_perm (f := id) hix).2.symm.trans hp).cons_inv, hfind⟩
theorem evUpdV_sound {T : TypeId} {o : Nat} {kk : List IntKind} {es : List VE} {rs : List MapEntry} {cl hot : Nat} {ix v : SA} {mv iv vv : Value} {k : St → Prop} (hR : R α st w) (ho : st.get o = some (.mv true kk es rs cl hot)) (hm : (SA.one (.ref o)).rep α mv) (hi : ix.rep α iv) (hv : v.rep α vv)
    (h : evUpdV P T st o kk es rs cl ix v k) : ∃ w' st', (Instr.mapUpdate T mv iv vv).run P w = .ok () w' ∧ k st' ∧ To α st w α st' w' := by
  unfold evUpdV at h
  split at h
  · rename_i kt e hu
    split at h
    · rename_i x hf hx
      obtain ⟨d, xs, n, en, e1, e2, p1, p2, ps, hd, hdv, rfl, hh, hlt, rfl, m, he, h, rfl, rfl, hv1, hv2, hck, hc⟩ := mv_know hR ho hm hi hf hx h
      rcases hc with ⟨hn, hp, hfind⟩ | ⟨v0, p, i, hs, hpk, hpb, hpv, hix, hp, hfind⟩
      · rw [hn] at h
        obtain ⟨ps', hm'⟩ := mv_set (v := some v) (b := cl) (xs' := xs ++ [{ key := keyV kk en.key, val := vv, born := cl }]) m hv1 hv2 (BornOk.push ⟨m.born, m.young⟩ rfl) (.inr ⟨v, { key := keyV kk en.key, val := vv, born := cl }, rfl, rfl, rfl, hv, by
          refine List.perm_append_comm.trans ?_
          simpa using hp⟩)
        refine ⟨_, _, ?_, h, mv_put (cl' := cl + 1) hR ho hd hlt hdv hm'⟩
        simp only [Instr.mapUpdate, Sem.run_bind, run_under hu, Result.andThen_ok, run_getObj_map hh, hck, hfind, run_setObj_map hh]
        simp
      · rw [hs] at h
        obtain ⟨q1, _⟩ := modify_perm (f := fun e : MapEntry => { e with key := keyV kk en.key, val := vv }) hix
        obtain ⟨ps', hm'⟩ := mv_set (v := some v) (b := en.born) (xs' := xs.modify i fun e => { e with key := keyV kk en.key, val := vv }) m hv1 hv2 (BornOk.modify ⟨m.born, m.young⟩ fun _ => rfl) (.inr ⟨v, { p with key := keyV kk en.key, val := vv }, rfl, rfl, hpb, hv, q1.trans (hp.cons _)⟩)
        refine ⟨_, _, ?_, h, mv_put (cl' := cl) hR ho hd hlt hdv hm'⟩
        have hkey : ((xs.toArray[i]?).map (·.key)).getD (keyV kk en.key) = keyV kk en.key := by simp [hix, hpk]
        have hst : (Instr.keyThatStays (keyV kk en.key) (keyV kk en.key)).run P w = .ok (keyV kk en.key) w := by simp [Instr.keyThatStays, keyV_same]
        simp only [Instr.mapUpdate, Sem.run_bind, run_under hu, Result.andThen_ok, run_getObj_map hh, hck, hfind, hkey, hst, run_setObj_map hh]
        simp
    · exact h.elim
  · exact h.elim
theorem evDelV_sound {T ty : TypeId} {o : Nat} {kk : List IntKind} {es : List VE} {rs : List MapEntry} {cl hot : Nat} {ix : SA} {mv iv : Value} {k : St → Prop} (hR : R α st w) (ho : st.get o = some (.mv true kk es rs cl hot)) (hm : (SA.one (.ref o)).rep α mv) (hi : ix.rep α iv)
    (h : evDelV P T st o kk es rs cl ix k) (ts : List TypeId) : ∃ w' st', (Builtin.delete_ (T :: ts).toArray ty #[mv, iv]).run P w = .ok (.tuple #[]) w' ∧ k st' ∧ To α st w α st' w' := by
  unfold evDelV at h
  split at h
  · rename_i kt e hu
    split at h
    · rename_i x hf hx
      obtain ⟨d, xs, n, en, e1, e2, p1, p2, ps, hd, hdv, rfl, hh, hlt, rfl, m, he, h, rfl, rfl, hv1, hv2, hck, hc⟩ := mv_know hR ho hm hi hf hx h
      rcases hc with ⟨hn, hp, hfind⟩ | ⟨v0, p, i, hs, hpk, hpb, hpv, hix, hp, hfind⟩
      · obtain ⟨ps', hm'⟩ := mv_set (v := none) (b := en.born) (xs' := xs) m hv1 hv2 ⟨m.born, m.young⟩ (.inl ⟨rfl, hp⟩)
        refine ⟨_, _, ?_, h, mv_put (cl' := cl) hR ho hd hlt hdv hm'⟩
        simp only [Builtin.delete_]
        simp [run_underlying hu, run_getObj_map hh, hck, hfind, run_setObj_map hh]
      · obtain ⟨ps', hm'⟩ := mv_set (v := none) (b := en.born) (xs' := xs.eraseIdx i) m hv1 hv2 (BornOk.erase ⟨m.born, m.young⟩) (.inl ⟨rfl, hp⟩)
        refine ⟨_, _, ?_, h, mv_put (cl' := cl) hR ho hd hlt hdv hm'⟩
        simp only [Builtin.delete_]
        simp [run_underlying hu, run_getObj_map hh, hck, hfind, run_setObj_map hh]
    · exact h.elim
  · exact h.elim
theorem evEntV_sound {T : TypeId} {o : Nat} {kk : List IntKind} {es : List VE} {rs : List MapEntry} {cl hot : Nat} {ix : SA} {mv iv : Value} {k : SV → St → Prop} (hR : R α st w) (ho : st.get o = some (.mv true kk es rs cl hot)) (hm : (SA.one (.ref o)).rep α mv) (hi : ix.rep α iv)
    (h : evEntV P T st o kk es rs cl ix k) : Got P α st w (Instr.mapEntry T mv iv) k := by
  unfold evEntV at h
  split at h
  · rename_i kt t hu
    split at h
    · rename_i z x hf hz hx
      obtain ⟨d, xs, n, en, e1, e2, p1, p2, ps, hd, hdv, rfl, hh, hlt, rfl, m, he, h, rfl, rfl, hv1, hv2, hck, hc⟩ := mv_know hR ho hm hi hf hx h
      rcases hc with ⟨hn, hp, hfind⟩ | ⟨v0, p, i, hs, hpk, hpb, hpv, hix, hp, hfind⟩
      · rw [hn] at h
        obtain ⟨ps', hm'⟩ := mv_set (v := some (SA.ofValue z)) (b := cl) (xs' := xs ++ [{ key := keyV kk en.key, val := z, born := cl }]) m hv1 hv2 (BornOk.push ⟨m.born, m.young⟩ rfl) (.inr ⟨SA.ofValue z, { key := keyV kk en.key, val := z, born := cl }, rfl, rfl, rfl, SA.rep_ofValue z, by
          refine List.perm_append_comm.trans ?_
          simpa using hp⟩)
        refine ⟨.tuple #[z, .int .i64 cl], _, α, .tup [SA.ofValue z, .one (.raw (.int .i64 cl))], _, ?_, ⟨[z, .int .i64 cl], ⟨SA.rep_ofValue z, rfl, trivial⟩, rfl⟩, h, mv_put (cl' := cl + 1) hR ho hd hlt hdv hm'⟩
        simp only [Instr.mapEntry, Sem.run_bind, run_under hu, Result.andThen_ok, run_getObj_map hh, hck, hfind, run_setObj_map hh, run_zero hz]
        simp [goInt]
      · rw [hs] at h
        obtain ⟨q1, _⟩ := modify_perm (f := fun e : MapEntry => { e with key := keyV kk en.key }) hix
        obtain ⟨ps', hm'⟩ := mv_set (v := some v0) (b := en.born) (xs' := xs.modify i fun e => { e with key := keyV kk en.key }) m hv1 hv2 (BornOk.modify ⟨m.born, m.young⟩ fun _ => rfl) (.inr ⟨v0, { p with key := keyV kk en.key }, rfl, rfl, hpb, hpv, q1.trans (hp.cons _)⟩)
        refine ⟨.tuple #[p.val, .int .i64 en.born], _, α, .tup [v0, .one (.raw (.int .i64 en.born))], _, ?_, ⟨[p.val, .int .i64 en.born], ⟨hpv, rfl, trivial⟩, rfl⟩, h, mv_put (cl' := cl) hR ho hd hlt hdv hm'⟩
        have hkey : ((xs.toArray[i]?).map (·.key)).getD (keyV kk en.key) = keyV kk en.key := by simp [hix, hpk]
        have hst : (Instr.keyThatStays (keyV kk en.key) (keyV kk en.key)).run P w = .ok (keyV kk en.key) w := by simp [Instr.keyThatStays, keyV_same]
        simp only [Instr.mapEntry, Sem.run_bind, run_under hu, Result.andThen_ok, run_getObj_map hh, hck, hfind, hkey, hst, run_setObj_map hh]
        simp [goInt, hix, hpb]
    · exact h.elim
  · exact h.elim
theorem findIdx_bornV {xs : List MapEntry} {i : Nat} {p : MapEntry} {b : Int} (h1 : xs[i]? = some p) (h2 : (p.born : Int) = b) (h3 : (xs.map (·.born)).Nodup) : xs.findIdx? (fun e => (e.born : Int) == b) = some i := by
  rw [List.findIdx?_eq_some_iff_getElem]
  obtain ⟨hlt, hg⟩ := List.getElem?_eq_some_iff.1 h1
  refine ⟨hlt, by rw [hg]; simpa using h2, fun j hj => ?_⟩
  have hlj : j < xs.length := by omega
  have hne := (List.pairwise_iff_getElem.1 h3) j i (by simpa using hlj) (by simpa using hlt) hj
  simp only [List.getElem_map] at hne
  rw [hg] at hne
  simp only [Bool.not_eq_true, beq_eq_false_iff_ne, ne_eq]
  omega
theorem evEntStV_sound {o : Nat} {kk : List IntKind} {es : List VE} {rs : List MapEntry} {cl hot : Nat} {T : TypeId} {s v : SA} {mv sv vv : Value} {k : St → Prop} (hR : R α st w) (ho : st.get o = some (.mv true kk es rs cl hot)) (hm : (SA.one (.ref o)).rep α mv) (hs : s.rep α sv) (hv : v.rep α vv)
    (h : evEntStV st o kk es rs cl hot s v k) : ∃ w' st', (Instr.entryStore T mv sv vv).run P w = .ok () w' ∧ k st' ∧ To α st w α st' w' := by
  unfold evEntStV at h
  split at h
  · rename_i en ik b he
    simp only [SA.rep, SC.val?, Option.some.injEq] at hs
    subst hs
    split at h
    · rename_i v0 hval
      obtain ⟨hb, h⟩ := need_iff.1 h
      have hb := eqK_t.1 hb
      obtain ⟨d, hd, hdv, xs, ps, hh, m⟩ := hR.good o _ ho
      have hlt : d.blk < w.heap.size := (Array.getElem?_eq_some_iff.1 hh).1
      simp only [SA.rep, SC.val?, hd, Option.some.injEq] at hm
      rw [hdv] at hm
      subst hm
      obtain ⟨e1, e2, p1, p2, rfl, rfl, hv1, hv2, hoff, hall, hc⟩ := mv_at m he
      rcases hc with ⟨hn, _⟩ | ⟨v0', p, hs, hpk, hpb, hpv, hp⟩
      · rw [hn] at hval; cases hval
      · obtain ⟨i, hix⟩ := List.mem_iff_getElem?.1 (hp.mem_iff.2 (List.mem_cons_self ..) : p ∈ xs)
        obtain ⟨q1, q2⟩ := modify_perm (f := fun e : MapEntry => { e with val := vv }) hix
        have q3 : (xs.eraseIdx i).Perm (p1 ++ p2 ++ rs) := (q2.symm.trans hp).cons_inv
        obtain ⟨ps', hm'⟩ := mv_set (v := some v) (b := en.born) (xs' := xs.modify i fun e => { e with val := vv }) m hv1 hv2 (BornOk.modify ⟨m.born, m.young⟩ fun _ => rfl) (.inr ⟨v, { p with val := vv }, rfl, hpk, hpb, hv, q1.trans (q3.cons _)⟩)
        refine ⟨_, _, ?_, h, mv_put (cl' := cl) hR ho hd hlt hdv hm'⟩
        have hfi := findIdx_bornV (b := b) hix (by rw [hb, hpb]) m.born
        simp only [Instr.entryStore, Sem.run_bind, Result.andThen_ok, run_getObj_map hh, asInt, asIntOf, Sem.run_pure]
        simp [hfi, run_setObj_map hh]
    · exact h.elim
  · exact h.elim
end Go.Ev

/- THE ENGINE, part 11 b: maps told as tables. -/
namespace Go.Ev
open Go
variable {P : Program} {α : Al} {st : St} {w : World}
theorem idxI_spec {x : Int} : ∀ {xs : List Int}, (idxI x xs < xs.length → xs.getD (idxI x xs) 0 = x) ∧ idxI x xs ≤ xs.length
  | [] => ⟨fun h => by simp [idxI] at h, Nat.le_refl _⟩
  | y :: r => by
    unfold idxI
    have ih := idxI_spec (x := x) (xs := r)
    cases h : eqK x y with
    | true => exact ⟨fun _ => by simpa using (eqK_t.1 h).symm, Nat.zero_le _⟩
    | false => exact ⟨fun hl => by simp only [List.length_cons] at hl; simpa using ih.1 (by omega), by simp only [List.length_cons]; omega⟩
theorem strEq_t {a b : ByteArray} (h : strEqD a b = true) : a = b := by
  have := eq_of_beq h
  cases a with | mk a => cases b with | mk b => exact congrArg _ (Array.toList_inj.1 this)
theorem strEq_eq (a b : ByteArray) : strEqD a b = (a == b) := by
  cases h : strEqD a b with
  | true => rw [strEq_t h, bytes_refl]
  | false =>
    cases h2 : (a == b) with
    | false => rfl
    | true => rw [bytes_eq h2] at h; simp [strEqD] at h
theorem idxS_spec {x : ByteArray} : ∀ {xs : List ByteArray}, (idxS x xs < xs.length → xs.getD (idxS x xs) ByteArray.empty = x) ∧ idxS x xs ≤ xs.length
  | [] => ⟨fun h => by simp [idxS] at h, Nat.le_refl _⟩
  | y :: r => by
    unfold idxS
    have ih := idxS_spec (x := x) (xs := r)
    cases h : strEqD x y with
    | true => exact ⟨fun _ => by simpa using (strEq_t h).symm, Nat.zero_le _⟩
    | false => exact ⟨fun hl => by simp only [List.length_cons] at hl; simpa using ih.1 (by omega), by simp only [List.length_cons]; omega⟩
theorem findNow_ints {k : IntKind} {x : Int} : ∀ {ys : List Int} {xs : List MapEntry} {j : Nat}, xs.length = ys.length → (∀ (i : Nat) (e : MapEntry), xs[i]? = some e → e.key = .int k (ys.getD i 0)) →
    (idxI x ys < ys.length → ∃ e, xs[idxI x ys]? = some e ∧ Instr.findNow (.int k) (.int k x) xs j = some (some (j + idxI x ys, e.val))) ∧ (¬ idxI x ys < ys.length → Instr.findNow (.int k) (.int k x) xs j = some none)
  | [], [], j, _, _ => ⟨fun h => by simp [idxI] at h, fun _ => rfl⟩
  | y :: ys, e :: xs, j, hl, hk => by
    have h0 := hk 0 e rfl
    have ih := findNow_ints (k := k) (x := x) (ys := ys) (xs := xs) (j := j + 1) (by simpa using hl) (fun i e he => by simpa using hk (i + 1) e (by simpa using he))
    simp only [List.getD_cons_zero] at h0
    unfold idxI
    simp only [Instr.findNow, h0, Instr.sameNow, if_true]
    cases h : eqK x y with
    | true =>
      rw [eqK_eq] at h
      rw [h]
      exact ⟨fun _ => ⟨e, rfl, rfl⟩, fun hn => by simp at hn⟩
    | false =>
      rw [eqK_eq] at h
      rw [h]
      refine ⟨fun hlt => ?_, fun hn => ih.2 (by simp only [List.length_cons] at hn; omega)⟩
      obtain ⟨e', a1, a2⟩ := ih.1 (by simp only [List.length_cons] at hlt; omega)
      exact ⟨e', by simpa using a1, by simp only; rw [a2, show j + 1 + idxI x ys = j + (idxI x ys + 1) from by omega]⟩
  | [], _ :: _, _, hl, _ => by simp at hl
  | _ :: _, [], _, hl, _ => by simp at hl
theorem findNow_strs {x : ByteArray} : ∀ {ys : List ByteArray} {xs : List MapEntry} {j : Nat}, xs.length = ys.length → (∀ (i : Nat) (e : MapEntry), xs[i]? = some e → e.key = .string (ys.getD i ByteArray.empty)) →
    (idxS x ys < ys.length → ∃ e, xs[idxS x ys]? = some e ∧ Instr.findNow .string (.string x) xs j = some (some (j + idxS x ys, e.val))) ∧ (¬ idxS x ys < ys.length → Instr.findNow .string (.string x) xs j = some none)
  | [], [], j, _, _ => ⟨fun h => by simp [idxS] at h, fun _ => rfl⟩
  | y :: ys, e :: xs, j, hl, hk => by
    have h0 := hk 0 e rfl
    have ih := findNow_strs (x := x) (ys := ys) (xs := xs) (j := j + 1) (by simpa using hl) (fun i e he => by simpa using hk (i + 1) e (by simpa using he))
    simp only [List.getD_cons_zero] at h0
    unfold idxS
    simp only [Instr.findNow, h0, Instr.sameNow]
    cases h : strEqD x y with
    | true =>
      rw [strEq_eq] at h
      rw [h]
      exact ⟨fun _ => ⟨e, rfl, rfl⟩, fun hn => by simp at hn⟩
    | false =>
      rw [strEq_eq] at h
      rw [h]
      refine ⟨fun hlt => ?_, fun hn => ih.2 (by simp only [List.length_cons] at hn; omega)⟩
      obtain ⟨e', a1, a2⟩ := ih.1 (by simp only [List.length_cons] at hlt; omega)
      exact ⟨e', by simpa using a1, by simp only; rw [a2, show j + 1 + idxS x ys = j + (idxS x ys + 1) from by omega]⟩
  | [], _ :: _, _, hl, _ => by simp at hl
  | _ :: _, [], _, hl, _ => by simp at hl
theorem KC.idx_spec {kc : KC} {x : Value} {i : Nat} (h : kc.idx x = some i) : (i < kc.len → kc.at i = x) ∧ i ≤ kc.len := by
  cases kc with
  | ints k xs =>
    cases x <;> simp only [KC.idx, reduceCtorEq] at h
    split at h
    · rename_i e; cases h; subst e
      exact ⟨fun hl => by simp only [KC.at]; rw [idxI_spec.1 hl], idxI_spec.2⟩
    · simp at h
  | strs xs =>
    cases x <;> simp only [KC.idx, reduceCtorEq, Option.some.injEq] at h
    subst h
    exact ⟨fun hl => by simp only [KC.at]; rw [idxS_spec.1 hl], idxS_spec.2⟩
theorem KC.push_spec {kc : KC} {x : Value} {i : Nat} (h : kc.idx x = some i) : (kc.push x).len = kc.len + 1 ∧ ∀ j, j < kc.len + 1 → (kc.push x).at j = if j < kc.len then kc.at j else x := by
  cases kc with
  | ints k xs =>
    cases x <;> simp only [KC.idx, reduceCtorEq] at h
    split at h
    · rename_i e; subst e
      refine ⟨by simp [KC.push, KC.len], fun j hj => ?_⟩
      simp only [KC.push, KC.at]
      by_cases hl : j < (KC.ints k xs).len
      · have hl2 : j < xs.length := hl
        rw [if_pos hl, List.getD_eq_getElem?_getD, List.getElem?_append_left hl2, List.getD_eq_getElem?_getD]
      · have : j = xs.length := by simp only [KC.len] at hj hl; omega
        rw [if_neg hl, this]; simp
    · simp at h
  | strs xs =>
    cases x <;> simp only [KC.idx, reduceCtorEq, Option.some.injEq] at h
    refine ⟨by simp [KC.push, KC.len], fun j hj => ?_⟩
    simp only [KC.push, KC.at]
    by_cases hl : j < (KC.strs xs).len
    · have hl2 : j < xs.length := hl
      rw [if_pos hl, List.getD_eq_getElem?_getD, List.getElem?_append_left hl2, List.getD_eq_getElem?_getD]
    · have : j = xs.length := by simp only [KC.len] at hj hl; omega
      rw [if_neg hl, this]; simp
theorem getD_erase {β : Type} {d : β} (xs : List β) (i j : Nat) : (xs.eraseIdx i).getD j d = if j < i then xs.getD j d else xs.getD (j + 1) d := by
  simp only [List.getD_eq_getElem?_getD, List.getElem?_eraseIdx]
  split <;> rfl
theorem KC.erase_spec {kc : KC} {i : Nat} (h : i < kc.len) : (kc.erase i).len = kc.len - 1 ∧ ∀ j, (kc.erase i).at j = if j < i then kc.at j else kc.at (j + 1) := by
  cases kc with
  | ints k xs =>
    simp only [KC.erase, KC.len, KC.at] at h ⊢
    refine ⟨by rw [List.length_eraseIdx, if_pos h], fun j => ?_⟩
    rw [getD_erase]; split <;> rfl
  | strs xs =>
    simp only [KC.erase, KC.len, KC.at] at h ⊢
    refine ⟨by rw [List.length_eraseIdx, if_pos h], fun j => ?_⟩
    rw [getD_erase]; split <;> rfl
theorem Col.erase_at {c : Col} {i j : Nat} : (c.erase i).at j = if j < i then c.at j else c.at (j + 1) := by
  cases c <;> simp only [Col.erase, Col.at, getD_erase] <;> split <;> rfl
theorem colsErase_at {i j : Nat} : ∀ {cs : List Col}, colsAt j (cs.map (Col.erase i)) = if j < i then colsAt j cs else colsAt (j + 1) cs
  | [] => by simp [colsAt]
  | c :: r => by
    simp only [List.map_cons, colsAt, Col.erase_at, colsErase_at (cs := r)]
    split <;> rfl
theorem kcFind {kt : TypeId} {kc : KC} {x : Value} {i : Nat} {xs : List MapEntry} (hf : KC.fits P kt kc = true) (hi : kc.idx x = some i) (hl : xs.length = kc.len) (hk : ∀ i e, xs[i]? = some e → e.key = kc.at i) :
    ((i < kc.len ∧ ∃ e, xs[i]? = some e ∧ e.key = x ∧ (Instr.findKey kt x xs).run P w = .ok (some (i, e.val)) w) ∨ (¬ i < kc.len ∧ (Instr.findKey kt x xs).run P w = .ok none w)) ∧
      (∀ b, (Instr.checkKey b 10000 kt x).run P w = .ok () w) ∧ (Instr.keyThatStays x x).run P w = .ok x w := by
  have hsp := KC.idx_spec hi
  unfold KC.fits at hf
  split at hf
  · rename_i k k' ys hu
    have := of_decide_eq_true hf; subst this
    cases x <;> simp only [KC.idx, reduceCtorEq] at hi
    split at hi
    · rename_i e; subst e; cases hi
      have hn := findNow_ints (k := k) (x := ‹Int›) (ys := ys) (xs := xs) (j := 0) hl hk
      refine ⟨?_, fun b => ?_, ?_⟩
      · by_cases h : idxI ‹Int› ys < (KC.ints k ys).len
        · obtain ⟨e, a1, a2⟩ := hn.1 h
          refine .inl ⟨h, e, a1, (hk _ _ a1).trans (hsp.1 h), ?_⟩
          simp only [Instr.findKey, Sem.run_bind, run_under hu, Result.andThen_ok]
          rw [a2, Nat.zero_add]; rfl
        · refine .inr ⟨h, ?_⟩
          simp only [Instr.findKey, Sem.run_bind, run_under hu, Result.andThen_ok]
          rw [hn.2 h]; rfl
      · have : ∀ n x, (Instr.checkKey b (n + 1) kt (.int k x)).run P w = .ok () w := fun n x => by simp only [Instr.checkKey, Sem.run_bind, run_under hu, Result.andThen_ok, Sem.run_pure]
        exact this 9999 _
      · simp [Instr.keyThatStays, Instr.sameBits]
    · simp at hi
  · rename_i ys hu
    cases x <;> simp only [KC.idx, reduceCtorEq, Option.some.injEq] at hi
    subst hi
    have hn := findNow_strs (x := ‹ByteArray›) (ys := ys) (xs := xs) (j := 0) hl hk
    refine ⟨?_, fun b => ?_, ?_⟩
    · by_cases h : idxS ‹ByteArray› ys < (KC.strs ys).len
      · obtain ⟨e, a1, a2⟩ := hn.1 h
        refine .inl ⟨h, e, a1, (hk _ _ a1).trans (hsp.1 h), ?_⟩
        simp only [Instr.findKey, Sem.run_bind, run_under hu, Result.andThen_ok]
        rw [a2, Nat.zero_add]; rfl
      · refine .inr ⟨h, ?_⟩
        simp only [Instr.findKey, Sem.run_bind, run_under hu, Result.andThen_ok]
        rw [hn.2 h]; rfl
    · have : ∀ n x, (Instr.checkKey b (n + 1) kt (.string x)).run P w = .ok () w := fun n x => by simp only [Instr.checkKey, Sem.run_bind, run_under hu, Result.andThen_ok, Sem.run_pure]
      exact this 9999 _
    · simp [Instr.keyThatStays, Instr.sameBits, bytes_refl]
  · simp at hf
def ValG (α : Al) (st : St) (w : World) (va : Bool) (e : List SC) (v : Value) : Prop :=
  (match va with | true => ∃ a, v = .agg a | false => Ev.isCell v = true) ∧ v.cells.size = e.length ∧ ∀ (j : Nat) (c : SC), e[j]? = some c → ∃ u, v.cells[j]? = some u ∧ CellG α st w c u ∧ Ev.isCell u = true
theorem CellOk.free {c : SC} {u : Value} {α β : Al} (h : CellOk w α c u) (hc : (∃ v, c = .raw v) ∨ ∃ k xs, c = .dat k xs) : CellOk w β c u := by
  rcases hc with ⟨v, rfl⟩ | ⟨k, xs, rfl⟩ <;> exact h
theorem colsAt_free {i : Nat} : ∀ {cs : List Col} {j : Nat} {c : SC}, (colsAt i cs)[j]? = some c → (∃ v, c = .raw v) ∨ ∃ k xs, c = .dat k xs
  | [], j, c, h => by simp [colsAt] at h
  | x :: r, 0, c, h => by
    simp only [colsAt, List.getElem?_cons_zero, Option.some.injEq] at h
    subst h
    cases x <;> first | exact .inl ⟨_, rfl⟩ | exact .inr ⟨_, _, rfl⟩
  | x :: r, j + 1, c, h => by simp only [colsAt, List.getElem?_cons_succ] at h; exact colsAt_free h
theorem ValG.frz {st' : St} {va : Bool} {e : List SC} {v : Value} (h : ValG α st w va e v) (hf : ∀ b, Is α st w b → Is α st' w b) : ValG α st' w va e v :=
  ⟨h.1, h.2.1, fun j c hj => let ⟨u, a, b, c⟩ := h.2.2 j c hj; ⟨u, a, b.frz hf, c⟩⟩
theorem R.mt (hR : R α st w) {o : Nat} {wb va : Bool} {kc : KC} {cs : List Col} {bs : List Int} {cl : Nat} (ho : st.get o = some (.mt wb kc va cs bs cl)) :
    ∃ d xs, α o = some d ∧ d.val = .map (some d.blk) ∧ w.heap[d.blk]? = some (.map (List.toArray xs) cl) ∧ xs.length = kc.len ∧ bs.length = kc.len ∧
      (∀ (i : Nat) (x : MapEntry), xs[i]? = some x → x.key = kc.at i) ∧ (∀ (i : Nat) (x : MapEntry), xs[i]? = some x → (x.born : Int) = bs.getD i 0) ∧ ∀ (i : Nat) (x : MapEntry), xs[i]? = some x → ValG α st w va (colsAt i cs) x.val := by
  obtain ⟨d, hd, h1, xs, h2, h3, h4, h5⟩ := hR.good o _ ho
  refine ⟨d, xs, hd, h1, h2, h3, h4, fun i x hx => (h5 i x hx).1, fun i x hx => (h5 i x hx).2.1, fun i x hx => ?_⟩
  obtain ⟨a3, a4, a5⟩ := (h5 i x hx).2.2
  refine ⟨a3, a4, fun j c hj => ?_⟩
  obtain ⟨u, b1, b2, b3⟩ := a5 j c hj
  refine ⟨u, b1, ⟨b2.free (colsAt_free hj), fun k ys b e hb => ?_⟩, b3⟩
  subst e
  exact ⟨o, _, d, ho, hd, xs.toArray, cl, i, x, j, k, ys, u, h2, by simpa using hx, hj, b1, hb⟩
theorem mt_put (hR : R α st w) {o : Nat} {d : Den} {va : Bool} {kc kc' : KC} {cs cs' : List Col} {bs bs' : List Int} {cl cl' : Nat} {xs' : List MapEntry} {m : Obj} (ho : st.get o = some (.mt true kc va cs bs cl)) (hd : α o = some d)
    (hv : d.val = .map (some d.blk)) (hm : w.heap[d.blk]? = some m) (hmm : ∃ xs c, m = .map xs c) (h1 : xs'.length = kc'.len) (h2 : bs'.length = kc'.len)
    (h3 : ∀ (i : Nat) (x : MapEntry), xs'[i]? = some x → x.key = kc'.at i ∧ (x.born : Int) = bs'.getD i 0 ∧ ValG α st w va (colsAt i cs') x.val) :
    To α st w α (st.put o (some (.mt true kc' va cs' bs' cl'))) { w with heap := w.heap.setIfInBounds d.blk (.map xs'.toArray cl') } := by
  have hlt : d.blk < w.heap.size := (Array.getElem?_eq_some_iff.1 hm).1
  have hne : ∀ {k ys u b}, DatOk w k ys u → DatBlk ys u b → b ≠ d.blk := by
    rintro k ys u b hok ⟨hys, o', n, c, rfl⟩ rfl
    rcases hok with ⟨e, _⟩ | ⟨_, b', o'', c', e, _, _, hc⟩
    · exact hys e
    · simp at e
      obtain ⟨⟨rfl, rfl⟩, _, _⟩ := e
      have := hc 0 (by cases ys <;> simp_all)
      obtain ⟨xs, c, rfl⟩ := hmm
      simp [World.cell?, hm] at this
  have hkeep : ∀ b, b ≠ d.blk → (w.heap.setIfInBounds d.blk (.map xs'.toArray cl'))[b]? = w.heap[b]? := fun b hb => by simp [Array.getElem?_setIfInBounds]; intro e; exact absurd e.symm hb
  have hnest : ∀ b, NestM { w with heap := w.heap.setIfInBounds d.blk (.map xs'.toArray cl') } d cs' b → Is α st w b ∧ b ≠ d.blk := by
    rintro b ⟨xs, c, i, x, j, k, ys, u, g1, g2, g3, g4, g5⟩
    simp only [Array.getElem?_setIfInBounds, hlt, if_true, Option.some.injEq] at g1
    cases g1
    obtain ⟨_, _, _, _, a5⟩ := h3 i x (by simpa using g2)
    obtain ⟨u', b1, b2, _⟩ := a5 j _ g3
    rw [g4] at b1; cases b1
    exact ⟨b2.2 k ys b rfl g5, hne b2.1 g5⟩
  refine To.upd hR ho hd rfl (by simp) (fun b hb => hkeep b hb) (.of rfl rfl) rfl rfl ⟨hv, xs', by simp [Array.getElem?_setIfInBounds, hlt], h1, h2, fun i x hx => ?_⟩ (fun _ h => h) (fun b hb => .inr (hnest b hb).1) (fun _ b hb hic => (hnest b hic).2 hb)
  obtain ⟨a1, a2, a3, a4, a5⟩ := h3 i x hx
  refine ⟨a1, a2, a3, a4, fun j c hj => ?_⟩
  obtain ⟨u, b1, b2, b3⟩ := a5 j c hj
  refine ⟨u, b1, ?_, b3⟩
  have hfree := colsAt_free hj
  have hb2 := b2.1.free (β := fun _ => none) hfree
  rcases hfree with ⟨v, rfl⟩ | ⟨k, ys, rfl⟩
  · exact hb2
  · exact DatOk.congr hb2 (fun b hb => hkeep b (hne hb2 hb)) (by simp)
theorem valAt_repG {va : Bool} {cs : List Col} {i : Nat} {v : Value} (h : ValG α st w va (colsAt i cs) v) : (valAt va cs i).repG α st w v := by
  obtain ⟨h1, h2, h3⟩ := h
  have key : RepsG α st w (colsAt i cs) v.cells.toList := by
    have : ∀ (l : List SC) (vs : List Value), vs.length = l.length → (∀ (j : Nat) (c : SC), l[j]? = some c → ∃ u, vs[j]? = some u ∧ CellG α st w c u) → RepsG α st w l vs := by
      intro l
      induction l with
      | nil => intro vs hl _; cases vs with | nil => trivial | cons _ _ => simp at hl
      | cons c l ih =>
        intro vs hl hc
        cases vs with
        | nil => simp at hl
        | cons u vs =>
          obtain ⟨u', e1, e2⟩ := hc 0 c rfl
          simp at e1; subst e1
          exact ⟨e2, ih vs (by simpa using hl) fun j c hj => by simpa using hc (j + 1) c (by simpa using hj)⟩
    refine this _ _ (by simpa using h2) fun j c hj => ?_
    obtain ⟨u, a, b, _⟩ := h3 j c hj
    exact ⟨u, by simpa using a, b⟩
  unfold valAt
  cases va with
  | true =>
    obtain ⟨a, rfl⟩ := h1
    exact ⟨a.toList, key, by simp⟩
  | false =>
    have hc : v.cells = #[v] := by cases v <;> first | rfl | (simp [Ev.isCell] at h1; done)
    rw [hc] at key h2
    dsimp only
    split
    · rename_i c e
      rw [e] at key
      exact key.1
    · rename_i hn
      exfalso
      cases hcs : colsAt i cs with
      | nil => rw [hcs] at h2; simp at h2
      | cons c r => cases r with
        | nil => exact hn _ hcs
        | cons _ _ => rw [hcs] at h2; simp at h2
theorem evLook_sound {T : TypeId} {m ix : SA} {mv iv : Value} {ok : Bool} {k : SV → St → Prop} (hR : R α st w) (hm : m.rep α mv) (hi : ix.rep α iv) (h : evLook P T st m ix ok k) :
    Got P α st w (Instr.lookup T mv iv ok) k := by
  have old : (evLookup P T st m ix ok fun v => k v st) → Got P α st w (Instr.lookup T mv iv ok) k := fun h =>
    let ⟨sv, v, h1, h2, h3⟩ := evLookup_sound hR hm hi h; ⟨v, w, α, sv, st, h1, h2, h3, To.refl hR⟩
  unfold evLook at h
  split at h
  · rename_i o
    split at h
    · rename_i wb kc va cs bs cl ho
      obtain ⟨d, xs, hd, hv, hh, hl, hbl, hk, hb, hval⟩ := hR.mt ho
      unfold evLookT at h
      split at h
      · rename_i kt e x hu
        split at h
        · rename_i z i hf hz hidx
          simp only [SA.rep, SC.val?, hd, Option.some.injEq] at hm hi
          rw [hv] at hm
          subst hm; subst hi
          obtain ⟨hfind, hck, _⟩ := kcFind (w := w) hf hidx hl hk
          rcases branch_or h with ⟨hlt, h⟩ | ⟨hlt, h⟩
          · have hlt := of_decide_eq_true hlt
            rcases hfind with ⟨_, e', a1, a2, a3⟩ | ⟨hn, _⟩
            · obtain ⟨sv, α', st', x1, x2, x3⟩ := ghostA_sound hR (valAt_repG (hval i e' a1)) h
              unfold lookK at x3
              cases ok with
              | true =>
                dsimp only at x3
                split at x3
                · rename_i a
                  refine ⟨.tuple #[e'.val, .bool true], w, α', .tup [a, .one (.raw (.bool true))], st', ?_, ⟨[e'.val, .bool true], ⟨x2, rfl, trivial⟩, rfl⟩, x3, x1⟩
                  simp only [Instr.lookup, Sem.run_bind, run_under hu, Result.andThen_ok, run_getObj_map hh, Sem.run_pure, hck, a3, if_true]
                · exact x3.elim
              | false =>
                refine ⟨e'.val, w, α', _, st', ?_, x2, x3, x1⟩
                simp [Instr.lookup, run_under hu, run_getObj_map hh, hck, a3]
            · exact absurd hlt hn
          · have hlt := of_decide_eq_false hlt
            rcases hfind with ⟨hn, _⟩ | ⟨_, a3⟩
            · exact absurd hn hlt
            · unfold evFound at h
              cases ok with
              | true =>
                refine ⟨.tuple #[z, .bool false], w, α, .tup [SA.ofValue z, .one (.raw (.bool false))], st, ?_, ⟨[z, .bool false], ⟨SA.rep_ofValue z, rfl, trivial⟩, rfl⟩, h, To.refl hR⟩
                simp [Instr.lookup, run_under hu, run_getObj_map hh, hck, a3, run_zero hz]
              | false =>
                refine ⟨z, w, α, .sa (SA.ofValue z), st, ?_, SA.rep_ofValue z, h, To.refl hR⟩
                simp [Instr.lookup, run_under hu, run_getObj_map hh, hck, a3, run_zero hz]
        · exact h.elim
      · exact h.elim
    · rename_i ho; exact evLookV_sound hR ho hm hi h
    · exact old h
  · exact old h
theorem getElem_modify {xs : List MapEntry} {i j : Nat} {f : MapEntry → MapEntry} {x : MapEntry} (h : (xs.modify i f)[j]? = some x) : (j = i ∧ ∃ y, xs[i]? = some y ∧ x = f y) ∨ (j ≠ i ∧ xs[j]? = some x) := by
  rw [List.getElem?_modify] at h
  cases hx : xs[j]? with
  | none => rw [hx] at h; simp at h
  | some y =>
    rw [hx] at h
    simp only [Option.map_eq_map, Option.map_some, Option.some.injEq] at h
    by_cases e : i = j
    · subst e
      rw [if_pos rfl] at h
      exact .inl ⟨rfl, y, hx, h.symm⟩
    · rw [if_neg e] at h
      exact .inr ⟨fun e' => e e'.symm, by rw [h]⟩
theorem cells_valG {v : SA} {vv : Value} {cells : List SC} (hv : v.rep α vv) (hcell : ∀ c, v = .one c → Ev.isCell vv = true) (hc : ∀ u ∈ vv.cells.toList, Ev.isCell u = true) (hr : RepsG α st w cells vv.cells.toList) : ValG α st w v.isAgg cells vv := by
  refine ⟨?_, by rw [← hr.length]; simp, fun j c hj => ?_⟩
  · cases v with
    | one c => exact hcell c rfl
    | agg l => obtain ⟨vs, _, rfl⟩ := hv; exact ⟨_, rfl⟩
  · obtain ⟨u, a, b⟩ := hr.get hj
    exact ⟨u, by simpa using a, b, hc u (List.mem_of_getElem? a)⟩
theorem evPutT_sound {T kt e : TypeId} {o : Nat} {x : Value} {va0 : Bool} {cells : List SC} {vv mv : Value} {k : St → Prop} (hR : R α st w) (hu : P.underlying T = some (.map kt e)) (hm : (SA.one (.ref o)).rep α mv) (hv : ValG α st w va0 cells vv) (h : evPutT P kt va0 o x cells st k) :
    ∃ w' st', (Instr.mapUpdate T mv x vv).run P w = .ok () w' ∧ k st' ∧ To α st w α st' w' := by
  unfold evPutT at h
  split at h
  · rename_i kc va cs bs cl ho
    obtain ⟨d, xs, hd, hdv, hh, hl, hbl, hk, hb, hval⟩ := hR.mt ho
    simp only [SA.rep, SC.val?, hd, Option.some.injEq] at hm
    rw [hdv] at hm
    subst hm
    split at h
    · rename_i i hf hidx
      rw [Bool.and_eq_true_iff] at hf
      have hva := eq_of_beq hf.2
      subst hva
      obtain ⟨hfind, hck, hst⟩ := kcFind (w := w) hf.1 hidx hl hk
      rcases branch_or h with ⟨hlt, h⟩ | ⟨hlt, h⟩
      · have hlt := of_decide_eq_true hlt
        obtain ⟨cs', hz, h⟩ := opt_iff.1 h
        rcases hfind with ⟨_, e', a1, a2, a3⟩ | ⟨hn, _⟩
        · refine ⟨_, _, ?_, h, mt_put (cl' := cl) (kc' := kc) (bs' := bs) (xs' := xs.modify i fun e => { e with key := x, val := vv }) hR ho hd hdv hh ⟨_, _, rfl⟩ (by simpa using hl) hbl fun j y hy => ?_⟩
          · have hkey : ((xs.toArray[i]?).map (·.key)).getD x = x := by simp [a1, a2]
            simp only [Instr.mapUpdate, Sem.run_bind, run_under hu, Result.andThen_ok, run_getObj_map hh, hck, a3, hkey, hst, run_setObj_map hh]
            simp
          · rcases getElem_modify hy with ⟨rfl, y', b1, rfl⟩ | ⟨hne, b1⟩
            · rw [a1] at b1; cases b1
              refine ⟨a2.symm.trans (hk _ _ a1), hb _ e' a1, ?_⟩
              rw [colsSet_at hlt hz hlt, if_pos rfl]; exact hv
            · have hj : j < kc.len := by rw [← hl]; exact (List.getElem?_eq_some_iff.1 b1).1
              refine ⟨hk _ _ b1, hb _ _ b1, ?_⟩
              rw [colsSet_at hlt hz hj, if_neg hne]; exact hval _ _ b1
        · exact absurd hlt hn
      · have hlt := of_decide_eq_false hlt
        obtain ⟨cs', hz, h⟩ := opt_iff.1 h
        obtain ⟨hp1, hp2⟩ := KC.push_spec hidx
        rcases hfind with ⟨hn, _⟩ | ⟨_, a3⟩
        · exact absurd hn hlt
        · refine ⟨_, _, ?_, h, mt_put (cl' := cl + 1) (kc' := kc.push x) (bs' := bs ++ [(cl : Int)]) (xs' := xs ++ [{ key := x, val := vv, born := cl }]) hR ho hd hdv hh ⟨_, _, rfl⟩ (by simp [hp1, hl]) (by simp [hp1, hbl]) fun j y hy => ?_⟩
          · simp only [Instr.mapUpdate, Sem.run_bind, run_under hu, Result.andThen_ok, run_getObj_map hh, hck, a3, run_setObj_map hh]
            simp
          · have hj : j < kc.len + 1 := by have := (List.getElem?_eq_some_iff.1 hy).1; simp [hl] at this; exact this
            rw [hp2 j hj, colsPush_at hz hj]
            by_cases hlt' : j < kc.len
            · rw [List.getElem?_append_left (by omega)] at hy
              rw [if_pos hlt', if_pos hlt', List.getD_eq_getElem?_getD, List.getElem?_append_left (by omega), ← List.getD_eq_getElem?_getD]
              exact ⟨hk _ _ hy, hb _ _ hy, hval _ _ hy⟩
            · have : j = kc.len := by omega
              subst this
              rw [List.getElem?_append_right (by omega), hl] at hy
              simp at hy; subst hy
              rw [if_neg hlt', if_neg hlt']
              refine ⟨rfl, ?_, hv⟩
              rw [← hbl]; simp
    · exact h.elim
  · exact h.elim
theorem evMapUp_sound {T : TypeId} {m ix v : SA} {mv iv vv : Value} {k : St → Prop} (hR : R α st w) (hm : m.rep α mv) (hi : ix.rep α iv) (hv : v.rep α vv) (h : evMapUp P T st m ix v k) :
    ∃ w' st', (Instr.mapUpdate T mv iv vv).run P w = .ok () w' ∧ k st' ∧ To α st w α st' w' := by
  unfold evMapUp at h
  split at h
  · rename_i o
    split at h
    · rename_i wb kc va cs bs cl ho
      unfold evUpdT at h
      split at h
      · rename_i kt e x hu
        simp only [SA.rep, SC.val?, Option.some.injEq] at hi
        subst hi
        split at h
        · rename_i hac
          have hcs := allCells_spec hac
          have hcb : ∀ c, v = .one c → Ev.isCell vv = true := by
            rintro c rfl
            exact SC.isCell_val hR.cell hv (hcs c (by simp [SA.cells]))
          have hrep := SA.rep_cells hv hcb
          have hcell := hrep.isCell hR.cell hcs
          obtain ⟨cs', st1, h4, h5, h6⟩ := frzRow_sound hR hrep.toG h
          obtain ⟨w', st', x1, x2, x3⟩ := evPutT_sound h5.to.rep hu hm (cells_valG hv hcb hcell h6) h4
          exact ⟨w', st', x1, x2, h5.to.trans x3⟩
        · exact h.elim
      · exact h.elim
    · rename_i ho; exact evUpdV_sound hR ho hm hi hv h
    · exact evMapUpdate_sound hR hm hi hv h
  · exact evMapUpdate_sound hR hm hi hv h
theorem evDel_sound {T ty : TypeId} {m ix : SA} {mv iv : Value} {k : St → Prop} (hR : R α st w) (hm : m.rep α mv) (hi : ix.rep α iv) (h : evDel P T st m ix k) (ts : List TypeId) :
    ∃ w' st', (Builtin.delete_ (T :: ts).toArray ty #[mv, iv]).run P w = .ok (.tuple #[]) w' ∧ k st' ∧ To α st w α st' w' := by
  unfold evDel at h
  split at h
  · rename_i o
    split at h
    · unfold evDelT at h
      split at h
      · rename_i kt e x kc va cs bs cl hu ho
        obtain ⟨d, xs, hd, hdv, hh, hl, hbl, hk, hb, hval⟩ := hR.mt ho
        simp only [SA.rep, SC.val?, hd, Option.some.injEq] at hm hi
        rw [hdv] at hm
        subst hm; subst hi
        split at h
        · rename_i i hf hidx
          obtain ⟨hfind, hck, hst⟩ := kcFind (w := w) hf hidx hl hk
          rcases branch_or h with ⟨hlt, h⟩ | ⟨hlt, h⟩
          · have hlt := of_decide_eq_true hlt
            obtain ⟨hp1, hp2⟩ := KC.erase_spec hlt
            rcases hfind with ⟨_, e', a1, a2, a3⟩ | ⟨hn, _⟩
            · refine ⟨_, _, ?_, h, mt_put (cl' := cl) (kc' := kc.erase i) (bs' := bs.eraseIdx i) (cs' := cs.map (Col.erase i)) (xs' := xs.eraseIdx i) hR ho hd hdv hh ⟨_, _, rfl⟩ (by rw [List.length_eraseIdx, if_pos (by omega), hp1, hl]) (by rw [List.length_eraseIdx, if_pos (by omega), hp1, hbl]) fun j y hy => ?_⟩
              · simp only [Builtin.delete_]
                simp [run_underlying hu, run_getObj_map hh, hck, a3, run_setObj_map hh]
              · rw [hp2, colsErase_at, getD_erase]
                rw [List.getElem?_eraseIdx] at hy
                split at hy
                · rename_i hji
                  rw [if_pos hji, if_pos hji, if_pos hji]
                  exact ⟨hk _ _ hy, hb _ _ hy, hval _ _ hy⟩
                · rename_i hji
                  rw [if_neg hji, if_neg hji, if_neg hji]
                  exact ⟨hk _ _ hy, hb _ _ hy, hval _ _ hy⟩
            · exact absurd hlt hn
          · have hlt := of_decide_eq_false hlt
            rcases hfind with ⟨hn, _⟩ | ⟨_, a3⟩
            · exact absurd hn hlt
            · have hto := mt_put (cl' := cl) hR ho hd hdv hh ⟨_, _, rfl⟩ hl hbl fun j y hy => ⟨hk _ _ hy, hb _ _ hy, hval _ _ hy⟩
              have hput : st.put o (some (.mt true kc va cs bs cl)) = st := by
                rw [St.put_eq]
                have hlt := St.get_lt ho
                rw [St.get_eq, List.getElem?_eq_getElem hlt] at ho
                simp at ho
                rw [← ho]
                exact List.set_getElem_self hlt
              rw [hput] at hto
              refine ⟨_, _, ?_, h, hto⟩
              simp only [Builtin.delete_]
              simp [run_underlying hu, run_getObj_map hh, hck, a3, run_setObj_map hh]
        · exact h.elim
      · exact h.elim
    · rename_i ho; exact evDelV_sound hR ho hm hi h ts
    · exact evDelete_sound hR hm hi h ts
  · exact evDelete_sound hR hm hi h ts
theorem evMapEnt_sound {T : TypeId} {m ix : SA} {mv iv : Value} {k : SV → St → Prop} (hR : R α st w) (hm : m.rep α mv) (hi : ix.rep α iv) (h : evMapEnt P T st m ix k) :
    Got P α st w (Instr.mapEntry T mv iv) k := by
  unfold evMapEnt at h
  split at h
  · rename_i o
    split at h
    · unfold evEntT at h
      split at h
      · rename_i kt e x kc va cs bs cl hu ho
        obtain ⟨d, xs, hd, hdv, hh, hl, hbl, hk, hb, hval⟩ := hR.mt ho
        simp only [SA.rep, SC.val?, hd, Option.some.injEq] at hm hi
        rw [hdv] at hm
        subst hm; subst hi
        split at h
        · rename_i i z hf hidx hz
          obtain ⟨hfind, hck, hst⟩ := kcFind (w := w) hf hidx hl hk
          rcases branch_or h with ⟨hlt, h⟩ | ⟨hlt, h⟩
          · have hlt := of_decide_eq_true hlt
            rcases hfind with ⟨_, e', a1, a2, a3⟩ | ⟨hn, _⟩
            · have hto := mt_put (cl' := cl) (xs' := xs.modify i fun e => { e with key := x }) hR ho hd hdv hh ⟨_, _, rfl⟩ (by simpa using hl) hbl fun j y hy => by
                rcases getElem_modify hy with ⟨rfl, y', b1, rfl⟩ | ⟨hne, b1⟩
                · rw [a1] at b1; cases b1
                  exact ⟨a2.symm.trans (hk _ _ a1), hb _ e' a1, hval _ e' a1⟩
                · exact ⟨hk _ _ b1, hb _ _ b1, hval _ _ b1⟩
              have hput : st.put o (some (.mt true kc va cs bs cl)) = st := by
                rw [St.put_eq]
                have hlt := St.get_lt ho
                rw [St.get_eq, List.getElem?_eq_getElem hlt] at ho
                simp at ho
                rw [← ho]
                exact List.set_getElem_self hlt
              rw [hput] at hto
              have hR' := hto.rep
              obtain ⟨d2, xs2, hd2, _, hh2, _, _, _, _, hval2⟩ := hR'.mt ho
              rw [hd] at hd2; cases hd2
              have hlt2 : d.blk < w.heap.size := (Array.getElem?_eq_some_iff.1 hh).1
              have hx2 : xs2 = xs.modify i fun e => { e with key := x } := by
                simp [Array.getElem?_setIfInBounds, hlt2] at hh2
                exact hh2.symm
              subst hx2
              have hrow := hval2 i { e' with key := x } (by simp [List.getElem?_modify, a1])
              obtain ⟨sv, α', st', x1, x2, x3⟩ := ghostA_sound hR' (valAt_repG hrow) h
              unfold entK at x3
              split at x3
              · rename_i a
                refine ⟨.tuple #[e'.val, .int .i64 e'.born], _, α', .tup [a, .one (.raw (.int .i64 (bs.getD i 0)))], st', ?_, ⟨[e'.val, .int .i64 e'.born], ⟨x2, ?_, trivial⟩, rfl⟩, x3, hto.trans x1⟩
                · have hkey : ((xs.toArray[i]?).map (·.key)).getD x = x := by simp [a1, a2]
                  simp only [Instr.mapEntry, Sem.run_bind, run_under hu, Result.andThen_ok, run_getObj_map hh, hck, a3, hkey, hst, run_setObj_map hh]
                  simp [goInt, a1]
                · have := hb _ _ a1
                  simp [SA.rep, SC.val?, this]
              · exact x3.elim
            · exact absurd hlt hn
          · have hlt := of_decide_eq_false hlt
            split at h
            · rename_i hac
              rw [Bool.and_eq_true_iff] at hac
              have hva := eq_of_beq hac.2
              obtain ⟨cs', hzip, h⟩ := opt_iff.1 h
              have hcs := allCells_spec hac.1
              have hzr : (SA.ofValue z).rep α z := SA.rep_ofValue z
              have hcb : ∀ c, SA.ofValue z = .one c → Ev.isCell z = true := by
                intro c e
                rw [e] at hzr
                exact SC.isCell_val hR.cell hzr (hcs c (by simp [e, SA.cells]))
              have hrep := SA.rep_cells hzr hcb
              have hcell := hrep.isCell hR.cell hcs
              have hvg := cells_valG (w := w) (st := st) hzr hcb hcell hrep.toG
              rw [← hva] at hvg
              obtain ⟨hp1, hp2⟩ := KC.push_spec hidx
              rcases hfind with ⟨hn, _⟩ | ⟨_, a3⟩
              · exact absurd hn hlt
              · refine ⟨.tuple #[z, .int .i64 cl], _, α, .tup [SA.ofValue z, .one (.raw (.int .i64 cl))], _, ?_, ⟨[z, .int .i64 cl], ⟨hzr, rfl, trivial⟩, rfl⟩, h, mt_put (cl' := cl + 1) (kc' := kc.push x) (bs' := bs ++ [(cl : Int)]) (xs' := xs ++ [{ key := x, val := z, born := cl }]) hR ho hd hdv hh ⟨_, _, rfl⟩ (by simp [hp1, hl]) (by simp [hp1, hbl]) fun j y hy => ?_⟩
                · simp only [Instr.mapEntry, Sem.run_bind, run_under hu, Result.andThen_ok, run_getObj_map hh, hck, a3, run_setObj_map hh, run_zero hz]
                  simp [goInt]
                · have hj : j < kc.len + 1 := by have := (List.getElem?_eq_some_iff.1 hy).1; simp [hl] at this; exact this
                  rw [hp2 j hj, colsPush_at hzip hj]
                  by_cases hlt' : j < kc.len
                  · rw [List.getElem?_append_left (by omega)] at hy
                    rw [if_pos hlt', if_pos hlt', List.getD_eq_getElem?_getD, List.getElem?_append_left (by omega), ← List.getD_eq_getElem?_getD]
                    exact ⟨hk _ _ hy, hb _ _ hy, hval _ _ hy⟩
                  · have : j = kc.len := by omega
                    subst this
                    rw [List.getElem?_append_right (by omega), hl] at hy
                    simp at hy; subst hy
                    rw [if_neg hlt', if_neg hlt']
                    refine ⟨rfl, ?_, hvg⟩
                    rw [← hbl]; simp
            · exact h.elim
        · exact h.elim
      · exact h.elim
    · rename_i ho; exact evEntV_sound hR ho hm hi h
    · exact evMapEntry_sound hR hm hi h
  · exact evMapEntry_sound hR hm hi h
theorem findIdx_born {b : Int} : ∀ {bs : List Int} {xs : List MapEntry}, xs.length = bs.length → (∀ (i : Nat) (x : MapEntry), xs[i]? = some x → (x.born : Int) = bs.getD i 0) → idxI b bs < bs.length → xs.findIdx? (fun e => (e.born : Int) == b) = some (idxI b bs)
  | [], _, _, _, h => by simp [idxI] at h
  | y :: bs, [], hl, _, _ => by simp at hl
  | y :: bs, x :: xs, hl, hb, h => by
    have h0 := hb 0 x rfl
    simp only [List.getD_cons_zero] at h0
    unfold idxI at h ⊢
    rw [List.findIdx?_cons]
    cases hy : eqK b y with
    | true => rw [eqK_t] at hy; subst hy; simp [h0]
    | false =>
      rw [hy] at h
      have hne : ¬ y = b := fun e => (eqK_f.1 hy) e.symm
      simp only [List.length_cons] at h
      have ih := findIdx_born (b := b) (bs := bs) (xs := xs) (by simpa using hl) (fun i x hx => by simpa using hb (i + 1) x (by simpa using hx)) (by omega)
      simp [h0, hne, ih]
theorem evEntSt_sound {T : TypeId} {m s v : SA} {mv sv vv : Value} {k : St → Prop} (hR : R α st w) (hm : m.rep α mv) (hs : s.rep α sv) (hv : v.rep α vv) (h : evEntSt st m s v k) :
    ∃ w' st', (Instr.entryStore T mv sv vv).run P w = .ok () w' ∧ k st' ∧ To α st w α st' w' := by
  unfold evEntSt at h
  split at h
  · rename_i o
    split at h
    · unfold evEntStT at h
      split at h
      · rename_i kc va cs bs cl kk b ho
        obtain ⟨d, xs, hd, hdv, hh, hl, hbl, hk, hb, hval⟩ := hR.mt ho
        simp only [SA.rep, SC.val?, hd, Option.some.injEq] at hm hs
        rw [hdv] at hm
        subst hm; subst hs
        split at h
        · rename_i hac
          rw [Bool.and_eq_true_iff] at hac
          have hva := eq_of_beq hac.2
          obtain ⟨hlt, h⟩ := need_iff.1 h
          have hlt := of_decide_eq_true hlt
          obtain ⟨cs', hz, h⟩ := opt_iff.1 h
          have hcs := allCells_spec hac.1
          have hcb : ∀ c, v = .one c → Ev.isCell vv = true := by
            rintro c rfl
            exact SC.isCell_val hR.cell hv (hcs c (by simp [SA.cells]))
          have hrep := SA.rep_cells hv hcb
          have hcell := hrep.isCell hR.cell hcs
          have hvg := cells_valG (w := w) (st := st) hv hcb hcell hrep.toG
          rw [← hva] at hvg
          have hfi := findIdx_born (hl.trans hbl.symm) hb (by rw [hbl]; exact hlt)
          refine ⟨_, _, ?_, h, mt_put (cl' := cl) (kc' := kc) (bs' := bs) (xs' := xs.modify (idxI b bs) fun e => { e with val := vv }) hR ho hd hdv hh ⟨_, _, rfl⟩ (by simpa using hl) hbl fun j y hy => ?_⟩
          · simp only [Instr.entryStore, Sem.run_bind, Result.andThen_ok, run_getObj_map hh, asInt, asIntOf, Sem.run_pure]
            simp [hfi, run_setObj_map hh]
          · rcases getElem_modify hy with ⟨rfl, y', b1, rfl⟩ | ⟨hne, b1⟩
            · refine ⟨hk _ y' b1, hb _ y' b1, ?_⟩
              rw [colsSet_at hlt hz hlt, if_pos rfl]; exact hvg
            · have hj : j < kc.len := by rw [← hl]; exact (List.getElem?_eq_some_iff.1 b1).1
              refine ⟨hk _ _ b1, hb _ _ b1, ?_⟩
              rw [colsSet_at hlt hz hj, if_neg hne]; exact hval _ _ b1
        · exact h.elim
      · exact h.elim
    · rename_i ho; exact evEntStV_sound hR ho hm hs hv h
    · exact evEntryStore_sound hR hm hs hv h
  · exact evEntryStore_sound hR hm hs hv h
end Go.Ev

/- THE ENGINE, part 12: any one operation. -/
namespace Go.Ev
open Go
variable {P : Program} {α : Al} {st : St} {w : World}
def Wide (r : Option Nat) : Fence := { fn := fun _ => True, depth := none, alive := false, round := r }
theorem wide_none : Wide none = Fence.wide := rfl
def CallPost (α : Al) (st : St) (w : World) (k : SV → St → Prop) : Ending → World → Prop := fun e w' =>
  ∃ v st' α' val, e = .returned val ∧ SV.rep α' v val ∧ k v st' ∧ To α st w α' st' w'
def CallOk (P : Program) (call : CallT) : Prop :=
  (∀ g args st k, g < big → call g args st k → (∃ fn c, P.funcs[g]? = some fn ∧ fn.body = some c) ∧
    ∀ α w vals, R α st w → RepsA α args vals → CallsIn Fence.wide 0 P g vals.toArray w (CallPost α st w k)) ∧
  (∀ q args st k, call (big + q) args st k → ∀ α w vals (r : Option Nat), R α st w → RepsA α args vals → ∃ d l, α q = some d ∧ d.val = .func (.yield d.blk) #[] #[] ∧ w.heap[d.blk]? = some (.loop l) ∧
    vals.length = l.params.size ∧
    RoundIn (Wide r) 0 P d.blk l.fn ((l.params.zip vals.toArray).foldl (fun tmps (t, a) => tmps.setIfInBounds t a) l.tmps) l.assign l.body w (CallPost α st w k))
def NamesOk (P : Program) : Prop := ∀ (f : Nat) (fn : Func), P.funcs[f]? = some fn → fn.body.isSome = true → (fn.name == "runtime.NumGoroutine") = false
def OvlFn (P : Program) (g : FuncId) : Prop := ∃ fn tS tR e s, P.funcs[g]? = some fn ∧ (fn.name == "runtime.NumGoroutine") = false ∧ fn.body.isNone = true ∧ Extern.findNext fn = none ∧
  Extern.find fn = some (Extern.SlicesOverlaps.overlaps #[tS, tS] #[tR]) ∧ P.underlying tS = some (.slice e) ∧ tSize P e = some s
def OpsOk (P : Program) (cx : Cx) : Prop := NamesOk P ∧ ∀ g, cx.ovl g = true → OvlFn P g
theorem rhoSA_rep {ρ : Operand → Option SV} {μ : Operand → Value} (hρ : ∀ x sv, ρ x = some sv → sv.rep α (μ x)) {x : Operand} {a : SA} (h : rhoSA ρ x = some a) : a.rep α (μ x) := by
  unfold rhoSA at h
  split at h
  · rename_i b hb; cases h; exact hρ x _ hb
  · simp at h
theorem rhoSAs_rep {ρ : Operand → Option SV} {μ : Operand → Value} (hρ : ∀ x sv, ρ x = some sv → sv.rep α (μ x)) : ∀ {xs : List Operand} {l : List SA}, rhoSAs ρ xs = some l → RepsA α l (xs.map μ)
  | [], l, h => by simp [rhoSAs] at h; subst h; trivial
  | x :: xs, l, h => by
    simp only [rhoSAs] at h
    split at h
    · rename_i a r ha hr; cases h; exact ⟨rhoSA_rep hρ ha, rhoSAs_rep hρ hr⟩
    · simp at h
theorem rhoParts_rep {ρ : Operand → Option SV} {μ : Operand → Value} (hρ : ∀ x sv, ρ x = some sv → sv.rep α (μ x)) : ∀ {xs : List (Nat × Operand)} {l : List (Nat × SA)}, rhoParts ρ xs = some l → RepsP α l (xs.map fun p => (p.1, μ p.2))
  | [], l, h => by simp [rhoParts] at h; subst h; trivial
  | x :: xs, l, h => by
    simp only [rhoParts] at h
    split at h
    · rename_i a r ha hr; cases h; exact ⟨⟨rfl, rhoSA_rep hρ ha⟩, rhoParts_rep hρ hr⟩
    · simp at h
theorem rhoOpt_rep {ρ : Operand → Option SV} {μ : Operand → Value} (hρ : ∀ x sv, ρ x = some sv → sv.rep α (μ x)) {x : Option Operand} {l : Option SA} (h : rhoOpt ρ x = some l) : RepO α l (x.map μ) := by
  cases x with
  | none => simp [rhoOpt] at h; subst h; trivial
  | some x =>
    simp only [rhoOpt] at h
    split at h
    · rename_i a ha; cases h; exact rhoSA_rep hρ ha
    · simp at h
def ValOp (P : Program) (α : Al) (st : St) (w : World) (s : Sem Next) (k : SV → St → Prop) : Prop :=
  ∃ v w' α' sv st', s.run P w = .ok (.value v) w' ∧ SV.rep α' sv v ∧ k sv st' ∧ To α st w α' st' w'
theorem ValOp.of_got {s : Sem Value} {k : SV → St → Prop} (h : Got P α st w s k) : ValOp P α st w (do pure (.value (← s))) k := by
  obtain ⟨v, w', α', sv, st', h1, h2⟩ := h
  exact ⟨v, w', α', sv, st', by simp [h1], h2⟩
theorem ValOp.of_same {s : Sem Value} {k : SV → St → Prop} (hR : R α st w) (h : ∃ sv v, s.run P w = .ok v w ∧ SV.rep α sv v ∧ k sv st) : ValOp P α st w (do pure (.value (← s))) k := by
  obtain ⟨sv, v, h1, h2, h3⟩ := h
  exact ⟨v, w, α, sv, st, by simp [h1], h2, h3, To.refl hR⟩
theorem ValOp.of_sa {s : Sem Value} {k : SV → St → Prop} {a : SA} (hR : R α st w) (h : ∃ v, s.run P w = .ok v w ∧ a.rep α v) (hk : k (.sa a) st) : ValOp P α st w (do pure (.value (← s))) k := by
  obtain ⟨v, h1, h2⟩ := h
  exact ⟨v, w, α, .sa a, st, by simp [h1], h2, hk, To.refl hR⟩
theorem rawAll_spec : ∀ {l : List SA} {vs us : List Value}, rawAll l = some vs → RepsA α l us → us = vs
  | [], vs, us, h, r => by
    simp [rawAll] at h; subst h
    cases us with | nil => rfl | cons _ _ => exact r.elim
  | a :: l, vs, us, h, r => by
    unfold rawAll at h
    split at h
    · rename_i heq; simp at heq
    · rename_i v r' heq
      simp only [List.cons.injEq] at heq
      obtain ⟨rfl, rfl⟩ := heq
      split at h
      · rename_i l' hl
        cases h
        cases us with
        | nil => exact r.elim
        | cons u us =>
          have h1 := r.1
          simp [SA.rep, SC.val?] at h1
          subst h1
          rw [rawAll_spec hl r.2]
      · simp at h
    · simp at h
theorem evBuiltin_sound {ice : Bool × Bool} {b : Builtin} {ts : Array TypeId} {T : TypeId} {consts : Array Bool} {args : List SA} {vals : Array Value} {k : SV → St → Prop} (hR : R α st w) (ha : RepsA α args vals.toList)
    (h : evBuiltin P ice b ts.toList T args st k) : ValOp P α st w (builtin b ts T consts vals) k := by
  have one : ∀ {x : SA}, args = [x] → ∃ v, vals = #[v] ∧ x.rep α v := by
    rintro x rfl
    cases vals with | mk l =>
    match l, ha with
    | [v], ha => exact ⟨v, rfl, ha.1⟩
  have two : ∀ {x y : SA}, args = [x, y] → ∃ v u, vals = #[v, u] ∧ x.rep α v ∧ y.rep α u := by
    rintro x y rfl
    cases vals with | mk l =>
    match l, ha with
    | [v, u], ha => exact ⟨v, u, rfl, ha.1, ha.2.1⟩
  have tone : ∀ {t}, ts.toList = [t] → ts = #[t] := fun h => by rw [← Array.toArray_toList (xs := ts), h]
  have ttwo : ∀ {t u}, ts.toList = [t, u] → ts = #[t, u] := fun h => by rw [← Array.toArray_toList (xs := ts), h]
  have tcons : ∀ {t r}, ts.toList = t :: r → ts = (t :: r).toArray := fun h => by rw [← Array.toArray_toList (xs := ts), h]
  unfold evBuiltin at h
  split at h
  · rename_i t x hts
    obtain ⟨v, rfl, hv⟩ := one rfl
    rw [tone hts]
    exact ValOp.of_same hR (evLen_sound hR hv h)
  · rename_i t x hts
    obtain ⟨v, rfl, hv⟩ := one rfl
    rw [tone hts]
    exact ValOp.of_same hR (evCap_sound hR hv h)
  · rename_i t t2 a x hts
    obtain ⟨v, u, rfl, hv, hu⟩ := two rfl
    rw [ttwo hts]
    exact ValOp.of_got (evAppend_sound hR hv hu h)
  · rename_i t r d x hts
    obtain ⟨v, u, rfl, hv, hu⟩ := two rfl
    have := evCopy_sound (T2 := 0) (ty := T) hR hv hu h
    rw [tcons hts]
    refine ValOp.of_got ?_
    obtain ⟨v', w', α', sv, st', h1, h2⟩ := this
    refine ⟨v', w', α', sv, st', ?_, h2⟩
    rw [← h1]
    simp only [Builtin.copy_]
    simp
  · rename_i t x hts
    obtain ⟨v, rfl, hv⟩ := one rfl
    rw [tone hts]
    exact ValOp.of_got (evClear_sound hR hv h)
  · rename_i t r m x hts
    obtain ⟨v, u, rfl, hv, hu⟩ := two rfl
    rw [tcons hts]
    obtain ⟨w', st', h1, h2, h3⟩ := evDel_sound (ty := T) hR hv hu h r
    exact ⟨.tuple #[], w', α, .tup [], st', by simp [builtin, h1], ⟨[], trivial, rfl⟩, h2, h3⟩
  · obtain ⟨vs, hvs, h⟩ := opt_iff.1 h
    obtain ⟨r, hr, h⟩ := opt_iff.1 h
    have := rawAll_spec hvs ha
    refine ValOp.of_same hR ⟨.sa (.one (.raw r)), r, ?_, rfl, h⟩
    have h1 := pureSem_run hr w
    rw [← this] at h1
    simpa [Builtin.min_] using h1
  · obtain ⟨vs, hvs, h⟩ := opt_iff.1 h
    obtain ⟨r, hr, h⟩ := opt_iff.1 h
    have := rawAll_spec hvs ha
    refine ValOp.of_same hR ⟨.sa (.one (.raw r)), r, ?_, rfl, h⟩
    have h1 := pureSem_run hr w
    rw [← this] at h1
    simpa [Builtin.max_] using h1
  · exact h.elim
theorem evOvl_sound {g : FuncId} {args : List SA} {vals : List Value} {k : SV → St → Prop} (hR : R α st w) (hO : OvlFn P g) (ha : RepsA α args vals) (h : evOvl st args k) :
    k (.sa (.one (.raw (.bool false)))) st ∧ (callFunc g vals.toArray).run P w = .ok (.value (.bool false)) w := by
  unfold evOvl at h
  split at h
  · rename_i o i n c q i' n' c'
    split at h
    · rename_i mk T m ct so hne ho hq
      have hne : o ≠ q := fun e => by subst e; simp at hne
      split at h
      · rename_i m' ct' hcan hcan' hrows
        obtain ⟨hpos, h⟩ := need_iff.1 h
        have hpos : 0 < ct'.len := by simpa using hpos
        refine ⟨h, ?_⟩
        obtain ⟨d, hd, hg⟩ := hR.good o _ ho
        obtain ⟨d', hd', hg'⟩ := hR.good q _ hq
        obtain ⟨T0, cs, fz, _, hlies, hwr, h5, h6, _, _, _, _, _, _, _⟩ := hR.toRow ho hd hcan (show (SO.mem true mk T m ct).rows = some (m, ct) from rfl) (fun e => by cases e)
        obtain ⟨T1, cs', fz', _, hlies', _, h5', _, h7', h8', _, hm', _, _, _⟩ := hR.toRow hq hd' hcan' hrows (hg'.live hrows hpos)
        have hfz : fz = (0, 0) := by
          rcases h6.2 with h | ⟨h, _⟩
          · exact h
          · cases h
        subst hfz
        have hblk : d.blk ≠ d'.blk := fun e => hR.sep o q _ so d d' d.blk hne ho hq hd hd' hwr ((hlies _).2 rfl) (.inl ((hlies' _).2 e))
        obtain ⟨fn, tS, tR, e, s, g1, g2, g3, g4, g5, g6, g7⟩ := hO
        match vals, ha with
        | [v1, v2], ⟨a1, a2, _⟩ =>
          simp only [SA.rep, SC.val?, hd, Option.some.injEq] at a1
          simp only [SA.rep, SC.val?, hd', Option.some.injEq] at a2
          subst a1; subst a2
          rw [run_callFunc_extern g1 g2 g3 g4 g5]
          have hcap : ct'.len * m' ≤ d'.cap * m' := Nat.mul_le_mul_right _ h8'
          have hmul : 0 < ct'.len * m' := Nat.mul_pos hpos hm'
          rw [Go.Lib.run_overlaps_apart w tS tR e g6 s (run_size g7) ⟨d.blk, d.off + i * d.m, none⟩ ⟨d'.blk, d'.off + i' * d'.m, none⟩ n (c.getD (d.cap - i)) n' (c'.getD (d'.cap - i')) hblk T0 T1 cs.size cs'.size
            (by simp [World.shape?, h5]) (by simp [World.shape?, h5']) (by omega) (by simp [World.frozen?, h5]) (by simp [World.frozen?, h5])]
          rfl
      · exact h.elim
    · exact h.elim
  · exact h.elim
set_option maxHeartbeats 4000000 in
theorem evOp_sound {cx : Cx} {call : CallT} {r : Option Nat} {ρ : Operand → Option SV} {o : Oper} {a : Act} {k : SV → St → Prop} {next : Act → World → Prop} {Q : Exit → Act → World → Prop}
    (hP : cx.P = P) (hN : OpsOk P cx) (hC : CallOk P call) (hR : R α st w) (hρ : ∀ x sv, ρ x = some sv → sv.rep α (a.eval x)) (h : evOp cx call ρ st o k)
    (hnext : ∀ sv st' α' w' v, k sv st' → SV.rep α' sv v → To α st w α' st' w' → next (a.put o.dst v) w') : o.wpIn (Wide r) 0 P a w next Q := by
  subst hP
  refine ⟨fun _ _ => trivial, ?_⟩
  have val : ∀ {k}, ValOp cx.P α st w (execOp a.eval o) k → (∀ sv st' α' w' v, k sv st' → SV.rep α' sv v → To α st w α' st' w' → next (a.put o.dst v) w') → (∀ c, o.op ≠ .defer c) →
      o.uponIn (Wide r) 0 cx.P a next Q ((o.semAt (Wide r).round a.eval).run cx.P w) := by
    intro k ⟨v, w', α', sv, st', h1, h2, h3, h4⟩ hn hd
    rw [Oper.semAt_eq _ _ _ hd, h1]
    exact hn sv st' α' w' v h3 h2 h4
  have skip : (∃ w' st', (execOp a.eval o).run cx.P w = .ok .skip w' ∧ k undefV st' ∧ To α st w α st' w') → (∀ c, o.op ≠ .defer c) →
      o.uponIn (Wide r) 0 cx.P a next Q ((o.semAt (Wide r).round a.eval).run cx.P w) := by
    intro ⟨w', st', h1, h3, h4⟩ hd
    rw [Oper.semAt_eq _ _ _ hd, h1]
    exact hnext undefV st' α w' undef h3 ⟨[], trivial, rfl⟩ h4
  obtain ⟨dst, op, ty, pos, after, guard⟩ := o
  unfold evOp at h
  dsimp only at h hnext val skip ⊢
  split at h
  · -- move
    rename_i x
    obtain ⟨v, hv, h⟩ := opt_iff.1 h
    exact val ⟨_, w, α, v, st, rfl, hρ _ _ hv, h, To.refl hR⟩ hnext (by simp)
  · rename_i x
    obtain ⟨v, hv, h⟩ := opt_iff.1 h
    exact val ⟨_, w, α, v, st, rfl, hρ _ _ hv, h, To.refl hR⟩ hnext (by simp)
  · -- pick
    rename_i c x y
    obtain ⟨cv, hc, h⟩ := opt_iff.1 h
    have hcr := rhoSA_rep hρ hc
    unfold evPick at h
    split at h
    · rename_i t
      simp only [SA.rep, SC.val?, Option.some.injEq] at hcr
      rcases branch_or h with ⟨rfl, h⟩ | ⟨rfl, h⟩
      · obtain ⟨v, hv, h⟩ := opt_iff.1 h
        exact val ⟨_, w, α, v, st, by simp [execOp, ← hcr, asBool], hρ _ _ hv, h, To.refl hR⟩ hnext (by simp)
      · obtain ⟨v, hv, h⟩ := opt_iff.1 h
        exact val ⟨_, w, α, v, st, by simp [execOp, ← hcr, asBool], hρ _ _ hv, h, To.refl hR⟩ hnext (by simp)
    · exact h.elim
  · -- alloc
    rename_i T
    obtain ⟨z, hz, h⟩ := opt_iff.1 h
    exact val (ValOp.of_got (evAlloc_sound hR hz h)) hnext (by simp)
  · rename_i T x
    obtain ⟨b, hb, h⟩ := opt_iff.1 h
    exact val (ValOp.of_got (evBox_sound hR (rhoSA_rep hρ hb) h)) hnext (by simp)
  · -- build
    rename_i T ps
    obtain ⟨parts, hp, h⟩ := opt_iff.1 h
    obtain ⟨cs, hcs, h⟩ := opt_iff.1 h
    have hpr := rhoParts_rep hρ hp
    exact val (ValOp.of_sa hR (evBuild_sound (vs := ps.map fun (i, x) => (i, a.eval x)) hR (by simpa using hpr) hcs) h) hnext (by simp)
  · rename_i T n ps
    obtain ⟨parts, hp, h⟩ := opt_iff.1 h
    have hpr := rhoParts_rep hρ hp
    exact val (ValOp.of_got (evBuildSlice_sound (ps := ps.map fun (i, x) => (i, a.eval x)) hR (by simpa using hpr) h)) hnext (by simp)
  · -- load
    rename_i T x
    obtain ⟨b, hb, h⟩ := opt_iff.1 h
    exact val (ValOp.of_got (by
      obtain ⟨sv, v, α', st', x1, x2, x3, x4⟩ := evLoad_sound (P := cx.P) hR (rhoSA_rep hρ hb) h
      exact ⟨v, w, α', sv, st', x1, x2, x3, x4⟩)) hnext (by simp)
  · rename_i T x y
    obtain ⟨b, hb, h⟩ := opt_iff.1 h
    obtain ⟨c, hc, h⟩ := opt_iff.1 h
    obtain ⟨w', st', h1, h2, h3⟩ := evStore_sound hR (rhoSA_rep hρ hb) (rhoSA_rep hρ hc) h
    exact skip ⟨w', st', by simp [execOp, h1], h2, h3⟩ (by simp)
  · -- nilCheck
    rename_i x
    obtain ⟨b, hb, h⟩ := opt_iff.1 h
    obtain ⟨c, hc, h⟩ := opt_iff.1 h
    obtain ⟨h1, h2⟩ := evNilCheck_sound hR (rhoSA_rep hρ hb) hc
    have h3 : execOp a.eval ⟨dst, .nilCheck x, ty, pos, after, guard⟩ = nilSem (a.eval x) := by
      simp only [execOp]
      rfl
    exact val ⟨_, w, α, .sa c, st, by rw [h3]; exact h2, h1, h, To.refl hR⟩ hnext (by simp)
  · -- binOp
    rename_i op' T x y u
    obtain ⟨b, hb, h⟩ := opt_iff.1 h
    obtain ⟨c, hc, h⟩ := opt_iff.1 h
    exact val (ValOp.of_same hR (evBin_sound hR (rhoSA_rep hρ hb) (rhoSA_rep hρ hc) h)) hnext (by simp)
  · -- unOp
    rename_i op' T x
    obtain ⟨b, hb, h⟩ := opt_iff.1 h
    have hbr := rhoSA_rep hρ hb
    unfold evUn at h
    split at h
    · rename_i v
      obtain ⟨r', hr, h⟩ := opt_iff.1 h
      simp only [SA.rep, SC.val?, Option.some.injEq] at hbr
      exact val (ValOp.of_same hR ⟨.sa (.one (.raw r')), r', by rw [← hbr]; exact pureSem_run hr w, rfl, h⟩) hnext (by simp)
    · exact h.elim
  · rename_i T T' x
    obtain ⟨b, hb, h⟩ := opt_iff.1 h
    exact val (ValOp.of_got (evConvert_sound hR (rhoSA_rep hρ hb) h)) hnext (by simp)
  · -- makeFunc
    rename_i fn first cap
    obtain ⟨fs, hf, h⟩ := opt_iff.1 h
    obtain ⟨cs, hc, h⟩ := opt_iff.1 h
    exact val (ValOp.of_got (makeFunc_sound (fv := first.map a.eval) (cv := cap.map a.eval) hR (by simpa using rhoSAs_rep hρ hf) (by simpa using rhoSAs_rep hρ hc) h)) hnext (by simp)
  · -- makeMap
    rename_i T r'
    split at h
    · exact val (ValOp.of_got (makeMap_sound (T := T) hR h)) hnext (by simp)
    · rename_i x
      obtain ⟨b, hb, h⟩ := opt_iff.1 h
      have hbr := rhoSA_rep hρ hb
      unfold evMakeMap at h
      split at h
      · rename_i y z kk q hu
        simp only [SA.rep, SC.val?, Option.some.injEq] at hbr
        have := ValOp.of_got (makeMap_sound' (T := T) (kk := kk) (z := q) hR hu h)
        exact val (by simpa [execOp, ← hbr] using this) hnext (by simp)
      · exact h.elim
  · -- slice
    rename_i T x lo hi mx
    split at h
    · obtain ⟨b, hb, h⟩ := opt_iff.1 h
      obtain ⟨l, hl, h⟩ := opt_iff.1 h
      obtain ⟨q, hq, h⟩ := opt_iff.1 h
      exact val (ValOp.of_got (evSlice_sound hR (rhoSA_rep hρ hb) (rhoOpt_rep hρ hl) (rhoOpt_rep hρ hq) h)) hnext (by simp)
    · rename_i y
      obtain ⟨b, hb, h⟩ := opt_iff.1 h
      obtain ⟨l, hl, h⟩ := opt_iff.1 h
      obtain ⟨q, hq, h⟩ := opt_iff.1 h
      obtain ⟨z, hz, g⟩ := opt_iff.1 h
      have hqr := rhoOpt_rep hρ hq
      unfold evSliceMax at g
      cases q with
      | none => exact g.elim
      | some q' =>
        cases hi with
        | none => exact hqr.elim
        | some hi' =>
          exact val (ValOp.of_got (evSlice3_sound (hv := a.eval hi') (mv := a.eval y) hR (rhoSA_rep hρ hb) (rhoOpt_rep hρ hl) hqr (rhoSA_rep hρ hz) g)) hnext (by simp)
  · rename_i S x f
    obtain ⟨b, hb, h⟩ := opt_iff.1 h
    obtain ⟨c, hc, h⟩ := opt_iff.1 h
    exact val (ValOp.of_sa hR (evFieldAddr_sound (rhoSA_rep hρ hb) hc) h) hnext (by simp)
  · rename_i T x f
    obtain ⟨b, hb, h⟩ := opt_iff.1 h
    obtain ⟨c, hc, h⟩ := opt_iff.1 h
    exact val (ValOp.of_sa hR (evField_sound (rhoSA_rep hρ hb) hc) h) hnext (by simp)
  · rename_i T x ix
    obtain ⟨b, hb, h⟩ := opt_iff.1 h
    obtain ⟨c, hc, h⟩ := opt_iff.1 h
    exact val (ValOp.of_same hR (evIndexAddr_sound hR (rhoSA_rep hρ hb) (rhoSA_rep hρ hc) h)) hnext (by simp)
  · rename_i T x ix
    obtain ⟨b, hb, h⟩ := opt_iff.1 h
    obtain ⟨c, hc, h⟩ := opt_iff.1 h
    exact val (ValOp.of_same hR (evIndex_sound (rhoSA_rep hρ hb) (rhoSA_rep hρ hc) h)) hnext (by simp)
  · rename_i T x ix ok
    obtain ⟨b, hb, h⟩ := opt_iff.1 h
    obtain ⟨c, hc, h⟩ := opt_iff.1 h
    exact val (ValOp.of_got (evLook_sound hR (rhoSA_rep hρ hb) (rhoSA_rep hρ hc) h)) hnext (by simp)
  · rename_i T m x v
    obtain ⟨b, hb, h⟩ := opt_iff.1 h
    obtain ⟨c, hc, h⟩ := opt_iff.1 h
    obtain ⟨e, he, h⟩ := opt_iff.1 h
    obtain ⟨w', st', h1, h2, h3⟩ := evMapUp_sound hR (rhoSA_rep hρ hb) (rhoSA_rep hρ hc) (rhoSA_rep hρ he) h
    exact skip ⟨w', st', by simp [execOp, h1], h2, h3⟩ (by simp)
  · rename_i T m x
    obtain ⟨b, hb, h⟩ := opt_iff.1 h
    obtain ⟨c, hc, h⟩ := opt_iff.1 h
    exact val (ValOp.of_got (evMapEnt_sound hR (rhoSA_rep hρ hb) (rhoSA_rep hρ hc) h)) hnext (by simp)
  · rename_i T m s v
    obtain ⟨b, hb, h⟩ := opt_iff.1 h
    obtain ⟨c, hc, h⟩ := opt_iff.1 h
    obtain ⟨e, he, h⟩ := opt_iff.1 h
    obtain ⟨w', st', h1, h2, h3⟩ := evEntSt_sound (P := cx.P) (T := T) hR (rhoSA_rep hρ hb) (rhoSA_rep hρ hc) (rhoSA_rep hρ he) h
    exact skip ⟨w', st', by simp [execOp, h1], h2, h3⟩ (by simp)
  · rename_i T l c
    obtain ⟨b, hb, h⟩ := opt_iff.1 h
    obtain ⟨e, he, h⟩ := opt_iff.1 h
    exact val (ValOp.of_got (evMakeSlice_sound hR (rhoSA_rep hρ hb) (rhoSA_rep hρ he) h)) hnext (by simp)
  · -- extract
    rename_i x i
    split at h
    · rename_i l hx
      obtain ⟨b, hb, h⟩ := opt_iff.1 h
      obtain ⟨vs, hvs, he⟩ := hρ _ _ hx
      obtain ⟨v, h1, h2⟩ := hvs.get hb
      exact val (ValOp.of_sa hR ⟨v, by simp [Instr.extract, he, h1], h2⟩ h) hnext (by simp)
    · exact h.elim
  · -- a call
    rename_i c
    split at h
    · rename_i b hcl
      obtain ⟨args, ha, h⟩ := opt_iff.1 h
      have har := rhoSAs_rep hρ ha
      have hb := evBuiltin_sound (consts := c.args.map fun | .const _ => true | _ => false) (vals := c.args.map a.eval) hR (by simpa using har) h
      refine val ?_ hnext (by simp)
      obtain ⟨v, w', α', sv, st', x1, x2⟩ := hb
      refine ⟨v, w', α', sv, st', ?_, x2⟩
      simp only [execOp, resolve, hcl, Sem.run_bind, Sem.run_pure, Result.andThen_ok, invoke]
      exact x1
    · rename_i f hcl
      obtain ⟨fv, hf, h⟩ := opt_iff.1 h
      obtain ⟨args, ha, h⟩ := opt_iff.1 h
      have hfr := rhoSA_rep hρ hf
      have har := rhoSAs_rep hρ ha
      have fin : ∀ (g : FuncId) (first cap : Array Value) (fs cs : List SA), a.eval f = .func (.func g) first cap → RepsA α fs first.toList → RepsA α cs cap.toList →
          g < big → call g (fs ++ args ++ cs) st k → (⟨dst, .call c, ty, pos, after, guard⟩ : Oper).uponIn (Wide r) 0 cx.P a next Q (((⟨dst, .call c, ty, pos, after, guard⟩ : Oper).semAt (Wide r).round a.eval).run cx.P w) := by
        intro g first cap fs cs he hfs hcs hgb hcall
        obtain ⟨⟨fn, body, g1, g2⟩, hcc⟩ := hC.1 g _ st k hgb hcall
        have hreps : RepsA α (fs ++ args ++ cs) (first ++ c.args.map a.eval ++ cap).toList := by
          simp only [Array.toList_append, Array.toList_map]
          exact (hfs.append har).append hcs
        have hci := hcc α w _ hR hreps
        rw [Oper.semAt_eq _ _ _ (by simp)]
        have hrun : (execOp a.eval ⟨dst, .call c, ty, pos, after, guard⟩).run cx.P w = .ok (.enter g (first ++ c.args.map a.eval ++ cap)) w := by
          simp only [execOp, resolve, hcl, he, Deferred.ofValue, Sem.run_bind, Sem.run_pure, Result.andThen_ok, invoke, callFunc, run_program, g1]
          have hn := hN.1 g fn g1 (by simp [g2])
          simp [hn, g2]
        rw [hrun]
        refine ⟨fun hdp => by simp [Wide] at hdp, ?_⟩
        have hci' : CallsIn (Wide r) 0 cx.P g (first ++ c.args.map a.eval ++ cap) w (CallPost α st w k) := by
          have : (first ++ c.args.map a.eval ++ cap).toList.toArray = first ++ c.args.map a.eval ++ cap := Array.toArray_toList
          rw [this] at hci
          exact hci
        refine CallsIn.mono hci' ?_
        rintro e w' ⟨v, st', α', vl, rfl, x1, x2, x3⟩
        exact hnext v st' α' w' vl x2 x1 x3
      unfold evCallee at h
      split at h
      · rename_i g first cap _
        simp only [SA.rep, SC.val?, Option.some.injEq] at hfr
        unfold evFn at h
        split at h
        · rename_i hov
          have hreps : RepsA α (first.toList.map SA.ofValue ++ args ++ cap.toList.map SA.ofValue) (first ++ c.args.map a.eval ++ cap).toList := by
            simp only [Array.toList_append, Array.toList_map]
            exact ((RepsA.ofValues _).append har).append (RepsA.ofValues _)
          obtain ⟨hk, hrun⟩ := evOvl_sound hR (hN.2 g hov) hreps h
          refine val ⟨.bool false, w, α, .sa (.one (.raw (.bool false))), st, ?_, rfl, hk, To.refl hR⟩ hnext (by simp)
          rw [Array.toArray_toList] at hrun
          simp only [execOp, resolve, hcl, ← hfr, Deferred.ofValue, Sem.run_bind, Sem.run_pure, Result.andThen_ok, invoke]
          exact hrun
        · split at h
          · rename_i hb
            exact fin g first cap _ _ hfr.symm (RepsA.ofValues _) (RepsA.ofValues _) (Nat.le_of_ble_eq_true hb) h
          · exact h.elim
      · rename_i q _
        split at h
        · rename_i g first cap hst
          obtain ⟨d, hd, va, vb, x1, x2, x3⟩ := hR.good q _ hst
          simp only [SA.rep, SC.val?, hd, Option.some.injEq] at hfr
          split at h
          · rename_i hb
            exact fin g va.toArray vb.toArray _ _ (by rw [← hfr, x3]) (by simpa using x1) (by simpa using x2) (Nat.le_of_ble_eq_true hb) h
          · exact h.elim
        · rename_i hst
          obtain ⟨d, l, hd, hval, hl, hps, hround⟩ := hC.2 q _ st k h α w (c.args.map a.eval).toList r hR (by simpa using har)
          simp only [SA.rep, SC.val?, hd, Option.some.injEq] at hfr
          rw [hval] at hfr
          rw [Oper.semAt_eq _ _ _ (by simp)]
          have hrun : (execOp a.eval ⟨dst, .call c, ty, pos, after, guard⟩).run cx.P w =
              .ok (.round d.blk l.fn ((l.params.zip (c.args.map a.eval)).foldl (fun tmps (t, a) => tmps.setIfInBounds t a) l.tmps) l.assign l.body) w := by
            have hy := run_yield (P := cx.P) (args := c.args.map a.eval) hl (by simpa using hps)
            simp only [execOp, resolve, hcl, ← hfr, Deferred.ofValue, Sem.run_bind, Sem.run_pure, Result.andThen_ok, invoke, callFunc, run_program]
            simpa using hy
          rw [hrun]
          refine ⟨fun hdp => by simp [Wide] at hdp, ?_⟩
          rw [Array.toArray_toList] at hround
          refine RoundIn.mono hround ?_
          rintro e w' ⟨v, st', α', vl, rfl, x1, x2, x3⟩
          exact hnext v st' α' w' vl x2 x1 x3
        · exact h.elim
      · exact h.elim
    · exact h.elim
  · exact h.elim
end Go.Ev

/- THE ENGINE, part 13: frames, guards, regions in the text's order. -/
namespace Go.Ev
open Go
variable {P : Program}
theorem Fr.put_some (fr : Fr) (t : Nat) (v : SV) : fr.put (some t) v = fr.set t (some v) := by simp [Fr.put]
theorem FrOk.put {α : Al} {fr : Fr} {a : Act} {d : Option Nat} {sv : SV} {v : Value} (hf : FrOk α fr a.tmps) (hv : SV.rep α sv v) : FrOk α (fr.put d sv) (a.put d v).tmps := by
  cases d with
  | none => exact hf
  | some t =>
    refine ⟨by rw [Fr.put_some]; simpa [Act.put] using hf.1, fun u su hu => ?_⟩
    rw [Fr.put_some, Fr.get_eq, List.getElem?_set] at hu
    simp only [Act.put, Array.getElem?_setIfInBounds]
    by_cases e : t = u
    · subst e
      rw [if_pos rfl] at hu ⊢
      split at hu
      · rename_i hlt
        simp at hu
        subst hu
        rw [if_pos (by rw [← hf.1]; exact hlt)]
        exact ⟨v, rfl, hv⟩
      · simp at hu
    · rw [if_neg e] at hu ⊢
      exact hf.2 u su (by rw [Fr.get_eq]; exact hu)
theorem FrOk.say {α : Al} {fr : Fr} {tmps : Array Value} {t : Nat} {sv : SV} {v : Value} (hf : FrOk α fr tmps) (ht : tmps[t]? = some v) (hv : SV.rep α sv v) : FrOk α (fr.put (some t) sv) tmps := by
  refine ⟨by rw [Fr.put_some]; simpa using hf.1, fun u su hu => ?_⟩
  rw [Fr.put_some, Fr.get_eq, List.getElem?_set] at hu
  by_cases e : t = u
  · subst e
    rw [if_pos rfl] at hu
    split at hu
    · simp at hu; subst hu; exact ⟨v, ht, hv⟩
    · simp at hu
  · rw [if_neg e] at hu
    exact hf.2 u su (by rw [Fr.get_eq]; exact hu)
theorem evOperand_rep {α : Al} {fr : Fr} {a : Act} (hf : FrOk α fr a.tmps) : ∀ x sv, evOperand fr x = some sv → SV.rep α sv (a.eval x) := by
  intro x sv h
  cases x with
  | tmp t =>
    obtain ⟨v, h1, h2⟩ := hf.2 t sv h
    simpa [Act.eval, h1] using h2
  | const v => simp [evOperand] at h; subst h; exact SV.rep_ofValue v
  | global g => simp [evOperand] at h
  | func f => simp [evOperand] at h; subst h; exact rfl
theorem evGuard_sound {α : Al} {ops : Array Oper} {o : Oper} {fr : Fr} {tmps : Array Value} {run skip : Fr → Prop} (hf : FrOk α fr tmps) (h : evGuard ops.toList o fr run skip) :
    (Region.wanted o (yielded ops tmps) = true ∧ ∃ fr', FrOk α fr' tmps ∧ run fr') ∨ (Region.wanted o (yielded ops tmps) = false ∧ ∃ fr', FrOk α fr' tmps ∧ skip fr') := by
  unfold evGuard at h
  unfold Region.wanted
  split at h
  · rename_i hg
    left
    exact ⟨by simp [hg], fr, hf, h⟩
  · rename_i j want hg
    simp only [hg]
    split at h
    · rename_i hj
      right
      refine ⟨?_, fr, hf, h⟩
      have : ops[j]? = none := by simpa using hj
      simp [yielded, this]
    · rename_i oj hj
      have hj' : ops[j]? = some oj := by simpa using hj
      split at h
      · rename_i hd
        right
        exact ⟨by simp [yielded, hj', hd], fr, hf, h⟩
      · rename_i d hd
        split at h
        · rename_i b hb
          obtain ⟨v, h1, h2⟩ := hf.2 d _ hb
          simp only [SV.rep, SA.rep, SC.val?, Option.some.injEq] at h2
          subst h2
          have hy : yielded ops tmps j = some b := by simp [yielded, hj', hd, h1]
          have hsay : ∀ b', b' = b → FrOk α (fr.put (some d) (.sa (.one (.raw (.bool b'))))) tmps := fun b' e => by subst e; exact hf.say h1 rfl
          split at h
          · rcases branch_or h with ⟨e, h⟩ | ⟨e, h⟩
            · left; exact ⟨by simp [hy, e], _, hsay true e.symm, h⟩
            · right; exact ⟨by simp [hy, e], _, hsay false e.symm, h⟩
          · rcases branch_or h with ⟨e, h⟩ | ⟨e, h⟩
            · right; exact ⟨by simp [hy, e], _, hsay true e.symm, h⟩
            · left; exact ⟨by simp [hy, e], _, hsay false e.symm, h⟩
        · rename_i hb
          obtain ⟨v, h1, vs, h2, h3⟩ := hf.2 d _ hb
          right
          refine ⟨?_, fr, hf, h⟩
          subst h3
          simp [yielded, hj', hd, h1]
        · exact h.elim
def After (α : Al) (st : St) (w : World) (ds : List Deferred) (k : Fr → St → Prop) (N : Act → World → Prop) : Prop :=
  ∀ fr' st' α' a' w', k fr' st' → FrOk α' fr' a'.tmps → To α st w α' st' w' → a'.defers = ds → N a' w'
theorem put_defers_eq (a : Act) (d : Option Nat) (v : Value) : (a.put d v).defers = a.defers := by cases d <;> rfl
theorem evOps_sound {cx : Cx} {call : CallT} {r : Option Nat} {ops : Array Oper} {Q : Exit → Act → World → Prop} (hP : cx.P = P) (hN : OpsOk P cx) (hC : CallOk P call) :
    ∀ (rest : List Oper) (i : Nat), ops.toList.drop i = rest → ∀ {fr : Fr} {st : St} {k : Fr → St → Prop} {α : Al} {a : Act} {w : World}, R α st w → FrOk α fr a.tmps →
      evOps cx call ops.toList rest fr st k → After α st w a.defers k (Q .normal) → wpOpsIn (Wide r) 0 P ops Q (List.range' i rest.length) a w
  | [], i, _, fr, st, k, α, a, w, hR, hf, h, hK => by
    simp only [evOps, forceV_eq] at h
    exact hK fr st α a w h hf (To.refl hR) rfl
  | o :: rest, i, hd, fr, st, k, α, a, w, hR, hf, h, hK => by
    have ho : ops[i]? = some o := by
      have : (ops.toList.drop i)[0]? = some o := by rw [hd]; rfl
      simpa using this
    have hd' : ops.toList.drop (i + 1) = rest := by
      rw [← List.drop_drop, hd]; rfl
    simp only [evOps, forceV_eq] at h
    simp only [List.length_cons, List.range'_succ]
    rw [wpOpsIn_cons]
    simp only [wpOpIn, ho]
    rcases evGuard_sound hf h with ⟨hw, fr', hf', h⟩ | ⟨hw, fr', hf', h⟩
    · rw [if_pos hw]
      refine evOp_sound hP hN hC hR (evOperand_rep hf') h fun sv st' α' w' v hk hv hto => ?_
      refine evOps_sound hP hN hC rest (i + 1) hd' hto.rep ((hf'.mono (hto.le hR)).put hv) hk fun fr2 st2 α2 a2 w2 x1 x2 x3 x4 => ?_
      exact hK fr2 st2 α2 a2 w2 x1 x2 (hto.trans x3) (by rw [x4, put_defers_eq])
    · rw [if_neg (by rw [hw]; simp)]
      refine ⟨fun _ _ => trivial, ?_⟩
      refine evOps_sound hP hN hC rest (i + 1) hd' hR (hf'.put (sv := undefV) (v := undef) ⟨[], trivial, rfl⟩) h fun fr2 st2 α2 a2 w2 x1 x2 x3 x4 => ?_
      exact hK fr2 st2 α2 a2 w2 x1 x2 x3 (by rw [x4, put_defers_eq])
end Go.Ev
