/- Locks: a call on the four maps is a call on what is told by one word. No conditions. -/
import Derived.Test.YtefkhlicocadcaaLkG
import Derived.Test.YtefkhlicocadcaaLkS
set_option linter.unusedVariables false
set_option linter.unusedSimpArgs false
namespace Go.Ev
open Go Go.Proofs Go.Spec
attribute [local irreducible] ev evCall branch need again
theorem cxL1_ok : CxOk Try.prog cxL1 := mkCx_ok namesL mixedL (by
  intro y h
  simp only [List.mem_cons, List.not_mem_nil, or_false] at h
  rcases h with rfl | rfl | rfl
  · exact con_sum
  · exact conF_sum
  · exact delF_sum)
/-! the told keys, map by map -/
def H1 (f f' : Lk → Option Int) (eh : List VE) : Prop :=
  (∀ e ∈ eh, (e.val = none → f' (pk e.key) = none) ∧ ∀ v, e.val = some v → ∃ t, v = .one (.raw (.int .i64 t)) ∧ f' (pk e.key) = some t) ∧ ∀ k : List Int, k.length = 2 → (∀ e ∈ eh, e.key ≠ k) → f' (pk k) = f (pk k)
def H3 (f f' : Int → Option Lk) (ew : List VE) : Prop :=
  (∀ e ∈ ew, (e.val = none → f' (pt e.key) = none) ∧ ∀ v, e.val = some v → ∃ l : Lk, v = .agg [.raw (.int .u8 l.1), .raw (.int .i64 l.2)] ∧ f' (pt e.key) = some l) ∧ ∀ k : List Int, k.length = 1 → (∀ e ∈ ew, e.key ≠ k) → f' (pt k) = f (pt k)
def H2 (L : List Nat) (st : St) (f f' : Lk → List Int) (eq : List VE) (O : List Nat) : Prop :=
  (∀ e ∈ eq, e.val ≠ none → f' (pk e.key) ≠ []) ∧ OwnsS L st 3 1 (fun k => (f' (pk k)).map fun t => [.int .i64 t]) eq O ∧ ∀ k : List Int, k.length = 2 → (∀ e ∈ eq, e.key ≠ k) → f' (pk k) = f (pk k)
def H4 (L : List Nat) (st : St) (f f' : Int → List Lk) (es : List VE) (O : List Nat) : Prop :=
  OwnsS L st 31 2 (fun k => (f' (pt k)).map lkCells) es O ∧ ∀ k : List Int, k.length = 1 → (∀ e ∈ es, e.key ≠ k) → f' (pt k) = f (pt k)
def FinK (L : List Nat) (D D' : AD) (eh eq ew es : List VE) (rh rq rw rs : List MapEntry) (V : SV) (v : SV) (st : St) : Prop :=
  v = V ∧ ∃ eh' eq' ew' es' c1 c2 c3 c4 h1 h2 h3 h4 O2 O4, Fin L D D' eh eq ew es rh rq rw rs st eh' eq' ew' es' c1 c2 c3 c4 h1 h2 h3 h4 O2 O4
theorem finK {L : List Nat} {D D' : AD} {eh eq ew es eh' eq' ew' es' : List VE} {rh rq rw rs : List MapEntry} {V v : SV} {c1 c2 c3 c4 h1 h2 h3 h4 : Nat} {O2 O4 : List Nat} {r : St} (hv : v = V)
    (k1 : eh'.map (·.key) = eh.map (·.key)) (k2 : eq'.map (·.key) = eq.map (·.key)) (k3 : ew'.map (·.key) = ew.map (·.key)) (k4 : es'.map (·.key) = es.map (·.key))
    (a1 : H1 D.ho D'.ho eh') (a2 : H2 L (some (lkObj true) :: some (.mv true kL eh' rh c1 h1) :: some (.mv true kL eq' rq c2 h2) :: some (.mv true kT ew' rw c3 h3) :: some (.mv true kT es' rs c4 h4) :: r) D.qu D'.qu eq' O2) (a3 : H3 D.wa D'.wa ew')
    (a4 : H4 L (some (lkObj true) :: some (.mv true kL eh' rh c1 h1) :: some (.mv true kL eq' rq c2 h2) :: some (.mv true kT ew' rw c3 h3) :: some (.mv true kT es' rs c4 h4) :: r) D.hs D'.hs es' O4) (hn : (0 :: 1 :: 2 :: 3 :: 4 :: (O2 ++ O4)).Nodup) :
    FinK L D D' eh eq ew es rh rq rw rs V v (some (lkObj true) :: some (.mv true kL eh' rh c1 h1) :: some (.mv true kL eq' rq c2 h2) :: some (.mv true kT ew' rw c3 h3) :: some (.mv true kT es' rs c4 h4) :: r) :=
  ⟨hv, eh', eq', ew', es', c1, c2, c3, c4, h1, h2, h3, h4, O2, O4, ⟨rfl, rfl, rfl, rfl, rfl, k1, k2, k3, k4, a1.1, a3.1, a2.1, a2.2.1, a4.1, hn, a1.2, a2.2.2, a3.2, a4.2⟩⟩

theorem H1_nil {f : Lk → Option Int} : H1 f f [] := ⟨fun e h => (by cases h), fun _ _ _ => rfl⟩
theorem H3_nil {f : Int → Option Lk} : H3 f f [] := ⟨fun e h => (by cases h), fun _ _ _ => rfl⟩
theorem H2_nil {L : List Nat} {st : St} {f : Lk → List Int} : H2 L st f f [] [] := ⟨fun e h => (by cases h), rfl, fun _ _ _ => rfl⟩
theorem H4_nil {L : List Nat} {st : St} {f : Int → List Lk} : H4 L st f f [] [] := ⟨rfl, fun _ _ _ => rfl⟩
theorem pk_ne {k : List Int} {c n : Int} (hk : k.length = 2) (h : ([c, n] : List Int) ≠ k) : pk k ≠ (c, n) := by
  match k, hk with
  | [a, b], _ => intro e; apply h; simp [pk] at e; rw [e.1, e.2]
theorem pt_ne {k : List Int} {t : Int} (hk : k.length = 1) (h : ([t] : List Int) ≠ k) : pt k ≠ t := by
  match k, hk with
  | [a], _ => intro e; apply h; simp [pt] at e; rw [e]
theorem H1_none {f f' : Lk → Option Int} {c n : Int} {b : Nat} (h : f' (c, n) = none) (hu : ∀ l, l ≠ (c, n) → f' l = f l) : H1 f f' [⟨[c, n], none, b⟩] :=
  ⟨fun e he => by rw [List.mem_singleton.1 he]; exact ⟨fun _ => h, fun v hv => (by cases hv)⟩, fun k hk h => hu _ (pk_ne hk (h _ (List.mem_singleton.2 rfl)))⟩
theorem H1_some {f f' : Lk → Option Int} {c n t : Int} {b : Nat} (h : f' (c, n) = some t) (hu : ∀ l, l ≠ (c, n) → f' l = f l) : H1 f f' [⟨[c, n], some (vI t), b⟩] :=
  ⟨fun e he => by rw [List.mem_singleton.1 he]; exact ⟨fun h => (by cases h), fun v hv => by cases hv; exact ⟨t, rfl, h⟩⟩, fun k hk h => hu _ (pk_ne hk (h _ (List.mem_singleton.2 rfl)))⟩
theorem H3_none {f f' : Int → Option Lk} {t : Int} {b : Nat} (h : f' t = none) (hu : ∀ l, l ≠ t → f' l = f l) : H3 f f' [⟨[t], none, b⟩] :=
  ⟨fun e he => by rw [List.mem_singleton.1 he]; exact ⟨fun _ => h, fun v hv => (by cases hv)⟩, fun k hk h => hu _ (pt_ne hk (h _ (List.mem_singleton.2 rfl)))⟩
theorem H3_some {f f' : Int → Option Lk} {t c n : Int} {b : Nat} (h : f' t = some (c, n)) (hu : ∀ l, l ≠ t → f' l = f l) : H3 f f' [⟨[t], some (lkA c n), b⟩] :=
  ⟨fun e he => by rw [List.mem_singleton.1 he]; exact ⟨fun h => (by cases h), fun v hv => by cases hv; exact ⟨(c, n), rfl, h⟩⟩, fun k hk h => hu _ (pt_ne hk (h _ (List.mem_singleton.2 rfl)))⟩
theorem H2_none {L : List Nat} {st : St} {f f' : Lk → List Int} {c n : Int} {b : Nat} (h : f' (c, n) = []) (hu : ∀ l, l ≠ (c, n) → f' l = f l) : H2 L st f f' [⟨[c, n], none, b⟩] [] :=
  ⟨fun e he hv => by rw [List.mem_singleton.1 he] at hv; exact absurd rfl hv, ⟨by show (f' (c, n)).map _ = []; rw [h]; rfl, rfl⟩, fun k hk h => hu _ (pk_ne hk (h _ (List.mem_singleton.2 rfl)))⟩
theorem H2_row {L : List Nat} {st : St} {f f' : Lk → List Int} {c n : Int} {b o : Nat} {v : SA} (h0 : f' (c, n) ≠ []) (h : RowS L st 3 1 v o ((f' (c, n)).map fun t => [.int .i64 t])) (hu : ∀ l, l ≠ (c, n) → f' l = f l) : H2 L st f f' [⟨[c, n], some v, b⟩] [o] :=
  ⟨fun e he hv => by rw [List.mem_singleton.1 he]; exact h0, ⟨o, [], rfl, h, rfl⟩, fun k hk h => hu _ (pk_ne hk (h _ (List.mem_singleton.2 rfl)))⟩
theorem H4_none {L : List Nat} {st : St} {f f' : Int → List Lk} {t : Int} {b : Nat} (h : f' t = []) (hu : ∀ l, l ≠ t → f' l = f l) : H4 L st f f' [⟨[t], none, b⟩] [] :=
  ⟨⟨by show (f' t).map _ = []; rw [h]; rfl, rfl⟩, fun k hk h => hu _ (pt_ne hk (h _ (List.mem_singleton.2 rfl)))⟩
theorem H4_row {L : List Nat} {st : St} {f f' : Int → List Lk} {t : Int} {b o : Nat} {v : SA} (h : RowS L st 31 2 v o ((f' t).map lkCells)) (hu : ∀ l, l ≠ t → f' l = f l) : H4 L st f f' [⟨[t], some v, b⟩] [o] :=
  ⟨⟨o, [], rfl, h, rfl⟩, fun k hk h => hu _ (pt_ne hk (h _ (List.mem_singleton.2 rfl)))⟩
/-! rows read off a state -/
theorem rowS_ints {L : List Nat} {st : St} {o : Nat} {xs : List Int} (h : st.get o = some (.own true .row 3 1 (.ints .i64 xs))) (h0 : 0 < xs.length ∨ o ∈ L) : RowS L st 3 1 (.one (.ref o)) o (xs.map fun t => [.int .i64 t]) :=
  .inl ⟨_, rfl, h, h0, by simp [Ct.len], ctRows_ints fun j hj => by simp⟩
theorem rowS_tab {L : List Nat} {st : St} {o m : Nat} {a2 bs : List Int} {ls : List Lk} (h : st.get o = some (.own true .row 31 2 (.tab m [.ints .u8 a2, .ints .i64 bs]))) (h0 : 0 < m ∨ o ∈ L) (hm : ls.length = m) (ha : a2 = ls.map (·.1)) (hb : bs = ls.map (·.2)) :
    RowS L st 31 2 (.one (.ref o)) o (ls.map lkCells) :=
  .inl ⟨_, rfl, h, h0, by simp [Ct.len, hm], ctRows_tab fun j hj => by rw [ha, hb]; simp⟩
theorem nde {x : Int} {p : Prop} (h : p) : need (eqK x x) p := by rw [eqK_t.2 rfl]; exact need_iff.2 ⟨rfl, h⟩
theorem ndk {x y : Int} {p : Prop} (h : p) : need (eqK x x && eqK y y) p := by rw [eqK_t.2 rfl, eqK_t.2 rfl]; exact need_iff.2 ⟨rfl, h⟩

/-- The call. -/
theorem lk_call {cx : Cx} (hx : CxOk Try.prog cx) {n : Nat} {g : FuncId} {α α0 : Al} {t : Nat} {D D' : AD} {w : World} {eh eq ew es : List VE} {r : St} {L : List Nat} {rh rq rw rs : List MapEntry} {c1 c2 c3 c4 : Nat}
    (hS : Split α t D w true true eh eq ew es r L α0 rh rq rw rs c1 c2 c3 c4) {a : List SA} {vals : List Value} (hv : RepsA α (.one (.ref 0) :: a) vals) (ha : ∀ vs, RepsA α a vs → RepsA α0 a vs) {V : SV} (hV : ∀ β val, SV.rep β V val → SV.rep α V val)
    {k : SV → St → Prop} (hk : k V [some (.abs true t D')])
    (hT : evCall cx (ev cx n) g (.one (.ptr 0 0 0) :: a) (lkSt true eh rh c1 eq rq c2 ew rw c3 es rs c4 r) (FinK L D D' eh eq ew es rh rq rw rs V)) (hb : g < big := by decide) :
    CallsIn Fence.wide 0 Try.prog g vals.toArray w (CallPost α [some (.abs true t D)] w k) := by
  have hC : CallOk Try.prog (evCall cx (ev cx n)) := evCall_ok (run := ev cx n) hx (ev_sound hx n).1
  match vals, hv with
  | v0 :: vs, ⟨h0, h1⟩ =>
    refine ((hC.1 g _ _ _ hb hT).2 α0 w (v0 :: vs) hS.R ⟨hS.arg h0, ha vs h1⟩).mono fun e w' ⟨v, st', α', val, he, hv, ⟨hvV, eh', eq', ew', es', _, _, _, _, _, _, _, _, _, _, hf⟩, hto⟩ => ?_
    subst hvV
    exact ⟨v, _, α, val, he, hV _ _ hv, hk, hS.fin hto hf⟩
theorem repsA_lk {α β : Al} {t c n : Int} : ∀ vs, RepsA α [vI t, lkA c n] vs → RepsA β [vI t, lkA c n] vs
  | [a, b], ⟨h1, ⟨us, h2, h3⟩, _⟩ => by
    match us, h2 with
    | [u, v], ⟨g1, g2, _⟩ => exact ⟨h1, ⟨[u, v], ⟨g1, g2, trivial⟩, h3⟩, trivial⟩
  | [], h => h.elim
  | [_], h => h.2.elim
  | _ :: _ :: _ :: _, h => h.2.2.elim
theorem repTk {α β : Al} {b : Bool} {e : Int} : ∀ val, SV.rep β (.tup [.one (.raw (.bool b)), .one (.raw (.int .i64 e))]) val → SV.rep α (.tup [.one (.raw (.bool b)), .one (.raw (.int .i64 e))]) val := by
  rintro val ⟨vs, h, rfl⟩
  match vs, h with
  | [u, v], ⟨h1, h2, _⟩ => exact ⟨[u, v], ⟨h1, h2, trivial⟩, rfl⟩
theorem repInt {α β : Al} {e : Int} : ∀ val, SV.rep β (.sa (.one (.raw (.int .i64 e)))) val → SV.rep α (.sa (.one (.raw (.int .i64 e)))) val := fun _ h => h
end Go.Ev
